/- joineryref16: Blacken, Rank; rb.Rank. -/
import Derived.Test.YthkbmedfccoliaaRef16b
namespace Go.Proofs.Ythkbmedfccoliaa
open Go Go.RowKit

/-- a tree of beads that is black. -/
def BT.black : BT → BT
  | .nil => .nil
  | .node k v s n g l r => .node k v s n (if g % 2 == 1 then IntKind.u64.wrap (g + 1) else g) l r
theorem mod7 {w : World} {g : Nat} {cur : Array Value} {T : TypeId} (h : w.heap[g]? = some (.cells cur T (0, 0))) {a0 a1 a2 a3 a4 a5 a6 : Value} {R : List Value} (hc : cur.toList = [a0, a1, a2, a3, a4, a5, a6] ++ R) (b0 b1 b2 b3 b4 b5 b6 : Value) :
    (((((((w.setCell ⟨g, 0, none⟩ b0).setCell ⟨g, 1, none⟩ b1).setCell ⟨g, 2, none⟩ b2).setCell ⟨g, 3, none⟩ b3).setCell ⟨g, 4, none⟩ b4).setCell ⟨g, 5, none⟩ b5).setCell ⟨g, 6, none⟩ b6).heap[g]? = some (.cells ([b0, b1, b2, b3, b4, b5, b6] ++ R).toArray T (0, 0)) := by
  have : cur = ([a0, a1, a2, a3, a4, a5, a6] ++ R).toArray := by
    cases cur; simp at hc; simp [hc]
  subst this
  simp [World.setCell, Array.getElem?_modify, h]
theorem Below.put7 {B : Nat} {w w1 : World} (h : Below B w w1) {g : Nat} (hg : B ≤ g) (b0 b1 b2 b3 b4 b5 b6 : Value) :
    Below B w (((((((w1.setCell ⟨g, 0, none⟩ b0).setCell ⟨g, 1, none⟩ b1).setCell ⟨g, 2, none⟩ b2).setCell ⟨g, 3, none⟩ b3).setCell ⟨g, 4, none⟩ b4).setCell ⟨g, 5, none⟩ b5).setCell ⟨g, 6, none⟩ b6) :=
  ((((((h.setCell hg b0).setCell hg b1).setCell hg b2).setCell hg b3).setCell hg b4).setCell hg b5).setCell hg b6
/-- the first bead of a row of one's own. -/
theorem Own.head {B : Nat} {w : World} {v : Value} {z : BeadL} {zs : List BeadL} (h : Own B w v (z :: zs)) :
    ∃ g cap cur R, v = .slice (some ⟨g, 0, none⟩) (zs.length + 1) cap ∧ zs.length + 1 ≤ cap ∧ B ≤ g ∧ w.heap[g]? = some (.cells cur 50 (0, 0)) ∧ cur.toList = z.cells ++ R ∧
      ∀ (W : World) (y : BeadL), W.heap[g]? = some (.cells (y.cells ++ R).toArray 50 (0, 0)) → Own B W v (y :: zs) := by
  obtain ⟨h1, ⟨rfl, h0⟩ | ⟨g, cap, cur, hv, hb, hg, hc, hm, hs, ht⟩⟩ := h
  · simp at h0
  · rw [List.length_cons] at *
    have hcur : ∃ R, cur.toList = z.cells ++ R := by
      refine ⟨cur.toList.drop 7, ?_⟩
      have e1 : cur.toList.take 7 = z.cells := by
        have := congrArg (List.take 7) ht
        rw [List.take_take, Nat.min_eq_left (by omega)] at this
        rw [this, beadCells, List.flatMap_cons]; rfl
      rw [← e1, List.take_append_drop]
    obtain ⟨R, hR⟩ := hcur
    refine ⟨g, cap, cur, R, hv, hc, hb, hg, hR, fun W y hW => ⟨?_, .inr ⟨g, cap, _, hv, hb, hW, hc, hm, ?_, ?_⟩⟩⟩
    · have := h1
      rw [beadCells, List.flatMap_cons, List.length_append] at this ⊢
      exact this
    · have : cur.size = ((y.cells ++ R).toArray).size := by
        have := congrArg List.length hR
        simp only [List.length_append, Array.length_toList] at this
        simp only [List.size_toArray, List.length_append]
        exact this
      rw [← this]; exact hs
    · rw [hR] at ht
      rw [List.length_cons]
      rw [beadCells, List.flatMap_cons] at ht ⊢
      have e7 : z.cells.length = 7 := rfl
      have e7' : y.cells.length = 7 := rfl
      rw [List.take_append, e7, List.take_of_length_le (by rw [e7]; omega)] at ht
      show (y.cells ++ R).take _ = _
      rw [List.take_append, e7', List.take_of_length_le (by rw [e7']; omega)]
      rw [List.append_cancel_left ht]
set_option maxHeartbeats 2000000 in
theorem blacken16_any (w : World) (p : Value) (t : BT) (T : Tr) (hf : t.fits T) (ho : TagsOk T) (hb : Beads w p t.enc) (hl : t.enc.length ≤ 5000) :
    Calls Try.prog 54 #[p] w (GivesRow t.black.enc w) := by
  have HR := Lib.hid (fun W (h : Ext w W) => red16_any W p t T hf ho (hb.ext h))
  have HB := Lib.hid hb
  have HL := Lib.hid hl
  have HRT := Lib.hid (show rbRed T = (t.tag % 2 == 1) by rw [BT.fits_tag hf]; rfl)
  have HO := Lib.hid (Own.nil w.heap.size w)
  obtain ⟨a, c, rfl⟩ := beads_slice hb
  clear hf ho hb hl
  generalize hN : t.enc.length = LL at *
  have HN := Lib.hid hN
  clear hN
  go_enter Try.func54, Try.ntmps54
  go_wp2_with (at_builtin; refine wpList_append_beads (B := w.heap.size) (zs := []) (ys := t.enc) rfl (.const (.slice none 0 0)) (.tmp 5) rfl rfl rfl HO.out HB.out ?b1 (Nat.le_refl _) ?_)
  case b1 => have := HL.out; have := HN.out; simp; omega
  intro v1 w1 hown hg
  have hx : Ext w w1 := grown_ext (Ext.refl _) HO.out hg
  (try rw [List.nil_append] at hown)
  clear hg
  cases hr : rbRed T with
  | false =>
    rw [hr] at HR HRT
    have HOWN := Lib.hid hown
    have HE : Hid (t.black.enc = t.enc) := Lib.hid (by
      cases t with
      | nil => rfl
      | node k v s n g l r =>
        have : (g % 2 == 1) = false := HRT.out.symm
        rw [BT.black, this]; rfl)
    clear hr hown
    go_wp2_with fail
    refine (HR.out _ hx).mono ?_
    rintro e w2 ⟨rfl, hS⟩
    go_wp2
    go_ret
    exact ⟨_, rfl, by rw [HE.out]; exact HOWN.out.ext hS, hx.trans hS⟩
  | true =>
    rw [hr] at HR HRT
    cases t with
    | nil => have := HRT.out; simp [BT.tag] at this
    | node k v s n g l r =>
      have HE : Hid ((BT.node k v s n g l r).black.enc = ⟨k, v, s, n, IntKind.u64.wrap (g + 1), !l.isNil, !r.isNil⟩ :: (l.enc ++ r.enc)) := Lib.hid (by
        have : (g % 2 == 1) = true := HRT.out.symm
        rw [BT.black, this]; rfl)
      obtain ⟨gb, cap, cur, R, rfl, hcap, hgb, hcells, hcur, hback⟩ := Own.head (z := ⟨k, v, s, n, g, !l.isNil, !r.isNil⟩) (zs := l.enc ++ r.enc) hown
      have HBACK := Lib.hid hback
      have HCUR := Lib.hid hcur
      clear hr hown hback hcur
      generalize (l.enc ++ r.enc).length = m at *
      go_wp2_with fail
      refine (HR.out _ hx).mono ?_
      rintro e w2 ⟨rfl, hS⟩
      replace hcells := (hS.block _ (lt_of hcells)).trans hcells
      have hcc : ∀ j u, (BeadL.cells ⟨k, v, s, n, g, !l.isNil, !r.isNil⟩)[j]? = some u → w2.cell? ⟨gb, j, none⟩ = some u := fun j u hj => by
        rw [cell_of hcells j]
        have := HCUR.out
        rw [← Array.getElem?_toList, this, List.getElem?_append_left (List.getElem?_eq_some_iff.1 hj).1, hj]
      have d0 := hcc 0 _ rfl
      have d1 := hcc 1 _ rfl
      have d2 := hcc 2 _ rfl
      have d3 := hcc 3 _ rfl
      have d4 := hcc 4 _ rfl
      have d5 := hcc 5 _ rfl
      have d6 := hcc 6 _ rfl
      have f0 := frozen_of hcells 0
      have f1 := frozen_of hcells 1
      have f2 := frozen_of hcells 2
      have f3 := frozen_of hcells 3
      have f4 := frozen_of hcells 4
      have f5 := frozen_of hcells 5
      have f6 := frozen_of hcells 6
      have hlt := lt_of hcells
      have HCE := Lib.hid hcells
      replace hx := hx.trans hS
      clear hcc hcells hS
      go_wp2
      go_ret
      have hm := mod7 HCE.out HCUR.out (.int .i64 k) (.int .i64 v) (.int .i64 s) (.int .i64 n) (.int .u64 (IntKind.u64.wrap (g + 1))) (.bool (!l.isNil)) (.bool (!r.isNil))
      refine ⟨_, rfl, ?_, Ext.alloc (a := w) (Below.put7 hx hgb _ _ _ _ _ _ _) _⟩
      rw [HE.out]
      exact (HBACK.out _ ⟨k, v, s, n, IntKind.u64.wrap (g + 1), !l.isNil, !r.isNil⟩ hm).ext ((Ext.refl _).alloc _)
/-- the black height of a tree that is made black. -/
def hiB (T : Tr) : Int := if rbRed T then IntKind.u64.wrap (T.tag + 1) / 2 else hi T
theorem hiB_lt {T : Tr} (h : TagsOk T) : 0 ≤ hiB T ∧ hiB T < 9223372036854775808 := by
  have := tag_ok h
  unfold hiB hi
  rw [u64_mod]
  split <;> omega
theorem black_tags {T : Tr} {n : Nat} {u : Tr} (ho : TagsOk T) (h : (rbRed T = false ∧ u = T) ∨ (rbRed T = true ∧ ∃ b, n ≤ b ∧ u = .node b T.left T.key T.val (IntKind.u64.wrap (T.tag + 1)) T.right)) : TagsOk u ∧ hi u = hiB T := by
  rcases h with ⟨h1, rfl⟩ | ⟨h1, b, -, rfl⟩
  · exact ⟨ho, by unfold hiB; rw [h1]; rfl⟩
  · refine ⟨⟨?_, ?_, tags_left ho, tags_right ho⟩, ?_⟩
    · rw [u64_mod]; omega
    · rw [u64_mod]; omega
    · unfold hiB; rw [h1]; rfl
set_option maxHeartbeats 400000 in
theorem rbRank_any (w : World) (T : Tr) (hT : InH w T) (ho : TagsOk T) : Calls Try.prog 45 #[.pointer T.ptr] w (Ret (.int .i64 (wrap64 (2 * hiB T))) w) := by
  have H := Lib.hid (rbBlacken_any w T hT ho)
  have HB := Lib.hid (fun n u => black_tags (n := n) (u := u) ho)
  clear ho
  go_enter Try.func45, Try.ntmps45
  go_wp2_with fail
  refine H.out.mono ?_
  rintro e w1 ⟨u, rfl, hu, hx, hor⟩
  obtain ⟨h1, h2⟩ := HB.out _ u hor
  have H1 := Lib.hid h1
  have H2 := Lib.hid h2
  clear hor h1 h2
  go_wp2_with fail
  refine (rbHigh_any _ u hu H1.out).mono ?_
  rw [H2.out]
  rintro e w2 ⟨rfl, hS⟩
  replace hx := hx.trans hS
  clear hS
  go_wp2
  go_ret
  exact Ret.mk hx
theorem BT.black_fits {t : BT} {T : Tr} (h : t.fits T) : ∃ u, t.black.fits u ∧ (TagsOk T → TagsOk u ∧ hi u = hiB T) := by
  cases t with
  | nil =>
    cases T with
    | nil => exact ⟨.nil, trivial, fun _ => ⟨trivial, by decide +kernel⟩⟩
    | node => exact h.elim
  | node k v s n g l r =>
    cases T with
    | nil => exact h.elim
    | node b L k' v' g' R =>
      obtain ⟨h1, h2, h3, h4, h5⟩ := h
      subst h3
      refine ⟨.node 0 L k' v' (if g % 2 == 1 then IntKind.u64.wrap (g + 1) else g) R, ⟨h1, h2, rfl, h4, h5⟩, fun ho => ?_⟩
      have hr : rbRed (.node b L k' v' g R) = (g % 2 == 1) := rfl
      cases hg : (g % 2 == 1) with
      | true =>
        rw [hg] at hr
        refine ⟨⟨?_, ?_, ho.2.2.1, ho.2.2.2⟩, ?_⟩
        · rw [if_pos rfl, u64_mod]; omega
        · rw [if_pos rfl, u64_mod]; omega
        · unfold hiB; rw [hr]; rfl
      | false =>
        rw [hg] at hr
        refine ⟨⟨?_, ?_, ho.2.2.1, ho.2.2.2⟩, ?_⟩
        · exact ho.1
        · exact ho.2.1
        · unfold hiB; rw [hr]; rfl
theorem BT.black_len (t : BT) : t.black.enc.length = t.enc.length := by
  cases t with
  | nil => rfl
  | node k v s n g l r => simp [BT.black, BT.enc]
set_option maxHeartbeats 400000 in
theorem rank16_any (w : World) (p : Value) (t : BT) (T : Tr) (hf : t.fits T) (ho : TagsOk T) (hb : Beads w p t.enc) (hl : t.enc.length ≤ 5000) :
    Calls Try.prog 32 #[p] w (Ret (.int .i64 (wrap64 (2 * hiB T))) w) := by
  have H := Lib.hid (blacken16_any w p t T hf ho hb hl)
  obtain ⟨u, h1, h2⟩ := BT.black_fits hf
  obtain ⟨h3, h4⟩ := h2 ho
  have hlt := hiB_lt ho
  have HU := Lib.hid (And.intro h1 (And.intro h3 h4))
  have HW := Lib.hid (show wrap64 (IntKind.u64.wrap (2 * hiB T)) = wrap64 (2 * hiB T) by rw [u64_mod]; unfold wrap64; omega)
  clear hf ho hb hl h1 h2 h3 h4 hlt
  generalize hiB T = HB at *
  go_enter Try.func32, Try.ntmps32
  go_wp2_with fail
  refine H.out.mono ?_
  rintro e w1 ⟨v1, rfl, hown, hx⟩
  have HO := Lib.hid hown.beads
  clear hown
  go_wp2_with fail
  refine (high16_any w1 v1 t.black u HU.out.1 HU.out.2.1 HO.out).mono ?_
  rw [HU.out.2.2]
  rintro e w2 ⟨rfl, hS⟩
  go_wp2
  go_ret
  exact ⟨ret_int (by rw [HW.out]), hx.trans hS⟩
end Go.Proofs.Ythkbmedfccoliaa
