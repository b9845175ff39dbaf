/- joineryref16: parts, Part, Check, May, Make, Blacken, Rank; rb.Rank. joineryref16: Blacken, Rank; rb.Rank. Plain facts of red-black trees; joinerylaw16.alive; the walks of RbTells and RbMakes. The walk of joinerylaw16.RbMakes. The walk of joinerylaw16.RbParts. -/
import Derived.Test.YtoiohjifjmejkaaGreatM16
namespace Go.Proofs.YtoiohjifjmejkaaGreat
open Go Go.RowKit

set_option maxHeartbeats 1000000 in
theorem parts16_any (t : BT) : ∀ (T : Tr) (w : World) (p : Value), t.fits T → TagsOk T → Beads w p t.enc → t.enc.length ≤ 2000 →
    Calls Tryz.prog 86 #[p] w (Ret (.tuple #[.int .i64 (firstOf rbOne T.pre).1, .int .i64 (firstOf rbOne T.pre).2]) w) := by
  induction t with
  | nil =>
    intro T w p hf _ hb hl
    obtain ⟨a, c, rfl⟩ := beads_slice hb
    have e : T = .nil := by cases T with | nil => rfl | node => exact hf.elim
    subst e
    rw [show BT.nil.enc.length = 0 from rfl, show firstOf rbOne Tr.nil.pre = (0, 0) from rfl]
    clear hb hl hf
    go_enter Tryz.func86, Tryz.ntmps86
    go_wp2
    go_ret2
    exact ⟨rfl, Ext.refl _⟩
  | node k v s n g l r ihl ihr =>
    intro T w p hf ho hb hl
    have HO := Lib.hid (fun W (h : Beads W p _) => one16_any W p k v s n g l r T hf ho h hl)
    have HP := Lib.hid (fun W (h : Beads W p _) => parts_any W p k v s n g l r h hl)
    cases T with
    | nil => exact hf.elim
    | node tb tl tk tv tg tr =>
    obtain ⟨-, -, hg, hfl, hfr⟩ := hf
    subst hg
    have hlen : (BT.node k v s n g l r).enc.length = 1 + l.enc.length + r.enc.length := by simp [BT.enc]; omega
    have hll : l.enc.length ≤ 2000 := by omega
    have hlr : r.enc.length ≤ 2000 := by omega
    have hcl : (firstOf rbOne tl.pre).1 ≤ l.enc.length := by rw [← BT.fits_len hfl]; exact firstOf_le _
    have hcr : (firstOf rbOne tr.pre).1 ≤ r.enc.length := by rw [← BT.fits_len hfr]; exact firstOf_le _
    have hA : firstOf rbOne (Tr.node tb tl tk tv g tr).pre = if rbOne (Tr.node tb tl tk tv g tr) = 0 then (if (firstOf rbOne tl.pre).2 = 0 then (tl.pre.length + (firstOf rbOne tr.pre).1 + 1, (firstOf rbOne tr.pre).2) else ((firstOf rbOne tl.pre).1 + 1, (firstOf rbOne tl.pre).2)) else (0, rbOne (Tr.node tb tl tk tv g tr)) := by
      rw [Tr.pre, firstOf_cons, firstOf_append]
      split
      · split <;> rfl
      · rfl
    have hnone : (firstOf rbOne tl.pre).2 = 0 → (firstOf rbOne tl.pre).1 = tl.pre.length := fun h => (firstOf_none h).1
    have HB := Lib.hid hb
    obtain ⟨a, c, rfl⟩ := beads_slice hb
    have IHl := Lib.hid (fun W v (hv : Beads W v l.enc) => ihl tl W v hfl ho.2.2.1 hv hll)
    have IHr := Lib.hid (fun W v (hv : Beads W v r.enc) => ihr tr W v hfr ho.2.2.2 hv hlr)
    have h1 : 1 ≤ (BT.node k v s n g l r).enc.length := by omega
    obtain ⟨A, eA⟩ : ∃ A, A = firstOf rbOne (Tr.node tb tl tk tv g tr).pre := ⟨_, rfl⟩
    rw [← eA] at hA ⊢
    generalize rbOne (Tr.node tb tl tk tv g tr) = ONE at *
    generalize firstOf rbOne tl.pre = L at *
    generalize firstOf rbOne tr.pre = R at *
    obtain ⟨Ln, Le⟩ := L
    obtain ⟨Rn, Re⟩ := R
    simp only at hnone hcl hcr hA
    have hLn : Ln ≤ 2000 := by omega
    have hRn : Rn ≤ 2000 := by omega
    have HA := Lib.hid hA
    have HNONE := Lib.hid hnone
    have hx := Ext.refl w
    clear hA hnone eA ihl ihr hb hl hcl hcr hlen hfl hfr ho
    generalize (BT.node k v s n g l r).enc.length = LL at *
    by_cases h0 : ONE = 0
    · subst h0
      go_enter Tryz.func86, Tryz.ntmps86
      go_wp2_with fail
      refine (HO.out w HB.out).mono ?_
      rintro e w1 ⟨rfl, hS⟩
      replace hx := hx.trans hS
      clear hS
      go_wp2_with fail
      refine (HP.out w1 (HB.out.ext hx)).mono ?_
      rintro e w2 ⟨v1, v2, rfl, hv1, hv2, hS⟩
      replace hx := hx.trans hS
      clear hS
      have hE2 := (Ext.refl w2).alloc (.cells #[.int .i64 k, .int .i64 v, .int .i64 s, .int .i64 n, .int .u64 g, .bool (!l.isNil), .bool (!r.isNil)] 68)
      have HV1 := Lib.hid (hv1.ext hE2)
      have HV2 := Lib.hid (hv2.ext hE2)
      replace hx := hx.trans hE2
      clear hv1 hv2 hE2
      go_wp2_with fail
      refine (IHl.out _ v1 HV1.out).mono ?_
      rintro e w3 ⟨rfl, h3⟩
      by_cases c3 : Le = 0
      · subst c3
        go_wp2_with fail
        refine (IHr.out w3 v2 (HV2.out.ext h3)).mono ?_
        rintro e w4 ⟨rfl, h4⟩
        have hEE := hx.trans (h3.trans h4)
        clear hx h3 h4
        go_wp2
        go_ret2
        exact ⟨ret_two (by rw [HA.out]; have h9 := HNONE.out trivial; simp; omega) (by rw [HA.out]; rfl), hEE⟩
      · have c3' := bne_iff_ne.2 c3
        have hEE := hx.trans h3
        clear hx h3
        go_wp2
        go_ret2
        exact ⟨ret_two (by rw [HA.out]; simp [c3]; omega) (by rw [HA.out]; simp [c3]), hEE⟩
    · have h0' := bne_iff_ne.2 h0
      have H0 := Lib.hid h0
      clear h0
      go_enter Tryz.func86, Tryz.ntmps86
      go_wp2_with fail
      refine (HO.out w HB.out).mono ?_
      rintro e w1 ⟨rfl, hS⟩
      replace hx := hx.trans hS
      clear hS
      go_wp2
      go_ret2
      exact ⟨ret_two (by rw [HA.out, if_neg H0.out]; rfl) (by rw [HA.out, if_neg H0.out]), hx⟩
set_option maxHeartbeats 400000 in
theorem part16_any (t : BT) (T : Tr) (w : World) (p : Value) (hf : t.fits T) (ho : TagsOk T) (hb : Beads w p t.enc) (hl : t.enc.length ≤ 2000) :
    Calls Tryz.prog 51 #[p] w (Ret (.bool (rbPart T)) w) := by
  have H := Lib.hid (parts16_any t T w p hf ho hb hl)
  clear hb hf hl ho
  go_enter Tryz.func51, Tryz.ntmps51
  go_wp2_with fail
  refine (H.out).mono ?_
  rintro e w1 ⟨rfl, hS⟩
  go_wp2
  go_ret
  exact ⟨ret_bool rfl, hS⟩
set_option maxHeartbeats 1000000 in
theorem check16_any (t : BT) (T : Tr) (w : World) (p : Value) (hf : t.fits T) (ho : TagsOk T) (hb : Beads w p t.enc) (hl : t.enc.length ≤ 2000) :
    Calls Tryz.prog 124 #[p] w (Ret (.tuple #[.int .i64 (rbChk T).1, .int .i64 (rbChk T).2]) w) := by
  have H := Lib.hid (parts16_any t T w p hf ho hb hl)
  have HR := Lib.hid (fun W (h : Ext w W) => red16_any W p t T hf ho (hb.ext h))
  have HC := Lib.hid (show rbChk T = if (firstOf rbOne T.pre).2 = 0 ∧ rbRed T = true then (0, 8) else firstOf rbOne T.pre from rfl)
  have hx := Ext.refl w
  clear hb hf hl ho
  obtain ⟨C, eC⟩ : ∃ C, C = rbChk T := ⟨_, rfl⟩
  rw [← eC] at HC ⊢
  clear eC
  generalize firstOf rbOne T.pre = F at *
  obtain ⟨fn, fe⟩ := F
  simp only at H HC
  by_cases c0 : fe = 0
  · subst c0
    cases hr : rbRed T
    all_goals
      rw [hr] at HR HC
      clear hr
      go_enter Tryz.func124, Tryz.ntmps124
      go_wp2_with fail
      refine (H.out).mono ?_
      rintro e w1 ⟨rfl, hS⟩
      replace hx := hx.trans hS
      clear hS
      go_wp2_with fail
      refine (HR.out _ hx).mono ?_
      rintro e w2 ⟨rfl, hS⟩
      replace hx := hx.trans hS
      clear hS
      go_wp2
      go_ret2
      exact ⟨ret_two (by rw [HC.out]; simp) (by rw [HC.out]; simp), hx⟩
  · have HC0 := Lib.hid c0
    have c1 := beq_eq_false_iff_ne.2 c0
    clear c0
    go_enter Tryz.func124, Tryz.ntmps124
    go_wp2_with fail
    refine (H.out).mono ?_
    rintro e w1 ⟨rfl, hS⟩
    replace hx := hx.trans hS
    clear hS
    go_wp2
    go_ret2
    exact ⟨ret_two (by rw [HC.out, if_neg (fun h => HC0.out h.1)]) (by rw [HC.out, if_neg (fun h => HC0.out h.1)]), hx⟩
theorem rbChk_may (T : Tr) : ((rbChk T).2 == 0) = rbMay T := by
  unfold rbChk rbMay rbPart mayOf
  by_cases h1 : (firstOf rbOne T.pre).2 = 0
  · cases h2 : rbRed T <;> simp [h1]
  · simp [h1]
end Go.Proofs.YtoiohjifjmejkaaGreat
namespace Go.Proofs.YtoiohjifjmejkaaGreat
open Go Go.RowKit

/-- a tree of beads that is black. -/
def BT.black : BT → BT
  | .nil => .nil
  | .node k v s n g l r => .node k v s n (if g % 2 == 1 then IntKind.u64.wrap (g + 1) else g) l r
theorem mod7 {w : World} {g : Nat} {cur : Array Value} {T : TypeId} (h : w.heap[g]? = some (.cells cur T (0, 0))) {a0 a1 a2 a3 a4 a5 a6 : Value} {R : List Value} (hc : cur.toList = [a0, a1, a2, a3, a4, a5, a6] ++ R) (b0 b1 b2 b3 b4 b5 b6 : Value) :
    (((((((w.setCell ⟨g, 0, none⟩ b0).setCell ⟨g, 1, none⟩ b1).setCell ⟨g, 2, none⟩ b2).setCell ⟨g, 3, none⟩ b3).setCell ⟨g, 4, none⟩ b4).setCell ⟨g, 5, none⟩ b5).setCell ⟨g, 6, none⟩ b6).heap[g]? = some (.cells ([b0, b1, b2, b3, b4, b5, b6] ++ R).toArray T (0, 0)) := by
  have : cur = ([a0, a1, a2, a3, a4, a5, a6] ++ R).toArray := by
    cases cur; simp at hc; simp [hc]
  subst this
  simp [World.setCell, Array.getElem?_modify, h]
theorem Below.put7 {B : Nat} {w w1 : World} (h : Below B w w1) {g : Nat} (hg : B ≤ g) (b0 b1 b2 b3 b4 b5 b6 : Value) :
    Below B w (((((((w1.setCell ⟨g, 0, none⟩ b0).setCell ⟨g, 1, none⟩ b1).setCell ⟨g, 2, none⟩ b2).setCell ⟨g, 3, none⟩ b3).setCell ⟨g, 4, none⟩ b4).setCell ⟨g, 5, none⟩ b5).setCell ⟨g, 6, none⟩ b6) :=
  ((((((h.setCell hg b0).setCell hg b1).setCell hg b2).setCell hg b3).setCell hg b4).setCell hg b5).setCell hg b6
/-- the first bead of a row of one's own. -/
theorem Own.head {B : Nat} {w : World} {v : Value} {z : BeadL} {zs : List BeadL} (h : Own B w v (z :: zs)) :
    ∃ g cap cur R, v = .slice (some ⟨g, 0, none⟩) (zs.length + 1) cap ∧ zs.length + 1 ≤ cap ∧ B ≤ g ∧ w.heap[g]? = some (.cells cur 68 (0, 0)) ∧ cur.toList = z.cells ++ R ∧
      ∀ (W : World) (y : BeadL), W.heap[g]? = some (.cells (y.cells ++ R).toArray 68 (0, 0)) → Own B W v (y :: zs) := by
  obtain ⟨h1, ⟨rfl, h0⟩ | ⟨g, cap, cur, hv, hb, hg, hc, hm, hs, ht⟩⟩ := h
  · simp at h0
  · rw [List.length_cons] at *
    have hcur : ∃ R, cur.toList = z.cells ++ R := by
      refine ⟨cur.toList.drop 7, ?_⟩
      have e1 : cur.toList.take 7 = z.cells := by
        have := congrArg (List.take 7) ht
        rw [List.take_take, Nat.min_eq_left (by omega)] at this
        rw [this, beadCells, List.flatMap_cons]; rfl
      rw [← e1, List.take_append_drop]
    obtain ⟨R, hR⟩ := hcur
    refine ⟨g, cap, cur, R, hv, hc, hb, hg, hR, fun W y hW => ⟨?_, .inr ⟨g, cap, _, hv, hb, hW, hc, hm, ?_, ?_⟩⟩⟩
    · have := h1
      rw [beadCells, List.flatMap_cons, List.length_append] at this ⊢
      exact this
    · have : cur.size = ((y.cells ++ R).toArray).size := by
        have := congrArg List.length hR
        simp only [List.length_append, Array.length_toList] at this
        simp only [List.size_toArray, List.length_append]
        exact this
      rw [← this]; exact hs
    · rw [hR] at ht
      rw [List.length_cons]
      rw [beadCells, List.flatMap_cons] at ht ⊢
      have e7 : z.cells.length = 7 := rfl
      have e7' : y.cells.length = 7 := rfl
      rw [List.take_append, e7, List.take_of_length_le (by rw [e7]; omega)] at ht
      show (y.cells ++ R).take _ = _
      rw [List.take_append, e7', List.take_of_length_le (by rw [e7']; omega)]
      rw [List.append_cancel_left ht]
/-- the black height of a tree that is made black. -/
def hiB (T : Tr) : Int := if rbRed T then IntKind.u64.wrap (T.tag + 1) / 2 else hi T
theorem hiB_lt {T : Tr} (h : TagsOk T) : 0 ≤ hiB T ∧ hiB T < 9223372036854775808 := by
  have := tag_ok h
  unfold hiB hi
  rw [u64_mod]
  split <;> omega
theorem black_tags {T : Tr} {n : Nat} {u : Tr} (ho : TagsOk T) (h : (rbRed T = false ∧ u = T) ∨ (rbRed T = true ∧ ∃ b, n ≤ b ∧ u = .node b T.left T.key T.val (IntKind.u64.wrap (T.tag + 1)) T.right)) : TagsOk u ∧ hi u = hiB T := by
  rcases h with ⟨h1, rfl⟩ | ⟨h1, b, -, rfl⟩
  · exact ⟨ho, by unfold hiB; rw [h1]; rfl⟩
  · refine ⟨⟨?_, ?_, tags_left ho, tags_right ho⟩, ?_⟩
    · rw [u64_mod]; omega
    · rw [u64_mod]; omega
    · unfold hiB; rw [h1]; rfl
set_option maxHeartbeats 400000 in
theorem rbRank_any (w : World) (T : Tr) (hT : InH w T) (ho : TagsOk T) : Calls Tryz.prog 78 #[.pointer T.ptr] w (Ret (.int .i64 (wrap64 (2 * hiB T))) w) := by
  have H := Lib.hid (rbBlacken_any w T hT ho)
  have HB := Lib.hid (fun n u => black_tags (n := n) (u := u) ho)
  clear ho
  go_enter Tryz.func78, Tryz.ntmps78
  go_wp2_with fail
  refine H.out.mono ?_
  rintro e w1 ⟨u, rfl, hu, hx, hor⟩
  obtain ⟨h1, h2⟩ := HB.out _ u hor
  have H1 := Lib.hid h1
  have H2 := Lib.hid h2
  clear hor h1 h2
  go_wp2_with fail
  refine (rbHigh_any _ u hu H1.out).mono ?_
  rw [H2.out]
  rintro e w2 ⟨rfl, hS⟩
  replace hx := hx.trans hS
  clear hS
  go_wp2
  go_ret
  exact Ret.mk hx
theorem BT.black_fits {t : BT} {T : Tr} (h : t.fits T) : ∃ u, t.black.fits u ∧ (TagsOk T → TagsOk u ∧ hi u = hiB T) := by
  cases t with
  | nil =>
    cases T with
    | nil => exact ⟨.nil, trivial, fun _ => ⟨trivial, by decide +kernel⟩⟩
    | node => exact h.elim
  | node k v s n g l r =>
    cases T with
    | nil => exact h.elim
    | node b L k' v' g' R =>
      obtain ⟨h1, h2, h3, h4, h5⟩ := h
      subst h3
      refine ⟨.node 0 L k' v' (if g % 2 == 1 then IntKind.u64.wrap (g + 1) else g) R, ⟨h1, h2, rfl, h4, h5⟩, fun ho => ?_⟩
      have hr : rbRed (.node b L k' v' g R) = (g % 2 == 1) := rfl
      cases hg : (g % 2 == 1) with
      | true =>
        rw [hg] at hr
        refine ⟨⟨?_, ?_, ho.2.2.1, ho.2.2.2⟩, ?_⟩
        · rw [if_pos rfl, u64_mod]; omega
        · rw [if_pos rfl, u64_mod]; omega
        · unfold hiB; rw [hr]; rfl
      | false =>
        rw [hg] at hr
        refine ⟨⟨?_, ?_, ho.2.2.1, ho.2.2.2⟩, ?_⟩
        · exact ho.1
        · exact ho.2.1
        · unfold hiB; rw [hr]; rfl
theorem BT.black_len (t : BT) : t.black.enc.length = t.enc.length := by
  cases t with
  | nil => rfl
  | node k v s n g l r => simp [BT.black, BT.enc]
end Go.Proofs.YtoiohjifjmejkaaGreat
namespace Go.Proofs.YtoiohjifjmejkaaGreat
open Go Go.RowKit

theorem rbPart_node (b : Nat) (l : Tr) (k v g : Int) (r : Tr) : rbPart (.node b l k v g r) = (rbOne (.node b l k v g r) == 0 && rbPart l && rbPart r) := mayOf_node b l k v g r
theorem rbOne_zero {T : Tr} : rbOne T = 0 ↔ rbBadTag T = false ∧ rbBadTree T = false := by
  unfold rbOne
  cases rbBadTag T <;> cases rbBadTree T <;> simp
theorem rb_sides {b : Nat} {l r : Tr} {k v g : Int} (h : rbPart (.node b l k v g r) = true) :
    rbPart l = true ∧ rbPart r = true ∧ g ≠ 0 ∧ (g = 2 * hi l + 1 ∨ g = IntKind.u64.wrap (2 * hi l + 2)) ∧ hi l = hi r ∧ (g % 2 = 1 → col l ≠ 1 ∧ col r ≠ 1) := by
  rw [rbPart_node] at h
  simp only [Bool.and_eq_true, beq_iff_eq] at h
  obtain ⟨⟨h1, h2⟩, h3⟩ := h
  obtain ⟨h4, h5⟩ := rbOne_zero.1 h1
  simp only [rbBadTag, Bool.or_eq_false_iff, Bool.and_eq_false_iff, Bool.not_eq_false', Bool.and_eq_true, beq_eq_false_iff_ne, beq_iff_eq, bne_eq_false_iff_eq, Tr.tag_node, Tr.left_node] at h4
  simp only [rbBadTree, Bool.or_eq_false_iff, Bool.and_eq_false_iff, beq_eq_false_iff_ne, bne_eq_false_iff_eq, Tr.left_node, Tr.right_node] at h5
  refine ⟨h2, h3, h4.1, ?_, h5.1, ?_⟩
  · rcases h4.2 with ⟨h6, h7⟩ | h6
    · left
      have e1 : g % 2 = 1 := h6
      have e2 : g / 2 = hi l := h7
      omega
    · right
      rw [h6]; rfl
  · intro hg
    rcases h5.2 with h6 | h6
    · exact absurd hg h6
    · exact h6
theorem col_01 (T : Tr) : col T = 0 ∨ col T = 1 := by unfold col; omega
theorem part_facts : ∀ T : Tr, rbPart T = true → TagsOk T → T.count < 1000000 → 0 ≤ hi T ∧ hi T < 100000000 ∧ (T.ht : Int) ≤ 2 * hi T + col T ∧ 2 ^ (hi T).toNat ≤ T.count + 1
  | .nil, _, _, _ => ⟨by decide, by decide, by decide, by decide⟩
  | .node b l k v g r, hp, ho, hc => by
    obtain ⟨p1, p2, h0, hg, he, hr⟩ := rb_sides hp
    rw [Tr.count_node] at hc ⊢
    obtain ⟨l0, -, l1, l2⟩ := part_facts l p1 ho.2.2.1 (by omega)
    obtain ⟨r0, -, r1, r2⟩ := part_facts r p2 ho.2.2.2 (by omega)
    have hlt : (hi l).toNat < 2 ^ (hi l).toNat := Nat.lt_two_pow_self
    rw [← he] at r1 r2
    have cl := col_01 l
    have cr := col_01 r
    have hcol : col (.node b l k v g r) = g % 2 := rfl
    have hhi : hi (.node b l k v g r) = g / 2 := rfl
    have hht : (Tr.node b l k v g r).ht = 1 + max l.ht r.ht := rfl
    rw [hcol, hhi, hht]
    rcases hg with hg | hg
    · have hc2 := hr (by omega)
      have e : g / 2 = hi l := by omega
      rw [e]
      refine ⟨l0, by omega, by omega, by omega⟩
    · rw [u64_mod] at hg
      have e : g / 2 = hi l + 1 := by omega
      rw [e]
      refine ⟨by omega, by omega, by omega, ?_⟩
      rw [show (hi l + 1).toNat = (hi l).toNat + 1 by omega, Nat.pow_succ]
      omega
theorem rbTag_small {l : Tr} (h0 : 0 ≤ hi l) (h1 : hi l < 100000000) (is : Bool) : rbTag l is = if is then 2 * hi l + 1 else 2 * hi l + 2 := by
  unfold rbTag
  rw [u64_mod]
  cases is <;> simp <;> omega
/-- what is made is red or black, as it was asked for. -/
theorem rbRed_make (b : Nat) (A : Tr) (k v : Int) (is : Bool) (B : Tr) : rbRed (.node b A k v (rbTag A is) B) = is := by
  have : rbRed (.node b A k v (rbTag A is) B) = (rbTag A is % 2 == 1) := rfl
  rw [this]
  unfold rbTag
  rw [u64_mod]
  cases is
  · rw [beq_eq_false_iff_ne]; simp
  · rw [beq_iff_eq]; simp
theorem black_of (k v s n g : Int) (l r : BT) : (BT.node k v s n g l r).of.black.enc = (BT.node k v s n (if g % 2 == 1 then IntKind.u64.wrap (g + 1) else g) l r).of.enc := by
  simp [BT.of, BT.black, BT.enc, sumL, BT.isNil]
end Go.Proofs.YtoiohjifjmejkaaGreat
namespace Go.Proofs.YtoiohjifjmejkaaGreat
open Go Go.RowKit

theorem tags_make {A B : Tr} {k v : Int} (bb : Nat) (is : Bool) (hA : TagsOk A) (hB : TagsOk B) : TagsOk (.node bb A k v (rbTag A is) B) := by
  refine ⟨?_, ?_, hA, hB⟩
  · unfold rbTag; rw [u64_mod]; omega
  · unfold rbTag; rw [u64_mod]; omega
end Go.Proofs.YtoiohjifjmejkaaGreat
namespace Go.Proofs.YtoiohjifjmejkaaGreat
open Go Go.RowKit

theorem parts_law (bb : Nat) (A B : Tr) (k v : Int) (is : Bool) (hA : TagsOk A) (cA : A.count < 1000000) : rbPart (.node bb A k v (rbTag A is) B) = (rbPart A && rbPart B && (hi A == hi B) && !(is && (rbRed A || rbRed B))) := by
  rw [rbPart_node]
  cases hp : rbPart A with
  | false => simp
  | true =>
    obtain ⟨h0, h1, -, -⟩ := part_facts A hp hA cA
    have e1 : rbBadTag (.node bb A k v (rbTag A is) B) = false := by
      have et := rbTag_small h0 h1 is
      cases is with
      | true =>
        rw [et]
        simp only [rbBadTag, Tr.tag_node, Tr.left_node, if_true]
        have c1 : col (.node bb A k v (2 * hi A + 1) B) = 1 := by show (2 * hi A + 1) % 2 = 1; omega
        have c2 : hi (.node bb A k v (2 * hi A + 1) B) = hi A := by show (2 * hi A + 1) / 2 = hi A; omega
        rw [c1, c2]
        simp; omega
      | false =>
        simp only [rbBadTag, Tr.tag_node, Tr.left_node, bne_self_eq_false, Bool.and_false, Bool.or_false]
        rw [et, beq_eq_false_iff_ne]
        simp; omega
    have e2 : rbBadTree (.node bb A k v (rbTag A is) B) = (hi A != hi B || (is && (rbRed A || rbRed B))) := by
      have : (col (.node bb A k v (rbTag A is) B) == 1) = is := rbRed_make bb A k v is B
      simp only [rbBadTree, Tr.left_node, Tr.right_node, this]
      rfl
    have e3 : (rbOne (.node bb A k v (rbTag A is) B) == 0) = !(hi A != hi B || (is && (rbRed A || rbRed B))) := by
      unfold rbOne
      rw [e1, e2]
      cases (hi A != hi B || (is && (rbRed A || rbRed B))) <;> rfl
    rw [e3]
    have : (hi A == hi B) = !(hi A != hi B) := by show _ = !(!(hi A == hi B)); rw [Bool.not_not]
    rw [this]
    cases (hi A != hi B) <;> cases (is && (rbRed A || rbRed B)) <;> cases rbPart B <;> rfl
theorem may_black {T : Tr} {n : Nat} {u : Tr} (hp : rbPart T = true) (ho : TagsOk T) (hc : T.count < 1000000) (h : (rbRed T = false ∧ u = T) ∨ (rbRed T = true ∧ ∃ b, n ≤ b ∧ u = .node b T.left T.key T.val (IntKind.u64.wrap (T.tag + 1)) T.right)) : rbMay u = true := by
  rcases h with ⟨h1, rfl⟩ | ⟨h1, b, -, rfl⟩
  · unfold rbMay; rw [hp, h1]; rfl
  · cases T with
    | nil => rw [show rbRed .nil = false by decide +kernel] at h1; cases h1
    | node b' l k v g r =>
      obtain ⟨p1, p2, h0, hg, he, hr⟩ := rb_sides hp
      rw [Tr.count_node] at hc
      obtain ⟨l0, l1, -, -⟩ := part_facts l p1 ho.2.2.1 (by omega)
      have hodd : g % 2 = 1 := by
        have : (g % 2 == 1) = true := h1
        simpa using this
      have e : IntKind.u64.wrap (g + 1) = rbTag l false := by
        rw [rbTag_small l0 l1]
        have hgo := ho.2.1
        rcases hg with hg | hg
        · rw [u64_mod]; simp; omega
        · rw [u64_mod] at hg; omega
      simp only [Tr.left_node, Tr.right_node, Tr.key_node, Tr.val_node, Tr.tag_node]
      rw [e]
      unfold rbMay
      rw [parts_law b l r k v false ho.2.2.1 (by omega), rbRed_make, p1, p2, he]
      simp
end Go.Proofs.YtoiohjifjmejkaaGreat
