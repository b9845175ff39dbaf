/- Rows of beads that a call owns: append onto them. joineryref09.Of and Node. -/
import Derived.Maps.AppendAt
import Derived.Deep.Upon
import Derived.Test.YtoiohjifjmejkaaGreatM4
namespace Go.Proofs.YtoiohjifjmejkaaGreat
open Go Go.RowKit

/-- a row that was made since the heap had B blocks. -/
def Own (B : Nat) (w : World) (v : Value) (zs : List BeadL) : Prop := w.ownsRow B 68 7 v zs.length (beadCells zs)
theorem Own.beads {B : Nat} {w : World} {v : Value} {zs : List BeadL} (h : Own B w v zs) : Beads w v zs := by
  obtain ⟨h1, ⟨rfl, h0⟩ | ⟨g, cap, cur, rfl, hb, hg, hc, hm, hs, ht⟩⟩ := h
  · exact .inl ⟨List.eq_nil_of_length_eq_zero h0, _, 0, rfl⟩
  · by_cases h0 : zs = []
    · subst h0; exact .inl ⟨rfl, _, _, rfl⟩
    · refine .inr ⟨g, 0, cap, rfl, h0, hc, fun j u hj => ?_⟩
      rw [Nat.zero_add, cell_of hg j]
      rw [← ht, List.getElem?_take] at hj
      split at hj
      · simpa using hj
      · cases hj
theorem Own.nil (B : Nat) (w : World) : Own B w (.slice none 0 0) [] := ⟨rfl, .inl ⟨rfl, rfl⟩⟩
theorem Own.ext {B : Nat} {w w' : World} {v : Value} {zs : List BeadL} (h : Own B w v zs) (e : Ext w w') : Own B w' v zs := by
  obtain ⟨h1, h | ⟨g, cap, cur, hv, hb, hg, hc⟩⟩ := h
  · exact ⟨h1, .inl h⟩
  · exact ⟨h1, .inr ⟨g, cap, cur, hv, hb, (e.block g (lt_of hg)).trans hg, hc⟩⟩
theorem Own.mono {B B' : Nat} {w : World} {v : Value} {zs : List BeadL} (h : Own B w v zs) (e : B' ≤ B) : Own B' w v zs := by
  obtain ⟨h1, h | ⟨g, cap, cur, hv, hb, hg, hc⟩⟩ := h
  · exact ⟨h1, .inl h⟩
  · exact ⟨h1, .inr ⟨g, cap, cur, hv, Nat.le_trans e hb, hg, hc⟩⟩
theorem bead_info : ∃ i : TypeInfo, Tryz.prog.info? 68 = some i ∧ i.zero = some (.agg #[.int .i64 0, .int .i64 0, .int .i64 0, .int .i64 0, .int .u64 0, .bool false, .bool false]) ∧ i.size = 7 ∧ i.bytes = 48 := by
  have h : (Tryz.prog.info? 68).map (fun i => (i.zero, i.size, i.bytes)) = some (some (.agg #[.int .i64 0, .int .i64 0, .int .i64 0, .int .i64 0, .int .u64 0, .bool false, .bool false]), 7, 48) := by kernel_rfl
  cases hi : Tryz.prog.info? 68 with
  | none => rw [hi] at h; cases h
  | some i =>
    rw [hi] at h
    simp only [Option.map_some, Option.some.injEq, Prod.mk.injEq] at h
    exact ⟨i, rfl, h.1, h.2.1, h.2.2⟩
theorem beadCells_one : ∀ (zs : List BeadL), ∀ u ∈ beadCells zs, u.oneCell' = true
  | [], u, h => by simp [beadCells] at h
  | z :: zs, u, h => by
    rw [beadCells, List.flatMap_cons, List.mem_append] at h
    rcases h with h | h
    · simp only [BeadL.cells, List.mem_cons, List.not_mem_nil, or_false] at h
      rcases h with rfl | rfl | rfl | rfl | rfl | rfl | rfl <;> rfl
    · exact beadCells_one zs u h
theorem beadCells_append (a b : List BeadL) : beadCells (a ++ b) = beadCells a ++ beadCells b := by simp [beadCells]
/-- append, onto a row of one's own. -/
theorem append_own {B : Nat} {w : World} {v u : Value} {zs ys : List BeadL} (ty : TypeId) (hv : Own B w v zs) (hu : Beads w u ys) (hlen : zs.length + ys.length ≤ 10000) (hB : B ≤ w.heap.size) :
    ∃ v' w', (Builtin.append_ #[24, 24] ty #[v, u]).run Tryz.prog w = .ok v' w' ∧ Own B w' v' (zs ++ ys) ∧ w.grownBy w' v.ownBlock := by
  obtain ⟨i, hi, hz, hs, hb⟩ := bead_info
  have hml : (10000 : Nat) ≤ maxLen := by decide
  by_cases h0 : ys = []
  · subst h0
    have hu' : ∃ a c, u = .slice a 0 c := by
      obtain ⟨a, c, rfl⟩ := beads_slice hu
      exact ⟨a, c, rfl⟩
    obtain ⟨a, c, rfl⟩ := hu'
    have hsrc : Src Tryz.prog i.size 24 (.slice a 0 c) 0 [] w := by
      cases a with
      | none => exact Src.ofNil w Tryz.underlying24 c
      | some a => exact Src.ofSlice w Tryz.underlying24 a 0 c [] (by simp) (by simp) (by simp)
    have hv' : ∃ p l c', v = .slice p l c' ∧ l ≤ c' := by
      rcases hv with ⟨_, ⟨rfl, h0⟩ | ⟨g, cap, cur, rfl, _, _, hc, _⟩⟩
      · exact ⟨_, _, _, rfl, Nat.le_refl _⟩
      · exact ⟨_, _, _, rfl, hc⟩
    obtain ⟨p, l, c', rfl, hlc⟩ := hv'
    refine ⟨_, w, run_append_nothing w _ _ ty _ i Tryz.underlying24 hi p l c' hlc _ hsrc, by simpa using hv, ⟨rfl, rfl, rfl, Nat.le_refl _, fun _ _ _ => rfl⟩⟩
  · rcases hu with ⟨h, _⟩ | ⟨b, o, c, rfl, _, hc, hr⟩
    · exact (h0 h).elim
    · obtain ⟨v', w', hrun, hown, hg, _, _⟩ := run_append_own_at (P := Tryz.prog) w B _ ty _ i _ 7 48 Tryz.underlying24 hi hz hs hb rfl (by omega) v zs.length (beadCells zs) hv ⟨b, o, none⟩ ys.length c (beadCells ys) (beadCells_len ys)
        (fun j u hj => by rw [Addr.add_mid]; exact hr j u hj) (beadCells_one ys) (by omega) (by omega) hB
      refine ⟨v', w', hrun, ?_, hg⟩
      show w'.ownsRow _ _ _ _ _ _
      rw [List.length_append, beadCells_append]
      exact hown
/-- what append leaves alone. -/
theorem grown_ext {w0 w w' : World} {v : Value} {zs : List BeadL} (hw : Ext w0 w) (hv : Own w0.heap.size w v zs) (hg : w.grownBy w' v.ownBlock) : Ext w0 w' := by
  refine RowKit.Below.grown hw hg hw.size ?_
  intro k hk
  rcases hv with ⟨_, ⟨rfl, h0⟩ | ⟨g, cap, cur, rfl, hb, _⟩⟩
  · cases hk
  · simp only [Value.ownBlock, Option.some.injEq] at hk
    omega

/-- a new row of one bead. -/
theorem own_new {B : Nat} {w : World} (z : BeadL) (h : B ≤ w.heap.size) : Own B (w.alloc (.cells #[.int .i64 z.key, .int .i64 z.val, .int .i64 z.sum, .int .i64 z.size, .int .u64 z.tag, .bool z.left, .bool z.right] 68)) (.slice (some ⟨w.heap.size, 0, none⟩) 1 1) [z] :=
  ⟨rfl, .inr ⟨w.heap.size, 1, _, rfl, h, alloc_at _ _ _ rfl, Nat.le_refl _, by decide, rfl, rfl⟩⟩
section
variable {F : Fence} {n : Nat} {ops : Array Oper} {rest : List Oper} {o : Oper} {a : Act} {Q : Exit → Act → World → Prop}
theorem wpList_append_beads (hgd : o.guard = none) (s x : Operand) (ho : o.op = .call { callee := .builtin .append, args := #[s, x], argTypes := #[24, 24] })
    {B : Nat} {w : World} {v u : Value} {zs ys : List BeadL} (hs : a.eval s = v) (hx : a.eval x = u) (hv : Own B w v zs) (hu : Beads w u ys) (hlen : zs.length + ys.length ≤ 10000) (hB : B ≤ w.heap.size)
    (h : ∀ v' w', Own B w' v' (zs ++ ys) → w.grownBy w' v.ownBlock → wpList Tryz.prog ops Q rest (a.put o.dst v') w') : wpList Tryz.prog ops Q (o :: rest) a w := by
  refine wpList_plain hgd fun K hK => ?_
  obtain ⟨v', w', hr, h2, h3⟩ := append_own o.type hv hu hlen hB
  unfold Oper.wp execOp
  simp only [ho, resolve, invoke, builtin, Sem.run_bind, Sem.run_pure, Result.andThen_ok, List.map_toArray, List.map_cons, List.map_nil, hs, hx, hr]
  exact hK _ _ (h v' w' h2 h3)
theorem wpListIn_append_beads (hgd : o.guard = none) (s x : Operand) (ho : o.op = .call { callee := .builtin .append, args := #[s, x], argTypes := #[24, 24] })
    {B : Nat} {w : World} {v u : Value} {zs ys : List BeadL} (hs : a.eval s = v) (hx : a.eval x = u) (hv : Own B w v zs) (hu : Beads w u ys) (hlen : zs.length + ys.length ≤ 10000) (hB : B ≤ w.heap.size)
    (hfn : ∀ f, F.fn f)
    (h : ∀ v' w', Own B w' v' (zs ++ ys) → w.grownBy w' v.ownBlock → wpListIn F n Tryz.prog ops Q rest (a.put o.dst v') w') : wpListIn F n Tryz.prog ops Q (o :: rest) a w := by
  refine wpListIn_plain hgd fun K hK => ?_
  obtain ⟨v', w', hr, h2, h3⟩ := append_own o.type hv hu hlen hB
  unfold Oper.wpIn
  refine ⟨fun f _ => hfn f, ?_⟩
  rw [Oper.semAt_eq _ _ _ (fun c => by rw [ho]; simp)]
  unfold execOp
  simp only [ho, resolve, invoke, builtin, Sem.run_bind, Sem.run_pure, Result.andThen_ok, List.map_toArray, List.map_cons, List.map_nil, hs, hx, hr]
  exact hK _ _ (h v' w' h2 h3)
end
/-- beads with their sizes and sums. -/
def sumL (zs : List BeadL) : Int := zs.foldl (fun n z => wrap64 (n + z.val)) 0
def BT.of : BT → BT
  | .nil => .nil
  | .node k v s n g l r => .node k v (sumL (BT.node k v s n g l r).enc) (BT.node k v s n g l r).enc.length g l.of r.of
set_option maxHeartbeats 400000 in
theorem sum09_any (w : World) (p : Value) (zs : List BeadL) (hb : Beads w p zs) (hl : zs.length ≤ 2000) : Calls Tryz.prog 47 #[p] w (Ret (.int .i64 (sumL zs)) w) := by
  rcases hb with ⟨rfl, a, c, rfl⟩ | ⟨b, o, c, rfl, hne, hc, hr⟩
  · rw [show sumL [] = 0 from rfl]
    go_enter Tryz.func47, Tryz.ntmps47
    go_wp2
    go_loop [3, 4] (fun n i => n = .int .i64 0 ∧ i = .int .i64 0) (fun _ _ => 0)
    case atStart => exact ⟨rfl, rfl⟩
    case round =>
      obtain ⟨rfl, rfl⟩ := hrel
      go_wp2
      go_ret
      exact Ret.mk (Ext.refl _)
  · have H := Lib.hid hr
    clear hr hne
    go_enter Tryz.func47, Tryz.ntmps47
    go_wp2
    go_loop [3, 4] (fun n i => ∃ k : Nat, k ≤ zs.length ∧ i = .int .i64 k ∧ n = .int .i64 (sumL (zs.take k))) (fun _ i => zs.length - (intOf i).toNat)
    case atStart => exact ⟨0, Nat.zero_le _, rfl, rfl⟩
    case round =>
      obtain ⟨k, hk, rfl, rfl⟩ := hrel
      by_cases hlt : k < zs.length
      · obtain ⟨z, hz⟩ : ∃ z, zs[k]? = some z := ⟨_, List.getElem?_eq_getElem hlt⟩
        have hcv := rangeAt_cell H.out hz (j := 1) rfl
        have hsum : wrap64 (sumL (zs.take k) + z.val) = sumL (zs.take (k + 1)) := by
          rw [List.take_add_one, hz]; simp [sumL]
        have HS := Lib.hid hsum
        clear hz hsum
        go_wp2
        go_round
        case rel => exact ⟨k + 1, by omega, by go_num, by rw [HS.out]⟩
        case measure => simp [intOf]; omega
      · have hk' : k = zs.length := by omega
        have HK := Lib.hid hk'
        clear hk'
        go_wp2
        go_ret
        exact ⟨ret_int (by rw [HK.out, List.take_length]), Ext.refl _⟩
end Go.Proofs.YtoiohjifjmejkaaGreat
namespace Go.Proofs.YtoiohjifjmejkaaGreat
open Go Go.RowKit

theorem BT.of_isNil : ∀ t : BT, t.of.isNil = t.isNil
  | .nil => rfl
  | .node .. => rfl
theorem BT.of_len : ∀ t : BT, t.of.enc.length = t.enc.length
  | .nil => rfl
  | .node k v s n g l r => by simp [BT.of, BT.enc, BT.of_len l, BT.of_len r]
/-- a row that is the call's own. -/
def GivesRow (zs : List BeadL) (w : World) (e : Ending) (w' : World) : Prop := ∃ v, e = .returned v ∧ Own w.heap.size w' v zs ∧ Ext w w'
set_option maxHeartbeats 1000000 in
theorem of_any (t : BT) : ∀ (w : World) (p : Value), Beads w p t.enc → t.enc.length ≤ 2000 →
    Calls Tryz.prog 19 #[p] w (GivesRow t.of.enc w) := by
  have hfn : ∀ f, Fence.wide.fn f := fun _ => trivial
  induction t with
  | nil =>
    intro w p hb hl
    obtain ⟨a, c, rfl⟩ := beads_slice hb
    rw [show BT.nil.enc.length = 0 from rfl]
    clear hb hl
    go_enter Tryz.func19, Tryz.ntmps19
    go_wp2
    go_ret
    exact ⟨_, rfl, Own.nil _ _, Ext.refl _⟩
  | node k v s n g l r ihl ihr =>
    intro w p hb hl
    have hp := parts_any w p k v s n g l r hb hl
    have hs := fun (w : World) (h : Beads w p (BT.node k v s n g l r).enc) => sum09_any w p _ h hl
    have hlen : (BT.node k v s n g l r).enc.length = 1 + l.enc.length + r.enc.length := by simp [BT.enc]; omega
    have IHl := Lib.hid ihl
    have IHr := Lib.hid ihr
    have HS := Lib.hid hs
    have HLL := Lib.hid (show l.enc.length ≤ 2000 by omega)
    have HLR := Lib.hid (show r.enc.length ≤ 2000 by omega)
    have h1 : 1 ≤ (BT.node k v s n g l r).enc.length := by omega
    have HOF : Hid ((BT.node k v s n g l r).of.enc = ⟨k, v, sumL (BT.node k v s n g l r).enc, (BT.node k v s n g l r).enc.length, g, !l.isNil, !r.isNil⟩ :: (l.of.enc ++ r.of.enc)) := Lib.hid (by
      show BeadL.mk _ _ _ _ _ (!l.of.isNil) (!r.of.isNil) :: _ = _
      rw [BT.of_isNil, BT.of_isNil])
    have HB := Lib.hid hb
    obtain ⟨a, c, rfl⟩ := beads_slice hb
    have HP := Lib.hid hp
    have HLEN := Lib.hid hlen
    clear hb hp hlen ihl ihr hs
    obtain ⟨OF, hOF⟩ : ∃ OF, OF = (BT.node k v s n g l r).of.enc := ⟨_, rfl⟩
    rw [← hOF] at HOF ⊢
    clear hOF
    generalize hZS : (BT.node k v s n g l r).enc = ZS at *
    have HZS := Lib.hid hZS
    clear hZS
    generalize hSS : sumL ZS = SS at *
    clear hSS
    generalize hL : ZS.length = LL at *
    have HL := Lib.hid hL
    clear hL
    go_enter Tryz.func19, Tryz.ntmps19
    obtain ⟨m⟩ : Nonempty Nat := ⟨0⟩
    refine (wpIn_wide (n := m)).1 ?_
    gi_wp2_with fail
    refine ⟨wide_room _, (callsIn_wide.2 (HP.out)).mono ?_⟩
    rintro e w1 ⟨v1, v2, rfl, hv1, hv2, hE⟩
    gi_wp2_with fail
    have hnew := alloc_at w1 (.cells #[.int .i64 k, .int .i64 v, .int .i64 s, .int .i64 LL, .int .u64 g, .bool (!l.isNil), .bool (!r.isNil)] 68) _ rfl
    have hE2 := (Ext.refl w1).alloc (.cells #[.int .i64 k, .int .i64 v, .int .i64 s, .int .i64 LL, .int .u64 g, .bool (!l.isNil), .bool (!r.isNil)] 68)
    generalize w1.alloc (.cells #[.int .i64 k, .int .i64 v, .int .i64 s, .int .i64 LL, .int .u64 g, .bool (!l.isNil), .bool (!r.isNil)] 68) = w2 at *
    refine ⟨wide_room _, (callsIn_wide.2 (HS.out w2 (HB.out.ext (hE.trans hE2)))).mono ?_⟩
    rintro e w3 ⟨rfl, h3⟩
    have hnew3 := (h3.block w1.heap.size (lt_of hnew)).trans hnew
    have hc2 := cell_of hnew3 2
    have hf2 := frozen_of hnew3 2
    simp at hc2
    have hw3 := hE2.trans h3
    gi_wp2_with fail
    have hw4 : Ext w1 (w3.setCell ⟨w1.heap.size, 2, none⟩ (.int .i64 SS)) := Ext.put hw3 2 _
    have hnew4 : (w3.setCell ⟨w1.heap.size, 2, none⟩ (.int .i64 SS)).heap[w1.heap.size]? = some (.cells #[.int .i64 k, .int .i64 v, .int .i64 SS, .int .i64 LL, .int .u64 g, .bool (!l.isNil), .bool (!r.isNil)] 68 (0, 0)) := by
      simp [World.setCell, Array.getElem?_modify, hnew3]
    generalize w3.setCell ⟨w1.heap.size, 2, none⟩ (.int .i64 SS) = w4 at *
    have h01 : Ext w w1 := hE
    have h14 : Ext w1 w4 := hw4
    have HV1 := Lib.hid (hv1.ext hw4)
    have HV2 := Lib.hid hv2
    clear hv1 hv2 hE hE2 hw3 h3 hnew hnew3 hc2 hf2 hw4
    have hc0 := cell_all (cell_of hnew4 0)
    have hc1 := cell_all (cell_of hnew4 1)
    have hc2 := cell_all (cell_of hnew4 2)
    have hc3 := cell_all (cell_of hnew4 3)
    have hc4 := cell_all (cell_of hnew4 4)
    have hc5 := cell_all (cell_of hnew4 5)
    have hc6 := cell_all (cell_of hnew4 6)
    have hx := Ext.drew w4
    clear hnew4
    refine wpIn_region_G (fun j => !(List.contains (α := Nat) [4] j)) (by kernel_rfl) ?_
    refine batchG hfn (fuel := 4) [0, 2] (by kernel_rfl) rfl ?_
    repeat (go_big_quiet_step ((fail)))
    refine wpQuiet_nil ?_
    refine wpAnyG_two (j := 1) (k := 3) (by kernel_rfl) rfl rfl ?_ ?_
    · gi_wp2_with fail
      have hown := (own_new (w := w4) ⟨k, v, SS, LL, g, !l.isNil, !r.isNil⟩ (show w1.heap.size ≤ w4.heap.size from h14.size)).ext (Ext.drew _)
      have h45 := ((Ext.refl w4).alloc (.cells #[.int .i64 k, .int .i64 v, .int .i64 SS, .int .i64 LL, .int .u64 g, .bool (!l.isNil), .bool (!r.isNil)] 68)).trans (Ext.drew _)
      refine onePost_ext ((Ext.refl w4.drew).alloc _) ?_
      clear hx hc0 hc1 hc2 hc3 hc4 hc5 hc6
      refine wpAnyG_one (j := 3) (by kernel_rfl) rfl ?_
      gi_wp2_with fail
      generalize (w4.alloc (.cells #[.int .i64 k, .int .i64 v, .int .i64 SS, .int .i64 LL, .int .u64 g, .bool (!l.isNil), .bool (!r.isNil)] 68)).drew = w5 at *
      generalize w4.heap.size = N5 at *
      refine ⟨wide_room _, (callsIn_wide.2 (IHl.out w5 v1 (HV1.out.ext h45) HLL.out)).mono ?_⟩
      rintro e w6 ⟨v3, rfl, hv3, h56⟩
      gi_wp2_with fail
      refine onePost_ext (h56) ?_
      have hown6 := hown.ext h56
      have hb6 := hv3.beads
      have h16 : Ext w1 w6 := (h14.trans h45).trans h56
      clear hown hv3 h56 h45
      refine wpAnyG_one (j := 4) (by kernel_rfl) rfl ?_
      refine wpListIn_append_beads (B := w1.heap.size) (zs := [⟨k, v, SS, LL, g, !l.isNil, !r.isNil⟩]) (ys := l.of.enc) rfl (.tmp 23) (.tmp 25) rfl rfl rfl hown6 hb6 (by rw [BT.of_len]; have := HLL.out; simp; omega) h16.size hfn ?_
      intro v4 w7 hown7 hg7
      have h17 : Ext w1 w7 := grown_ext h16 hown6 hg7
      simp only [Act.put, List.setIfInBounds_toArray, List.set_cons_zero, List.set_cons_succ]
      refine wpListIn_nil ?_
      refine onePost_any (by kernel_rfl) ?_
      clear hg7 hown6 hb6 h16
      refine batchG hfn (fuel := 0) [5] (by kernel_rfl) rfl ?_
      repeat (go_big_quiet_step ((fail)))
      refine wpQuiet_nil ?_
      refine wpAnyG_done (by kernel_rfl) ?_
      refine calmQ_normal ?_
      gi_wp2_with fail
      refine ⟨wide_room _, (callsIn_wide.2 (IHr.out w7 v2 (HV2.out.ext h17) HLR.out)).mono ?_⟩
      rintro e w8 ⟨v5, rfl, hv5, h78⟩
      have hown8 := hown7.ext h78
      have hb8 := hv5.beads
      have h18 := h17.trans h78
      clear hown7 hv5 h78 h17
      gi_wp2_with (refine wpListIn_append_beads (B := w1.heap.size) rfl (.tmp 27) (.tmp 29) rfl rfl rfl hown8 hb8 ?c1 h18.size hfn ?_)
      case c1 =>
        rw [BT.of_len, List.length_append, BT.of_len]
        have := HLL.out
        have := HLR.out
        simp
        omega
      intro v6 w9 hown9 hg9
      have h19 : Ext w1 w9 := grown_ext h18 hown8 hg9
      clear hg9 hown8 hb8
      gi_wp2
      go_ret
      refine ⟨_, rfl, ?_, h01.trans h19⟩
      rw [HOF.out]
      exact hown9.mono h01.size
    · clear hc0 hc1 hc2 hc3 hc4 hc5 hc6
      gi_wp2_with fail
      refine ⟨wide_room _, (callsIn_wide.2 (IHl.out w4.drew v1 (HV1.out.ext hx) HLL.out)).mono ?_⟩
      rintro e w5 ⟨v3, rfl, hv3, h45'⟩
      gi_wp2_with fail
      refine onePost_ext (h45') ?_
      have h45 := hx.trans h45'
      refine wpAnyG_one (j := 1) (by kernel_rfl) rfl ?_
      gi_wp2_with fail
      have h15 := h14.trans h45
      have hown6 := own_new (w := w5) ⟨k, v, SS, LL, g, !l.isNil, !r.isNil⟩ (show w1.heap.size ≤ w5.heap.size from h15.size)
      refine onePost_ext ((Ext.refl w5).alloc _) ?_
      have h56 := (Ext.refl w5).alloc (.cells #[.int .i64 k, .int .i64 v, .int .i64 SS, .int .i64 LL, .int .u64 g, .bool (!l.isNil), .bool (!r.isNil)] 68)
      generalize w5.alloc (.cells #[.int .i64 k, .int .i64 v, .int .i64 SS, .int .i64 LL, .int .u64 g, .bool (!l.isNil), .bool (!r.isNil)] 68) = w6 at *
      generalize w5.heap.size = N5 at *
      have hb6 := hv3.beads.ext h56
      have h16 : Ext w1 w6 := h15.trans h56
      clear hv3 h56 h45 h45' hx h15
      refine wpAnyG_one (j := 4) (by kernel_rfl) rfl ?_
      refine wpListIn_append_beads (B := w1.heap.size) (zs := [⟨k, v, SS, LL, g, !l.isNil, !r.isNil⟩]) (ys := l.of.enc) rfl (.tmp 23) (.tmp 25) rfl rfl rfl hown6 hb6 (by rw [BT.of_len]; have := HLL.out; simp; omega) h16.size hfn ?_
      intro v4 w7 hown7 hg7
      have h17 : Ext w1 w7 := grown_ext h16 hown6 hg7
      simp only [Act.put, List.setIfInBounds_toArray, List.set_cons_zero, List.set_cons_succ]
      refine wpListIn_nil ?_
      refine onePost_any (by kernel_rfl) ?_
      clear hg7 hown6 hb6 h16
      refine batchG hfn (fuel := 0) [5] (by kernel_rfl) rfl ?_
      repeat (go_big_quiet_step ((fail)))
      refine wpQuiet_nil ?_
      refine wpAnyG_done (by kernel_rfl) ?_
      refine calmQ_normal ?_
      gi_wp2_with fail
      refine ⟨wide_room _, (callsIn_wide.2 (IHr.out w7 v2 (HV2.out.ext h17) HLR.out)).mono ?_⟩
      rintro e w8 ⟨v5, rfl, hv5, h78⟩
      have hown8 := hown7.ext h78
      have hb8 := hv5.beads
      have h18 := h17.trans h78
      clear hown7 hv5 h78 h17
      gi_wp2_with (refine wpListIn_append_beads (B := w1.heap.size) rfl (.tmp 27) (.tmp 29) rfl rfl rfl hown8 hb8 ?c1 h18.size hfn ?_)
      case c1 =>
        rw [BT.of_len, List.length_append, BT.of_len]
        have := HLL.out
        have := HLR.out
        simp
        omega
      intro v6 w9 hown9 hg9
      have h19 : Ext w1 w9 := grown_ext h18 hown8 hg9
      clear hg9 hown8 hb8
      gi_wp2
      go_ret
      refine ⟨_, rfl, ?_, h01.trans h19⟩
      rw [HOF.out]
      exact hown9.mono h01.size
end Go.Proofs.YtoiohjifjmejkaaGreat
