/- cut.each: the going over a tree's items (a scheme's faces may be made on the way). joineryref20: Above, item, over, Check, May. -/
import Derived.BigRegion
import Derived.Test.YtoiohjifjmejkaaGreatM10
import Derived.Test.YtoiohjifjmejkaaGreatM29
import Derived.Test.YtoiohjifjmejkaaGreatM34
import Derived.Test.YtoiohjifjmejkaaGreatM36
namespace Go.Proofs.YtoiohjifjmejkaaGreat
open Go Go.RowKit Go.Shelf
attribute [local go_sem] Oper.semAt_some

theorem Keep.bt {M : Nat → Prop} {L : List Nat} {a b : World} (h : Bt L a b) (hL : ∀ i ∈ L, M i) : Keep M a b :=
  ⟨h.os, h.tape, h.output, h.size, fun i _ _ _ hi hx => (h.block i (lt_of hx) (fun hm => hi (hL i hm))).trans hx⟩
theorem inl_its (c : Nat) : ∀ T : Tr, T.inl.map (rootIt c) = itsC c T
  | .nil => (itsC_nil c).symm
  | .node b l k v g r => by rw [Tr.inl, List.map_append, List.map_cons, inl_its c l, inl_its c r, itsC_node, rootIt_it]
theorem inl_len : ∀ T : Tr, T.inl.length = T.count
  | .nil => rfl
  | .node b l k v g r => by rw [Tr.inl, List.length_append, List.length_cons, inl_len l, inl_len r, Tr.count_node]; omega
end Go.Proofs.YtoiohjifjmejkaaGreat
namespace Go.Proofs.YtoiohjifjmejkaaGreat
open Go Go.RowKit
attribute [local go_sem] Oper.semAt_some

set_option maxHeartbeats 400000 in
theorem item20_any (w : World) (k v s n g : Int) (x y : Bool) : Calls Tryz.prog 67 #[.agg #[.int .i64 k, .int .i64 v, .int .i64 s, .int .i64 n, .int .u64 g, .bool x, .bool y]] w (Ret (itV k v g) w) := by
  go_enter Tryz.func67, Tryz.ntmps67
  go_wp2
  refine bodyPost_ret (v := itV k v g) ?_ rfl (Ret.mk (((Ext.refl w).alloc _).alloc _))
  simp [results, Tryz.results67, go_sem, itV]
set_option maxHeartbeats 1000000 in
theorem above20_any (w : World) (k v g k' v' g' : Int) : Calls Tryz.prog 165 #[itV k v g, itV k' v' g'] w (Ret (.bool (aboveB g k g' k')) w) := by
  unfold itV
  by_cases h1 : g' < g
  · have HX := Lib.hid (show aboveB g k g' k' = true by simp [aboveB, h1])
    obtain ⟨X, hX⟩ : ∃ X, aboveB g k g' k' = X := ⟨_, rfl⟩
    rw [hX] at HX ⊢
    clear hX
    go_enter Tryz.func165, Tryz.ntmps165
    go_wp2
    go_ret
    exact ⟨ret_bool (by rw [HX.out]), ((Ext.refl w).alloc _).alloc _⟩
  · by_cases h2 : g = g'
    · by_cases h3 : k' < k
      · have HX := Lib.hid (show aboveB g k g' k' = true by simp [aboveB, h2, h3])
        obtain ⟨X, hX⟩ : ∃ X, aboveB g k g' k' = X := ⟨_, rfl⟩
        rw [hX] at HX ⊢
        clear hX
        subst h2
        go_enter Tryz.func165, Tryz.ntmps165
        go_wp2
        go_ret
        exact ⟨ret_bool (by rw [HX.out]), ((Ext.refl w).alloc _).alloc _⟩
      · have HX := Lib.hid (show aboveB g k g' k' = false by simp [aboveB, h2]; omega)
        obtain ⟨X, hX⟩ : ∃ X, aboveB g k g' k' = X := ⟨_, rfl⟩
        rw [hX] at HX ⊢
        clear hX
        subst h2
        go_enter Tryz.func165, Tryz.ntmps165
        go_wp2
        go_ret
        exact ⟨ret_bool (by rw [HX.out]), ((Ext.refl w).alloc _).alloc _⟩
    · have HX := Lib.hid (show aboveB g k g' k' = false by simp [aboveB, h2]; omega)
      obtain ⟨X, hX⟩ : ∃ X, aboveB g k g' k' = X := ⟨_, rfl⟩
      rw [hX] at HX ⊢
      clear hX
      go_enter Tryz.func165, Tryz.ntmps165
      go_wp2
      go_ret
      exact ⟨ret_bool (by rw [HX.out]), ((Ext.refl w).alloc _).alloc _⟩
/-- does the root of a tree of beads stand above a tag and key? -/
def overT : BT → Int → Int → Bool
  | .nil, _, _ => false
  | .node k' _ _ _ g' _ _, g, k => aboveB g' k' g k
theorem overT_fits {t : BT} {T : Tr} (h : t.fits T) (b : Nat) (l : Tr) (k v g : Int) (r : Tr) : tAbove T (.node b l k v g r) = overT t g k := by
  cases t with
  | nil => cases T with
    | nil => rfl
    | node => exact h.elim
  | node k' v' s' n' g' l' r' => cases T with
    | nil => exact h.elim
    | node b1 l1 k1 v1 g1 r1 =>
      obtain ⟨h1, h2, h3, -, -⟩ := h
      subst h1 h3
      rfl
set_option maxRecDepth 100000 in
set_option maxHeartbeats 1000000 in
theorem over20_any (w : World) (p : Value) (t : BT) (k v s n g : Int) (x y : Bool) (hb : Beads w p t.enc) (hl : t.enc.length ≤ 2000) :
    Calls Tryz.prog 155 #[p, .agg #[.int .i64 k, .int .i64 v, .int .i64 s, .int .i64 n, .int .u64 g, .bool x, .bool y]] w (Ret (.bool (overT t g k)) w) := by
  have hfn : ∀ f, Fence.wide.fn f := fun _ => trivial
  have hund : undef = Value.tuple #[] := rfl
  cases t with
  | nil =>
    obtain ⟨a, c, rfl⟩ := beads_slice hb
    rw [show BT.nil.enc.length = 0 from rfl, show overT .nil g k = false from rfl]
    clear hb hl
    obtain ⟨m⟩ : Nonempty Nat := ⟨0⟩
    refine (callsIn_wide (n := m)).1 ?_
    refine callsIn_of_wp Tryz.func155 rfl trivial ?_ rfl
    simp only [Tryz.ntmps155, List.size_toArray, List.length_cons, List.length_nil, Nat.reduceAdd, Nat.reduceSub, Array.replicate_succ, Array.replicate_zero, List.push_toArray, List.append_toArray, List.nil_append, List.cons_append]
    gi_wp2_with fail
    have hE := (Ext.refl w).alloc (.cells #[.int .i64 k, .int .i64 v, .int .i64 s, .int .i64 n, .int .u64 g, .bool x, .bool y] 68)
    generalize w.alloc (.cells #[.int .i64 k, .int .i64 v, .int .i64 s, .int .i64 n, .int .u64 g, .bool x, .bool y] 68) = W at *
    have hx := Ext.drew W
    refine wpIn_region_G (fun j => !(List.contains (α := Nat) [1, 9, 10] j)) (by kernel_rfl) ?_
    refine batchG hfn (fuel := 12) [0] (by kernel_rfl) rfl ?_
    repeat (go_big_quiet_step ((fail)))
    refine wpQuiet_nil ?_
    refine wpAnyG_one (j := 1) (by kernel_rfl) rfl ?_
    gi_wp2_with fail
    gi_wp2_with fail
    refine onePost_any (by kernel_rfl) ?_
    refine batchG hfn (fuel := 5) [2, 3, 4, 5, 6, 8] (by kernel_rfl) rfl ?_
    repeat (go_big_quiet_step ((fail)))
    refine wpQuiet_nil ?_
    refine wpAnyG_skip hfn (j := 7) (by kernel_rfl) rfl rfl ?_
    simp only [Act.put, List.setIfInBounds_toArray, List.set_cons_zero, List.set_cons_succ]
    refine wpAnyG_skip hfn (j := 9) (by kernel_rfl) rfl rfl ?_
    simp only [Act.put, List.setIfInBounds_toArray, List.set_cons_zero, List.set_cons_succ]
    refine wpAnyG_skip hfn (j := 10) (by kernel_rfl) rfl rfl ?_
    simp only [Act.put, List.setIfInBounds_toArray, List.set_cons_zero, List.set_cons_succ]
    refine batchG hfn (fuel := 0) [11, 12] (by kernel_rfl) rfl ?_
    repeat (go_big_quiet_step ((fail)))
    refine wpQuiet_nil ?_
    refine wpAnyG_done (by kernel_rfl) ?_
    refine calmQ_normal ?_
    gi_wp2
    go_ret
    exact Ret.mk (hE.trans hx)
  | node k' v' s' n' g' l r =>
    rcases hb with ⟨h, -⟩ | ⟨b, o, c, rfl, hne, hc, hr⟩
    · simp [BT.enc] at h
    · have hc0 : w.cell? ⟨b, o, none⟩ = some (.int .i64 k') := by simpa using rangeAt_cell hr (i := 0) rfl (j := 0) rfl
      have hc1 : w.cell? ⟨b, o + 1, none⟩ = some (.int .i64 v') := by simpa using rangeAt_cell hr (i := 0) rfl (j := 1) rfl
      have hc2 : w.cell? ⟨b, o + 2, none⟩ = some (.int .i64 s') := by simpa using rangeAt_cell hr (i := 0) rfl (j := 2) rfl
      have hc3 : w.cell? ⟨b, o + 3, none⟩ = some (.int .i64 n') := by simpa using rangeAt_cell hr (i := 0) rfl (j := 3) rfl
      have hc4 : w.cell? ⟨b, o + 4, none⟩ = some (.int .u64 g') := by simpa using rangeAt_cell hr (i := 0) rfl (j := 4) rfl
      have hc5 : w.cell? ⟨b, o + 5, none⟩ = some (.bool (!l.isNil)) := by simpa using rangeAt_cell hr (i := 0) rfl (j := 5) rfl
      have hc6 : w.cell? ⟨b, o + 6, none⟩ = some (.bool (!r.isNil)) := by simpa using rangeAt_cell hr (i := 0) rfl (j := 6) rfl
      have hlen : 1 ≤ (BT.node k' v' s' n' g' l r).enc.length := by simp [BT.enc]
      rw [show overT (.node k' v' s' n' g' l r) g k = aboveB g' k' g k from rfl]
      have hlt := cell_lt hc0
      have HC := Lib.hid (And.intro hc0 (And.intro hc1 (And.intro hc2 (And.intro hc3 (And.intro hc4 (And.intro hc5 hc6))))))
      have HA := Lib.hid (fun W => above20_any W k' v' g' k v g)
      clear hr hne hc0 hc1 hc2 hc3 hc4 hc5 hc6
      generalize (BT.node k' v' s' n' g' l r).enc.length = LL at *
      generalize (!l.isNil) = x' at *
      generalize (!r.isNil) = y' at *
      obtain ⟨m⟩ : Nonempty Nat := ⟨0⟩
      refine (callsIn_wide (n := m)).1 ?_
      refine callsIn_of_wp Tryz.func155 rfl trivial ?_ rfl
      simp only [Tryz.ntmps155, List.size_toArray, List.length_cons, List.length_nil, Nat.reduceAdd, Nat.reduceSub, Array.replicate_succ, Array.replicate_zero, List.push_toArray, List.append_toArray, List.nil_append, List.cons_append]
      gi_wp2_with fail
      have hE := (Ext.refl w).alloc (.cells #[.int .i64 k, .int .i64 v, .int .i64 s, .int .i64 n, .int .u64 g, .bool x, .bool y] 68)
      have hbox := alloc_at w (.cells #[.int .i64 k, .int .i64 v, .int .i64 s, .int .i64 n, .int .u64 g, .bool x, .bool y] 68) _ rfl
      generalize w.alloc (.cells #[.int .i64 k, .int .i64 v, .int .i64 s, .int .i64 n, .int .u64 g, .bool x, .bool y] 68) = W at *
      have hx := Ext.drew W
      have hd : decide (0 < LL) = true := by simp; omega
      have e0 := cell_all ((hE.cell hlt).trans HC.out.1)
      have e1 := cell_all ((hE.cell hlt).trans HC.out.2.1)
      have e2 := cell_all ((hE.cell hlt).trans HC.out.2.2.1)
      have e3 := cell_all ((hE.cell hlt).trans HC.out.2.2.2.1)
      have e4 := cell_all ((hE.cell hlt).trans HC.out.2.2.2.2.1)
      have e5 := cell_all ((hE.cell hlt).trans HC.out.2.2.2.2.2.1)
      have e6 := cell_all ((hE.cell hlt).trans HC.out.2.2.2.2.2.2)
      have f0 := cell_all (show W.cell? ⟨w.heap.size, 0, none⟩ = some (.int .i64 k) from cell_of hbox 0)
      have f1 := cell_all (show W.cell? ⟨w.heap.size, 1, none⟩ = some (.int .i64 v) from cell_of hbox 1)
      have f2 := cell_all (show W.cell? ⟨w.heap.size, 2, none⟩ = some (.int .i64 s) from cell_of hbox 2)
      have f3 := cell_all (show W.cell? ⟨w.heap.size, 3, none⟩ = some (.int .i64 n) from cell_of hbox 3)
      have f4 := cell_all (show W.cell? ⟨w.heap.size, 4, none⟩ = some (.int .u64 g) from cell_of hbox 4)
      have f5 := cell_all (show W.cell? ⟨w.heap.size, 5, none⟩ = some (.bool x) from cell_of hbox 5)
      have f6 := cell_all (show W.cell? ⟨w.heap.size, 6, none⟩ = some (.bool y) from cell_of hbox 6)
      refine wpIn_region_G (fun j => !(List.contains (α := Nat) [1, 9, 10] j)) (by kernel_rfl) ?_
      refine batchG hfn (fuel := 12) [0] (by kernel_rfl) rfl ?_
      repeat (go_big_quiet_step ((fail)))
      refine wpQuiet_nil ?_
      refine wpAnyG_one (j := 1) (by kernel_rfl) rfl ?_
      gi_wp2_with fail
      gi_wp2_with fail
      refine onePost_any (by kernel_rfl) ?_
      refine batchG hfn (fuel := 5) [2, 3, 4, 5, 6, 8] (by kernel_rfl) rfl ?_
      repeat (go_big_quiet_step ((fail)))
      refine wpQuiet_nil ?_
      refine wpAnyG_one (j := 7) (by kernel_rfl) rfl ?_
      gi_wp2_with fail
      refine ⟨wide_room _, (callsIn_wide.2 (item20_any _ _ _ _ _ _ _ _)).mono ?_⟩
      rintro e w1 ⟨rfl, h1⟩
      gi_wp2_with fail
      refine onePost_ext (h1) ?_
      refine wpAnyG_one (j := 9) (by kernel_rfl) rfl ?_
      gi_wp2_with fail
      refine ⟨wide_room _, (callsIn_wide.2 (item20_any _ _ _ _ _ _ _ _)).mono ?_⟩
      rintro e w2 ⟨rfl, h2⟩
      gi_wp2_with fail
      refine onePost_any (by kernel_rfl) ?_
      refine wpAnyG_one (j := 10) (by kernel_rfl) rfl ?_
      gi_wp2_with fail
      refine ⟨wide_room _, (callsIn_wide.2 (HA.out _)).mono ?_⟩
      rintro e w3 ⟨rfl, h3⟩
      gi_wp2_with fail
      refine onePost_any (by kernel_rfl) ?_
      refine batchG hfn (fuel := 0) [11, 12] (by kernel_rfl) rfl ?_
      repeat (go_big_quiet_step ((fail)))
      refine wpQuiet_nil ?_
      refine wpAnyG_done (by kernel_rfl) ?_
      refine calmQ_normal ?_
      gi_wp2
      go_ret
      exact Ret.mk ((hE.trans hx).trans (h1.trans (h2.trans h3)))
set_option maxHeartbeats 2000000 in
theorem check20_any (t : BT) : ∀ (T : Tr) (w : World) (p : Value), t.fits T → Beads w p t.enc → t.enc.length ≤ 2000 →
    Calls Tryz.prog 126 #[p] w (Ret (.tuple #[.int .i64 (firstOf tpOne T.pre).1, .int .i64 (firstOf tpOne T.pre).2]) w) := by
  have hund : undef = Value.tuple #[] := rfl
  induction t with
  | nil =>
    intro T w p hf hb hl
    obtain ⟨a, c, rfl⟩ := beads_slice hb
    have e : T = .nil := by cases T with | nil => rfl | node => exact hf.elim
    subst e
    rw [show BT.nil.enc.length = 0 from rfl, show firstOf tpOne Tr.nil.pre = (0, 0) from rfl]
    clear hb hl hf
    go_enter Tryz.func126, Tryz.ntmps126
    go_wp2
    go_ret2
    exact ⟨rfl, Ext.refl _⟩
  | node k v s n g l r ihl ihr =>
    intro T w p hf hb hl
    cases T with
    | nil => exact hf.elim
    | node tb tl tk tv tg tr =>
    obtain ⟨hk, -, hg, hfl, hfr⟩ := hf
    subst hk hg
    have hlen : (BT.node k v s n g l r).enc.length = 1 + l.enc.length + r.enc.length := by simp [BT.enc]; omega
    have HLL := Lib.hid (show l.enc.length ≤ 2000 by omega)
    have HLR := Lib.hid (show r.enc.length ≤ 2000 by omega)
    have hcl : (firstOf tpOne tl.pre).1 ≤ l.enc.length := by rw [← BT.fits_len hfl]; exact firstOf_le _
    have hcr : (firstOf tpOne tr.pre).1 ≤ r.enc.length := by rw [← BT.fits_len hfr]; exact firstOf_le _
    have hA := tp_first tb tl k tv g tr
    rw [overT_fits hfl, overT_fits hfr] at hA
    have hnone : (firstOf tpOne tl.pre).2 = 0 → (firstOf tpOne tl.pre).1 = tl.pre.length := fun h => (firstOf_none h).1
    have HP := Lib.hid (parts_any w p k v s n g l r hb hl)
    obtain ⟨a, c, rfl⟩ := beads_slice hb
    have IHl := Lib.hid (fun W u (hv : Beads W u l.enc) => ihl tl W u hfl hv HLL.out)
    have IHr := Lib.hid (fun W u (hv : Beads W u r.enc) => ihr tr W u hfr hv HLR.out)
    have h1 : 1 ≤ (BT.node k v s n g l r).enc.length := by omega
    obtain ⟨A, eA⟩ : ∃ A, A = firstOf tpOne (Tr.node tb tl k tv g tr).pre := ⟨_, rfl⟩
    rw [← eA] at hA ⊢
    generalize firstOf tpOne tl.pre = L at *
    generalize firstOf tpOne tr.pre = R at *
    obtain ⟨Ln, Le⟩ := L
    obtain ⟨Rn, Re⟩ := R
    simp only at hnone hcl hcr hA
    have hLn : Ln ≤ 2000 := by omega
    have hRn : Rn ≤ 2000 := by omega
    have HNONE := Lib.hid hnone
    clear hnone eA ihl ihr hb hl hcl hcr hlen hfl hfr
    generalize (BT.node k v s n g l r).enc.length = LL at *
    cases x1 : overT l g k with
    | true =>
      rw [x1] at hA
      have HA := Lib.hid (show A = (0, 8) by rw [hA]; rfl)
      have HX1 := Lib.hid x1
      clear hA x1
      go_enter Tryz.func126, Tryz.ntmps126
      go_wp2_with fail
      refine (HP.out).mono ?_
      rintro e w1 ⟨v1, v2, rfl, hv1, hv2, hS⟩
      have hE2 := (Ext.refl w1).alloc (.cells #[.int .i64 k, .int .i64 v, .int .i64 s, .int .i64 n, .int .u64 g, .bool (!l.isNil), .bool (!r.isNil)] 68)
      have hx := hS.trans hE2
      have hbox := alloc_at w1 (.cells #[.int .i64 k, .int .i64 v, .int .i64 s, .int .i64 n, .int .u64 g, .bool (!l.isNil), .bool (!r.isNil)] 68) _ rfl
      replace hv1 := hv1.ext hE2
      replace hv2 := hv2.ext hE2
      have hs1 : w1.heap.size ≤ w1.heap.size := Nat.le_refl _
      clear hS
      go_wp2_with fail
      generalize w1.alloc (.cells #[.int .i64 k, .int .i64 v, .int .i64 s, .int .i64 n, .int .u64 g, .bool (!l.isNil), .bool (!r.isNil)] 68) = w2 at *
      clear hE2
      have HV1 := Lib.hid hv1
      have HV2 := Lib.hid hv2
      clear hv1 hv2
      refine (over20_any w2 v1 l k v s n g _ _ HV1.out HLL.out).mono ?_
      rw [HX1.out]
      rintro e w3 ⟨rfl, h3⟩
      replace hx := hx.trans h3
      clear h3 hbox
      go_wp2
      go_ret2
      exact ⟨ret_two (by rw [HA.out]; rfl) (by rw [HA.out]), hx⟩
    | false =>
      rw [x1, Bool.false_or] at hA
      have HX1 := Lib.hid x1
      have HA := Lib.hid hA
      clear x1 hA
      go_enter Tryz.func126, Tryz.ntmps126
      go_wp2_with fail
      refine (HP.out).mono ?_
      rintro e w1 ⟨v1, v2, rfl, hv1, hv2, hS⟩
      have hE2 := (Ext.refl w1).alloc (.cells #[.int .i64 k, .int .i64 v, .int .i64 s, .int .i64 n, .int .u64 g, .bool (!l.isNil), .bool (!r.isNil)] 68)
      have hx := hS.trans hE2
      have hbox := alloc_at w1 (.cells #[.int .i64 k, .int .i64 v, .int .i64 s, .int .i64 n, .int .u64 g, .bool (!l.isNil), .bool (!r.isNil)] 68) _ rfl
      replace hv1 := hv1.ext hE2
      replace hv2 := hv2.ext hE2
      have hs1 : w1.heap.size ≤ w1.heap.size := Nat.le_refl _
      clear hS
      go_wp2_with fail
      generalize w1.alloc (.cells #[.int .i64 k, .int .i64 v, .int .i64 s, .int .i64 n, .int .u64 g, .bool (!l.isNil), .bool (!r.isNil)] 68) = w2 at *
      clear hE2
      have HV1 := Lib.hid hv1
      have HV2 := Lib.hid hv2
      clear hv1 hv2
      refine (over20_any w2 v1 l k v s n g _ _ HV1.out HLL.out).mono ?_
      rw [HX1.out]
      rintro e w3 ⟨rfl, h3⟩
      have hb3 := h3.get hbox
      have d0 : w3.cell? ⟨w1.heap.size, 0, none⟩ = some (.int .i64 k) := cell_of hb3 0
      have d1 : w3.cell? ⟨w1.heap.size, 1, none⟩ = some (.int .i64 v) := cell_of hb3 1
      have d2 : w3.cell? ⟨w1.heap.size, 2, none⟩ = some (.int .i64 s) := cell_of hb3 2
      have d3 : w3.cell? ⟨w1.heap.size, 3, none⟩ = some (.int .i64 n) := cell_of hb3 3
      have d4 : w3.cell? ⟨w1.heap.size, 4, none⟩ = some (.int .u64 g) := cell_of hb3 4
      have d5 : w3.cell? ⟨w1.heap.size, 5, none⟩ = some (.bool (!l.isNil)) := cell_of hb3 5
      have d6 : w3.cell? ⟨w1.heap.size, 6, none⟩ = some (.bool (!r.isNil)) := cell_of hb3 6
      replace hx := hx.trans h3
      have HV1' := Lib.hid (HV1.out.ext h3)
      have HV2' := Lib.hid (HV2.out.ext h3)
      clear h3 hbox hb3 HV1 HV2
      go_wp2_with fail
      refine (over20_any w3 v2 r k v s n g _ _ HV2'.out HLR.out).mono ?_
      cases x2 : overT r g k with
      | true =>
        have HX2 := Lib.hid x2
        clear x2
        rintro e w4 ⟨rfl, h4⟩
        replace hx := hx.trans h4
        clear h4 d0 d1 d2 d3 d4 d5 d6
        go_wp2
        go_ret2
        exact ⟨ret_two (by rw [HA.out, HX2.out]; rfl) (by rw [HA.out, HX2.out]; rfl), hx⟩
      | false =>
        have HX2 := Lib.hid x2
        clear x2
        rintro e w4 ⟨rfl, h4⟩
        replace hx := hx.trans h4
        clear d0 d1 d2 d3 d4 d5 d6
        go_wp2_with fail
        refine (IHl.out w4 v1 (HV1'.out.ext h4)).mono ?_
        rintro e w5 ⟨rfl, h5⟩
        replace hx := hx.trans h5
        have HV2'' := Lib.hid (HV2'.out.ext (h4.trans h5))
        clear h4 h5 HV1' HV2'
        by_cases c3 : Le = 0
        · subst c3
          go_wp2_with fail
          refine (IHr.out w5 v2 HV2''.out).mono ?_
          rintro e w6 ⟨rfl, h6⟩
          replace hx := hx.trans h6
          clear h6
          go_wp2
          go_ret2
          exact ⟨ret_two (by rw [HA.out, HX2.out]; have h9 := HNONE.out trivial; simp; omega) (by rw [HA.out, HX2.out]; simp), hx⟩
        · have c3' := bne_iff_ne.2 c3
          go_wp2
          go_ret2
          exact ⟨ret_two (by rw [HA.out, HX2.out]; simp [c3]; omega) (by rw [HA.out, HX2.out]; simp [c3]), hx⟩
end Go.Proofs.YtoiohjifjmejkaaGreat
