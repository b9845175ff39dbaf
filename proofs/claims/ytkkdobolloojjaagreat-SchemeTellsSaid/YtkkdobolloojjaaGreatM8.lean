/- joineryref20: Above, item, over, Check, May. Rows of items in memory, and those that a call owns. joineryref20: Items, Same. joineryref17.Most, and the walk of RbjoinShares. joineryref22: Is, Name, Check, May, Part, Rank, Most. joineryref22: Items, Item, Has. joineryref22: Item, Has. The walk of SchemeTells. Arguments that are slices of structs, opened to cells: the theorem of the kit's page 'extra-structs', and a row of beads by it. -/
import Derived.Test.YtkkdobolloojjaaGreatM7
import Derived.BigRegion
import Derived.BigQuiet
import Derived.Deep.Slices
import Derived.Deep.Fields
import Derived.ChangeSame
import Derived.OpenShut
import Derived.ProofKit
namespace Go.Proofs.YtkkdobolloojjaaGreat
open Go Go.RowKit
attribute [local go_sem] Oper.semAt_some

set_option maxHeartbeats 400000 in
theorem item20_any (w : World) (k v s n g : Int) (x y : Bool) : Calls Tryz.prog 50 #[.agg #[.int .i64 k, .int .i64 v, .int .i64 s, .int .i64 n, .int .u64 g, .bool x, .bool y]] w (Ret (itV k v g) w) := by
  go_enter Tryz.func50, Tryz.ntmps50
  go_wp2
  refine bodyPost_ret (v := itV k v g) ?_ rfl (Ret.mk (((Ext.refl w).alloc _).alloc _))
  simp [results, Tryz.results50, go_sem, itV]
set_option maxHeartbeats 1000000 in
theorem above20_any (w : World) (k v g k' v' g' : Int) : Calls Tryz.prog 108 #[itV k v g, itV k' v' g'] w (Ret (.bool (aboveB g k g' k')) w) := by
  unfold itV
  by_cases h1 : g' < g
  · have HX := Lib.hid (show aboveB g k g' k' = true by simp [aboveB, h1])
    obtain ⟨X, hX⟩ : ∃ X, aboveB g k g' k' = X := ⟨_, rfl⟩
    rw [hX] at HX ⊢
    clear hX
    go_enter Tryz.func108, Tryz.ntmps108
    go_wp2
    go_ret
    exact ⟨ret_bool (by rw [HX.out]), ((Ext.refl w).alloc _).alloc _⟩
  · by_cases h2 : g = g'
    · by_cases h3 : k' < k
      · have HX := Lib.hid (show aboveB g k g' k' = true by simp [aboveB, h2, h3])
        obtain ⟨X, hX⟩ : ∃ X, aboveB g k g' k' = X := ⟨_, rfl⟩
        rw [hX] at HX ⊢
        clear hX
        subst h2
        go_enter Tryz.func108, Tryz.ntmps108
        go_wp2
        go_ret
        exact ⟨ret_bool (by rw [HX.out]), ((Ext.refl w).alloc _).alloc _⟩
      · have HX := Lib.hid (show aboveB g k g' k' = false by simp [aboveB, h2]; omega)
        obtain ⟨X, hX⟩ : ∃ X, aboveB g k g' k' = X := ⟨_, rfl⟩
        rw [hX] at HX ⊢
        clear hX
        subst h2
        go_enter Tryz.func108, Tryz.ntmps108
        go_wp2
        go_ret
        exact ⟨ret_bool (by rw [HX.out]), ((Ext.refl w).alloc _).alloc _⟩
    · have HX := Lib.hid (show aboveB g k g' k' = false by simp [aboveB, h2]; omega)
      obtain ⟨X, hX⟩ : ∃ X, aboveB g k g' k' = X := ⟨_, rfl⟩
      rw [hX] at HX ⊢
      clear hX
      go_enter Tryz.func108, Tryz.ntmps108
      go_wp2
      go_ret
      exact ⟨ret_bool (by rw [HX.out]), ((Ext.refl w).alloc _).alloc _⟩
/-- does the root of a tree of beads stand above a tag and key? -/
def overT : BT → Int → Int → Bool
  | .nil, _, _ => false
  | .node k' _ _ _ g' _ _, g, k => aboveB g' k' g k
theorem overT_fits {t : BT} {T : Tr} (h : t.fits T) (b : Nat) (l : Tr) (k v g : Int) (r : Tr) : tAbove T (.node b l k v g r) = overT t g k := by
  cases t with
  | nil => cases T with
    | nil => rfl
    | node => exact h.elim
  | node k' v' s' n' g' l' r' => cases T with
    | nil => exact h.elim
    | node b1 l1 k1 v1 g1 r1 =>
      obtain ⟨h1, h2, h3, -, -⟩ := h
      subst h1 h3
      rfl
set_option maxRecDepth 100000 in
set_option maxHeartbeats 1000000 in
theorem over20_any (w : World) (p : Value) (t : BT) (k v s n g : Int) (x y : Bool) (hb : Beads w p t.enc) (hl : t.enc.length ≤ 2000) :
    Calls Tryz.prog 82 #[p, .agg #[.int .i64 k, .int .i64 v, .int .i64 s, .int .i64 n, .int .u64 g, .bool x, .bool y]] w (Ret (.bool (overT t g k)) w) := by
  have hfn : ∀ f, Fence.wide.fn f := fun _ => trivial
  have hund : undef = Value.tuple #[] := rfl
  cases t with
  | nil =>
    obtain ⟨a, c, rfl⟩ := beads_slice hb
    rw [show BT.nil.enc.length = 0 from rfl, show overT .nil g k = false from rfl]
    clear hb hl
    obtain ⟨m⟩ : Nonempty Nat := ⟨0⟩
    refine (callsIn_wide (n := m)).1 ?_
    refine callsIn_of_wp Tryz.func82 rfl trivial ?_ rfl
    simp only [Tryz.ntmps82, List.size_toArray, List.length_cons, List.length_nil, Nat.reduceAdd, Nat.reduceSub, Array.replicate_succ, Array.replicate_zero, List.push_toArray, List.append_toArray, List.nil_append, List.cons_append]
    gi_wp2_with fail
    have hE := (Ext.refl w).alloc (.cells #[.int .i64 k, .int .i64 v, .int .i64 s, .int .i64 n, .int .u64 g, .bool x, .bool y] 96)
    generalize w.alloc (.cells #[.int .i64 k, .int .i64 v, .int .i64 s, .int .i64 n, .int .u64 g, .bool x, .bool y] 96) = W at *
    have hx := Ext.drew W
    refine wpIn_region_G (fun j => !(List.contains (α := Nat) [1, 9, 10] j)) (by kernel_rfl) ?_
    refine batchG hfn (fuel := 12) [0] (by kernel_rfl) rfl ?_
    repeat (go_big_quiet_step ((fail)))
    refine wpQuiet_nil ?_
    refine wpAnyG_one (j := 1) (by kernel_rfl) rfl ?_
    gi_wp2_with fail
    gi_wp2_with fail
    refine onePost_any (by kernel_rfl) ?_
    refine batchG hfn (fuel := 5) [2, 3, 4, 5, 6, 8] (by kernel_rfl) rfl ?_
    repeat (go_big_quiet_step ((fail)))
    refine wpQuiet_nil ?_
    refine wpAnyG_skip hfn (j := 7) (by kernel_rfl) rfl rfl ?_
    simp only [Act.put, List.setIfInBounds_toArray, List.set_cons_zero, List.set_cons_succ]
    refine wpAnyG_skip hfn (j := 9) (by kernel_rfl) rfl rfl ?_
    simp only [Act.put, List.setIfInBounds_toArray, List.set_cons_zero, List.set_cons_succ]
    refine wpAnyG_skip hfn (j := 10) (by kernel_rfl) rfl rfl ?_
    simp only [Act.put, List.setIfInBounds_toArray, List.set_cons_zero, List.set_cons_succ]
    refine batchG hfn (fuel := 0) [11, 12] (by kernel_rfl) rfl ?_
    repeat (go_big_quiet_step ((fail)))
    refine wpQuiet_nil ?_
    refine wpAnyG_done (by kernel_rfl) ?_
    refine calmQ_normal ?_
    gi_wp2
    go_ret
    exact Ret.mk (hE.trans hx)
  | node k' v' s' n' g' l r =>
    rcases hb with ⟨h, -⟩ | ⟨b, o, c, rfl, hne, hc, hr⟩
    · simp [BT.enc] at h
    · have hc0 : w.cell? ⟨b, o, none⟩ = some (.int .i64 k') := by simpa using rangeAt_cell hr (i := 0) rfl (j := 0) rfl
      have hc1 : w.cell? ⟨b, o + 1, none⟩ = some (.int .i64 v') := by simpa using rangeAt_cell hr (i := 0) rfl (j := 1) rfl
      have hc2 : w.cell? ⟨b, o + 2, none⟩ = some (.int .i64 s') := by simpa using rangeAt_cell hr (i := 0) rfl (j := 2) rfl
      have hc3 : w.cell? ⟨b, o + 3, none⟩ = some (.int .i64 n') := by simpa using rangeAt_cell hr (i := 0) rfl (j := 3) rfl
      have hc4 : w.cell? ⟨b, o + 4, none⟩ = some (.int .u64 g') := by simpa using rangeAt_cell hr (i := 0) rfl (j := 4) rfl
      have hc5 : w.cell? ⟨b, o + 5, none⟩ = some (.bool (!l.isNil)) := by simpa using rangeAt_cell hr (i := 0) rfl (j := 5) rfl
      have hc6 : w.cell? ⟨b, o + 6, none⟩ = some (.bool (!r.isNil)) := by simpa using rangeAt_cell hr (i := 0) rfl (j := 6) rfl
      have hlen : 1 ≤ (BT.node k' v' s' n' g' l r).enc.length := by simp [BT.enc]
      rw [show overT (.node k' v' s' n' g' l r) g k = aboveB g' k' g k from rfl]
      have hlt := cell_lt hc0
      have HC := Lib.hid (And.intro hc0 (And.intro hc1 (And.intro hc2 (And.intro hc3 (And.intro hc4 (And.intro hc5 hc6))))))
      have HA := Lib.hid (fun W => above20_any W k' v' g' k v g)
      clear hr hne hc0 hc1 hc2 hc3 hc4 hc5 hc6
      generalize (BT.node k' v' s' n' g' l r).enc.length = LL at *
      generalize (!l.isNil) = x' at *
      generalize (!r.isNil) = y' at *
      obtain ⟨m⟩ : Nonempty Nat := ⟨0⟩
      refine (callsIn_wide (n := m)).1 ?_
      refine callsIn_of_wp Tryz.func82 rfl trivial ?_ rfl
      simp only [Tryz.ntmps82, List.size_toArray, List.length_cons, List.length_nil, Nat.reduceAdd, Nat.reduceSub, Array.replicate_succ, Array.replicate_zero, List.push_toArray, List.append_toArray, List.nil_append, List.cons_append]
      gi_wp2_with fail
      have hE := (Ext.refl w).alloc (.cells #[.int .i64 k, .int .i64 v, .int .i64 s, .int .i64 n, .int .u64 g, .bool x, .bool y] 96)
      have hbox := alloc_at w (.cells #[.int .i64 k, .int .i64 v, .int .i64 s, .int .i64 n, .int .u64 g, .bool x, .bool y] 96) _ rfl
      generalize w.alloc (.cells #[.int .i64 k, .int .i64 v, .int .i64 s, .int .i64 n, .int .u64 g, .bool x, .bool y] 96) = W at *
      have hx := Ext.drew W
      have hd : decide (0 < LL) = true := by simp; omega
      have e0 := cell_all ((hE.cell hlt).trans HC.out.1)
      have e1 := cell_all ((hE.cell hlt).trans HC.out.2.1)
      have e2 := cell_all ((hE.cell hlt).trans HC.out.2.2.1)
      have e3 := cell_all ((hE.cell hlt).trans HC.out.2.2.2.1)
      have e4 := cell_all ((hE.cell hlt).trans HC.out.2.2.2.2.1)
      have e5 := cell_all ((hE.cell hlt).trans HC.out.2.2.2.2.2.1)
      have e6 := cell_all ((hE.cell hlt).trans HC.out.2.2.2.2.2.2)
      have f0 := cell_all (show W.cell? ⟨w.heap.size, 0, none⟩ = some (.int .i64 k) from cell_of hbox 0)
      have f1 := cell_all (show W.cell? ⟨w.heap.size, 1, none⟩ = some (.int .i64 v) from cell_of hbox 1)
      have f2 := cell_all (show W.cell? ⟨w.heap.size, 2, none⟩ = some (.int .i64 s) from cell_of hbox 2)
      have f3 := cell_all (show W.cell? ⟨w.heap.size, 3, none⟩ = some (.int .i64 n) from cell_of hbox 3)
      have f4 := cell_all (show W.cell? ⟨w.heap.size, 4, none⟩ = some (.int .u64 g) from cell_of hbox 4)
      have f5 := cell_all (show W.cell? ⟨w.heap.size, 5, none⟩ = some (.bool x) from cell_of hbox 5)
      have f6 := cell_all (show W.cell? ⟨w.heap.size, 6, none⟩ = some (.bool y) from cell_of hbox 6)
      refine wpIn_region_G (fun j => !(List.contains (α := Nat) [1, 9, 10] j)) (by kernel_rfl) ?_
      refine batchG hfn (fuel := 12) [0] (by kernel_rfl) rfl ?_
      repeat (go_big_quiet_step ((fail)))
      refine wpQuiet_nil ?_
      refine wpAnyG_one (j := 1) (by kernel_rfl) rfl ?_
      gi_wp2_with fail
      gi_wp2_with fail
      refine onePost_any (by kernel_rfl) ?_
      refine batchG hfn (fuel := 5) [2, 3, 4, 5, 6, 8] (by kernel_rfl) rfl ?_
      repeat (go_big_quiet_step ((fail)))
      refine wpQuiet_nil ?_
      refine wpAnyG_one (j := 7) (by kernel_rfl) rfl ?_
      gi_wp2_with fail
      refine ⟨wide_room _, (callsIn_wide.2 (item20_any _ _ _ _ _ _ _ _)).mono ?_⟩
      rintro e w1 ⟨rfl, h1⟩
      gi_wp2_with fail
      refine onePost_ext (h1) ?_
      refine wpAnyG_one (j := 9) (by kernel_rfl) rfl ?_
      gi_wp2_with fail
      refine ⟨wide_room _, (callsIn_wide.2 (item20_any _ _ _ _ _ _ _ _)).mono ?_⟩
      rintro e w2 ⟨rfl, h2⟩
      gi_wp2_with fail
      refine onePost_any (by kernel_rfl) ?_
      refine wpAnyG_one (j := 10) (by kernel_rfl) rfl ?_
      gi_wp2_with fail
      refine ⟨wide_room _, (callsIn_wide.2 (HA.out _)).mono ?_⟩
      rintro e w3 ⟨rfl, h3⟩
      gi_wp2_with fail
      refine onePost_any (by kernel_rfl) ?_
      refine batchG hfn (fuel := 0) [11, 12] (by kernel_rfl) rfl ?_
      repeat (go_big_quiet_step ((fail)))
      refine wpQuiet_nil ?_
      refine wpAnyG_done (by kernel_rfl) ?_
      refine calmQ_normal ?_
      gi_wp2
      go_ret
      exact Ret.mk ((hE.trans hx).trans (h1.trans (h2.trans h3)))
set_option maxHeartbeats 2000000 in
theorem check20_any (t : BT) : ∀ (T : Tr) (w : World) (p : Value), t.fits T → Beads w p t.enc → t.enc.length ≤ 2000 →
    Calls Tryz.prog 59 #[p] w (Ret (.tuple #[.int .i64 (firstOf tpOne T.pre).1, .int .i64 (firstOf tpOne T.pre).2]) w) := by
  have hund : undef = Value.tuple #[] := rfl
  induction t with
  | nil =>
    intro T w p hf hb hl
    obtain ⟨a, c, rfl⟩ := beads_slice hb
    have e : T = .nil := by cases T with | nil => rfl | node => exact hf.elim
    subst e
    rw [show BT.nil.enc.length = 0 from rfl, show firstOf tpOne Tr.nil.pre = (0, 0) from rfl]
    clear hb hl hf
    go_enter Tryz.func59, Tryz.ntmps59
    go_wp2
    go_ret2
    exact ⟨rfl, Ext.refl _⟩
  | node k v s n g l r ihl ihr =>
    intro T w p hf hb hl
    cases T with
    | nil => exact hf.elim
    | node tb tl tk tv tg tr =>
    obtain ⟨hk, -, hg, hfl, hfr⟩ := hf
    subst hk hg
    have hlen : (BT.node k v s n g l r).enc.length = 1 + l.enc.length + r.enc.length := by simp [BT.enc]; omega
    have HLL := Lib.hid (show l.enc.length ≤ 2000 by omega)
    have HLR := Lib.hid (show r.enc.length ≤ 2000 by omega)
    have hcl : (firstOf tpOne tl.pre).1 ≤ l.enc.length := by rw [← BT.fits_len hfl]; exact firstOf_le _
    have hcr : (firstOf tpOne tr.pre).1 ≤ r.enc.length := by rw [← BT.fits_len hfr]; exact firstOf_le _
    have hA := tp_first tb tl k tv g tr
    rw [overT_fits hfl, overT_fits hfr] at hA
    have hnone : (firstOf tpOne tl.pre).2 = 0 → (firstOf tpOne tl.pre).1 = tl.pre.length := fun h => (firstOf_none h).1
    have HP := Lib.hid (parts_any w p k v s n g l r hb hl)
    obtain ⟨a, c, rfl⟩ := beads_slice hb
    have IHl := Lib.hid (fun W u (hv : Beads W u l.enc) => ihl tl W u hfl hv HLL.out)
    have IHr := Lib.hid (fun W u (hv : Beads W u r.enc) => ihr tr W u hfr hv HLR.out)
    have h1 : 1 ≤ (BT.node k v s n g l r).enc.length := by omega
    obtain ⟨A, eA⟩ : ∃ A, A = firstOf tpOne (Tr.node tb tl k tv g tr).pre := ⟨_, rfl⟩
    rw [← eA] at hA ⊢
    generalize firstOf tpOne tl.pre = L at *
    generalize firstOf tpOne tr.pre = R at *
    obtain ⟨Ln, Le⟩ := L
    obtain ⟨Rn, Re⟩ := R
    simp only at hnone hcl hcr hA
    have hLn : Ln ≤ 2000 := by omega
    have hRn : Rn ≤ 2000 := by omega
    have HNONE := Lib.hid hnone
    clear hnone eA ihl ihr hb hl hcl hcr hlen hfl hfr
    generalize (BT.node k v s n g l r).enc.length = LL at *
    cases x1 : overT l g k with
    | true =>
      rw [x1] at hA
      have HA := Lib.hid (show A = (0, 8) by rw [hA]; rfl)
      have HX1 := Lib.hid x1
      clear hA x1
      go_enter Tryz.func59, Tryz.ntmps59
      go_wp2_with fail
      refine (HP.out).mono ?_
      rintro e w1 ⟨v1, v2, rfl, hv1, hv2, hS⟩
      have hE2 := (Ext.refl w1).alloc (.cells #[.int .i64 k, .int .i64 v, .int .i64 s, .int .i64 n, .int .u64 g, .bool (!l.isNil), .bool (!r.isNil)] 96)
      have hx := hS.trans hE2
      have hbox := alloc_at w1 (.cells #[.int .i64 k, .int .i64 v, .int .i64 s, .int .i64 n, .int .u64 g, .bool (!l.isNil), .bool (!r.isNil)] 96) _ rfl
      replace hv1 := hv1.ext hE2
      replace hv2 := hv2.ext hE2
      have hs1 : w1.heap.size ≤ w1.heap.size := Nat.le_refl _
      clear hS
      go_wp2_with fail
      generalize w1.alloc (.cells #[.int .i64 k, .int .i64 v, .int .i64 s, .int .i64 n, .int .u64 g, .bool (!l.isNil), .bool (!r.isNil)] 96) = w2 at *
      clear hE2
      have HV1 := Lib.hid hv1
      have HV2 := Lib.hid hv2
      clear hv1 hv2
      refine (over20_any w2 v1 l k v s n g _ _ HV1.out HLL.out).mono ?_
      rw [HX1.out]
      rintro e w3 ⟨rfl, h3⟩
      replace hx := hx.trans h3
      clear h3 hbox
      go_wp2
      go_ret2
      exact ⟨ret_two (by rw [HA.out]; rfl) (by rw [HA.out]), hx⟩
    | false =>
      rw [x1, Bool.false_or] at hA
      have HX1 := Lib.hid x1
      have HA := Lib.hid hA
      clear x1 hA
      go_enter Tryz.func59, Tryz.ntmps59
      go_wp2_with fail
      refine (HP.out).mono ?_
      rintro e w1 ⟨v1, v2, rfl, hv1, hv2, hS⟩
      have hE2 := (Ext.refl w1).alloc (.cells #[.int .i64 k, .int .i64 v, .int .i64 s, .int .i64 n, .int .u64 g, .bool (!l.isNil), .bool (!r.isNil)] 96)
      have hx := hS.trans hE2
      have hbox := alloc_at w1 (.cells #[.int .i64 k, .int .i64 v, .int .i64 s, .int .i64 n, .int .u64 g, .bool (!l.isNil), .bool (!r.isNil)] 96) _ rfl
      replace hv1 := hv1.ext hE2
      replace hv2 := hv2.ext hE2
      have hs1 : w1.heap.size ≤ w1.heap.size := Nat.le_refl _
      clear hS
      go_wp2_with fail
      generalize w1.alloc (.cells #[.int .i64 k, .int .i64 v, .int .i64 s, .int .i64 n, .int .u64 g, .bool (!l.isNil), .bool (!r.isNil)] 96) = w2 at *
      clear hE2
      have HV1 := Lib.hid hv1
      have HV2 := Lib.hid hv2
      clear hv1 hv2
      refine (over20_any w2 v1 l k v s n g _ _ HV1.out HLL.out).mono ?_
      rw [HX1.out]
      rintro e w3 ⟨rfl, h3⟩
      have hb3 := h3.get hbox
      have d0 : w3.cell? ⟨w1.heap.size, 0, none⟩ = some (.int .i64 k) := cell_of hb3 0
      have d1 : w3.cell? ⟨w1.heap.size, 1, none⟩ = some (.int .i64 v) := cell_of hb3 1
      have d2 : w3.cell? ⟨w1.heap.size, 2, none⟩ = some (.int .i64 s) := cell_of hb3 2
      have d3 : w3.cell? ⟨w1.heap.size, 3, none⟩ = some (.int .i64 n) := cell_of hb3 3
      have d4 : w3.cell? ⟨w1.heap.size, 4, none⟩ = some (.int .u64 g) := cell_of hb3 4
      have d5 : w3.cell? ⟨w1.heap.size, 5, none⟩ = some (.bool (!l.isNil)) := cell_of hb3 5
      have d6 : w3.cell? ⟨w1.heap.size, 6, none⟩ = some (.bool (!r.isNil)) := cell_of hb3 6
      replace hx := hx.trans h3
      have HV1' := Lib.hid (HV1.out.ext h3)
      have HV2' := Lib.hid (HV2.out.ext h3)
      clear h3 hbox hb3 HV1 HV2
      go_wp2_with fail
      refine (over20_any w3 v2 r k v s n g _ _ HV2'.out HLR.out).mono ?_
      cases x2 : overT r g k with
      | true =>
        have HX2 := Lib.hid x2
        clear x2
        rintro e w4 ⟨rfl, h4⟩
        replace hx := hx.trans h4
        clear h4 d0 d1 d2 d3 d4 d5 d6
        go_wp2
        go_ret2
        exact ⟨ret_two (by rw [HA.out, HX2.out]; rfl) (by rw [HA.out, HX2.out]; rfl), hx⟩
      | false =>
        have HX2 := Lib.hid x2
        clear x2
        rintro e w4 ⟨rfl, h4⟩
        replace hx := hx.trans h4
        clear d0 d1 d2 d3 d4 d5 d6
        go_wp2_with fail
        refine (IHl.out w4 v1 (HV1'.out.ext h4)).mono ?_
        rintro e w5 ⟨rfl, h5⟩
        replace hx := hx.trans h5
        have HV2'' := Lib.hid (HV2'.out.ext (h4.trans h5))
        clear h4 h5 HV1' HV2'
        by_cases c3 : Le = 0
        · subst c3
          go_wp2_with fail
          refine (IHr.out w5 v2 HV2''.out).mono ?_
          rintro e w6 ⟨rfl, h6⟩
          replace hx := hx.trans h6
          clear h6
          go_wp2
          go_ret2
          exact ⟨ret_two (by rw [HA.out, HX2.out]; have h9 := HNONE.out trivial; simp; omega) (by rw [HA.out, HX2.out]; simp), hx⟩
        · have c3' := bne_iff_ne.2 c3
          go_wp2
          go_ret2
          exact ⟨ret_two (by rw [HA.out, HX2.out]; simp [c3]; omega) (by rw [HA.out, HX2.out]; simp [c3]), hx⟩
end Go.Proofs.YtkkdobolloojjaaGreat
namespace Go.Proofs.YtkkdobolloojjaaGreat
open Go Go.RowKit

/-- a item's two cells. -/
def icells (z : Int × Int × Int) : List Value := [.int .i64 z.1, .int .i64 z.2.1, .int .u64 z.2.2]
def itemCells (zs : List (Int × Int × Int)) : List Value := zs.flatMap icells
theorem itemCells_len : ∀ zs : List (Int × Int × Int), (itemCells zs).length = zs.length * 3
  | [] => rfl
  | z :: zs => by
    have := itemCells_len zs
    rw [itemCells] at this ⊢
    rw [List.flatMap_cons, List.length_append, this, List.length_cons]
    show 3 + _ = _
    omega
theorem itemCells_at : ∀ (zs : List (Int × Int × Int)) (i : Nat) (z : Int × Int × Int) (j : Nat), zs[i]? = some z → j < 3 → (itemCells zs)[i * 3 + j]? = (icells z)[j]?
  | [], i, z, j, h, _ => by simp at h
  | y :: zs, 0, z, j, h, hj => by
    obtain rfl : y = z := by simpa using h
    rw [itemCells, List.flatMap_cons, List.getElem?_append_left (show 0 * 3 + j < 3 by omega), Nat.zero_mul, Nat.zero_add]
  | y :: zs, i + 1, z, j, h, hj => by
    have ih := itemCells_at zs i z j (by simpa using h) hj
    rw [itemCells] at ih ⊢
    rw [List.flatMap_cons, List.getElem?_append_right (show 3 ≤ (i + 1) * 3 + j by omega), show (i + 1) * 3 + j - (icells y).length = i * 3 + j from by show _ - 3 = _; omega, ih]
theorem itemCells_append (a b : List (Int × Int × Int)) : itemCells (a ++ b) = itemCells a ++ itemCells b := by simp [itemCells]
theorem itemCells_one (zs : List (Int × Int × Int)) : ∀ u ∈ itemCells zs, u.oneCell' = true := by
  intro u h
  obtain ⟨z, _, hz⟩ := List.mem_flatMap.1 h
  simp only [icells, List.mem_cons, List.not_mem_nil, or_false] at hz
  rcases hz with rfl | rfl | rfl <;> rfl
/-- a row of items: empty, whatever its address; or laid at an address. -/
def IRow3 (w : World) (v : Value) (zs : List (Int × Int × Int)) : Prop :=
  (zs = [] ∧ ∃ a c, v = .slice a 0 c) ∨ ∃ b o c, v = .slice (some ⟨b, o, none⟩) zs.length c ∧ zs ≠ [] ∧ zs.length ≤ c ∧ w.rangeAt b o (itemCells zs)
theorem item_cell {w : World} {b o : Nat} {zs : List (Int × Int × Int)} (h : w.rangeAt b o (itemCells zs)) {i : Nat} {z : Int × Int × Int} (hi : zs[i]? = some z) {j : Nat} {u : Value} (hj : (icells z)[j]? = some u) : w.cell? ⟨b, o + i * 3 + j, none⟩ = some u := by
  have hlt : j < 3 := (List.getElem?_eq_some_iff.1 hj).1
  rw [Nat.add_assoc]
  exact h (i * 3 + j) u (by rw [itemCells_at zs i z j hi hlt, hj])
theorem IRow3.ext {w w' : World} {v : Value} {zs : List (Int × Int × Int)} (h : IRow3 w v zs) (e : Ext w w') : IRow3 w' v zs := by
  rcases h with h | ⟨b, o, c, rfl, h1, h2, h3⟩
  · exact .inl h
  · exact .inr ⟨b, o, c, rfl, h1, h2, rangeAt_ext h3 e⟩
theorem irow3_slice {w : World} {v : Value} {zs : List (Int × Int × Int)} (h : IRow3 w v zs) : ∃ a c, v = .slice a zs.length c := by
  rcases h with ⟨rfl, a, c, rfl⟩ | ⟨b, o, c, rfl, hne, hc, hr⟩
  · exact ⟨a, c, rfl⟩
  · exact ⟨_, c, rfl⟩
/-- a row that was made since the heap had B blocks. -/
def IOwn3 (B : Nat) (w : World) (v : Value) (zs : List (Int × Int × Int)) : Prop := w.ownsRow B 51 3 v zs.length (itemCells zs)
theorem IOwn3.row {B : Nat} {w : World} {v : Value} {zs : List (Int × Int × Int)} (h : IOwn3 B w v zs) : IRow3 w v zs := by
  obtain ⟨h1, ⟨rfl, h0⟩ | ⟨g, cap, cur, rfl, hb, hg, hc, hm, hs, ht⟩⟩ := h
  · exact .inl ⟨List.eq_nil_of_length_eq_zero h0, _, 0, rfl⟩
  · by_cases h0 : zs = []
    · subst h0; exact .inl ⟨rfl, _, _, rfl⟩
    · refine .inr ⟨g, 0, cap, rfl, h0, hc, fun j u hj => ?_⟩
      rw [Nat.zero_add, cell_of hg j]
      rw [← ht, List.getElem?_take] at hj
      split at hj
      · simpa using hj
      · cases hj
theorem IOwn3.nil (B : Nat) (w : World) : IOwn3 B w (.slice none 0 0) [] := ⟨rfl, .inl ⟨rfl, rfl⟩⟩
theorem IOwn3.ext {B : Nat} {w w' : World} {v : Value} {zs : List (Int × Int × Int)} (h : IOwn3 B w v zs) (e : Ext w w') : IOwn3 B w' v zs := by
  obtain ⟨h1, h | ⟨g, cap, cur, hv, hb, hg, hc⟩⟩ := h
  · exact ⟨h1, .inl h⟩
  · exact ⟨h1, .inr ⟨g, cap, cur, hv, hb, (e.block g (lt_of hg)).trans hg, hc⟩⟩
theorem IOwn3.mono {B B' : Nat} {w : World} {v : Value} {zs : List (Int × Int × Int)} (h : IOwn3 B w v zs) (e : B' ≤ B) : IOwn3 B' w v zs := by
  obtain ⟨h1, h | ⟨g, cap, cur, hv, hb, hg, hc⟩⟩ := h
  · exact ⟨h1, .inl h⟩
  · exact ⟨h1, .inr ⟨g, cap, cur, hv, Nat.le_trans e hb, hg, hc⟩⟩
theorem item_info : ∃ i : TypeInfo, Tryz.prog.info? 51 = some i ∧ i.zero = some (.agg #[.int .i64 0, .int .i64 0, .int .u64 0]) ∧ i.size = 3 ∧ i.bytes = 24 := by
  have h : (Tryz.prog.info? 51).map (fun i => (i.zero, i.size, i.bytes)) = some (some (.agg #[.int .i64 0, .int .i64 0, .int .u64 0]), 3, 24) := by kernel_rfl
  cases hi : Tryz.prog.info? 51 with
  | none => rw [hi] at h; cases h
  | some i =>
    rw [hi] at h
    simp only [Option.map_some, Option.some.injEq, Prod.mk.injEq] at h
    exact ⟨i, rfl, h.1, h.2.1, h.2.2⟩
/-- append, onto a row of one's own. -/
theorem append_iown3 {B : Nat} {w : World} {v u : Value} {zs ys : List (Int × Int × Int)} (ty : TypeId) (hv : IOwn3 B w v zs) (hu : IRow3 w u ys) (hlen : zs.length + ys.length ≤ 10000) (hB : B ≤ w.heap.size) :
    ∃ v' w', (Builtin.append_ #[22, 22] ty #[v, u]).run Tryz.prog w = .ok v' w' ∧ IOwn3 B w' v' (zs ++ ys) ∧ w.grownBy w' v.ownBlock := by
  obtain ⟨i, hi, hz, hs, hb⟩ := item_info
  have hml : (10000 : Nat) ≤ maxLen := by decide
  by_cases h0 : ys = []
  · subst h0
    have hu' : ∃ a c, u = .slice a 0 c := by
      obtain ⟨a, c, rfl⟩ := irow3_slice hu
      exact ⟨a, c, rfl⟩
    obtain ⟨a, c, rfl⟩ := hu'
    have hsrc : Src Tryz.prog i.size 22 (.slice a 0 c) 0 [] w := by
      cases a with
      | none => exact Src.ofNil w Tryz.underlying22 c
      | some a => exact Src.ofSlice w Tryz.underlying22 a 0 c [] (by simp) (by simp) (by simp)
    have hv' : ∃ p l c', v = .slice p l c' ∧ l ≤ c' := by
      rcases hv with ⟨_, ⟨rfl, h0⟩ | ⟨g, cap, cur, rfl, _, _, hc, _⟩⟩
      · exact ⟨_, _, _, rfl, Nat.le_refl _⟩
      · exact ⟨_, _, _, rfl, hc⟩
    obtain ⟨p, l, c', rfl, hlc⟩ := hv'
    refine ⟨_, w, run_append_nothing w _ _ ty _ i Tryz.underlying22 hi p l c' hlc _ hsrc, by simpa using hv, ⟨rfl, rfl, rfl, Nat.le_refl _, fun _ _ _ => rfl⟩⟩
  · rcases hu with ⟨h, _⟩ | ⟨b, o, c, rfl, _, hc, hr⟩
    · exact (h0 h).elim
    · obtain ⟨v', w', hrun, hown, hg, _, _⟩ := run_append_own_at (P := Tryz.prog) w B _ ty _ i _ 3 24 Tryz.underlying22 hi hz hs hb rfl (by omega) v zs.length (itemCells zs) hv ⟨b, o, none⟩ ys.length c (itemCells ys) (itemCells_len ys)
        (fun j u hj => by rw [Addr.add_mid]; exact hr j u hj) (itemCells_one ys) (by omega) (by omega) hB
      refine ⟨v', w', hrun, ?_, hg⟩
      show w'.ownsRow _ _ _ _ _ _
      rw [List.length_append, itemCells_append]
      exact hown
/-- what append leaves alone. -/
theorem igrown3_ext {w0 w w' : World} {v : Value} {zs : List (Int × Int × Int)} (hw : Ext w0 w) (hv : IOwn3 w0.heap.size w v zs) (hg : w.grownBy w' v.ownBlock) : Ext w0 w' := by
  refine RowKit.Below.grown hw hg hw.size ?_
  intro k hk
  rcases hv with ⟨_, ⟨rfl, h0⟩ | ⟨g, cap, cur, rfl, hb, _⟩⟩
  · cases hk
  · simp only [Value.ownBlock, Option.some.injEq] at hk
    omega
/-- a new row of one item. -/
theorem iown3_new {B : Nat} {w : World} (z : Int × Int × Int) (h : B ≤ w.heap.size) : IOwn3 B (w.alloc (.cells #[.int .i64 z.1, .int .i64 z.2.1, .int .u64 z.2.2] 51)) (.slice (some ⟨w.heap.size, 0, none⟩) 1 1) [z] :=
  ⟨rfl, .inr ⟨w.heap.size, 1, _, rfl, h, alloc_at _ _ _ rfl, Nat.le_refl _, by decide, rfl, rfl⟩⟩
section
variable {F : Fence} {n : Nat} {ops : Array Oper} {rest : List Oper} {o : Oper} {a : Act} {Q : Exit → Act → World → Prop}
theorem wpList_append_items (hgd : o.guard = none) (s x : Operand) (ho : o.op = .call { callee := .builtin .append, args := #[s, x], argTypes := #[22, 22] })
    {B : Nat} {w : World} {v u : Value} {zs ys : List (Int × Int × Int)} (hs : a.eval s = v) (hx : a.eval x = u) (hv : IOwn3 B w v zs) (hu : IRow3 w u ys) (hlen : zs.length + ys.length ≤ 10000) (hB : B ≤ w.heap.size)
    (h : ∀ v' w', IOwn3 B w' v' (zs ++ ys) → w.grownBy w' v.ownBlock → wpList Tryz.prog ops Q rest (a.put o.dst v') w') : wpList Tryz.prog ops Q (o :: rest) a w := by
  refine wpList_plain hgd fun K hK => ?_
  obtain ⟨v', w', hr, h2, h3⟩ := append_iown3 o.type hv hu hlen hB
  unfold Oper.wp execOp
  simp only [ho, resolve, invoke, builtin, Sem.run_bind, Sem.run_pure, Result.andThen_ok, List.map_toArray, List.map_cons, List.map_nil, hs, hx, hr]
  exact hK _ _ (h v' w' h2 h3)
theorem wpListIn_append_items (hgd : o.guard = none) (s x : Operand) (ho : o.op = .call { callee := .builtin .append, args := #[s, x], argTypes := #[22, 22] })
    {B : Nat} {w : World} {v u : Value} {zs ys : List (Int × Int × Int)} (hs : a.eval s = v) (hx : a.eval x = u) (hv : IOwn3 B w v zs) (hu : IRow3 w u ys) (hlen : zs.length + ys.length ≤ 10000) (hB : B ≤ w.heap.size)
    (hfn : ∀ f, F.fn f)
    (h : ∀ v' w', IOwn3 B w' v' (zs ++ ys) → w.grownBy w' v.ownBlock → wpListIn F n Tryz.prog ops Q rest (a.put o.dst v') w') : wpListIn F n Tryz.prog ops Q (o :: rest) a w := by
  refine wpListIn_plain hgd fun K hK => ?_
  obtain ⟨v', w', hr, h2, h3⟩ := append_iown3 o.type hv hu hlen hB
  unfold Oper.wpIn
  refine ⟨fun f _ => hfn f, ?_⟩
  rw [Oper.semAt_eq _ _ _ (fun c => by rw [ho]; simp)]
  unfold execOp
  simp only [ho, resolve, invoke, builtin, Sem.run_bind, Sem.run_pure, Result.andThen_ok, List.map_toArray, List.map_cons, List.map_nil, hs, hx, hr]
  exact hK _ _ (h v' w' h2 h3)
end
/-- a row of items that is the call's own. -/
def GivesI3 (zs : List (Int × Int × Int)) (w : World) (e : Ending) (w' : World) : Prop := ∃ v, e = .returned v ∧ IOwn3 w.heap.size w' v zs ∧ Ext w w'
end Go.Proofs.YtkkdobolloojjaaGreat
namespace Go.Proofs.YtkkdobolloojjaaGreat
open Go Go.RowKit
attribute [local go_sem] Oper.semAt_some

/-- a tree of beads' items, from left to right. -/
def BT.its : BT → List (Int × Int × Int)
  | .nil => []
  | .node k v _ _ g l r => l.its ++ (k, v, g) :: r.its
theorem BT.its_len : ∀ t : BT, t.its.length = t.enc.length
  | .nil => rfl
  | .node k v s n g l r => by simp [BT.its, BT.enc, BT.its_len l, BT.its_len r]; omega
theorem BT.fits_its : ∀ {t : BT} {T : Tr}, t.fits T → T.its = t.its
  | .nil, .nil, _ => rfl
  | .nil, .node .., h => h.elim
  | .node .., .nil, h => h.elim
  | .node .., .node .., h => by rw [Tr.its, BT.its, BT.fits_its h.2.2.2.1, BT.fits_its h.2.2.2.2, h.1, h.2.1, h.2.2.1]
set_option maxHeartbeats 2000000 in
theorem items20_any (t : BT) : ∀ (w : World) (p : Value), Beads w p t.enc → t.enc.length ≤ 2000 →
    Calls Tryz.prog 15 #[p] w (GivesI3 t.its w) := by
  have hfn : ∀ f, Fence.wide.fn f := fun _ => trivial
  induction t with
  | nil =>
    intro w p hb hl
    obtain ⟨a, c, rfl⟩ := beads_slice hb
    rw [show BT.nil.enc.length = 0 from rfl]
    clear hb hl
    go_enter Tryz.func15, Tryz.ntmps15
    go_wp2
    go_ret
    exact ⟨_, rfl, IOwn3.nil _ _, Ext.refl _⟩
  | node k v s n g l r ihl ihr =>
    intro w p hb hl
    have hp := parts_any w p k v s n g l r hb hl
    have hlen : (BT.node k v s n g l r).enc.length = 1 + l.enc.length + r.enc.length := by simp [BT.enc]; omega
    have IHl := Lib.hid ihl
    have IHr := Lib.hid ihr
    have HLL := Lib.hid (show l.enc.length ≤ 2000 by omega)
    have HLR := Lib.hid (show r.enc.length ≤ 2000 by omega)
    have h1 : 1 ≤ (BT.node k v s n g l r).enc.length := by omega
    have HOF := Lib.hid (show (BT.node k v s n g l r).its = l.its ++ (k, v, g) :: r.its from rfl)
    obtain ⟨a, c, rfl⟩ := beads_slice hb
    have HP := Lib.hid hp
    clear hb hp hlen ihl ihr hl
    obtain ⟨OF, hOF⟩ : ∃ OF, OF = (BT.node k v s n g l r).its := ⟨_, rfl⟩
    rw [← hOF] at HOF ⊢
    clear hOF
    generalize (BT.node k v s n g l r).enc.length = LL at *
    obtain ⟨m⟩ : Nonempty Nat := ⟨0⟩
    refine (callsIn_wide (n := m)).1 ?_
    refine callsIn_of_wp Tryz.func15 rfl trivial ?_ rfl
    simp only [Tryz.ntmps15, List.size_toArray, List.length_cons, List.length_nil, Nat.reduceAdd, Nat.reduceSub, Array.replicate_succ, Array.replicate_zero, List.push_toArray, List.append_toArray, List.nil_append, List.cons_append]
    gi_wp2_with fail
    refine ⟨wide_room _, (callsIn_wide.2 (HP.out)).mono ?_⟩
    rintro e w1 ⟨v1, v2, rfl, hv1, hv2, hE⟩
    gi_wp2_with fail
    have hnew := alloc_at w1 (.cells #[.int .i64 k, .int .i64 v, .int .i64 s, .int .i64 n, .int .u64 g, .bool (!l.isNil), .bool (!r.isNil)] 96) _ rfl
    have hE2 := (Ext.refl w1).alloc (.cells #[.int .i64 k, .int .i64 v, .int .i64 s, .int .i64 n, .int .u64 g, .bool (!l.isNil), .bool (!r.isNil)] 96)
    generalize w1.alloc (.cells #[.int .i64 k, .int .i64 v, .int .i64 s, .int .i64 n, .int .u64 g, .bool (!l.isNil), .bool (!r.isNil)] 96) = w4 at *
    have h01 : Ext w w1 := hE
    have h14 : Ext w1 w4 := hE2
    have HV1 := Lib.hid (hv1.ext h14)
    have HV2 := Lib.hid hv2
    have hc0 := cell_all (show w4.cell? ⟨w1.heap.size, 0, none⟩ = some (.int .i64 k) from cell_of hnew 0)
    have hc1 := cell_all (show w4.cell? ⟨w1.heap.size, 1, none⟩ = some (.int .i64 v) from cell_of hnew 1)
    have hc2 := cell_all (show w4.cell? ⟨w1.heap.size, 2, none⟩ = some (.int .i64 s) from cell_of hnew 2)
    have hc3 := cell_all (show w4.cell? ⟨w1.heap.size, 3, none⟩ = some (.int .i64 n) from cell_of hnew 3)
    have hc4 := cell_all (show w4.cell? ⟨w1.heap.size, 4, none⟩ = some (.int .u64 g) from cell_of hnew 4)
    have hc5 := cell_all (show w4.cell? ⟨w1.heap.size, 5, none⟩ = some (.bool (!l.isNil)) from cell_of hnew 5)
    have hc6 := cell_all (show w4.cell? ⟨w1.heap.size, 6, none⟩ = some (.bool (!r.isNil)) from cell_of hnew 6)
    have hx := Ext.drew w4
    clear hv1 hv2 hE hE2 hnew
    refine wpIn_region_G (fun j => !(List.contains (α := Nat) [3, 4, 5] j)) (by kernel_rfl) ?_
    refine batchG hfn (fuel := 5) [0, 2] (by kernel_rfl) rfl ?_
    repeat (go_big_quiet_step ((fail)))
    refine wpQuiet_nil ?_
    clear hc0 hc1 hc2 hc3 hc4 hc5 hc6
    refine wpAnyG_one (j := 1) (by kernel_rfl) rfl ?_
    gi_wp2_with fail
    refine ⟨wide_room _, (callsIn_wide.2 (IHl.out w4.drew v1 (HV1.out.ext hx) HLL.out)).mono ?_⟩
    rintro e w5 ⟨v3, rfl, hv3, h45'⟩
    gi_wp2_with fail
    refine onePost_ext (h45') ?_
    have h45 := hx.trans h45'
    refine wpAnyG_one (j := 3) (by kernel_rfl) rfl ?_
    gi_wp2_with fail
    refine ⟨wide_room _, (callsIn_wide.2 (item20_any _ _ _ _ _ _ _ _)).mono ?_⟩
    rintro e w5' ⟨rfl, h55⟩
    gi_wp2_with fail
    refine onePost_any (by kernel_rfl) ?_
    unfold itV
    refine wpAnyG_one (j := 4) (by kernel_rfl) rfl ?_
    gi_wp2_with fail
    have h15 := (h14.trans h45).trans h55
    have hrow := (iown3_new (B := w1.heap.size) (w := w5') (k, v, g) h15.size).row
    refine onePost_any (by kernel_rfl) ?_
    have h56 := (Ext.refl w5').alloc (.cells #[.int .i64 k, .int .i64 v, .int .u64 g] 51)
    have h16 : Ext w1 (w5'.alloc (.cells #[.int .i64 k, .int .i64 v, .int .u64 g] 51)) := h15.trans h56
    have hownl := ((hv3.mono (h14.trans hx).size).ext h55).ext h56
    (try simp only at hrow)
    generalize w5'.alloc (.cells #[.int .i64 k, .int .i64 v, .int .u64 g] 51) = w6 at *
    generalize w5'.heap.size = N5 at *
    clear hv3 h56 h45 h45' hx h15 h55
    refine wpAnyG_one (j := 5) (by kernel_rfl) rfl ?_
    refine wpListIn_append_items (B := w1.heap.size) (zs := l.its) (ys := [(k, v, g)]) rfl (.tmp 17) (.tmp 20) rfl rfl rfl hownl hrow (by rw [BT.its_len]; have := HLL.out; simp; omega) h16.size hfn ?_
    intro v4 w7 hown7 hg7
    have h17 : Ext w1 w7 := igrown3_ext h16 hownl hg7
    simp only [Act.put, List.setIfInBounds_toArray, List.set_cons_zero, List.set_cons_succ]
    refine wpListIn_nil ?_
    refine onePost_any (by kernel_rfl) ?_
    clear hg7 hownl hrow h16
    refine batchG hfn (fuel := 0) [6] (by kernel_rfl) rfl ?_
    repeat (go_big_quiet_step ((fail)))
    refine wpQuiet_nil ?_
    refine wpAnyG_done (by kernel_rfl) ?_
    refine calmQ_normal ?_
    gi_wp2_with fail
    refine ⟨wide_room _, (callsIn_wide.2 (IHr.out w7 v2 (HV2.out.ext h17) HLR.out)).mono ?_⟩
    rintro e w8 ⟨v5, rfl, hv5, h78⟩
    have hown8 := hown7.ext h78
    have hb8 := hv5.row
    have h18 := h17.trans h78
    clear hown7 hv5 h78 h17
    gi_wp2_with (refine wpListIn_append_items (B := w1.heap.size) rfl (.tmp 22) (.tmp 24) rfl rfl rfl hown8 hb8 ?c1 h18.size hfn ?_)
    case c1 =>
      rw [List.length_append, BT.its_len, BT.its_len]
      have := HLL.out
      have := HLR.out
      simp
      omega
    intro v6 w9 hown9 hg9
    have h19 : Ext w1 w9 := igrown3_ext h18 hown8 hg9
    clear hg9 hown8 hb8
    gi_wp2
    go_ret
    refine ⟨_, rfl, ?_, h01.trans h19⟩
    rw [HOF.out]
    have := hown9.mono h01.size
    simpa using this
set_option maxHeartbeats 1000000 in
theorem same20_any (w : World) (p q : Value) (zs : List (Int × Int × Int)) (hp : IRow3 w p zs) (hq : IRow3 w q zs) (hl : zs.length ≤ 5000) : Calls Tryz.prog 14 #[p, q] w (Ret (.bool true) w) := by
  rcases hp with ⟨h0, a, c, rfl⟩ | ⟨b, o, c, rfl, hne, hc, hr⟩
  · subst h0
    obtain ⟨a2, c2, rfl⟩ := irow3_slice hq
    rw [show ([] : List (Int × Int × Int)).length = 0 from rfl]
    clear hq hl
    go_enter Tryz.func14, Tryz.ntmps14
    go_wp2
    go_loop [5] (fun i => i = .int .i64 0) (fun _ => 0)
    case atStart => rfl
    case round =>
      subst hrel
      go_wp2
      go_ret
      exact Ret.mk (Ext.refl _)
  · rcases hq with ⟨h0, _⟩ | ⟨b2, o2, c2, rfl, _, hc2, hr2⟩
    · exact (hne h0).elim
    · have H := Lib.hid hr
      have H2 := Lib.hid hr2
      clear hr hr2 hne
      go_enter Tryz.func14, Tryz.ntmps14
      go_wp2
      go_loopw [5] (fun i W => Ext w W ∧ ∃ k : Nat, k ≤ zs.length ∧ i = .int .i64 k) (fun i _ => zs.length - (intOf i).toNat)
      case atStart => exact ⟨Ext.refl _, 0, Nat.zero_le _, rfl⟩
      case round =>
        obtain ⟨hX, k, hk, rfl⟩ := hrel
        by_cases hlt : k < zs.length
        · obtain ⟨z, hz⟩ : ∃ z, zs[k]? = some z := ⟨_, List.getElem?_eq_getElem hlt⟩
          obtain ⟨z0, z1, z2⟩ := z
          have c0 : wr.cell? ⟨b, o + k * 3, none⟩ = some (.int .i64 z0) := item_cell (rangeAt_ext H.out hX) hz (j := 0) rfl
          have c1 : wr.cell? ⟨b, o + k * 3 + 1, none⟩ = some (.int .i64 z1) := item_cell (rangeAt_ext H.out hX) hz (j := 1) rfl
          have c2' : wr.cell? ⟨b, o + k * 3 + 2, none⟩ = some (.int .u64 z2) := item_cell (rangeAt_ext H.out hX) hz (j := 2) rfl
          have d0 : wr.cell? ⟨b2, o2 + k * 3, none⟩ = some (.int .i64 z0) := item_cell (rangeAt_ext H2.out hX) hz (j := 0) rfl
          have d1 : wr.cell? ⟨b2, o2 + k * 3 + 1, none⟩ = some (.int .i64 z1) := item_cell (rangeAt_ext H2.out hX) hz (j := 1) rfl
          have d2' : wr.cell? ⟨b2, o2 + k * 3 + 2, none⟩ = some (.int .u64 z2) := item_cell (rangeAt_ext H2.out hX) hz (j := 2) rfl
          clear hz
          go_wp2_with fail
          go_region
          go_wp2
          go_roundw
          case rel => exact ⟨by first | exact hX | exact hX.trans (Ext.drew _), k + 1, by omega, by go_num⟩
          case measure => simp [intOf]; omega
        · go_wp2
          go_ret
          exact Ret.mk hX
end Go.Proofs.YtkkdobolloojjaaGreat
namespace Go.Proofs.YtkkdobolloojjaaGreat
open Go Go.RowKit

set_option maxHeartbeats 1000000 in
theorem ref17Most_any (w : World) (pl pr : Value) (L R : Tr) (l r : BT) (p q p' q' : Nat) (cl cr : Bool) (fl : l.fits L) (fr : r.fits R) (al : RbH L p cl) (ar : RbH R q cr) (hp : p ≤ 400) (hq : q ≤ 400) (ep : p' = p + if cl then 1 else 0) (eq : q' = q + if cr then 1 else 0)
    (hl : Beads w pl l.enc) (hr : Beads w pr r.enc) (bl : l.enc.length ≤ 400) (br : r.enc.length ≤ 400) :
    Calls Tryz.prog 64 #[pl, pr] w (Ret (.int .i64 (2 * (max p' q' : Nat) - 2 * (min p' q' : Nat) + 3)) w) := by
  have b1 : p' ≤ 401 := by rw [ep]; split <;> omega
  have b2 : q' ≤ 401 := by rw [eq]; split <;> omega
  have rl := rank_h al (by omega)
  have rr := rank_h ar (by omega)
  rw [← ep] at rl
  rw [← eq] at rr
  have c1 := Lib.hid (fun W (h : Ext w W) => rank16_any W pl l L fl (al.tags (by omega)) (hl.ext h) (by omega))
  have c2 := Lib.hid (fun W (h : Ext w W) => rank16_any W pr r R fr (ar.tags (by omega)) (hr.ext h) (by omega))
  rw [rl] at c1
  rw [rr] at c2
  have hx := Ext.refl w
  obtain ⟨M, hM⟩ : ∃ M : Int, M = (2 * (max p' q' : Nat) - 2 * (min p' q' : Nat) + 3 : Int) := ⟨_, rfl⟩
  rw [← hM]
  have HM := Lib.hid hM
  clear hl hr fl fr al ar bl br rl rr ep eq hp hq hM
  go_enter Tryz.func64, Tryz.ntmps64
  go_wp2_with fail
  refine (c1.out _ hx).mono ?_
  rintro e w1 ⟨rfl, hS⟩
  replace hx := hx.trans hS
  clear hS
  go_wp2_with fail
  refine (c2.out _ hx).mono ?_
  rintro e w2 ⟨rfl, hS⟩
  replace hx := hx.trans hS
  clear hS
  rcases Nat.lt_or_ge p' q' with h | h
  all_goals
    go_wp2
    all_goals
      go_ret
      exact ⟨ret_int (by rw [HM.out]; omega), hx⟩
end Go.Proofs.YtkkdobolloojjaaGreat
namespace Go.Proofs.YtkkdobolloojjaaGreat
open Go Go.RowKit

theorem fits_cnt {t : BT} {T : Tr} (h : t.fits T) : T.count = t.enc.length := BT.fits_len h
theorem is22_any (c : Nat) (w : World) : Calls Tryz.prog 25 #[.int .u8 c] w (Ret (.bool (decide (1 ≤ c ∧ c ≤ 4))) w) := by
  by_cases h1 : 1 ≤ c
  · by_cases h2 : c ≤ 4
    · rw [decide_eq_true ⟨h1, h2⟩]
      go_enter Tryz.func25, Tryz.ntmps25
      go_wp2
      go_ret
      exact ⟨ret_bool (by simp; omega), Ext.refl _⟩
    · rw [decide_eq_false (fun h => h2 h.2)]
      go_enter Tryz.func25, Tryz.ntmps25
      go_wp2
      go_ret
      exact ⟨ret_bool (by simp; omega), Ext.refl _⟩
  · rw [decide_eq_false (fun h => h1 h.1)]
    obtain rfl : c = 0 := by omega
    go_enter Tryz.func25, Tryz.ntmps25
    go_wp2
    go_ret
    exact Ret.mk (Ext.refl _)
def nm22 (c : Nat) : Array UInt8 := if 1 ≤ c ∧ c ≤ 4 then nmB c else #[]
theorem name22_any (c : Nat) (w : World) : Calls Tryz.prog 27 #[.int .u8 c] w (Ret (.string ⟨nm22 c⟩) w) := by
  by_cases h : 1 ≤ c ∧ c ≤ 4
  · rw [nm22, if_pos h]
    obtain rfl | rfl | rfl | rfl := fourC h
    all_goals
      go_enter Tryz.func27, Tryz.ntmps27
      go_wp2
      go_ret
      exact Ret.mk (Ext.refl _)
  · rw [nm22, if_neg h]
    have h1 : (c : Int) ≠ 1 := by omega
    have h2 : (c : Int) ≠ 2 := by omega
    have h3 : (c : Int) ≠ 3 := by omega
    have h4 : (c : Int) ≠ 4 := by omega
    clear h
    go_enter Tryz.func27, Tryz.ntmps27
    go_wp2
    go_ret
    exact Ret.mk (Ext.refl _)
set_option maxHeartbeats 1000000 in
theorem check22_any (c : Nat) (h4 : 1 ≤ c ∧ c ≤ 4) (t : BT) (T : Tr) (w : World) (p : Value) (hf : t.fits T) (ho : c = 2 → TagsOk T) (hb : Beads w p t.enc) (hl : t.enc.length ≤ 2000) :
    Calls Tryz.prog 29 #[.int .u8 c, p] w (Ret (.tuple #[.int .i64 (ckV c T).1, .int .i64 (ckV c T).2]) w) := by
  obtain rfl | rfl | rfl | rfl := fourC h4
  · have H := Lib.hid (check14_any t T w p hf hb hl)
    rw [show ckV 1 T = avlFirst T.pre from rfl]
    clear hf ho hb hl h4
    generalize avlFirst T.pre = F at *
    obtain ⟨F1, F2⟩ := F
    simp only at H ⊢
    go_enter Tryz.func29, Tryz.ntmps29
    go_wp2_with fail
    refine H.out.mono ?_
    rintro e w1 ⟨rfl, h1⟩
    go_wp2
    go_ret2
    exact ⟨rfl, h1⟩
  · have H := Lib.hid (check16_any t T w p hf (ho rfl) hb hl)
    rw [show ckV 2 T = rbChk T from rfl]
    clear hf ho hb hl h4
    generalize rbChk T = F at *
    obtain ⟨F1, F2⟩ := F
    simp only at H ⊢
    go_enter Tryz.func29, Tryz.ntmps29
    go_wp2_with fail
    refine H.out.mono ?_
    rintro e w1 ⟨rfl, h1⟩
    go_wp2
    go_ret2
    exact ⟨rfl, h1⟩
  · have H := Lib.hid (check18_any t T w p hf hb hl)
    rw [show ckV 3 T = firstOf wbOne T.pre from rfl]
    clear hf ho hb hl h4
    generalize firstOf wbOne T.pre = F at *
    obtain ⟨F1, F2⟩ := F
    simp only at H ⊢
    go_enter Tryz.func29, Tryz.ntmps29
    go_wp2_with fail
    refine H.out.mono ?_
    rintro e w1 ⟨rfl, h1⟩
    go_wp2
    go_ret2
    exact ⟨rfl, h1⟩
  · have H := Lib.hid (check20_any t T w p hf hb hl)
    rw [show ckV 4 T = firstOf tpOne T.pre from rfl]
    clear hf ho hb hl h4
    generalize firstOf tpOne T.pre = F at *
    obtain ⟨F1, F2⟩ := F
    simp only at H ⊢
    go_enter Tryz.func29, Tryz.ntmps29
    go_wp2_with fail
    refine H.out.mono ?_
    rintro e w1 ⟨rfl, h1⟩
    go_wp2
    go_ret2
    exact ⟨rfl, h1⟩
theorem may22_any (c : Nat) (h4 : 1 ≤ c ∧ c ≤ 4) (t : BT) (T : Tr) (w : World) (p : Value) (hf : t.fits T) (ho : c = 2 → TagsOk T) (hb : Beads w p t.enc) (hl : t.enc.length ≤ 2000) :
    Calls Tryz.prog 30 #[.int .u8 c, p] w (Ret (.bool ((ckV c T).2 == 0)) w) := by
  have H := Lib.hid (check22_any c h4 t T w p hf ho hb hl)
  clear hf ho hb hl
  generalize ckV c T = F at *
  obtain ⟨F1, F2⟩ := F
  simp only at H ⊢
  go_enter Tryz.func30, Tryz.ntmps30
  go_wp2_with fail
  refine (H.out).mono ?_
  rintro e w1 ⟨rfl, hS⟩
  go_wp2
  go_ret
  exact ⟨ret_bool rfl, hS⟩
theorem pt_ck {c : Nat} (h4 : 1 ≤ c ∧ c ≤ 4) (h2 : c ≠ 2) (T : Tr) : ((ckV c T).2 == 0) = ptV c T := by
  obtain rfl | rfl | rfl | rfl := fourC h4
  · rfl
  · exact (h2 rfl).elim
  · rfl
  · rfl
theorem part22_any (c : Nat) (h4 : 1 ≤ c ∧ c ≤ 4) (t : BT) (T : Tr) (w : World) (p : Value) (hf : t.fits T) (ho : c = 2 → TagsOk T) (hb : Beads w p t.enc) (hl : t.enc.length ≤ 2000) :
    Calls Tryz.prog 32 #[.int .u8 c, p] w (Ret (.bool (ptV c T)) w) := by
  by_cases h2 : c = 2
  · subst h2
    have H := Lib.hid (part16_any t T w p hf (ho rfl) hb hl)
    rw [show ptV 2 T = rbPart T from rfl]
    clear hf ho hb hl h4
    go_enter Tryz.func32, Tryz.ntmps32
    go_wp2_with fail
    refine (H.out).mono ?_
    rintro e w1 ⟨rfl, hS⟩
    go_wp2
    go_ret
    exact ⟨ret_bool rfl, hS⟩
  · have H := Lib.hid (may22_any c h4 t T w p hf ho hb hl)
    rw [pt_ck h4 h2] at H
    have h2' : (c : Int) ≠ 2 := by omega
    clear hf ho hb hl h2
    go_enter Tryz.func32, Tryz.ntmps32
    go_wp2_with fail
    refine (H.out).mono ?_
    rintro e w1 ⟨rfl, hS⟩
    go_wp2
    go_ret
    exact ⟨ret_bool rfl, hS⟩
set_option maxHeartbeats 1000000 in
theorem rank22_any (c : Nat) (h4 : 1 ≤ c ∧ c ≤ 4) (t : BT) (T : Tr) (w : World) (p : Value) (hf : t.fits T) (ho : c = 2 → TagsOk T) (hb : Beads w p t.enc) (hl : t.enc.length ≤ 2000) :
    Calls Tryz.prog 34 #[.int .u8 c, p] w (Ret (.int .i64 (rkV' c T)) w) := by
  obtain rfl | rfl | rfl | rfl := fourC h4
  · have H := Lib.hid (tag14_any w p t hb)
    rw [BT.fits_tag hf] at H
    rw [show rkV' 1 T = wrap64 T.tag from rfl]
    clear hf ho hb hl h4
    generalize T.tag = g at *
    go_enter Tryz.func34, Tryz.ntmps34
    go_wp2_with fail
    refine (H.out).mono ?_
    rintro e w1 ⟨rfl, hS⟩
    go_wp2
    go_ret
    exact ⟨ret_int rfl, hS⟩
  · have H := Lib.hid (rank16_any w p t T hf (ho rfl) hb (by omega))
    rw [show rkV' 2 T = wrap64 (2 * hiB T) from rfl]
    clear hf ho hb hl h4
    generalize wrap64 (2 * hiB T) = g at *
    go_enter Tryz.func34, Tryz.ntmps34
    go_wp2_with fail
    refine (H.out).mono ?_
    rintro e w1 ⟨rfl, hS⟩
    go_wp2
    go_ret
    exact ⟨ret_int rfl, hS⟩
  · have hc := fits_cnt hf
    have H := Lib.hid (rank18_any t.enc.length w (by omega))
    rw [show rkV' 3 T = ((Nat.log2 (T.count + 1) : Nat) : Int) from rfl, hc]
    obtain ⟨a, k, rfl⟩ := beads_slice hb
    clear hf ho hb hl h4 hc
    generalize t.enc.length = N at *
    generalize Nat.log2 (N + 1) = g at *
    go_enter Tryz.func34, Tryz.ntmps34
    go_wp2_with fail
    refine (H.out).mono ?_
    rintro e w1 ⟨rfl, hS⟩
    go_wp2
    go_ret
    exact ⟨ret_int rfl, hS⟩
  · rw [show rkV' 4 T = 0 from rfl]
    clear hf ho hb hl h4
    go_enter Tryz.func34, Tryz.ntmps34
    go_wp2
    go_ret
    exact Ret.mk (Ext.refl _)
def BT.rway : BT → Nat
  | .nil => 0
  | .node _ _ _ _ _ _ r => 1 + r.rway
def BT.lway : BT → Nat
  | .nil => 0
  | .node _ _ _ _ _ l _ => 1 + l.lway
theorem fits_ways : ∀ {t : BT} {T : Tr}, t.fits T → T.rway = t.rway ∧ T.lway = t.lway
  | .nil, .nil, _ => ⟨rfl, rfl⟩
  | .nil, .node .., h => h.elim
  | .node .., .nil, h => h.elim
  | .node .., .node .., h => by
    have h1 := (fits_ways h.2.2.2.1).2
    have h2 := (fits_ways h.2.2.2.2).1
    exact ⟨by rw [Tr.rway, BT.rway, h2], by rw [Tr.lway, BT.lway, h1]⟩
def BT.wayTo (left : Bool) (t : BT) : Nat := if left then t.lway else t.rway
theorem wayTo_le (x : Bool) : ∀ t : BT, t.wayTo x ≤ t.enc.length
  | .nil => by cases x <;> exact Nat.le_refl _
  | .node k v s n g l r => by
    have h1 := wayTo_le x l
    have h2 := wayTo_le x r
    cases x <;> simp [BT.wayTo, BT.rway, BT.lway, BT.enc] at h1 h2 ⊢ <;> omega
set_option maxHeartbeats 1000000 in
theorem way21_any (x : Bool) (t : BT) : ∀ (w : World) (p : Value), Beads w p t.enc → t.enc.length ≤ 2000 →
    Calls Tryz.prog 85 #[p, .bool x] w (Ret (.int .i64 (t.wayTo x : Nat)) w) := by
  induction t with
  | nil =>
    intro w p hb hl
    obtain ⟨a, c, rfl⟩ := beads_slice hb
    rw [show BT.nil.enc.length = 0 from rfl, show BT.nil.wayTo x = 0 by cases x <;> rfl]
    clear hb hl
    go_enter Tryz.func85, Tryz.ntmps85
    go_wp2
    go_ret
    exact Ret.mk (Ext.refl _)
  | node k v s n g l r ihl ihr =>
    intro w p hb hl
    have hlen : (BT.node k v s n g l r).enc.length = 1 + l.enc.length + r.enc.length := by simp [BT.enc]; omega
    have HP := Lib.hid (parts_any w p k v s n g l r hb hl)
    have h1 : 1 ≤ (BT.node k v s n g l r).enc.length := by omega
    have HLL := Lib.hid (show l.enc.length ≤ 2000 by omega)
    have HLR := Lib.hid (show r.enc.length ≤ 2000 by omega)
    have IHl := Lib.hid ihl
    have IHr := Lib.hid ihr
    have bl := Nat.le_trans (wayTo_le x l) HLL.out
    have br := Nat.le_trans (wayTo_le x r) HLR.out
    obtain ⟨a, c, rfl⟩ := beads_slice hb
    obtain ⟨X, hX⟩ : ∃ X, X = (BT.node k v s n g l r).wayTo x := ⟨_, rfl⟩
    rw [← hX]
    have HX := Lib.hid hX
    clear hb hl hlen ihl ihr hX
    generalize (BT.node k v s n g l r).enc.length = LL at *
    go_enter Tryz.func85, Tryz.ntmps85
    go_wp2_with fail
    refine (HP.out).mono ?_
    rintro e w1 ⟨v1, v2, rfl, hv1, hv2, hS⟩
    have hE2 := (Ext.refl w1).alloc (.cells #[.int .i64 k, .int .i64 v, .int .i64 s, .int .i64 n, .int .u64 g, .bool (!l.isNil), .bool (!r.isNil)] 96)
    have hx := hS.trans hE2
    have HV1 := Lib.hid (hv1.ext hE2)
    have HV2 := Lib.hid (hv2.ext hE2)
    clear hS hE2 hv1 hv2
    cases x with
    | true =>
      go_wp2_with fail
      refine (IHl.out _ v1 HV1.out HLL.out).mono ?_
      rintro e w2 ⟨rfl, h2⟩
      go_wp2
      go_ret
      exact ⟨ret_int (by rw [HX.out]; simp [BT.wayTo, BT.lway]), hx.trans h2⟩
    | false =>
      go_wp2_with fail
      refine (IHr.out _ v2 HV2.out HLR.out).mono ?_
      rintro e w2 ⟨rfl, h2⟩
      go_wp2
      go_ret
      exact ⟨ret_int (by rw [HX.out]; simp [BT.wayTo, BT.rway]), hx.trans h2⟩
theorem most21_any (w : World) (p q : Value) (l r : BT) (hl : Beads w p l.enc) (hr : Beads w q r.enc) (bl : l.enc.length ≤ 2000) (br : r.enc.length ≤ 2000) :
    Calls Tryz.prog 66 #[p, q] w (Ret (.int .i64 ((l.rway + r.lway + 1 : Nat) : Int)) w) := by
  have H1 := Lib.hid (way21_any false l w p hl bl)
  have H2 := Lib.hid (fun W (e : Ext w W) => way21_any true r W q (hr.ext e) br)
  have b1 := Nat.le_trans (wayTo_le false l) bl
  have b2 := Nat.le_trans (wayTo_le true r) br
  rw [show l.wayTo false = l.rway from rfl] at H1 b1
  rw [show r.wayTo true = r.lway from rfl] at H2 b2
  clear hl hr bl br
  generalize l.rway = a at *
  generalize r.lway = b at *
  go_enter Tryz.func66, Tryz.ntmps66
  go_wp2_with fail
  refine H1.out.mono ?_
  rintro e w1 ⟨rfl, e1⟩
  go_wp2_with fail
  refine (H2.out w1 e1).mono ?_
  rintro e w2 ⟨rfl, e2⟩
  go_wp2
  go_ret
  exact ⟨ret_int (by omega), e1.trans e2⟩
set_option maxHeartbeats 2000000 in
theorem most22_any (c : Nat) (h4 : 1 ≤ c ∧ c ≤ 4) (w : World) (p q : Value) (l r : BT) (L R : Tr) (fl : l.fits L) (fr : r.fits R) (hl : Beads w p l.enc) (hr : Beads w q r.enc) (pl : PartC c L) (pr : PartC c R) (bl : l.enc.length ≤ 400) (br : r.enc.length ≤ 400) :
    Calls Tryz.prog 37 #[.int .u8 c, p, q] w (Ret (.int .i64 (mostC c L R : Nat)) w) := by
  have cl := fits_cnt fl
  have cr := fits_cnt fr
  obtain rfl | rfl | rfl | rfl := fourC h4
  · have al := AvlH.tag (show AvlH L L.ht from pl)
    have ar := AvlH.tag (show AvlH R R.ht from pr)
    have b1 := L.ht_count
    have b2 := R.ht_count
    have H1 := Lib.hid (rank22_any 1 h4 l L w p fl (fun h => by cases h) hl (by omega))
    have H2 := Lib.hid (fun W (e : Ext w W) => rank22_any 1 h4 r R W q fr (fun h => by cases h) (hr.ext e) (by omega))
    rw [show rkV' 1 L = wrap64 L.tag from rfl, al, show wrap64 ((L.ht : Nat) : Int) = ((L.ht : Nat) : Int) by unfold wrap64; omega] at H1
    rw [show rkV' 1 R = wrap64 R.tag from rfl, ar, show wrap64 ((R.ht : Nat) : Int) = ((R.ht : Nat) : Int) by unfold wrap64; omega] at H2
    rw [show mostC 1 L R = max L.ht R.ht - min L.ht R.ht + 1 from rfl]
    have b1 : L.ht ≤ 400 := by omega
    have b2 : R.ht ≤ 400 := by omega
    clear pl pr fl fr hl hr bl br cl cr al ar h4
    generalize L.ht = a at *
    generalize R.ht = b at *
    rcases Nat.lt_or_ge a b with h | h
    all_goals
      go_enter Tryz.func37, Tryz.ntmps37
      go_wp2_with fail
      refine H1.out.mono ?_
      rintro e w1 ⟨rfl, e1⟩
      go_wp2_with fail
      refine (H2.out w1 e1).mono ?_
      rintro e w2 ⟨rfl, e2⟩
      go_wp2
      all_goals
        go_ret
        exact ⟨ret_int (by omega), e1.trans e2⟩
  · obtain ⟨a, ca, pl⟩ := pl
    obtain ⟨b, cb, pr⟩ := pr
    have b1 := pl.le
    have b2 := pr.le
    have H := Lib.hid (ref17Most_any w p q L R l r a b _ _ ca cb fl fr pl pr (by omega) (by omega) rfl rfl hl hr bl br)
    rw [show ((mostC 2 L R : Nat) : Int) = 2 * ((max (a + if ca then 1 else 0) (b + if cb then 1 else 0) : Nat) : Int) - 2 * ((min (a + if ca then 1 else 0) (b + if cb then 1 else 0) : Nat) : Int) + 3 by
      show ((2 * max (hiB L).toNat (hiB R).toNat - 2 * min (hiB L).toNat (hiB R).toNat + 3 : Nat) : Int) = _
      rw [pl.hiB (by omega), pr.hiB (by omega), Int.toNat_natCast, Int.toNat_natCast]
      omega]
    obtain ⟨X, hX⟩ : ∃ X, X = 2 * ((max (a + if ca then 1 else 0) (b + if cb then 1 else 0) : Nat) : Int) - 2 * ((min (a + if ca then 1 else 0) (b + if cb then 1 else 0) : Nat) : Int) + 3 := ⟨_, rfl⟩
    rw [← hX] at H ⊢
    clear pl pr fl fr hl hr bl br cl cr b1 b2 hX h4
    go_enter Tryz.func37, Tryz.ntmps37
    go_wp2_with fail
    refine (H.out).mono ?_
    rintro e w1 ⟨rfl, hS⟩
    go_wp2
    go_ret
    exact ⟨ret_int rfl, hS⟩
  · have H := Lib.hid (ref19Most_any w p q l.enc r.enc _ _ hl hr bl br rfl rfl)
    rw [show ((mostC 3 L R : Nat) : Int) = 6 * (((max (Nat.log2 (l.enc.length + 1)) (Nat.log2 (r.enc.length + 1)) : Nat) : Int) - ((min (Nat.log2 (l.enc.length + 1)) (Nat.log2 (r.enc.length + 1)) : Nat) : Int)) + 1 by
      show ((6 * (max (Nat.log2 (L.count + 1)) (Nat.log2 (R.count + 1)) - min (Nat.log2 (L.count + 1)) (Nat.log2 (R.count + 1))) + 1 : Nat) : Int) = _
      rw [cl, cr]
      omega]
    obtain ⟨X, hX⟩ : ∃ X, X = 6 * (((max (Nat.log2 (l.enc.length + 1)) (Nat.log2 (r.enc.length + 1)) : Nat) : Int) - ((min (Nat.log2 (l.enc.length + 1)) (Nat.log2 (r.enc.length + 1)) : Nat) : Int)) + 1 := ⟨_, rfl⟩
    rw [← hX] at H ⊢
    clear pl pr fl fr hl hr bl br cl cr hX h4
    go_enter Tryz.func37, Tryz.ntmps37
    go_wp2_with fail
    refine (H.out).mono ?_
    rintro e w1 ⟨rfl, hS⟩
    go_wp2
    go_ret
    exact ⟨ret_int rfl, hS⟩
  · have H := Lib.hid (most21_any w p q l r hl hr (by omega) (by omega))
    rw [show mostC 4 L R = L.rway + R.lway + 1 from rfl, (fits_ways fl).1, (fits_ways fr).2]
    generalize ((l.rway + r.lway + 1 : Nat) : Int) = X at *
    clear pl pr fl fr hl hr bl br cl cr h4
    go_enter Tryz.func37, Tryz.ntmps37
    go_wp2_with fail
    refine (H.out).mono ?_
    rintro e w1 ⟨rfl, hS⟩
    go_wp2
    go_ret
    exact ⟨ret_int rfl, hS⟩
end Go.Proofs.YtkkdobolloojjaaGreat
namespace Go.Proofs.YtkkdobolloojjaaGreat
open Go Go.RowKit

theorem itemCells_set : ∀ (zs : List (Int × Int × Int)) (k : Nat) (z : Int × Int × Int) (y : Int), zs[k]? = some z → itemCells (zs.set k (z.1, z.2.1, y)) = (itemCells zs).set (k * 3 + 2) (.int .u64 y)
  | [], k, z, y, h => by simp at h
  | x :: zs, 0, z, y, h => by
    obtain rfl : x = z := by simpa using h
    simp [itemCells, icells]
  | x :: zs, k + 1, z, y, h => by
    have ih := itemCells_set zs k z y (by simpa using h)
    show icells x ++ itemCells (zs.set k (z.1, z.2.1, y)) = (icells x ++ itemCells zs).set ((k + 1) * 3 + 2) (.int .u64 y)
    rw [ih, List.set_append_right (h := by show 3 ≤ _; omega)]
    congr 2
    show _ = (k + 1) * 3 + 2 - 3
    omega
theorem IOwn3.blk {B : Nat} {w : World} {v : Value} {zs : List (Int × Int × Int)} (h : IOwn3 B w v zs) (hne : zs ≠ []) : ∃ g cap, v = .slice (some ⟨g, 0, none⟩) zs.length cap ∧ B ≤ g ∧ zs.length ≤ cap ∧
    ∀ W xs, IOwn3 B W v xs → xs.length = zs.length → (∀ i, W.frozen? ⟨g, i, none⟩ = false) ∧ (∀ k z, xs[k]? = some z → W.cell? ⟨g, k * 3, none⟩ = some (.int .i64 z.1) ∧ W.cell? ⟨g, k * 3 + 1, none⟩ = some (.int .i64 z.2.1) ∧ W.cell? ⟨g, k * 3 + 2, none⟩ = some (.int .u64 z.2.2) ∧
      ∀ y, IOwn3 B (W.setCell ⟨g, k * 3 + 2, none⟩ (.int .u64 y)) v (xs.set k (z.1, z.2.1, y))) := by
  obtain ⟨h1, ⟨rfl, h0⟩ | ⟨g, cap, cur, rfl, hb, hg, hc, hm, hs, ht⟩⟩ := h
  · exact (hne (List.eq_nil_of_length_eq_zero h0)).elim
  · refine ⟨g, cap, rfl, hb, hc, fun W xs hx hl => ?_⟩
    have hrow := hx
    obtain ⟨k1, ⟨hv, h0⟩ | ⟨g', cap', cur', hv, hb', hg', hc', hm', hs', ht'⟩⟩ := hx
    · cases hv
    · injection hv with e1 e2 e3
      injection e1 with e1
      injection e1 with e1
      subst e1 e3
      refine ⟨frozen_of hg', fun k z hz => ?_⟩
      have hlt := (List.getElem?_eq_some_iff.1 hz).1
      have hcell : ∀ j u, (icells z)[j]? = some u → W.cell? ⟨g, k * 3 + j, none⟩ = some u := by
        intro j u hj
        have h2 := itemCells_at xs k z j hz (List.getElem?_eq_some_iff.1 hj).1
        rw [hj, ← ht', List.getElem?_take] at h2
        rw [cell_of hg']
        split at h2
        · simpa using h2
        · cases h2
      refine ⟨hcell 0 _ rfl, hcell 1 _ rfl, hcell 2 _ rfl, fun y => ?_⟩
      have hheap : (W.setCell ⟨g, k * 3 + 2, none⟩ (.int .u64 y)).heap[g]? = some (.cells (cur'.setIfInBounds (k * 3 + 2) (.int .u64 y)) 51 (0, 0)) := by
        simp [World.setCell, Array.getElem?_modify, hg']
      refine ⟨by rw [itemCells_len], .inr ⟨g, cap, _, by rw [List.length_set, hl], hb', hheap, by rw [List.length_set]; exact hc', hm', by simp [hs'], ?_⟩⟩
      rw [List.length_set, itemCells_set xs k z y hz, ← ht', Array.toList_setIfInBounds, List.take_set]
theorem IOwn3.sized {B : Nat} {w : World} {v : Value} {zs : List (Int × Int × Int)} (h : IOwn3 B w v zs) : ∃ a c, v = .slice a zs.length c := irow3_slice h.row
/-- a row whose first k items have lost their tags. -/
def untag (c k : Nat) (zs : List (Int × Int × Int)) : List (Int × Int × Int) := (zs.take k).map (itC c) ++ zs.drop k
theorem untag_len (c k : Nat) (zs : List (Int × Int × Int)) : (untag c k zs).length = zs.length := by simp [untag]; omega
theorem untag_at {c k : Nat} {zs : List (Int × Int × Int)} {z : Int × Int × Int} (h : zs[k]? = some z) : (untag c k zs)[k]? = some z := by
  have hlt := (List.getElem?_eq_some_iff.1 h).1
  rw [untag, List.getElem?_append_right (by simp; omega), List.length_map, List.length_take, Nat.min_eq_left (by omega), Nat.sub_self, List.getElem?_drop, Nat.add_zero, h]
theorem untag_set {c k : Nat} (hc : c ≠ 4) {zs : List (Int × Int × Int)} {z : Int × Int × Int} (h : zs[k]? = some z) : (untag c k zs).set k (z.1, z.2.1, 0) = untag c (k + 1) zs := by
  have hlt := (List.getElem?_eq_some_iff.1 h).1
  have hd : zs.drop k = z :: zs.drop (k + 1) := by
    rw [List.drop_eq_getElem_cons hlt]
    congr 1
    exact (List.getElem?_eq_some_iff.1 h).2
  rw [untag, untag, List.set_append_right (h := by simp; omega), List.length_map, List.length_take, Nat.min_eq_left (by omega), Nat.sub_self, hd, List.set_cons_zero, List.take_add_one, h]
  simp [itC, hc]
def BT.itsC (c : Nat) (t : BT) : List (Int × Int × Int) := t.its.map (itC c)
theorem fits_itsC {t : BT} {T : Tr} (c : Nat) (h : t.fits T) : Proofs.YtkkdobolloojjaaGreat.itsC c T = t.itsC c := by rw [Proofs.YtkkdobolloojjaaGreat.itsC, BT.itsC, BT.fits_its h]
set_option maxHeartbeats 2000000 in
theorem items22_any (c : Nat) (h4 : 1 ≤ c ∧ c ≤ 4) (t : BT) (w : World) (p : Value) (hb : Beads w p t.enc) (hl : t.enc.length ≤ 2000) :
    Calls Tryz.prog 24 #[.int .u8 c, p] w (GivesI3 (t.itsC c) w) := by
  have H := Lib.hid (items20_any t w p hb hl)
  have hzl : t.its.length ≤ 2000 := by rw [BT.its_len]; exact hl
  rw [BT.itsC]
  generalize hzs : t.its = zs at *
  clear hb hzs hl
  by_cases hc : c = 4
  · subst hc
    have he : zs.map (itC 4) = zs := by
      conv => rhs; rw [← List.map_id zs]
      exact List.map_congr_left fun z _ => rfl
    rw [he]
    clear he
    go_enter Tryz.func24, Tryz.ntmps24
    go_wp2_with fail
    refine H.out.mono ?_
    rintro e w1 ⟨v, rfl, ho, h1⟩
    go_wp2
    go_ret
    exact ⟨_, rfl, ho, h1⟩
  · have hc' : (c : Int) ≠ 4 := by omega
    have HC := Lib.hid hc
    clear hc
    go_enter Tryz.func24, Tryz.ntmps24
    go_wp2_with fail
    refine H.out.mono ?_
    rintro e w1 ⟨v, rfl, ho, h1⟩
    by_cases h0 : zs = []
    · subst h0
      obtain ⟨a, k, rfl⟩ := ho.sized
      rw [show ([] : List (Int × Int × Int)).length = 0 from rfl] at *
      have HO := Lib.hid ho
      clear ho
      go_wp2
      go_loop [6] (fun i => i = .int .i64 0) (fun _ => 0)
      case atStart => rfl
      case round =>
        subst hrel
        go_wp2
        go_ret
        exact ⟨_, rfl, HO.out, h1⟩
    · obtain ⟨g, cap, rfl, hB, hcap, hfact⟩ := ho.blk h0
      have HO := Lib.hid ho
      have HF := Lib.hid hfact
      clear ho hfact h0
      go_wp2
      go_loopw [6] (fun i W => Ext w W ∧ ∃ k : Nat, k ≤ zs.length ∧ i = .int .i64 k ∧ IOwn3 w.heap.size W (.slice (some ⟨g, 0, none⟩) zs.length cap) (untag c k zs)) (fun i _ => zs.length - (intOf i).toNat)
      case atStart => exact ⟨h1, 0, Nat.zero_le _, rfl, by simpa [untag] using HO.out⟩
      case round =>
        obtain ⟨hX, k, hk, rfl, hO⟩ := hrel
        have HO' := Lib.hid hO
        clear hO
        by_cases hlt : k < zs.length
        · obtain ⟨z, hz⟩ : ∃ z, zs[k]? = some z := ⟨_, List.getElem?_eq_getElem hlt⟩
          obtain ⟨hfz, hcs⟩ := HF.out wr _ HO'.out (untag_len c k zs)
          obtain ⟨c0, c1, c2, hset⟩ := hcs k z (untag_at hz)
          have hf2 := hfz (k * 3 + 2)
          have HS := Lib.hid (hset 0)
          have HZ := Lib.hid hz
          clear hfz hcs hset c0 c1 hz
          go_wp2
          go_roundw
          case rel => exact ⟨Below.setCell hX hB _, k + 1, by omega, by go_num, by rw [← untag_set HC.out HZ.out]; exact HS.out⟩
          case measure => simp [intOf]; omega
        · have hk' : k = zs.length := by omega
          have HK := Lib.hid hk'
          clear hk'
          go_wp2
          go_ret
          refine ⟨_, rfl, ?_, hX⟩
          have := HO'.out
          rw [HK.out] at this
          simpa [untag] using this
end Go.Proofs.YtkkdobolloojjaaGreat
namespace Go.Proofs.YtkkdobolloojjaaGreat
open Go Go.RowKit
attribute [local go_sem] Oper.semAt_some

theorem put3_other {w : World} {N i : Nat} {o : Obj} (hi : i ≠ N) (h : w.heap[i]? = some o) (a b c : Value) : (put3 w N a b c).heap[i]? = some o := by
  unfold put3
  rw [Below.heap_setCell _ _ _ _ hi, Below.heap_setCell _ _ _ _ hi, Below.heap_setCell _ _ _ _ hi]
  exact h
set_option maxHeartbeats 2000000 in
theorem item22_any (c : Nat) (t : BT) (T : Tr) (w : World) (p : Value) (hf : t.fits T) (hb : Beads w p t.enc) (hl : t.enc.length ≤ 2000) :
    Calls Tryz.prog 35 #[.int .u8 c, p] w (Ret (itemV c T) w) := by
  have hfn : ∀ f, Fence.wide.fn f := fun _ => trivial
  cases t with
  | nil =>
    have e : T = .nil := by cases T with | nil => rfl | node => exact hf.elim
    subst e
    obtain ⟨a, k, rfl⟩ := beads_slice hb
    rw [show BT.nil.enc.length = 0 from rfl]
    clear hb hl hf
    have hi : itemV c .nil = itV 0 0 0 := by simp [itemV, Tr.key, Tr.val, Tr.tag]
    rw [hi]
    clear hi
    go_enter Tryz.func35, Tryz.ntmps35
    go_wp2
    refine bodyPost_ret (v := itV 0 0 0) ?_ rfl (Ret.mk ((Ext.refl _).alloc _))
    simp [results, Tryz.results35, go_sem, itV]
  | node k v s n g l r =>
    cases T with
    | nil => exact hf.elim
    | node tb tl tk tv tg tr =>
    obtain ⟨h1, h2, h3, -, -⟩ := hf
    subst h1 h2 h3
    rcases hb with ⟨h, -⟩ | ⟨b, o, cp, rfl, hne, hc, hr⟩
    · simp [BT.enc] at h
    · have hc0 : w.cell? ⟨b, o, none⟩ = some (.int .i64 k) := by simpa using rangeAt_cell hr (i := 0) rfl (j := 0) rfl
      have hc1 : w.cell? ⟨b, o + 1, none⟩ = some (.int .i64 v) := by simpa using rangeAt_cell hr (i := 0) rfl (j := 1) rfl
      have hc4 : w.cell? ⟨b, o + 4, none⟩ = some (.int .u64 g) := by simpa using rangeAt_cell hr (i := 0) rfl (j := 4) rfl
      have hlen : 1 ≤ (BT.node k v s n g l r).enc.length := by simp [BT.enc]
      have hi : itemV c (.node tb tl k v g tr) = itV k v (if c = 4 then g else 0) := rfl
      rw [hi]
      have hlt := cell_lt hc0
      have HC := Lib.hid (And.intro hc0 (And.intro hc1 hc4))
      clear hr hne hi hc0 hc1 hc4
      generalize (BT.node k v s n g l r).enc.length = LL at *
      obtain ⟨m⟩ : Nonempty Nat := ⟨0⟩
      by_cases h4 : c = 4
      · rw [if_pos h4]
        subst h4
        refine (callsIn_wide (n := m)).1 ?_
        refine callsIn_of_wp Tryz.func35 rfl trivial ?_ rfl
        simp only [Tryz.ntmps35, List.size_toArray, List.length_cons, List.length_nil, Nat.reduceAdd, Nat.reduceSub, Array.replicate_succ, Array.replicate_zero, List.push_toArray, List.append_toArray, List.nil_append, List.cons_append]
        gi_wp2_with fail
        have hbox := alloc_at w (.cells #[.int .i64 0, .int .i64 0, .int .u64 0] 51) _ rfl
        have hE := (Ext.refl w).alloc (.cells #[.int .i64 0, .int .i64 0, .int .u64 0] 51)
        generalize w.alloc (.cells #[.int .i64 0, .int .i64 0, .int .u64 0] 51) = w1 at *
        have hc0 := cell_all ((hE.cell hlt).trans HC.out.1)
        have hc1 := cell_all ((hE.cell hlt).trans HC.out.2.1)
        have hx := Ext.drew w1
        refine wpIn_region_G (fun j => !(List.contains (α := Nat) [10] j)) (by kernel_rfl) ?_
        refine batchG hfn (fuel := 2) [0, 1, 2, 3, 4, 5, 6, 7, 8] (by kernel_rfl) rfl ?_
        repeat (go_big_quiet_step ((fail)))
        refine wpQuiet_nil ?_
        refine wpAnyG_one (j := 9) (by kernel_rfl) rfl ?_
        gi_wp2_with fail
        refine onePost_ext ((Ext.refl w1.drew).alloc _) ?_
        have h2 : Ext w1 (w1.alloc (.cells #[.int .i64 0, .int .i64 0, .int .u64 0] 51)).drew := ((Ext.refl w1).alloc _).trans (Ext.drew _)
        have hnew : (w1.alloc (.cells #[.int .i64 0, .int .i64 0, .int .u64 0] 51)).drew.heap[w1.heap.size]? = some (.cells #[.int .i64 0, .int .i64 0, .int .u64 0] 51 (0, 0)) := alloc_at w1 _ _ rfl
        generalize (w1.alloc (.cells #[.int .i64 0, .int .i64 0, .int .u64 0] 51)).drew = w2 at *
        obtain ⟨g0, g1, g2, gf⟩ := cells3 hnew
        have hs := hE.size
        have hs1 : w.heap.size < w1.heap.size := lt_of hbox
        clear hc0 hc1 hx
        refine wpAnyG_one (j := 10) (by kernel_rfl) rfl ?_
        gi_wp2_with fail
        refine onePost_any (by kernel_rfl) ?_
        change wpAnyG _ _ _ _ _ _ _ _ _ _ (put3 w2 w1.heap.size (.int .i64 k) (.int .i64 v) (.int .u64 0))
        obtain ⟨hn3, hX3⟩ := put3_spec (hE.trans h2) hs hnew (.int .i64 k) (.int .i64 v) (.int .u64 0)
        have hb3 := put3_other (w := w2) (N := w1.heap.size) (i := w.heap.size) (by omega) (h2.get hbox) (.int .i64 k) (.int .i64 v) (.int .u64 0)
        generalize put3 w2 w1.heap.size (.int .i64 k) (.int .i64 v) (.int .u64 0) = w3 at *
        clear hnew g0 g1 g2 gf hbox h2 hE
        refine wpAnyG_done (by kernel_rfl) ?_
        refine calmQ_normal ?_
        obtain ⟨d0, d1, d2, df⟩ := cells3 hb3
        obtain ⟨f0, f1, f2, ff⟩ := cells3 hn3
        have hc4 := (hX3.cell hlt).trans HC.out.2.2
        have HX := Lib.hid (And.intro hX3 (And.intro hb3 hn3))
        clear hX3 hb3 hn3
        gi_wp2
        have HX := Lib.hid (show Ext w (w3.setCell ⟨w1.heap.size, 2, none⟩ (.int .u64 g)) ∧ (w3.setCell ⟨w1.heap.size, 2, none⟩ (.int .u64 g)).heap[w.heap.size]? = _ from ⟨Below.setCell HX.out.1 hs _, (Below.heap_setCell _ _ _ _ (by show w.heap.size ≠ w1.heap.size; omega)).trans HX.out.2.1⟩)
        generalize w3.setCell ⟨w1.heap.size, 2, none⟩ (.int .u64 g) = w4 at *
        change bodyPost _ _ _ _ _ (put3 w4 w.heap.size (.int .i64 k) (.int .i64 v) (.int .u64 g))
        clear d0 d1 d2 df f0 f1 f2 ff hc4
        obtain ⟨hW, hX⟩ := put3_spec HX.out.1 (Nat.le_refl _) HX.out.2 (.int .i64 k) (.int .i64 v) (.int .u64 g)
        generalize put3 w4 w.heap.size (.int .i64 k) (.int .i64 v) (.int .u64 g) = W at *
        obtain ⟨e0, e1, e2, -⟩ := cells3 hW
        refine bodyPost_ret (v := itV k v g) ?_ rfl (Ret.mk hX)
        simp [results, Tryz.results35, go_sem, e0, e1, e2, itV]
      · rw [if_neg h4]
        have h4' : (c : Int) ≠ 4 := by omega
        clear h4
        refine (callsIn_wide (n := m)).1 ?_
        refine callsIn_of_wp Tryz.func35 rfl trivial ?_ rfl
        simp only [Tryz.ntmps35, List.size_toArray, List.length_cons, List.length_nil, Nat.reduceAdd, Nat.reduceSub, Array.replicate_succ, Array.replicate_zero, List.push_toArray, List.append_toArray, List.nil_append, List.cons_append]
        gi_wp2_with fail
        have hbox := alloc_at w (.cells #[.int .i64 0, .int .i64 0, .int .u64 0] 51) _ rfl
        have hE := (Ext.refl w).alloc (.cells #[.int .i64 0, .int .i64 0, .int .u64 0] 51)
        generalize w.alloc (.cells #[.int .i64 0, .int .i64 0, .int .u64 0] 51) = w1 at *
        have hc0 := cell_all ((hE.cell hlt).trans HC.out.1)
        have hc1 := cell_all ((hE.cell hlt).trans HC.out.2.1)
        have hx := Ext.drew w1
        refine wpIn_region_G (fun j => !(List.contains (α := Nat) [10] j)) (by kernel_rfl) ?_
        refine batchG hfn (fuel := 2) [0, 1, 2, 3, 4, 5, 6, 7, 8] (by kernel_rfl) rfl ?_
        repeat (go_big_quiet_step ((fail)))
        refine wpQuiet_nil ?_
        refine wpAnyG_one (j := 9) (by kernel_rfl) rfl ?_
        gi_wp2_with fail
        refine onePost_ext ((Ext.refl w1.drew).alloc _) ?_
        have h2 : Ext w1 (w1.alloc (.cells #[.int .i64 0, .int .i64 0, .int .u64 0] 51)).drew := ((Ext.refl w1).alloc _).trans (Ext.drew _)
        have hnew : (w1.alloc (.cells #[.int .i64 0, .int .i64 0, .int .u64 0] 51)).drew.heap[w1.heap.size]? = some (.cells #[.int .i64 0, .int .i64 0, .int .u64 0] 51 (0, 0)) := alloc_at w1 _ _ rfl
        generalize (w1.alloc (.cells #[.int .i64 0, .int .i64 0, .int .u64 0] 51)).drew = w2 at *
        obtain ⟨g0, g1, g2, gf⟩ := cells3 hnew
        have hs := hE.size
        have hs1 : w.heap.size < w1.heap.size := lt_of hbox
        clear hc0 hc1 hx
        refine wpAnyG_one (j := 10) (by kernel_rfl) rfl ?_
        gi_wp2_with fail
        refine onePost_any (by kernel_rfl) ?_
        change wpAnyG _ _ _ _ _ _ _ _ _ _ (put3 w2 w1.heap.size (.int .i64 k) (.int .i64 v) (.int .u64 0))
        obtain ⟨hn3, hX3⟩ := put3_spec (hE.trans h2) hs hnew (.int .i64 k) (.int .i64 v) (.int .u64 0)
        have hb3 := put3_other (w := w2) (N := w1.heap.size) (i := w.heap.size) (by omega) (h2.get hbox) (.int .i64 k) (.int .i64 v) (.int .u64 0)
        generalize put3 w2 w1.heap.size (.int .i64 k) (.int .i64 v) (.int .u64 0) = w3 at *
        clear hnew g0 g1 g2 gf hbox h2 hE
        refine wpAnyG_done (by kernel_rfl) ?_
        refine calmQ_normal ?_
        obtain ⟨d0, d1, d2, df⟩ := cells3 hb3
        obtain ⟨f0, f1, f2, ff⟩ := cells3 hn3
        have HX := Lib.hid (And.intro hX3 (And.intro hb3 hn3))
        clear hX3 hb3 hn3
        gi_wp2
        change bodyPost _ _ _ _ _ (put3 w3 w.heap.size (.int .i64 k) (.int .i64 v) (.int .u64 0))
        clear d0 d1 d2 df f0 f1 f2 ff
        obtain ⟨hW, hX⟩ := put3_spec HX.out.1 (Nat.le_refl _) HX.out.2.1 (.int .i64 k) (.int .i64 v) (.int .u64 0)
        generalize put3 w3 w.heap.size (.int .i64 k) (.int .i64 v) (.int .u64 0) = W at *
        obtain ⟨e0, e1, e2, -⟩ := cells3 hW
        refine bodyPost_ret (v := itV k v 0) ?_ rfl (Ret.mk hX)
        simp [results, Tryz.results35, go_sem, e0, e1, e2, itV]
end Go.Proofs.YtkkdobolloojjaaGreat
namespace Go.Proofs.YtkkdobolloojjaaGreat
open Go Go.RowKit

theorem itemV_agg (c : Nat) (T : Tr) : ∃ k v g, itemV c T = .agg #[.int .i64 k, .int .i64 v, .int .u64 g] := ⟨_, _, _, rfl⟩
set_option maxRecDepth 100000 in
set_option maxHeartbeats 8000000 in
theorem schemeTells_walk (c : Nat) (hc : c < 256) (a0 : Option Addr) (len0 cap0 : Nat) (z0 : List BeadL) (a1 : Option Addr) (len1 cap1 : Nat) (z1 : List BeadL) (w : World) (w0 : IsBeads w (.slice a0 len0 cap0) z0) (w1 : IsBeads w (.slice a1 len1 cap1) z1) :
    Calls Tryz.prog 5 #[.int .u8 c, .slice a0 len0 cap0, .slice a1 len1 cap1] w (Ret (.bool true) w) := by
  have hund : undef = Value.tuple #[] := rfl
  have HB0 := Lib.hid w0.1
  have HB1 := Lib.hid w1.1
  have W0 := Lib.hid w0.2
  have W1 := Lib.hid w1.2
  have HL0 := Lib.hid (beadsLong_any w _ z0 w0.1)
  have HL1 := Lib.hid (fun W (e : Ext w W) => beadsLong_any W _ z1 (w1.1.ext e))
  clear w0 w1
  have hx := Ext.refl w
  cases d0 : (decide (400 < z0.length) || !mayB z0) with
  | true =>
    rw [d0] at HL0
    clear d0
    go_enter Tryz.func5, Tryz.ntmps5
    go_wp2_with fail
    refine (HL0.out).mono ?_
    rintro e w1 ⟨rfl, hS⟩
    replace hx := hx.trans hS
    clear hS
    go_wp2_with fail
    refine (alive22_any _).mono ?_
    rintro e w2 ⟨rfl, hS⟩
    replace hx := hx.trans hS
    clear hS
    go_wp2
    go_ret
    exact Ret.mk hx
  | false =>
    obtain ⟨l0, t0, e0⟩ := long_tree d0
    rw [d0] at HL0
    clear d0
    cases d1 : (decide (400 < z1.length) || !mayB z1) with
    | true =>
      rw [d1] at HL1
      clear d1
      go_enter Tryz.func5, Tryz.ntmps5
      go_wp2_with fail
      refine (HL0.out).mono ?_
      rintro e w1 ⟨rfl, hS⟩
      replace hx := hx.trans hS
      clear hS
      go_wp2_with fail
      refine (HL1.out _ hx).mono ?_
      rintro e w2 ⟨rfl, hS⟩
      replace hx := hx.trans hS
      clear hS
      go_wp2_with fail
      refine (alive22_any _).mono ?_
      rintro e w3 ⟨rfl, hS⟩
      replace hx := hx.trans hS
      clear hS
      go_wp2
      go_ret
      exact Ret.mk hx
    | false =>
      obtain ⟨l1, t1, e1⟩ := long_tree d1
      rw [d1] at HL1
      clear d1
      subst e0 e1
      have L0 := Lib.hid l0
      have L1 := Lib.hid l1
      clear l0 l1
      by_cases h4 : 1 ≤ c ∧ c ≤ 4
      · go_enter Tryz.func5, Tryz.ntmps5
        go_wp2_with fail
        refine (HL0.out).mono ?_
        rintro e w1 ⟨rfl, hS⟩
        replace hx := hx.trans hS
        clear hS
        go_wp2_with fail
        refine (HL1.out _ hx).mono ?_
        rintro e w2 ⟨rfl, hS⟩
        replace hx := hx.trans hS
        clear hS
        go_wp2_with fail
        refine (of22_yes c h4 w2).mono ?_
        rintro e w3 ⟨P, rfl, st0⟩
        have st : St w P c 0 w3 := ⟨hx.trans st0.ext, Nat.le_trans hx.size st0.new, st0.sch⟩
        clear st0 hx
        obtain ⟨A, hA0⟩ : ∃ A : Tr, A = .nil := ⟨_, rfl⟩
        have hA : InH w3 A := by rw [hA0]; trivial
        have hB : InH w3 A := hA
        go_wp2_with fail
        refine (is22_any c _).mono ?_
        rintro e w4 ⟨rfl, hS⟩
        replace hA := hA.ext hS
        replace hB := hB.ext hS
        replace st := st.more hS
        clear hS
        rw [decide_eq_true h4]
        go_wp2_with fail
        refine (schName_any P c 0 w4 st.sch).mono ?_
        rintro e w5 ⟨x, rfl, BB, SS, rfl⟩
        replace st := st.does BB SS
        clear BB SS hA hB hA0
        go_wp2_with fail
        refine (name22_any c w5).mono ?_
        rw [nm22, if_pos h4]
        rintro e w6 ⟨rfl, hS⟩
        replace st := st.more hS
        clear hS
        go_wp2_with fail
        refine (schJoins_any P c 0 w6 st.sch).mono ?_
        rintro e w7 ⟨rfl, hS⟩
        replace st := st.more hS
        clear hS
        go_wp2_with fail
        refine (beadsMake_any t0 w7 _ (HB0.out.ext st.ext) L0.out).mono ?_
        rintro e w8 ⟨A, rfl, hA, fA, hS⟩
        replace st := st.more hS
        clear hS
        go_wp2_with fail
        refine (beadsMake_any t1 w8 _ (HB1.out.ext st.ext) L1.out).mono ?_
        rintro e w9 ⟨B, rfl, hB, fB, hS⟩
        replace st := st.more hS
        replace hA := hA.ext hS
        clear hS
        have HA := Lib.hid (And.intro fA (And.intro (fits_tagsOk t0 A fA W0.out) (fits_cnt fA)))
        have HB := Lib.hid (And.intro fB (And.intro (fits_tagsOk t1 B fB W1.out) (fits_cnt fB)))
        clear fA fB
        go_wp2_with fail
        refine (schCheck_any st.sch hA (fun _ => HA.out.2.1) (by have := HA.out.2.2; have := L0.out; unfold Tr.count at *; omega)).mono ?_
        rintro e w10 ⟨x, rfl, BB, SS, rfl⟩
        replace hA := st.sch.inh BB hA
        replace hB := st.sch.inh BB hB
        replace st := st.does BB SS
        clear BB SS
        go_wp2_with fail
        refine (check22_any c h4 t0 A w10 _ HA.out.1 (fun _ => HA.out.2.1) (HB0.out.ext st.ext) (by have := L0.out; omega)).mono ?_
        rintro e w11 ⟨rfl, hS⟩
        replace hA := hA.ext hS
        replace hB := hB.ext hS
        replace st := st.more hS
        clear hS
        cases ma : ((ckV c A).2 == 0) with
        | false =>
          go_wp2_with fail
          refine (may22_any c h4 t0 A w11 _ HA.out.1 (fun _ => HA.out.2.1) (HB0.out.ext st.ext) (by have := L0.out; omega)).mono ?_
          rw [ma]
          rintro e w12 ⟨rfl, hS⟩
          replace hA := hA.ext hS
          replace hB := hB.ext hS
          replace st := st.more hS
          clear hS ma
          go_wp2_with fail
          refine (schCode_any P c 0 _ st.sch).mono ?_
          rintro e w13 ⟨rfl, hS⟩
          replace hA := hA.ext hS
          replace hB := hB.ext hS
          replace st := st.more hS
          clear hS
          go_wp2_with fail
          refine (schPart_any st.sch hA (fun _ => HA.out.2.1) (by have := HA.out.2.2; have := L0.out; unfold Tr.count at *; omega)).mono ?_
          rintro e w14 ⟨x, rfl, BB, SS, rfl⟩
          replace hA := st.sch.inh BB hA
          replace hB := st.sch.inh BB hB
          replace st := st.does BB SS
          clear BB SS
          go_wp2_with fail
          refine (part22_any c h4 t0 A w14 _ HA.out.1 (fun _ => HA.out.2.1) (HB0.out.ext st.ext) (by have := L0.out; omega)).mono ?_
          rintro e w15 ⟨rfl, hS⟩
          replace hA := hA.ext hS
          replace hB := hB.ext hS
          replace st := st.more hS
          clear hS
          go_wp2_with fail
          refine (schRank_any st.sch hA (fun _ => HA.out.2.1) (by have := HA.out.2.2; have := L0.out; omega)).mono ?_
          rintro e w16 ⟨x, rfl, BB, SS, rfl⟩
          replace hA := st.sch.inh BB hA
          replace hB := st.sch.inh BB hB
          replace st := st.does BB SS
          clear BB SS
          go_wp2_with fail
          refine (rank22_any c h4 t0 A w16 _ HA.out.1 (fun _ => HA.out.2.1) (HB0.out.ext st.ext) (by have := L0.out; omega)).mono ?_
          rintro e w17 ⟨rfl, hS⟩
          replace hA := hA.ext hS
          replace hB := hB.ext hS
          replace st := st.more hS
          clear hS
          obtain ⟨ik, iv, ig, hi⟩ := itemV_agg c A
          go_wp2_with fail
          refine (schItem_any P c 0 w17 A st.sch hA).mono ?_
          rw [hi]
          rintro e w18 ⟨x, rfl, BB, SS, rfl⟩
          replace hA := st.sch.inh BB hA
          replace hB := st.sch.inh BB hB
          replace st := st.does BB SS
          clear BB SS
          go_wp2_with fail
          refine (item22_any c t0 A w18 _ HA.out.1 (HB0.out.ext st.ext) (by have := L0.out; omega)).mono ?_
          rw [hi]
          rintro e w19 ⟨rfl, hS⟩
          replace hA := hA.ext hS
          replace hB := hB.ext hS
          replace st := st.more hS
          clear hS hi
          go_wp2_with fail
          refine (nothing22_any _).mono ?_
          rintro e w30 ⟨rfl, hS⟩
          replace hA := hA.ext hS
          replace hB := hB.ext hS
          replace st := st.more hS
          clear hS
          go_wp2_with fail
          refine (alive22_any _).mono ?_
          rintro e w31 ⟨rfl, hS⟩
          replace hA := hA.ext hS
          replace hB := hB.ext hS
          replace st := st.more hS
          clear hS
          go_wp2
          go_ret
          exact Ret.mk st.ext
        | true =>
          go_wp2_with fail
          refine (may22_any c h4 t0 A w11 _ HA.out.1 (fun _ => HA.out.2.1) (HB0.out.ext st.ext) (by have := L0.out; omega)).mono ?_
          rw [ma]
          rintro e w11' ⟨rfl, hS⟩
          replace hA := hA.ext hS
          replace hB := hB.ext hS
          replace st := st.more hS
          clear hS
          go_wp2_with fail
          refine (may22_any c h4 t1 B w11' _ HB.out.1 (fun _ => HB.out.2.1) (HB1.out.ext st.ext) (by have := L1.out; omega)).mono ?_
          have MA := Lib.hid (mayC_of h4 (by have := HA.out.2.2; have := L0.out; omega) HA.out.2.1 (by simpa using ma)).part
          clear ma
          cases mb : ((ckV c B).2 == 0) with
          | false =>
            rintro e w12 ⟨rfl, hS⟩
            replace hA := hA.ext hS
            replace hB := hB.ext hS
            replace st := st.more hS
            clear hS mb
            go_wp2_with fail
            refine (schCode_any P c 0 _ st.sch).mono ?_
            rintro e w13 ⟨rfl, hS⟩
            replace hA := hA.ext hS
            replace hB := hB.ext hS
            replace st := st.more hS
            clear hS
            go_wp2_with fail
            refine (schPart_any st.sch hA (fun _ => HA.out.2.1) (by have := HA.out.2.2; have := L0.out; unfold Tr.count at *; omega)).mono ?_
            rintro e w14 ⟨x, rfl, BB, SS, rfl⟩
            replace hA := st.sch.inh BB hA
            replace hB := st.sch.inh BB hB
            replace st := st.does BB SS
            clear BB SS
            go_wp2_with fail
            refine (part22_any c h4 t0 A w14 _ HA.out.1 (fun _ => HA.out.2.1) (HB0.out.ext st.ext) (by have := L0.out; omega)).mono ?_
            rintro e w15 ⟨rfl, hS⟩
            replace hA := hA.ext hS
            replace hB := hB.ext hS
            replace st := st.more hS
            clear hS
            go_wp2_with fail
            refine (schRank_any st.sch hA (fun _ => HA.out.2.1) (by have := HA.out.2.2; have := L0.out; omega)).mono ?_
            rintro e w16 ⟨x, rfl, BB, SS, rfl⟩
            replace hA := st.sch.inh BB hA
            replace hB := st.sch.inh BB hB
            replace st := st.does BB SS
            clear BB SS
            go_wp2_with fail
            refine (rank22_any c h4 t0 A w16 _ HA.out.1 (fun _ => HA.out.2.1) (HB0.out.ext st.ext) (by have := L0.out; omega)).mono ?_
            rintro e w17 ⟨rfl, hS⟩
            replace hA := hA.ext hS
            replace hB := hB.ext hS
            replace st := st.more hS
            clear hS
            obtain ⟨ik, iv, ig, hi⟩ := itemV_agg c A
            go_wp2_with fail
            refine (schItem_any P c 0 w17 A st.sch hA).mono ?_
            rw [hi]
            rintro e w18 ⟨x, rfl, BB, SS, rfl⟩
            replace hA := st.sch.inh BB hA
            replace hB := st.sch.inh BB hB
            replace st := st.does BB SS
            clear BB SS
            go_wp2_with fail
            refine (item22_any c t0 A w18 _ HA.out.1 (HB0.out.ext st.ext) (by have := L0.out; omega)).mono ?_
            rw [hi]
            rintro e w19 ⟨rfl, hS⟩
            replace hA := hA.ext hS
            replace hB := hB.ext hS
            replace st := st.more hS
            clear hS hi
            go_wp2_with fail
            refine (nothing22_any _).mono ?_
            rintro e w30 ⟨rfl, hS⟩
            replace hA := hA.ext hS
            replace hB := hB.ext hS
            replace st := st.more hS
            clear hS
            go_wp2_with fail
            refine (alive22_any _).mono ?_
            rintro e w31 ⟨rfl, hS⟩
            replace hA := hA.ext hS
            replace hB := hB.ext hS
            replace st := st.more hS
            clear hS
            go_wp2
            go_ret
            exact Ret.mk st.ext
          | true =>
            have MB := Lib.hid (mayC_of h4 (by have := HB.out.2.2; have := L1.out; omega) HB.out.2.1 (by simpa using mb)).part
            rintro e w12 ⟨rfl, hS⟩
            replace hA := hA.ext hS
            replace hB := hB.ext hS
            replace st := st.more hS
            clear hS mb
            go_wp2_with fail
            refine (schCode_any P c 0 _ st.sch).mono ?_
            rintro e w13 ⟨rfl, hS⟩
            replace hA := hA.ext hS
            replace hB := hB.ext hS
            replace st := st.more hS
            clear hS
            go_wp2_with fail
            refine (schPart_any st.sch hA (fun _ => HA.out.2.1) (by have := HA.out.2.2; have := L0.out; unfold Tr.count at *; omega)).mono ?_
            rintro e w14 ⟨x, rfl, BB, SS, rfl⟩
            replace hA := st.sch.inh BB hA
            replace hB := st.sch.inh BB hB
            replace st := st.does BB SS
            clear BB SS
            go_wp2_with fail
            refine (part22_any c h4 t0 A w14 _ HA.out.1 (fun _ => HA.out.2.1) (HB0.out.ext st.ext) (by have := L0.out; omega)).mono ?_
            rintro e w15 ⟨rfl, hS⟩
            replace hA := hA.ext hS
            replace hB := hB.ext hS
            replace st := st.more hS
            clear hS
            go_wp2_with fail
            refine (schRank_any st.sch hA (fun _ => HA.out.2.1) (by have := HA.out.2.2; have := L0.out; omega)).mono ?_
            rintro e w16 ⟨x, rfl, BB, SS, rfl⟩
            replace hA := st.sch.inh BB hA
            replace hB := st.sch.inh BB hB
            replace st := st.does BB SS
            clear BB SS
            go_wp2_with fail
            refine (rank22_any c h4 t0 A w16 _ HA.out.1 (fun _ => HA.out.2.1) (HB0.out.ext st.ext) (by have := L0.out; omega)).mono ?_
            rintro e w17 ⟨rfl, hS⟩
            replace hA := hA.ext hS
            replace hB := hB.ext hS
            replace st := st.more hS
            clear hS
            obtain ⟨ik, iv, ig, hi⟩ := itemV_agg c A
            go_wp2_with fail
            refine (schItem_any P c 0 w17 A st.sch hA).mono ?_
            rw [hi]
            rintro e w18 ⟨x, rfl, BB, SS, rfl⟩
            replace hA := st.sch.inh BB hA
            replace hB := st.sch.inh BB hB
            replace st := st.does BB SS
            clear BB SS
            go_wp2_with fail
            refine (item22_any c t0 A w18 _ HA.out.1 (HB0.out.ext st.ext) (by have := L0.out; omega)).mono ?_
            rw [hi]
            rintro e w19 ⟨rfl, hS⟩
            replace hA := hA.ext hS
            replace hB := hB.ext hS
            replace st := st.more hS
            clear hS hi
            go_wp2_with fail
            refine (schMost_any st.sch hA hB MA.out MB.out (by have := HA.out.2.2; have := L0.out; have := HB.out.2.2; have := L1.out; omega)).mono ?_
            rintro e w20 ⟨x, rfl, BB, SS, rfl⟩
            replace hA := st.sch.inh BB hA
            replace hB := st.sch.inh BB hB
            replace st := st.does BB SS
            clear BB SS
            go_wp2_with fail
            refine (most22_any c h4 w20 _ _ t0 t1 A B HA.out.1 HB.out.1 (HB0.out.ext st.ext) (HB1.out.ext st.ext) MA.out MB.out L0.out L1.out).mono ?_
            rintro e w21 ⟨rfl, hS⟩
            replace hA := hA.ext hS
            replace hB := hB.ext hS
            replace st := st.more hS
            clear hS
            go_wp2_with fail
            refine (nothing22_any _).mono ?_
            rintro e w30 ⟨rfl, hS⟩
            replace hA := hA.ext hS
            replace hB := hB.ext hS
            replace st := st.more hS
            clear hS
            go_wp2_with fail
            refine (alive22_any _).mono ?_
            rintro e w31 ⟨rfl, hS⟩
            replace hA := hA.ext hS
            replace hB := hB.ext hS
            replace st := st.more hS
            clear hS
            go_wp2
            go_ret
            exact Ret.mk st.ext
      · go_enter Tryz.func5, Tryz.ntmps5
        go_wp2_with fail
        refine (HL0.out).mono ?_
        rintro e w1 ⟨rfl, hS⟩
        replace hx := hx.trans hS
        clear hS
        go_wp2_with fail
        refine (HL1.out _ hx).mono ?_
        rintro e w2 ⟨rfl, hS⟩
        replace hx := hx.trans hS
        clear hS
        go_wp2_with fail
        refine (of22_no c hc h4 w2).mono ?_
        rintro e w3 ⟨rfl, hS⟩
        replace hx := hx.trans hS
        clear hS
        go_wp2_with fail
        refine (is22_any c w3).mono ?_
        rw [decide_eq_false h4]
        rintro e w4 ⟨rfl, hS⟩
        replace hx := hx.trans hS
        clear hS
        go_wp2_with fail
        refine (nilName_any w4).mono ?_
        rintro e w5 ⟨rfl, hS⟩
        replace hx := hx.trans hS
        clear hS
        have hnm : nm22 c = #[] := by unfold nm22; rw [if_neg h4]
        go_wp2_with fail
        refine (name22_any c w5).mono ?_
        rw [hnm]
        rintro e w6 ⟨rfl, hS⟩
        replace hx := hx.trans hS
        clear hS
        go_wp2_with fail
        refine (nilJoins_any w6).mono ?_
        rintro e w7 ⟨rfl, hS⟩
        replace hx := hx.trans hS
        clear hS
        go_wp2_with fail
        refine (nothing22_any _).mono ?_
        rintro e w8 ⟨rfl, hS⟩
        replace hx := hx.trans hS
        clear hS
        go_wp2_with fail
        refine (alive22_any _).mono ?_
        rintro e w9 ⟨rfl, hS⟩
        replace hx := hx.trans hS
        clear hS
        go_wp2
        go_ret
        exact Ret.mk hx
theorem u8_nat {c : Int} (h : (Lit.int .u8 c).wf = true) : ∃ m : Nat, c = m ∧ m < 256 := by
  have g0 : 0 ≤ c ∧ c < 256 := by simp [Lit.wf, show IntKind.u8.min = 0 from rfl, show IntKind.u8.max = 255 from rfl] at h; omega
  obtain ⟨m, rfl⟩ := Int.eq_ofNat_of_zero_le g0.1
  exact ⟨m, rfl, by omega⟩
theorem schemeTells_row (c : Int) (a0 : Option Addr) (len0 cap0 : Nat) (z0 : List BeadL) (a1 : Option Addr) (len1 cap1 : Nat) (z1 : List BeadL) (w : World) (hc : (Lit.int .u8 c).wf = true) (w0 : IsBeads w (.slice a0 len0 cap0) z0) (w1 : IsBeads w (.slice a1 len1 cap1) z1) :
    Calls Tryz.prog 5 #[.int .u8 c, .slice a0 len0 cap0, .slice a1 len1 cap1] w (Ret (.bool true) w) := by
  obtain ⟨m, rfl, hm⟩ := u8_nat hc
  exact schemeTells_walk m hm a0 len0 cap0 z0 a1 len1 cap1 z1 w w0 w1
end Go.Proofs.YtkkdobolloojjaaGreat
namespace Go.Proofs.YtkkdobolloojjaaGreat
open Go Go.ChangeShapes Go.WideShapes Go.Deep
section
variable {H : Type} {enc : TypeId × Value → H} {P : Program} {w : World} {base : Nat} {spare : Nat → Bool} {held : Bool}
theorem open_slice_fields {t e : TypeId} {fs : Array Field} {fuel : Nat} {cs : List Value} {x : DataW H × List MemPlace} (ht : P.underlying t = some (.slice e)) (he : P.underlying e = some (.struct fs))
    (hone : oneCellFields P fs = true) (hC : P.cellsOf e = fs.size) (h : DataW.trod enc P w base spare held fuel t cs = some x) :
    (cs = [.slice none 0 0] ∧ x = (.nil, [])) ∨
    ∃ (a : Addr) (len cap m : Nat) (D : Nat → DataW H) (Pl : Nat → List MemPlace), cs = [.slice (some a) len cap] ∧ base ≤ a.block ∧ len ≤ cap ∧ cap ≤ maxLen ∧ m = (if spare a.block then cap else len) ∧
      x = (.slice ((List.range len).map D) ((List.range (m - len)).map fun j => D (len + j)), MemPlace.row a (m * fs.size) ++ (List.range m).flatMap Pl) ∧
      ∀ i, i < m → ∃ (ys : List (DataW H × List MemPlace)) (n : Nat), D i = .agg (ys.map (·.1)) ∧ Pl i = ys.flatMap (·.2) ∧ ys.length = fs.size ∧
        ∀ (j : Nat) (f : Field), fs[j]? = some f → ∃ (v : Value) (y : DataW H × List MemPlace), w.cell? (a.add (i * fs.size + j)) = some v ∧ ys[j]? = some y ∧ DataW.trod enc P w base spare held n f.type [v] = some y := by
  rcases open_slice ht h with h0 | ⟨a, len, cap, m, n, D, Pl, hcs, hb, hl, hm, hmm, hx, hi⟩
  · exact .inl h0
  · refine .inr ⟨a, len, cap, m, D, Pl, hcs, hb, hl, hm, hmm, by rw [hC] at hx; exact hx, fun i him => ?_⟩
    obtain ⟨cs', hc, ht'⟩ := hi i him
    rw [hC] at hc
    obtain ⟨ys, n', hn', hy, hlen, hyl, hf⟩ := DataW.trod_struct he ht'
    obtain ⟨_, hcl, hat⟩ := World.cells?_some hc
    simp only [Prod.mk.injEq] at hy
    refine ⟨ys, n', hy.1, hy.2, hyl, fun j f hj => ?_⟩
    obtain ⟨ho, hk⟩ := hone_of hone j f hj
    have hjl : j < fs.size := (Array.getElem?_eq_some_iff.1 hj).1
    have hcell := hat j hjl
    have hv : cs'[j]? = some (cs'[j]'(by omega)) := List.getElem?_eq_getElem (by omega)
    have h1 := hf j f hj
    rw [ho, hk] at h1
    have hone' : (cs'.drop j).take 1 = [cs'[j]'(by omega)] := by
      rw [List.drop_eq_getElem_cons (by omega)]
      rfl
    rw [hone'] at h1
    have hys : ys[j]? = some (ys[j]'(by omega)) := List.getElem?_eq_getElem (by omega)
    refine ⟨_, _, ?_, hys, h1.trans hys⟩
    rw [← Go.Deep.add_add, hcell, hv]
end

theorem open_beads {H : Type} {enc : TypeId × Value → H} {w : World} {base : Nat} {spare : Nat → Bool} {held : Bool} {a : Option Addr} {len cap : Nat} {d : DataW H} {q : List MemPlace}
    (h : DataW.Trod enc Tryz.prog w base spare held 31 (.slice a len cap) d q) : ∃ zs, IsBeads w (.slice a len cap) zs := by
  obtain ⟨fuel, hf⟩ := h
  rcases open_slice_fields Tryz.underlying31 Tryz.underlying96 (by kernel_rfl) (by kernel_rfl) hf with ⟨hcs, _⟩ | ⟨x, l, c, m, D, Pl, hcs, _, hl, hm, hmm, _, hi⟩
  · simp [Value.cells] at hcs
    obtain ⟨rfl, rfl, rfl⟩ := hcs
    exact ⟨[], .inl ⟨rfl, _, _, rfl⟩, by simp⟩
  · simp [Value.cells] at hcs
    obtain ⟨rfl, rfl, rfl⟩ := hcs
    have hlm : len ≤ m := by rw [hmm]; split <;> omega
    have hz : ∀ i, ∃ z : BeadL, z.wf ∧ (i < len → ∀ j u, z.cells[j]? = some u → w.cell? (x.add (i * 7 + j)) = some u) := by
      intro i
      by_cases hil : i < len
      · obtain ⟨ys, n, _, _, _, hfi⟩ := hi i (by omega)
        obtain ⟨v0, y0, c0, _, t0⟩ := hfi 0 _ rfl
        obtain ⟨v1, y1, c1, _, t1⟩ := hfi 1 _ rfl
        obtain ⟨v2, y2, c2, _, t2⟩ := hfi 2 _ rfl
        obtain ⟨v3, y3, c3, _, t3⟩ := hfi 3 _ rfl
        obtain ⟨v4, y4, c4, _, t4⟩ := hfi 4 _ rfl
        obtain ⟨v5, y5, c5, _, t5⟩ := hfi 5 _ rfl
        obtain ⟨v6, y6, c6, _, t6⟩ := hfi 6 _ rfl
        obtain ⟨n0, h0, -, f0⟩ := DataW.trod_int (k := .i64) Tryz.underlying2 t0
        obtain ⟨n1, h1, -, f1⟩ := DataW.trod_int (k := .i64) Tryz.underlying2 t1
        obtain ⟨n2, h2, -, f2⟩ := DataW.trod_int (k := .i64) Tryz.underlying2 t2
        obtain ⟨n3, h3, -, f3⟩ := DataW.trod_int (k := .i64) Tryz.underlying3 t3
        obtain ⟨n4, h4, -, f4⟩ := DataW.trod_int (k := .u64) Tryz.underlying38 t4
        obtain ⟨n5, h5, -⟩ := DataW.trod_bool Tryz.underlying4 t5
        obtain ⟨n6, h6, -⟩ := DataW.trod_bool Tryz.underlying4 t6
        simp only [List.cons.injEq, and_true] at h0 h1 h2 h3 h4 h5 h6
        subst h0 h1 h2 h3 h4 h5 h6
        refine ⟨⟨n0, n1, n2, n3, n4, n5, n6⟩, ⟨f0, f1, f2, f3, f4⟩, fun _ j u hj => ?_⟩
        match j, hj with
        | 0, hj => cases hj; exact c0
        | 1, hj => cases hj; exact c1
        | 2, hj => cases hj; exact c2
        | 3, hj => cases hj; exact c3
        | 4, hj => cases hj; exact c4
        | 5, hj => cases hj; exact c5
        | 6, hj => cases hj; exact c6
        | j + 7, hj => simp [BeadL.cells] at hj
      · exact ⟨⟨0, 0, 0, 0, 0, false, false⟩, ⟨by decide, by decide, by decide, by decide, by decide⟩, fun h => absurd h hil⟩
    obtain ⟨f, hfz⟩ := Classical.axiomOfChoice hz
    by_cases h0 : len = 0
    · subst h0
      exact ⟨[], .inl ⟨rfl, _, _, rfl⟩, by simp⟩
    · obtain ⟨b, off, spot⟩ := x
      have hsp := (hfz 0).2 (by omega) 0 _ rfl
      obtain rfl : spot = none := by simpa [Addr.add] using World.cell?_spot hsp
      refine ⟨(List.range len).map f, .inr ⟨b, off, cap, by simp, by simp; omega, by simpa using hl, ?_⟩, ?_⟩
      rotate_left
      · intro z hz
        obtain ⟨i, _, rfl⟩ := List.mem_map.1 hz
        exact (hfz i).1
      intro q u hq
      have hlt : q < (beadCells ((List.range len).map f)).length := (List.getElem?_eq_some_iff.1 hq).1
      rw [beadCells_len, List.length_map, List.length_range] at hlt
      obtain ⟨i, j, rfl, hj⟩ : ∃ i j, q = i * 7 + j ∧ j < 7 := ⟨q / 7, q % 7, by omega, by omega⟩
      have hil : i < len := by omega
      rw [beadCells_at _ i (f i) j (by simp [hil]) hj] at hq
      have := (hfz i).2 hil j u hq
      rwa [Addr.add_mid] at this
end Go.Proofs.YtkkdobolloojjaaGreat
