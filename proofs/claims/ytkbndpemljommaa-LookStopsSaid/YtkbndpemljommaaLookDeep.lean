/- look.Deep. -/
import Derived.Test.YtkbndpemljommaaLookAll
import Derived.Test.YtkbndpemljommaaDraw3
import Derived.WalkMore
import Derived.Test.YtkbndpemljommaaCells
namespace Go.Proofs.Ytkbndpemljommaa
open Go Go.RowKit

/-- how deep the first node is that has a key. -/
def deepF (key : Int) : Tr → Int × Bool
  | .nil => (0, false)
  | .node _ l k _ _ r => if (deepF key l).2 then (wrap64 ((deepF key l).1 + 1), true) else if k == key then (1, true) else if (deepF key r).2 then (wrap64 ((deepF key r).1 + 1), true) else (0, false)
set_option maxHeartbeats 1000000 in
theorem deep1_any
 (key : Int) (b : Nat) (l : Tr) (k v g : Int) (r : Tr) (bt bk : Nat) (W : World) (hT : InH W (.node b l k v g r)) (ht : Boxed W bt 25 (.pointer (Tr.node b l k v g r).ptr)) (hk : Boxed W bk 2 (.int .i64 key))
    (IH : ∀ (w : World), InH w l → Calls Try.prog 15 #[.pointer (l).ptr, .int .i64 key] w (Ret (.tuple #[.int .i64 (deepF key l).1, .bool (deepF key l).2]) w)) :
    Calls Try.prog 27 #[.pointer (some ⟨bt, 0, none⟩), .pointer (some ⟨bk, 0, none⟩)] W (Ret (.tuple #[.int .i64 (deepF key l).1, .bool (deepF key l).2]) W) := by
  have hfn : ∀ f, Fence.wide.fn f := fun _ => trivial
  obtain ⟨mm⟩ : Nonempty Nat := ⟨0⟩
  have c0 := cell_all ht.cell
  have c1 := cell_all hk.cell
  have HT := Lib.hid hT
  have HI := Lib.hid IH
  have hx := Ext.drew W
  clear hT ht hk IH
  go_enter Try.func27, Try.ntmps27
  go_wp2_with fail
  refine (wpIn_wide (n := mm)).1 ?_
  gi_wp2_with fail
  refine wpIn_region_G (fun j => !(List.contains (α := Nat) [] j)) (by kernel_rfl) ?_
  refine batchG hfn (fuel := 6) [0, 2] (by kernel_rfl) rfl ?_
  repeat (go_big_quiet_step ((fail)))
  refine wpQuiet_nil ?_
  clear c0 c1
  refine wpAnyG_one (j := 1) (by kernel_rfl) rfl ?_
  gi_wp2_with fail
  refine ⟨wide_room _, (callsIn_wide.2 (left_any _ _ (HT.out.ext hx))).mono ?_⟩
  rintro e W1 ⟨rfl, h1⟩
  gi_wp2_with fail
  refine onePost_ext (h1) ?_
  replace hx := hx.trans h1
  clear h1
  refine wpAnyG_one (j := 3) (by kernel_rfl) rfl ?_
  gi_wp2_with fail
  simp only [Tr.left_node]
  refine ⟨wide_room _, (callsIn_wide.2 (HI.out W1 (HT.out.ext hx).2.1)).mono ?_⟩
  rintro e W2 ⟨rfl, h2⟩
  gi_wp2_with fail
  refine onePost_ext (h2) ?_
  refine batchG hfn (fuel := 0) [4, 5, 6, 7] (by kernel_rfl) rfl ?_
  repeat (go_big_quiet_step ((fail)))
  refine wpQuiet_nil ?_
  refine wpAnyG_done (by kernel_rfl) ?_
  refine calmQ_normal ?_
  go_wp2
  exact bodyPost_ret (v := .tuple #[_, _]) (by simp [results, Try.results27, go_sem]) rfl ⟨rfl, hx.trans h2⟩
set_option maxHeartbeats 1000000 in
theorem deep3_any
 (key : Int) (b : Nat) (l : Tr) (k v g : Int) (r : Tr) (bt bk : Nat) (W : World) (hT : InH W (.node b l k v g r)) (ht : Boxed W bt 25 (.pointer (Tr.node b l k v g r).ptr)) (hk : Boxed W bk 2 (.int .i64 key))
    (IH : ∀ (w : World), InH w r → Calls Try.prog 15 #[.pointer (r).ptr, .int .i64 key] w (Ret (.tuple #[.int .i64 (deepF key r).1, .bool (deepF key r).2]) w)) :
    Calls Try.prog 30 #[.pointer (some ⟨bt, 0, none⟩), .pointer (some ⟨bk, 0, none⟩)] W (Ret (.tuple #[.int .i64 (deepF key r).1, .bool (deepF key r).2]) W) := by
  have hfn : ∀ f, Fence.wide.fn f := fun _ => trivial
  obtain ⟨mm⟩ : Nonempty Nat := ⟨0⟩
  have c0 := cell_all ht.cell
  have c1 := cell_all hk.cell
  have HT := Lib.hid hT
  have HI := Lib.hid IH
  have hx := Ext.drew W
  clear hT ht hk IH
  go_enter Try.func30, Try.ntmps30
  go_wp2_with fail
  refine (wpIn_wide (n := mm)).1 ?_
  gi_wp2_with fail
  refine wpIn_region_G (fun j => !(List.contains (α := Nat) [] j)) (by kernel_rfl) ?_
  refine batchG hfn (fuel := 6) [0, 2] (by kernel_rfl) rfl ?_
  repeat (go_big_quiet_step ((fail)))
  refine wpQuiet_nil ?_
  clear c0 c1
  refine wpAnyG_one (j := 1) (by kernel_rfl) rfl ?_
  gi_wp2_with fail
  refine ⟨wide_room _, (callsIn_wide.2 (right_any _ _ (HT.out.ext hx))).mono ?_⟩
  rintro e W1 ⟨rfl, h1⟩
  gi_wp2_with fail
  refine onePost_ext (h1) ?_
  replace hx := hx.trans h1
  clear h1
  refine wpAnyG_one (j := 3) (by kernel_rfl) rfl ?_
  gi_wp2_with fail
  simp only [Tr.right_node]
  refine ⟨wide_room _, (callsIn_wide.2 (HI.out W1 (HT.out.ext hx).2.2)).mono ?_⟩
  rintro e W2 ⟨rfl, h2⟩
  gi_wp2_with fail
  refine onePost_ext (h2) ?_
  refine batchG hfn (fuel := 0) [4, 5, 6, 7] (by kernel_rfl) rfl ?_
  repeat (go_big_quiet_step ((fail)))
  refine wpQuiet_nil ?_
  refine wpAnyG_done (by kernel_rfl) ?_
  refine calmQ_normal ?_
  go_wp2
  exact bodyPost_ret (v := .tuple #[_, _]) (by simp [results, Try.results30, go_sem]) rfl ⟨rfl, hx.trans h2⟩
set_option maxHeartbeats 1000000 in
theorem deep2_any (key : Int) (b : Nat) (l : Tr) (k v g : Int) (r : Tr) (bt bk : Nat) (W : World) (hT : InH W (.node b l k v g r)) (ht : Boxed W bt 25 (.pointer (Tr.node b l k v g r).ptr)) (hk : Boxed W bk 2 (.int .i64 key)) :
    Calls Try.prog 28 #[.pointer (some ⟨bt, 0, none⟩), .pointer (some ⟨bk, 0, none⟩)] W (Ret (.tuple #[.int .i64 0, .bool (k == key)]) W) := by
  have hfn : ∀ f, Fence.wide.fn f := fun _ => trivial
  obtain ⟨mm⟩ : Nonempty Nat := ⟨0⟩
  have c0 := cell_all ht.cell
  have c1 := cell_all hk.cell
  have HT := Lib.hid hT
  have hx := Ext.drew W
  clear hT ht hk
  go_enter Try.func28, Try.ntmps28
  go_wp2_with fail
  refine (wpIn_wide (n := mm)).1 ?_
  gi_wp2_with fail
  refine wpIn_region_G (fun j => !(List.contains (α := Nat) [] j)) (by kernel_rfl) ?_
  refine batchG hfn (fuel := 4) [0, 2] (by kernel_rfl) rfl ?_
  repeat (go_big_quiet_step ((fail)))
  refine wpQuiet_nil ?_
  clear c0 c1
  refine wpAnyG_one (j := 1) (by kernel_rfl) rfl ?_
  gi_wp2_with fail
  refine ⟨wide_room _, (callsIn_wide.2 (key_any _ _ (HT.out.ext hx))).mono ?_⟩
  rintro e W1 ⟨rfl, h1⟩
  gi_wp2_with fail
  refine onePost_ext (h1) ?_
  replace hx := hx.trans h1
  clear h1
  refine batchG hfn (fuel := 0) [3, 4, 5] (by kernel_rfl) rfl ?_
  repeat (go_big_quiet_step ((fail)))
  refine wpQuiet_nil ?_
  refine wpAnyG_done (by kernel_rfl) ?_
  refine calmQ_normal ?_
  go_wp2
  exact bodyPost_ret (v := .tuple #[_, _]) (by simp [results, Try.results28, go_sem, Tr.key]) rfl ⟨rfl, hx⟩
def sideV (f N : Nat) : Value := .func (.func f) #[] #[.pointer (some ⟨N, 0, none⟩), .pointer (some ⟨N + 1, 0, none⟩)]
set_option maxHeartbeats 2000000 in
theorem deep_any (key : Int) (T : Tr) : ∀ (w : World), InH w T → Calls Try.prog 15 #[.pointer T.ptr, .int .i64 key] w (Ret (.tuple #[.int .i64 (deepF key T).1, .bool (deepF key T).2]) w) := by
  induction T with
  | nil =>
    intro w _
    rw [Tr.ptr_nil]
    go_enter Try.func15, Try.ntmps15
    go_wp2
    go_step3
    go_wp2
    rw [Exit.noGoto_ret]
    exact bodyPost_ret (v := .tuple #[.int .i64 0, .bool false]) (by simp [results, Try.results15, go_sem]) rfl ⟨rfl, ((Ext.refl w).alloc _).alloc _⟩
  | node b l k v g r ihl ihr =>
    intro w hT
    have hE := ((Ext.refl w).alloc (.cells #[.pointer (Tr.node b l k v g r).ptr] 25)).alloc (.cells #[.int .i64 key] 2)
    have hbt : Boxed ((w.alloc (.cells #[.pointer (Tr.node b l k v g r).ptr] 25)).alloc (.cells #[.int .i64 key] 2)) w.heap.size 25 (.pointer (Tr.node b l k v g r).ptr) := ((Ext.refl _).alloc (.cells #[.int .i64 key] 2)).get (alloc_at w (.cells #[.pointer (Tr.node b l k v g r).ptr] 25) _ rfl)
    have hbk : Boxed ((w.alloc (.cells #[.pointer (Tr.node b l k v g r).ptr] 25)).alloc (.cells #[.int .i64 key] 2)) (w.heap.size + 1) 2 (.int .i64 key) := alloc_at _ _ _ (by simp)
    have HB := Lib.hid (And.intro hE (And.intro hbt (And.intro hbk hT)))
    have Hl := Lib.hid ihl
    have Hr := Lib.hid ihr
    have hct := hbt.cell
    clear ihl ihr hE hbt hbk hT
    have hmf : ∀ (fn : Fn) (first cap : Array Value) (w : World), (Instr.makeFunc fn first cap).run Try.prog w = .ok (.func fn first cap) w := fun _ _ _ _ => rfl
    rw [Tr.ptr_node] at hct HB ⊢
    go_enter Try.func15, Try.ntmps15
    go_wp2
    go_step3
    go_wp2
    go_step3
    have hrow := alloc_at ((w.alloc (.cells #[.pointer (some ⟨b, 0, none⟩)] 25)).alloc (.cells #[.int .i64 key] 2)) (.cells #[sideV 27 w.heap.size, sideV 28 w.heap.size, sideV 30 w.heap.size] 61) _ rfl
    have hE3 := (Ext.refl ((w.alloc (.cells #[.pointer (some ⟨b, 0, none⟩)] 25)).alloc (.cells #[.int .i64 key] 2))).alloc (.cells #[sideV 27 w.heap.size, sideV 28 w.heap.size, sideV 30 w.heap.size] 61)
    rw [show ((w.alloc (.cells #[.pointer (some ⟨b, 0, none⟩)] 25)).alloc (.cells #[.int .i64 key] 2)).heap.size = w.heap.size + 1 + 1 by simp] at hrow
    have HW := Lib.hid (And.intro (HB.out.1.trans hE3) (And.intro (hE3.get HB.out.2.1) (And.intro (hE3.get HB.out.2.2.1) (And.intro (HB.out.2.2.2.ext (HB.out.1.trans hE3)) hrow))))
    unfold sideV at HW
    clear hrow hE3 HB hct
    go_wp2_with fail
    generalize (((w.alloc (.cells #[.pointer (some ⟨b, 0, none⟩)] 25)).alloc (.cells #[.int .i64 key] 2)).alloc _) = w3 at *
    go_loopw [18] (fun i W => ∃ j : Nat, i = .int .i64 (j : Nat) ∧ Hid (Ext w3 W ∧ j ≤ 2 ∧ (1 ≤ j → (deepF key l).2 = false) ∧ (2 ≤ j → (k == key) = false))) (fun i _ => 3 - (intOf i).toNat)
    case atStart => exact ⟨0, rfl, Lib.hid ⟨Ext.refl _, by omega, fun h => by omega, fun h => by omega⟩⟩
    case round =>
      obtain ⟨j, rfl, HJ⟩ := hrel
      obtain ⟨c0, c1, c2, -⟩ := blk3 (HJ.out.1.get HW.out.2.2.2.2)
      have HX := Lib.hid (HW.out.1.trans HJ.out.1)
      obtain rfl | rfl | rfl : j = 0 ∨ j = 1 ∨ j = 2 := by have := HJ.out.2.1; omega
      · go_wp2_with fail
        refine (deep1_any key b l k v g r _ _ wr (HW.out.2.2.2.1.ext HJ.out.1) (HJ.out.1.get HW.out.2.1) (HJ.out.1.get HW.out.2.2.1) Hl.out).mono ?_
        clear c0 c1 c2
        cases hd : (deepF key l).2 with
        | true =>
          have HD := Lib.hid (show deepF key (.node b l k v g r) = (wrap64 ((deepF key l).1 + 1), true) by simp [deepF, hd])
          clear hd
          rintro e w4 ⟨rfl, h4⟩
          go_wp2
          rw [HD.out, Exit.noGoto_ret]
          exact bodyPost_ret (v := .tuple #[_, _]) (by simp [results, Try.results15, go_sem]) rfl ⟨rfl, HX.out.trans h4⟩
        | false =>
          have HD := Lib.hid hd
          clear hd
          rintro e w4 ⟨rfl, h4⟩
          go_wp2
          exact ⟨⟨1, rfl, Lib.hid ⟨HJ.out.1.trans h4, by omega, fun _ => HD.out, fun h => by omega⟩⟩, by simp [intOf]⟩
      · go_wp2_with fail
        refine (deep2_any key b l k v g r _ _ wr (HW.out.2.2.2.1.ext HJ.out.1) (HJ.out.1.get HW.out.2.1) (HJ.out.1.get HW.out.2.2.1)).mono ?_
        clear c0 c1 c2
        cases hd : (k == key) with
        | true =>
          have HD := Lib.hid (show deepF key (.node b l k v g r) = (1, true) by simp [deepF, hd, HJ.out.2.2.1 (Nat.le_refl _)])
          clear hd
          rintro e w4 ⟨rfl, h4⟩
          go_wp2
          rw [HD.out, Exit.noGoto_ret]
          exact bodyPost_ret (v := .tuple #[_, _]) (by simp [results, Try.results15, go_sem]) rfl ⟨rfl, HX.out.trans h4⟩
        | false =>
          have HD := Lib.hid hd
          clear hd
          rintro e w4 ⟨rfl, h4⟩
          go_wp2
          exact ⟨⟨2, rfl, Lib.hid ⟨HJ.out.1.trans h4, by omega, fun _ => HJ.out.2.2.1 (Nat.le_refl _), fun _ => HD.out⟩⟩, by simp [intOf]⟩
      · go_wp2_with fail
        refine (deep3_any key b l k v g r _ _ wr (HW.out.2.2.2.1.ext HJ.out.1) (HJ.out.1.get HW.out.2.1) (HJ.out.1.get HW.out.2.2.1) Hr.out).mono ?_
        clear c0 c1 c2
        cases hd : (deepF key r).2 with
        | true =>
          have HD := Lib.hid (show deepF key (.node b l k v g r) = (wrap64 ((deepF key r).1 + 1), true) by simp [deepF, hd, HJ.out.2.2.1 (by decide), HJ.out.2.2.2 (Nat.le_refl _)])
          clear hd
          rintro e w4 ⟨rfl, h4⟩
          go_wp2
          rw [HD.out, Exit.noGoto_ret]
          exact bodyPost_ret (v := .tuple #[_, _]) (by simp [results, Try.results15, go_sem]) rfl ⟨rfl, HX.out.trans h4⟩
        | false =>
          have HD := Lib.hid (show deepF key (.node b l k v g r) = (0, false) by simp [deepF, hd, HJ.out.2.2.1 (by decide), HJ.out.2.2.2 (Nat.le_refl _)])
          clear hd
          rintro e w4 ⟨rfl, h4⟩
          go_wp2
          rw [HD.out, Exit.noGoto_ret]
          exact bodyPost_ret (v := .tuple #[_, _]) (by simp [results, Try.results15, go_sem]) rfl ⟨rfl, HX.out.trans h4⟩
end Go.Proofs.Ytkbndpemljommaa
