/- joinerylaw06.alive. -/
import Derived.Test.YteibbdieckephaaSift7
namespace Go.Proofs.Yteibbdieckephaa
open Go Go.RowKit

theorem pair_v (w : World) (k : Int) : Calls Try.prog 17 #[.int .i64 k] w (Ret (.agg #[.int .i64 k, .int .i64 0]) w) := pair_any w k
theorem takes_v (w : World) (kd : Nat) (a b : Int) (nt : Bool) (k v : Int) (hk : kd < 256) (t : Bool) (ht : sTakes kd a b nt k v = t) : Calls Try.prog 12 #[.agg #[.int .u8 kd, .int .i64 a, .int .i64 b, .bool nt], .agg #[.int .i64 k, .int .i64 v]] w (Ret (.bool t) w) := by
  rw [← ht]; exact siftTakes_any w kd a b nt k v hk
theorem may_v (w : World) (kd : Nat) (a b : Int) (nt : Bool) (hk : kd < 256) (t : Bool) (ht : sMay kd a b = t) : Calls Try.prog 10 #[.agg #[.int .u8 kd, .int .i64 a, .int .i64 b, .bool nt]] w (Ret (.bool t) w) := by
  rw [← ht]; exact siftMay_any w kd a b nt hk
set_option maxRecDepth 100000 in
set_option maxHeartbeats 4000000 in
theorem alive06_any (w : World) : Calls Try.prog 6 #[] w (Ret (.bool true) w) := by
  have hfn : ∀ f, Fence.wide.fn f := fun _ => trivial
  have t1 := Lib.hid (fun W => takes_v W 4 3 2 false (-1) 0 (by decide) true (by decide +kernel))
  have t2 := Lib.hid (fun W => takes_v W 4 3 2 false 5 0 (by decide) true (by decide +kernel))
  have t3 := Lib.hid (fun W => takes_v W 4 3 2 false 0 0 (by decide) false (by decide +kernel))
  have t4 := Lib.hid (fun W => takes_v W 4 3 2 true 0 0 (by decide) true (by decide +kernel))
  have t5 := Lib.hid (fun W => takes_v W 5 3 1 false (-3) 0 (by decide) true (by decide +kernel))
  have t6 := Lib.hid (fun W => takes_v W 5 3 1 false 3 0 (by decide) false (by decide +kernel))
  have t7 := Lib.hid (fun W => may_v W 5 1 2 false (by decide) false (by decide +kernel))
  have tn := Lib.hid (fun W => not_any W 4 3 2 false)
  have tk := Lib.hid (fun W p hp => keep_any W 2 5 4 false p [(4, 0), (5, 0)] (by decide) hp (by decide))
  have hk0 := Lib.hid (show (if sMay 2 5 4 then [((4 : Int), (0 : Int)), (5, 0)].filter (fun z => sTakes 2 5 4 false z.1 z.2) else []) = [] by decide +kernel)
  have hk1 := Lib.hid (show eMay 2 5 4 = 0 by decide +kernel)
  obtain ⟨w1, hw1⟩ : ∃ w1, w1 = (w.alloc (.cells #[.int .u8 4, .int .i64 3, .int .i64 2, .bool false] 23)).alloc (.cells #[.int .u8 5, .int .i64 3, .int .i64 1, .bool false] 23) := ⟨_, rfl⟩
  have hE : Ext w w1 := by rw [hw1]; exact ((Ext.refl w).alloc _).alloc _
  have hb0 : w1.heap[w.heap.size]? = some (.cells #[.int .u8 4, .int .i64 3, .int .i64 2, .bool false] 23 (0, 0)) := by rw [hw1, alloc_lt _ _ _ (by simp)]; exact alloc_at _ _ _ rfl
  have hb1 : w1.heap[w.heap.size + 1]? = some (.cells #[.int .u8 5, .int .i64 3, .int .i64 1, .bool false] 23 (0, 0)) := by rw [hw1]; exact alloc_at _ _ _ (by simp)
  have HW := Lib.hid hw1
  clear hw1
  go_enter Try.func6, Try.ntmps6
  obtain ⟨m⟩ : Nonempty Nat := ⟨0⟩
  refine (wpIn_wide (n := m)).1 ?_
  gi_wp2_with fail
  rw [← HW.out]
  clear HW
  refine ⟨wide_room _, (callsIn_wide.2 (pair_v _ 4)).mono ?_⟩
  rintro e w2 ⟨rfl, h2⟩
  gi_wp2_with fail
  refine ⟨wide_room _, (callsIn_wide.2 (pair_v _ 5)).mono ?_⟩
  rintro e w3 ⟨rfl, h3⟩
  have h13 := h2.trans h3
  clear h2 h3
  gi_wp2_with fail
  have hE4 := (Ext.refl w3).alloc (.cells #[.int .i64 4, .int .i64 0, .int .i64 5, .int .i64 0] 25)
  have hrow : PRow (w3.alloc (.cells #[.int .i64 4, .int .i64 0, .int .i64 5, .int .i64 0] 25)) (.slice (some ⟨w3.heap.size, 0, none⟩) 2 2) [(4, 0), (5, 0)] :=
    .inr ⟨_, 0, 2, rfl, by simp, by simp, fun q u hq => by
      rw [Nat.zero_add, cell_of (alloc_at w3 (.cells #[.int .i64 4, .int .i64 0, .int .i64 5, .int .i64 0] 25) _ rfl) q]
      simpa [pairCells, pcells] using hq⟩
  refine ⟨wide_room _, (callsIn_wide.2 (tk.out _ _ hrow)).mono ?_⟩
  rintro e w5 ⟨v, rfl, hv, h5⟩
  rw [hk0.out] at hv
  rw [hk1.out]
  obtain ⟨va, vc, rfl⟩ := prow_slice hv.row
  rw [List.length_nil]
  have h15 := h13.trans (hE4.trans h5)
  have HE := Lib.hid hE
  clear h13 hE4 h5 hrow hv hE
  gi_wp2_with fail
  have hc0 := cell_of hb0 0
  have hc1 := cell_of hb0 1
  have hc2 := cell_of hb0 2
  have hc3 := cell_of hb0 3
  have hd0 := cell_of hb1 0
  have hd1 := cell_of hb1 1
  have hd2 := cell_of hb1 2
  have hd3 := cell_of hb1 3
  simp at hc0 hc1 hc2 hc3 hd0 hd1 hd2 hd3
  replace hc0 := cell_all hc0
  replace hc1 := cell_all hc1
  replace hc2 := cell_all hc2
  replace hc3 := cell_all hc3
  replace hd0 := cell_all hd0
  replace hd1 := cell_all hd1
  replace hd2 := cell_all hd2
  replace hd3 := cell_all hd3
  have hx : Ext w1 w5.drew := h15.trans (Ext.drew _)
  clear h15 hb0 hb1
  refine wpIn_region_G (fun j => !(List.contains (α := Nat) [2, 6, 11, 16, 17, 18, 22, 32, 37, 42] j)) (by kernel_rfl) ?_
  refine batchG hfn (fuel := 45) [0] (by kernel_rfl) rfl ?_
  repeat (go_big_quiet_step ((fail)))
  refine wpQuiet_nil ?_
  refine wpAnyG_one (j := 1) (by kernel_rfl) rfl ?_
  gi_wp2_with fail
  refine ⟨wide_room _, (callsIn_wide.2 (pair_v _ (-1))).mono ?_⟩
  rintro e W1 ⟨rfl, hS⟩
  gi_wp2_with fail
  refine onePost_ext (hS) ?_
  replace hx := hx.trans hS
  clear hS
  refine wpAnyG_one (j := 2) (by kernel_rfl) rfl ?_
  gi_wp2_with fail
  refine ⟨wide_room _, (callsIn_wide.2 (t1.out _)).mono ?_⟩
  rintro e W2 ⟨rfl, hS⟩
  gi_wp2_with fail
  refine onePost_any (by kernel_rfl) ?_
  replace hx := hx.trans hS
  clear hS
  refine batchG hfn (fuel := 41) [3, 4] (by kernel_rfl) rfl ?_
  repeat (go_big_quiet_step ((fail)))
  refine wpQuiet_nil ?_
  refine wpAnyG_one (j := 5) (by kernel_rfl) rfl ?_
  gi_wp2_with fail
  refine ⟨wide_room _, (callsIn_wide.2 (pair_v _ 5)).mono ?_⟩
  rintro e W5 ⟨rfl, hS⟩
  gi_wp2_with fail
  refine onePost_ext (hS) ?_
  replace hx := hx.trans hS
  clear hS
  refine wpAnyG_one (j := 6) (by kernel_rfl) rfl ?_
  gi_wp2_with fail
  refine ⟨wide_room _, (callsIn_wide.2 (t2.out _)).mono ?_⟩
  rintro e W6 ⟨rfl, hS⟩
  gi_wp2_with fail
  refine onePost_any (by kernel_rfl) ?_
  replace hx := hx.trans hS
  clear hS
  refine batchG hfn (fuel := 36) [7, 8, 9] (by kernel_rfl) rfl ?_
  repeat (go_big_quiet_step ((fail)))
  refine wpQuiet_nil ?_
  refine wpAnyG_one (j := 10) (by kernel_rfl) rfl ?_
  gi_wp2_with fail
  refine ⟨wide_room _, (callsIn_wide.2 (pair_v _ 0)).mono ?_⟩
  rintro e W10 ⟨rfl, hS⟩
  gi_wp2_with fail
  refine onePost_ext (hS) ?_
  replace hx := hx.trans hS
  clear hS
  refine wpAnyG_one (j := 11) (by kernel_rfl) rfl ?_
  gi_wp2_with fail
  refine ⟨wide_room _, (callsIn_wide.2 (t3.out _)).mono ?_⟩
  rintro e W11 ⟨rfl, hS⟩
  gi_wp2_with fail
  refine onePost_any (by kernel_rfl) ?_
  replace hx := hx.trans hS
  clear hS
  refine batchG hfn (fuel := 30) [12, 13, 14, 15] (by kernel_rfl) rfl ?_
  repeat (go_big_quiet_step ((fail)))
  refine wpQuiet_nil ?_
  refine wpAnyG_one (j := 16) (by kernel_rfl) rfl ?_
  gi_wp2_with fail
  refine ⟨wide_room _, (callsIn_wide.2 (tn.out _)).mono ?_⟩
  unfold predV
  rintro e W16 ⟨rfl, hS⟩
  gi_wp2_with fail
  refine onePost_any (by kernel_rfl) ?_
  replace hx := hx.trans hS
  clear hS
  refine wpAnyG_one (j := 17) (by kernel_rfl) rfl ?_
  gi_wp2_with fail
  refine ⟨wide_room _, (callsIn_wide.2 (pair_v _ 0)).mono ?_⟩
  rintro e W17 ⟨rfl, hS⟩
  gi_wp2_with fail
  refine onePost_any (by kernel_rfl) ?_
  replace hx := hx.trans hS
  clear hS
  refine wpAnyG_one (j := 18) (by kernel_rfl) rfl ?_
  gi_wp2_with fail
  refine ⟨wide_room _, (callsIn_wide.2 (t4.out _)).mono ?_⟩
  rintro e W18 ⟨rfl, hS⟩
  gi_wp2_with fail
  refine onePost_any (by kernel_rfl) ?_
  replace hx := hx.trans hS
  clear hS
  refine batchG hfn (fuel := 24) [19, 20, 21] (by kernel_rfl) rfl ?_
  repeat (go_big_quiet_step ((fail)))
  refine wpQuiet_nil ?_
  refine wpAnyG_one (j := 22) (by kernel_rfl) rfl ?_
  gi_wp2_with fail
  gi_wp2_with fail
  refine onePost_any (by kernel_rfl) ?_
  refine batchG hfn (fuel := 15) [23, 24, 25, 26, 27, 28, 29, 30] (by kernel_rfl) rfl ?_
  repeat (go_big_quiet_step ((fail)))
  refine wpQuiet_nil ?_
  refine wpAnyG_one (j := 31) (by kernel_rfl) rfl ?_
  gi_wp2_with fail
  refine ⟨wide_room _, (callsIn_wide.2 (pair_v _ (-3))).mono ?_⟩
  rintro e W31 ⟨rfl, hS⟩
  gi_wp2_with fail
  refine onePost_ext (hS) ?_
  replace hx := hx.trans hS
  clear hS
  refine wpAnyG_one (j := 32) (by kernel_rfl) rfl ?_
  gi_wp2_with fail
  refine ⟨wide_room _, (callsIn_wide.2 (t5.out _)).mono ?_⟩
  rintro e W32 ⟨rfl, hS⟩
  gi_wp2_with fail
  refine onePost_any (by kernel_rfl) ?_
  replace hx := hx.trans hS
  clear hS
  refine batchG hfn (fuel := 10) [33, 34, 35] (by kernel_rfl) rfl ?_
  repeat (go_big_quiet_step ((fail)))
  refine wpQuiet_nil ?_
  refine wpAnyG_one (j := 36) (by kernel_rfl) rfl ?_
  gi_wp2_with fail
  refine ⟨wide_room _, (callsIn_wide.2 (pair_v _ 3)).mono ?_⟩
  rintro e W36 ⟨rfl, hS⟩
  gi_wp2_with fail
  refine onePost_ext (hS) ?_
  replace hx := hx.trans hS
  clear hS
  refine wpAnyG_one (j := 37) (by kernel_rfl) rfl ?_
  gi_wp2_with fail
  refine ⟨wide_room _, (callsIn_wide.2 (t6.out _)).mono ?_⟩
  rintro e W37 ⟨rfl, hS⟩
  gi_wp2_with fail
  refine onePost_any (by kernel_rfl) ?_
  replace hx := hx.trans hS
  clear hS
  refine batchG hfn (fuel := 4) [38, 39, 40, 41] (by kernel_rfl) rfl ?_
  repeat (go_big_quiet_step ((fail)))
  refine wpQuiet_nil ?_
  refine wpAnyG_one (j := 42) (by kernel_rfl) rfl ?_
  gi_wp2_with fail
  refine ⟨wide_room _, (callsIn_wide.2 (t7.out _)).mono ?_⟩
  rintro e W42 ⟨rfl, hS⟩
  gi_wp2_with fail
  refine onePost_any (by kernel_rfl) ?_
  replace hx := hx.trans hS
  clear hS
  refine batchG hfn (fuel := 0) [43, 44, 45] (by kernel_rfl) rfl ?_
  repeat (go_big_quiet_step ((fail)))
  refine wpQuiet_nil ?_
  refine wpAnyG_done (by kernel_rfl) ?_
  refine calmQ_normal ?_
  gi_wp2
  go_ret
  exact Ret.mk (HE.out.trans hx)
end Go.Proofs.Yteibbdieckephaa
