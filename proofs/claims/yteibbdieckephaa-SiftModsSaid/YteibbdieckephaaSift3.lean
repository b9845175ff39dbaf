/- sift.Takes, and what its kinds take. -/
import Derived.Test.YteibbdieckephaaSift2
namespace Go.Proofs.Yteibbdieckephaa
open Go Go.RowKit

/-- what a predicate takes, the right way round. -/
def sTk (kd : Nat) (a b k v : Int) : Bool :=
  if kd = 1 then true else if kd = 2 then decide (a ≤ k) && decide (k ≤ b) else if kd = 3 then decide (a ≤ v) && decide (v ≤ b) else if kd = 4 then k.tmod a == b || wrap64 (k.tmod a + a) == b else Go.bits .and .i64 k a == b
def sTakes (kd : Nat) (a b : Int) (nt : Bool) (k v : Int) : Bool := sMay kd a b && (sTk kd a b k v != nt)
def pairV (k v : Int) : Value := .agg #[.int .i64 k, .int .i64 v]
theorem from_any (a b x : Int) (w : World) : Calls Try.prog 21 #[.int .i64 a, .int .i64 b, .int .i64 x] w (Ret (.bool (decide (a ≤ x) && decide (x ≤ b))) w) := by
  go_enter Try.func21, Try.ntmps21
  go_wp2
  all_goals
    go_ret
    exact ⟨ret_bool (by simp; try omega), Ext.refl _⟩
theorem call_tk (kd : Nat) (a : Array Value) (w : World) : (callFunc (tkF kd) a).run Try.prog w = .ok (.enter (tkF kd) a) w := by
  unfold tkF
  split
  · kernel_rfl
  · split
    · kernel_rfl
    · split
      · kernel_rfl
      · split <;> kernel_rfl
set_option maxHeartbeats 1000000 in
theorem tkF_any (kd : Nat) (a b k v : Int) (w : World) (R bb : Nat) (hK : KindsAt w R bb) (h1 : 1 ≤ kd) (h5 : kd ≤ 5) (h4 : kd = 4 → 0 < a) :
    Calls Try.prog (tkF kd) (#[.int .i64 a, .int .i64 b, pairV k v] ++ tkC bb kd) w (Ret (.bool (sTk kd a b k v)) w) := by
  have hcases : kd = 1 ∨ kd = 2 ∨ kd = 3 ∨ kd = 4 ∨ kd = 5 := by omega
  have hfr := cell_of hK.2 0
  simp at hfr
  have hF := Lib.hid (fun x W => from_any a b x W)
  have hlb := (Array.getElem?_eq_some_iff.1 hK.2).1
  have hne := Nat.ne_of_lt hlb
  have hE := Lib.hid ((Ext.refl w).alloc (.cells #[.int .i64 k, .int .i64 v] 25))
  clear hK
  rcases hcases with rfl | rfl | rfl | rfl | rfl
  · rw [show tkF 1 = 23 from rfl, show sTk 1 a b k v = true from rfl, show tkC bb 1 = #[] from rfl]
    unfold pairV
    go_enter Try.func23, Try.ntmps23
    go_wp2
    go_ret
    exact Ret.mk hE.out
  · rw [show tkF 2 = 24 from rfl, show sTk 2 a b k v = (decide (a ≤ k) && decide (k ≤ b)) from rfl, show tkC bb 2 = #[.pointer (some ⟨bb, 0, none⟩)] from rfl]
    unfold pairV
    go_enter Try.func24, Try.ntmps24
    go_wp2_with fail
    refine (hF.out _ _).mono ?_
    rintro e w1 ⟨rfl, hx⟩
    go_wp2
    go_ret
    exact Ret.mk (hE.out.trans hx)
  · rw [show tkF 3 = 25 from rfl, show sTk 3 a b k v = (decide (a ≤ v) && decide (v ≤ b)) from rfl, show tkC bb 3 = #[.pointer (some ⟨bb, 0, none⟩)] from rfl]
    unfold pairV
    go_enter Try.func25, Try.ntmps25
    go_wp2_with fail
    refine (hF.out _ _).mono ?_
    rintro e w1 ⟨rfl, hx⟩
    go_wp2
    go_ret
    exact Ret.mk (hE.out.trans hx)
  · have h40 := h4 rfl
    have hne0 : ¬ a = 0 := by omega
    rw [show tkF 4 = 27 from rfl, show sTk 4 a b k v = (k.tmod a == b || wrap64 (k.tmod a + a) == b) from rfl, show tkC bb 4 = #[] from rfl]
    unfold pairV
    go_enter Try.func27, Try.ntmps27
    go_wp2
    all_goals
      go_ret
      exact ⟨ret_bool (by simp_all), hE.out⟩
  · rw [show tkF 5 = 29 from rfl, show sTk 5 a b k v = (Go.bits .and .i64 k a == b) from rfl, show tkC bb 5 = #[] from rfl]
    unfold pairV
    go_enter Try.func29, Try.ntmps29
    go_wp2
    all_goals
      go_ret
      exact ⟨ret_bool (by simp_all), hE.out⟩
theorem sMay_kind {kd : Nat} {a b : Int} (h : sMay kd a b = true) : 1 ≤ kd ∧ kd ≤ 5 := by
  unfold sMay at h
  rcases Nat.lt_or_ge 5 kd with h5 | h5
  · rw [if_neg (by omega), if_neg (by omega), if_neg (by omega), if_neg (by omega), if_neg (by omega)] at h; cases h
  · rcases Nat.eq_zero_or_pos kd with h0 | h0
    · subst h0; simp at h
    · omega
set_option maxRecDepth 100000 in
set_option maxHeartbeats 2000000 in
theorem siftTakes_any (w : World) (kd : Nat) (a b : Int) (nt : Bool) (k v : Int) (hk : kd < 256) : Calls Try.prog 12 #[predV kd a b nt, pairV k v] w (Ret (.bool (sTakes kd a b nt k v)) w) := by
  have hfn : ∀ f, Fence.wide.fn f := fun _ => trivial
  have hpv : predV kd a b nt = .agg #[.int .u8 kd, .int .i64 a, .int .i64 b, .bool nt] := rfl
  have hqv : pairV k v = .agg #[.int .i64 k, .int .i64 v] := rfl
  have HMAY := Lib.hid (fun W => siftMay_any W kd a b nt hk)
  rw [hpv] at HMAY
  rw [hpv, hqv]
  clear hpv hqv hk
  obtain ⟨w1, hw1⟩ : ∃ w1, w1 = (w.alloc (.cells #[.int .u8 kd, .int .i64 a, .int .i64 b, .bool nt] 23)).alloc (.cells #[.int .i64 k, .int .i64 v] 25) := ⟨_, rfl⟩
  have hE : Ext w w1 := by rw [hw1]; exact ((Ext.refl w).alloc _).alloc _
  have hb0 : w1.heap[w.heap.size]? = some (.cells #[.int .u8 kd, .int .i64 a, .int .i64 b, .bool nt] 23 (0, 0)) := by rw [hw1, alloc_lt _ _ _ (by simp)]; exact alloc_at _ _ _ rfl
  have hb1 : w1.heap[w.heap.size + 1]? = some (.cells #[.int .i64 k, .int .i64 v] 25 (0, 0)) := by rw [hw1]; exact alloc_at _ _ _ (by simp)
  have HW := Lib.hid hw1
  clear hw1
  go_enter Try.func12, Try.ntmps12
  obtain ⟨m⟩ : Nonempty Nat := ⟨0⟩
  refine (wpIn_wide (n := m)).1 ?_
  gi_wp2_with fail
  rw [← HW.out]
  clear HW
  have hc0 := cell_of hb0 0
  have hc1 := cell_of hb0 1
  have hc2 := cell_of hb0 2
  have hc3 := cell_of hb0 3
  have hd0 := cell_of hb1 0
  have hd1 := cell_of hb1 1
  simp at hc0 hc1 hc2 hc3 hd0 hd1
  replace hc0 := cell_all hc0
  replace hc1 := cell_all hc1
  replace hc2 := cell_all hc2
  replace hc3 := cell_all hc3
  replace hd0 := cell_all hd0
  replace hd1 := cell_all hd1
  have hx := Ext.drew w1
  refine wpIn_region_G (fun j => !(List.contains (α := Nat) [1] j)) (by kernel_rfl) ?_
  refine batchG hfn (fuel := 18) [0] (by kernel_rfl) rfl ?_
  repeat (go_big_quiet_step ((fail)))
  refine wpQuiet_nil ?_
  refine wpAnyG_one (j := 1) (by kernel_rfl) rfl ?_
  gi_wp2_with fail
  refine ⟨wide_room _, (callsIn_wide.2 (HMAY.out _)).mono ?_⟩
  cases hm : sMay kd a b with
  | false =>
    have HS := Lib.hid (show sTakes kd a b nt k v = false by unfold sTakes; rw [hm]; rfl)
    clear hm
    rintro e w2 ⟨rfl, h2⟩
    have h12 := hx.trans h2
    clear hx
    have hx := Ext.refl w2
    gi_wp2_with fail
    refine onePost_any (by kernel_rfl) ?_
    refine batchG hfn (fuel := 7) [2, 4, 5, 8, 9, 10, 11, 12, 14, 15] (by kernel_rfl) rfl ?_
    repeat (go_big_quiet_step ((fail)))
    refine wpQuiet_nil ?_
    refine wpAnyG_skip hfn (j := 3) (by kernel_rfl) rfl rfl ?_
    simp only [Act.put, List.setIfInBounds_toArray, List.set_cons_zero, List.set_cons_succ]
    refine batchG hfn (fuel := 4) [6, 7] (by kernel_rfl) rfl ?_
    repeat (go_big_quiet_step ((fail)))
    refine wpQuiet_nil ?_
    refine wpAnyG_skip hfn (j := 13) (by kernel_rfl) rfl rfl ?_
    simp only [Act.put, List.setIfInBounds_toArray, List.set_cons_zero, List.set_cons_succ]
    refine batchG hfn (fuel := 0) [16, 17, 18] (by kernel_rfl) rfl ?_
    repeat (go_big_quiet_step ((fail)))
    refine wpQuiet_nil ?_
    refine wpAnyG_done (by kernel_rfl) ?_
    refine calmQ_normal ?_
    gi_wp2
    go_ret
    exact ⟨ret_bool HS.out.symm, hE.trans h12⟩
  | true =>
    have HS := Lib.hid (show sTakes kd a b nt k v = (sTk kd a b k v != nt) by unfold sTakes; rw [hm]; rfl)
    obtain ⟨h1, h5⟩ := sMay_kind hm
    have hLook := Lib.hid (fun (w3 : World) R bb (h : KindsAt w3 R bb) => look_all kd h false (kindV bb kd) (.inr ⟨h1, h5⟩) rfl)
    simp only [fun bb => kindV_eq bb kd h1 h5] at hLook
    have HT := Lib.hid (fun W R bb hK => tkF_any kd a b k v W R bb hK h1 h5 (fun h => by subst h; unfold sMay at hm; simp at hm; omega))
    have hct := call_tk kd
    have hfld := fun (x y : Value) (W : World) => (by kernel_rfl : (Instr.field 46 (.agg #[x, y]) 1).run Try.prog W = .ok y W)
    clear hm h1 h5
    rintro e w2 ⟨rfl, h2⟩
    have h12 := hx.trans h2
    clear hx
    have hx := Ext.refl w2
    replace hc0 := cell_all (hc0 w1 (Ext.refl _) ⟨w2, h12⟩)
    replace hc1 := cell_all (hc1 w1 (Ext.refl _) ⟨w2, h12⟩)
    replace hc2 := cell_all (hc2 w1 (Ext.refl _) ⟨w2, h12⟩)
    replace hc3 := cell_all (hc3 w1 (Ext.refl _) ⟨w2, h12⟩)
    replace hd0 := cell_all (hd0 w1 (Ext.refl _) ⟨w2, h12⟩)
    replace hd1 := cell_all (hd1 w1 (Ext.refl _) ⟨w2, h12⟩)
    gi_wp2_with fail
    refine onePost_any (by kernel_rfl) ?_
    refine batchG hfn (fuel := 7) [2, 4, 5, 8, 9, 10, 11, 12, 14, 15] (by kernel_rfl) rfl ?_
    repeat (go_big_quiet_step ((fail)))
    refine wpQuiet_nil ?_
    refine wpAnyG_one (j := 3) (by kernel_rfl) rfl ?_
    gi_wp2_with fail
    refine ⟨wide_room _, (callsIn_wide.2 (kinds_at _)).mono ?_⟩
    rintro e w3 ⟨R, bb, rfl, hK, h3⟩
    have hlk := hLook.out w3 R bb hK
    have hy := Ext.refl w3
    gi_wp2_with fail
    refine onePost_ext (h3) ?_
    refine batchG hfn (fuel := 4) [6, 7] (by kernel_rfl) rfl ?_
    repeat (go_big_quiet_step ((fail)))
    refine wpQuiet_nil ?_
    clear hlk hy hc0 hc1 hc2 hc3 hd0 hd1 hx
    refine wpAnyG_one (j := 13) (by kernel_rfl) rfl ?_
    gi_wp2_with fail
    refine ⟨wide_room _, (callsIn_wide.2 (HT.out w3 R bb hK)).mono ?_⟩
    rintro e w4 ⟨rfl, h4⟩
    generalize sTk kd a b k v = U at *
    gi_wp2_with fail
    refine onePost_ext (h4) ?_
    cases nt <;> cases U
    all_goals
      refine batchG hfn (fuel := 0) [16, 17, 18] (by kernel_rfl) rfl ?_
      repeat (go_big_quiet_step ((fail)))
      refine wpQuiet_nil ?_
      refine wpAnyG_done (by kernel_rfl) ?_
      refine calmQ_normal ?_
      gi_wp2
      go_ret
      exact ⟨ret_bool HS.out.symm, (hE.trans h12).trans (h3.trans h4)⟩
end Go.Proofs.Yteibbdieckephaa
