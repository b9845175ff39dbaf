/- The walk of SiftMods. -/
import Derived.Test.YteibbdieckephaaSift8
namespace Go.Proofs.Yteibbdieckephaa
open Go Go.RowKit

theorem mod_takes (n b k : Int) (h1 : 1 ≤ n) (h2 : n ≤ 64) : sTakes 4 n b false k 0 = decide (k % n = b) := by
  have hr := Int.emod_nonneg k (show n ≠ 0 by omega)
  have hr2 := Int.emod_lt_of_pos k (show 0 < n by omega)
  unfold sTakes
  by_cases hb : 0 ≤ b ∧ b < n
  · have hm : sMay 4 n b = true := by unfold sMay; simp; omega
    have ht : sTk 4 n b k 0 = (restV k n == b) := rest_law k n b (by omega) (by omega) hb.1 hb.2
    rw [hm, ht]
    have hre : restV k n = k % n := by
      obtain ⟨g1, g2⟩ := tmod_range k n (by omega)
      have e := Int.tmod_eq_emod (a := k) (b := n)
      unfold restV
      rw [e] at g1 g2 ⊢
      have ha : n.natAbs = n := by omega
      split at g1 <;> split at g2 <;> split <;> (try unfold wrap64) <;> omega
    rw [hre]
    simp [Bool.beq_eq_decide_eq]
  · have hm : sMay 4 n b = false := by unfold sMay; simp; omega
    rw [hm, Bool.false_and]
    have : ¬ k % n = b := by omega
    simp [this]
theorem mod_may (n b : Int) (h1 : 1 ≤ n) : sMay 4 n b = (decide (0 ≤ b) && decide (b < n)) := by
  unfold sMay
  simp only [show (4 : Nat) ≠ 1 by decide, show (4 : Nat) ≠ 2 by decide, show (4 : Nat) ≠ 3 by decide, if_false, if_true]
  rw [show decide (0 < n) = true by simp; omega, Bool.true_and]
/-- the state of the loop. -/
def ModSt (w1 : World) (n r : Int) (t b : Value) (W : World) : Prop :=
  ∃ bb tt : Int, b = .int .i64 bb ∧ t = .int .i64 tt ∧ Hid (-1 ≤ bb ∧ bb ≤ n + 1 ∧ tt = if r < bb then 1 else 0) ∧ Ext w1 W
theorem mod_rel {w1 W : World} {n r bb tt t2 : Int} (HB : Hid (-1 ≤ bb ∧ bb ≤ n + 1 ∧ tt = if r < bb then 1 else 0)) (hle : bb ≤ n) (hn : 1 ≤ n ∧ n ≤ 64) (hx : Ext w1 W) (h2 : t2 = if r = bb then wrap64 (tt + 1) else tt) :
    ModSt w1 n r (.int .i64 t2) (.int .i64 (wrap64 (bb + 1))) W := by
  obtain ⟨b1, b2, b3⟩ := HB
  refine ⟨wrap64 (bb + 1), t2, rfl, rfl, Lib.hid ?_, hx⟩
  rw [show wrap64 (bb + 1) = bb + 1 by unfold wrap64; omega]
  refine ⟨by omega, by omega, ?_⟩
  rw [h2, b3]
  unfold wrap64
  split <;> split <;> split <;> omega
theorem mod_meas {n bb : Int} (h1 : -1 ≤ bb) (hle : bb ≤ n) (hn : 1 ≤ n ∧ n ≤ 64) : (n + 2 - intOf (.int .i64 (wrap64 (bb + 1)))).toNat < (n + 2 - intOf (.int .i64 bb)).toNat := by
  show (n + 2 - wrap64 (bb + 1)).toNat < (n + 2 - bb).toNat
  rw [show wrap64 (bb + 1) = bb + 1 by unfold wrap64; omega]
  omega
set_option maxRecDepth 100000 in
set_option maxHeartbeats 4000000 in
theorem siftMods_walk (a k : Int) (w : World) (w0 : (Lit.int .u8 a).wf = true) (w1 : (Lit.int .i64 k).wf = true) :
    Calls Try.prog 5 #[.int .u8 a, .int .i64 k] w (Ret (.bool true) w) := by
  have hfn : ∀ f, Fence.wide.fn f := fun _ => trivial
  have ha : 0 ≤ a ∧ a < 256 := by simp [Lit.wf, show IntKind.u8.min = 0 from rfl, show IntKind.u8.max = 255 from rfl] at w0; omega
  have hk : I64 k := by simp [Lit.wf, show IntKind.i64.min = -9223372036854775808 from rfl, show IntKind.i64.max = 9223372036854775807 from rfl] at w1; unfold I64; omega
  obtain ⟨n, hn⟩ : ∃ n : Int, n = a % 64 + 1 := ⟨_, rfl⟩
  have hnr : 1 ≤ n ∧ n ≤ 64 := by omega
  have hta : wrap64 (wrap64 (a.tmod 64) + 1) = n := by rw [Int.tmod_eq_emod_of_nonneg ha.1]; unfold wrap64; omega
  have HK := Lib.hid hk
  have HN := Lib.hid hnr
  clear w0 w1 ha hk hnr hn
  go_enter Try.func5, Try.ntmps5
  go_wp2_with fail
  rw [hta]
  clear hta
  obtain ⟨r, hr⟩ : ∃ r, k % n = r := ⟨_, rfl⟩
  have HR := Lib.hid hr
  have HRR := Lib.hid (show 0 ≤ r ∧ r < n by have := HN.out; rw [← hr]; exact ⟨Int.emod_nonneg k (by omega), Int.emod_lt_of_pos k (by omega)⟩)
  clear hr
  go_loopw [6, 7] (fun t b W => ModSt w n r t b W) (fun _ b _ => (n + 2 - intOf b).toNat)
  case atStart => exact ⟨-1, 0, rfl, rfl, Lib.hid ⟨by omega, by have := HN.out; omega, by have := HRR.out; rw [if_neg (by omega)]⟩, Ext.refl _⟩
  case round =>
    obtain ⟨bb, tt, rfl, rfl, HB, hx⟩ := hrel
    by_cases hle : bb ≤ n
    · have HLE := Lib.hid hle
      have hE := (Ext.refl wr).alloc (.cells #[.int .u8 4, .int .i64 n, .int .i64 bb, .bool false] 23)
      have hbox := alloc_at wr (.cells #[.int .u8 4, .int .i64 n, .int .i64 bb, .bool false] 23) _ rfl
      have HX := Lib.hid (hx.trans hE)
      have HBOX := Lib.hid hbox
      clear hx hE hbox
      go_wp2_with fail
      clear hle
      generalize wr.alloc (.cells #[.int .u8 4, .int .i64 n, .int .i64 bb, .bool false] 23) = w1 at *
      generalize wr.heap.size = N at *
      by_cases hin : 0 ≤ bb ∧ bb < n
      · obtain ⟨h0, h1⟩ := hin
        refine (may_v _ 4 n bb false (by decide) true (by rw [mod_may n bb HN.out.1]; simp [h0, h1])).mono ?_
        rintro e w2 ⟨rfl, hx⟩
        go_wp2_with fail
        obtain ⟨m⟩ : Nonempty Nat := ⟨0⟩
        refine (wpIn_wide (n := m)).1 ?_
        have hbb := hx.get HBOX.out
        have p0 := cell_of hbb 0
        have p1 := cell_of hbb 1
        have p2 := cell_of hbb 2
        have p3 := cell_of hbb 3
        simp at p0 p1 p2 p3
        replace p0 := cell_all p0
        replace p1 := cell_all p1
        replace p2 := cell_all p2
        replace p3 := cell_all p3
        clear hbb
        have hd := Ext.drew w2
        refine wpIn_region_G (fun j => !(List.contains (α := Nat) [3] j)) (by kernel_rfl) ?_
        refine batchG hfn (fuel := 2) [0, 1] (by kernel_rfl) rfl ?_
        repeat (go_big_quiet_step ((fail)))
        refine wpQuiet_nil ?_
        clear p0 p1 p2 p3
        refine wpAnyG_one (j := 2) (by kernel_rfl) rfl ?_
        gi_wp2_with fail
        refine ⟨wide_room _, (callsIn_wide.2 (pair_v _ k)).mono ?_⟩
        rintro e w3 ⟨rfl, hS⟩
        replace hx := hx.trans (hd.trans hS)
        gi_wp2_with fail
        refine onePost_ext (hS) ?_
        clear hS hd
        refine wpAnyG_one (j := 3) (by kernel_rfl) rfl ?_
        gi_wp2_with fail
        by_cases ht : r = bb
        · have HT := Lib.hid ht
          refine ⟨wide_room _, (callsIn_wide.2 (takes_v _ 4 n bb false k 0 (by decide) true (by rw [mod_takes n bb k HN.out.1 HN.out.2, HR.out]; simp [ht]))).mono ?_⟩
          have HT2 := Lib.hid (fun (hI : -4611686018427387904 < k ∧ k < 4611686018427387904) W => takes_v W 4 n bb false (k + n) 0 (by decide) true (by rw [mod_takes n bb (k + n) HN.out.1 HN.out.2, Int.add_emod_right, HR.out]; simp [ht]))
          have hkn' := Lib.hid (fun (hI : -4611686018427387904 < k ∧ k < 4611686018427387904) => show wrap64 (k + n) = k + n by have := HN.out; unfold wrap64; omega)
          clear ht
          rintro e w4 ⟨rfl, hS⟩
          replace hx := hx.trans hS
          clear hS
          gi_wp2_with fail
          refine onePost_any (by kernel_rfl) ?_
          refine wpAnyG_done (by kernel_rfl) ?_
          refine calmQ_normal ?_
          go_wp2_with fail
          obtain ⟨M, hM⟩ : ∃ M : Int, M = 4611686018427387904 := ⟨_, rfl⟩
          rw [← hM] at HT2 hkn' ⊢
          have HM := Lib.hid (show n < M by have := HN.out; omega)
          clear hM
          refine (wpIn_wide (n := m)).1 ?_
          by_cases hA : 0 ≤ k ∧ k < n
          · obtain ⟨a0, a1⟩ := hA
            have hkb : k = bb := by rw [← HT.out, ← HR.out, Int.emod_eq_of_lt a0 a1]
            have hI : -M < k ∧ k < M := by have := HM.out; omega
            have HT2 := Lib.hid (HT2.out hI)
            have hkn := hkn'.out hI
            obtain ⟨c0, c1⟩ := hI
            have hkb' : (k == bb) = true := by simp [hkb]
            have hkb2 : (k != bb) = false := by simp [hkb]
            clear hkb
            have hbb := hx.get HBOX.out
            have p0 := cell_of hbb 0
            have p1 := cell_of hbb 1
            have p2 := cell_of hbb 2
            have p3 := cell_of hbb 3
            simp at p0 p1 p2 p3
            replace p0 := cell_all p0
            replace p1 := cell_all p1
            replace p2 := cell_all p2
            replace p3 := cell_all p3
            clear hbb
            have hd := Ext.drew w4
            refine wpIn_region_G (fun j => !(List.contains (α := Nat) [25] j)) (by kernel_rfl) ?_
            refine batchG hfn (fuel := 5) [0, 1, 2, 3, 4, 5, 6, 7, 8, 9, 10, 11, 12, 13, 14, 15, 16, 17, 18, 19, 20, 21, 22, 23] (by kernel_rfl) rfl ?_
            repeat (go_big_quiet_step ((fail)))
            refine wpQuiet_nil ?_
            clear p0 p1 p2 p3
            refine wpAnyG_one (j := 24) (by kernel_rfl) rfl ?_
            gi_wp2_with fail
            (try rw [hkn])
            refine ⟨wide_room _, (callsIn_wide.2 (pair_v _ (k + n))).mono ?_⟩
            rintro e w5 ⟨rfl, hS⟩
            replace hx := hx.trans (hd.trans hS)
            gi_wp2_with fail
            refine onePost_ext (hS) ?_
            clear hS hd
            refine wpAnyG_one (j := 25) (by kernel_rfl) rfl ?_
            gi_wp2_with fail
            refine ⟨wide_room _, (callsIn_wide.2 (HT2.out _)).mono ?_⟩
            rintro e w6 ⟨rfl, hS⟩
            replace hx := hx.trans hS
            clear hS
            gi_wp2_with fail
            refine onePost_any (by kernel_rfl) ?_
            refine batchG hfn (fuel := 0) [26, 27, 28] (by kernel_rfl) rfl ?_
            repeat (go_big_quiet_step ((fail)))
            refine wpQuiet_nil ?_
            refine wpAnyG_done (by kernel_rfl) ?_
            refine calmQ_normal ?_
            go_wp2
            go_roundw
            case rel => exact mod_rel HB HLE.out HN.out (HX.out.trans hx) (by rw [if_pos HT.out])
            case measure => exact mod_meas HB.out.1 HLE.out HN.out
          · by_cases hI : -M < k ∧ k < M
            · have HT2 := Lib.hid (HT2.out hI)
              have hkn := hkn'.out hI
              obtain ⟨c0, c1⟩ := hI
              by_cases a0 : 0 ≤ k
              · have a1 : ¬ k < n := fun h => hA ⟨a0, h⟩
                clear hA
                have hbb := hx.get HBOX.out
                have p0 := cell_of hbb 0
                have p1 := cell_of hbb 1
                have p2 := cell_of hbb 2
                have p3 := cell_of hbb 3
                simp at p0 p1 p2 p3
                replace p0 := cell_all p0
                replace p1 := cell_all p1
                replace p2 := cell_all p2
                replace p3 := cell_all p3
                clear hbb
                have hd := Ext.drew w4
                refine wpIn_region_G (fun j => !(List.contains (α := Nat) [25] j)) (by kernel_rfl) ?_
                refine batchG hfn (fuel := 5) [0, 1, 2, 3, 4, 5, 6, 7, 8, 9, 10, 11, 12, 13, 14, 15, 16, 17, 18, 19, 20, 21, 22, 23] (by kernel_rfl) rfl ?_
                repeat (go_big_quiet_step ((fail)))
                refine wpQuiet_nil ?_
                clear p0 p1 p2 p3
                refine wpAnyG_one (j := 24) (by kernel_rfl) rfl ?_
                gi_wp2_with fail
                (try rw [hkn])
                refine ⟨wide_room _, (callsIn_wide.2 (pair_v _ (k + n))).mono ?_⟩
                rintro e w5 ⟨rfl, hS⟩
                replace hx := hx.trans (hd.trans hS)
                gi_wp2_with fail
                refine onePost_ext (hS) ?_
                clear hS hd
                refine wpAnyG_one (j := 25) (by kernel_rfl) rfl ?_
                gi_wp2_with fail
                refine ⟨wide_room _, (callsIn_wide.2 (HT2.out _)).mono ?_⟩
                rintro e w6 ⟨rfl, hS⟩
                replace hx := hx.trans hS
                clear hS
                gi_wp2_with fail
                refine onePost_any (by kernel_rfl) ?_
                refine batchG hfn (fuel := 0) [26, 27, 28] (by kernel_rfl) rfl ?_
                repeat (go_big_quiet_step ((fail)))
                refine wpQuiet_nil ?_
                refine wpAnyG_done (by kernel_rfl) ?_
                refine calmQ_normal ?_
                go_wp2
                go_roundw
                case rel => exact mod_rel HB HLE.out HN.out (HX.out.trans hx) (by rw [if_pos HT.out])
                case measure => exact mod_meas HB.out.1 HLE.out HN.out
              · clear hA
                have hbb := hx.get HBOX.out
                have p0 := cell_of hbb 0
                have p1 := cell_of hbb 1
                have p2 := cell_of hbb 2
                have p3 := cell_of hbb 3
                simp at p0 p1 p2 p3
                replace p0 := cell_all p0
                replace p1 := cell_all p1
                replace p2 := cell_all p2
                replace p3 := cell_all p3
                clear hbb
                have hd := Ext.drew w4
                refine wpIn_region_G (fun j => !(List.contains (α := Nat) [25] j)) (by kernel_rfl) ?_
                refine batchG hfn (fuel := 5) [0, 1, 2, 3, 4, 5, 6, 7, 8, 9, 10, 11, 12, 13, 14, 15, 16, 17, 18, 19, 20, 21, 22, 23] (by kernel_rfl) rfl ?_
                repeat (go_big_quiet_step ((fail)))
                refine wpQuiet_nil ?_
                clear p0 p1 p2 p3
                refine wpAnyG_one (j := 24) (by kernel_rfl) rfl ?_
                gi_wp2_with fail
                (try rw [hkn])
                refine ⟨wide_room _, (callsIn_wide.2 (pair_v _ (k + n))).mono ?_⟩
                rintro e w5 ⟨rfl, hS⟩
                replace hx := hx.trans (hd.trans hS)
                gi_wp2_with fail
                refine onePost_ext (hS) ?_
                clear hS hd
                refine wpAnyG_one (j := 25) (by kernel_rfl) rfl ?_
                gi_wp2_with fail
                refine ⟨wide_room _, (callsIn_wide.2 (HT2.out _)).mono ?_⟩
                rintro e w6 ⟨rfl, hS⟩
                replace hx := hx.trans hS
                clear hS
                gi_wp2_with fail
                refine onePost_any (by kernel_rfl) ?_
                refine batchG hfn (fuel := 0) [26, 27, 28] (by kernel_rfl) rfl ?_
                repeat (go_big_quiet_step ((fail)))
                refine wpQuiet_nil ?_
                refine wpAnyG_done (by kernel_rfl) ?_
                refine calmQ_normal ?_
                go_wp2
                go_roundw
                case rel => exact mod_rel HB HLE.out HN.out (HX.out.trans hx) (by rw [if_pos HT.out])
                case measure => exact mod_meas HB.out.1 HLE.out HN.out
            · by_cases c0 : -M < k
              · have c1 : ¬ k < M := fun h => hI ⟨c0, h⟩
                have a0 : 0 ≤ k := by have := HM.out; have := HN.out; omega
                have a1 : ¬ k < n := fun h => hA ⟨a0, h⟩
                clear hI hA
                have hbb := hx.get HBOX.out
                have p0 := cell_of hbb 0
                have p1 := cell_of hbb 1
                have p2 := cell_of hbb 2
                have p3 := cell_of hbb 3
                simp at p0 p1 p2 p3
                replace p0 := cell_all p0
                replace p1 := cell_all p1
                replace p2 := cell_all p2
                replace p3 := cell_all p3
                clear hbb
                have hd := Ext.drew w4
                refine wpIn_region_G (fun j => !(List.contains (α := Nat) [25] j)) (by kernel_rfl) ?_
                refine batchG hfn (fuel := 5) [0, 1, 2, 3, 4, 5, 6, 7, 8, 9, 10, 11, 12, 13, 14, 15, 16, 17, 18, 19, 20, 21, 22, 23] (by kernel_rfl) rfl ?_
                repeat (go_big_quiet_step ((fail)))
                refine wpQuiet_nil ?_
                clear p0 p1 p2 p3
                refine wpAnyG_skip hfn (j := 24) (by kernel_rfl) rfl rfl ?_
                simp only [Act.put, List.setIfInBounds_toArray, List.set_cons_zero, List.set_cons_succ]
                refine wpAnyG_skip hfn (j := 25) (by kernel_rfl) rfl rfl ?_
                simp only [Act.put, List.setIfInBounds_toArray, List.set_cons_zero, List.set_cons_succ]
                replace hx := hx.trans hd
                clear hd
                refine batchG hfn (fuel := 0) [26, 27, 28] (by kernel_rfl) rfl ?_
                repeat (go_big_quiet_step ((fail)))
                refine wpQuiet_nil ?_
                refine wpAnyG_done (by kernel_rfl) ?_
                refine calmQ_normal ?_
                go_wp2
                go_roundw
                case rel => exact mod_rel HB HLE.out HN.out (HX.out.trans hx) (by rw [if_pos HT.out])
                case measure => exact mod_meas HB.out.1 HLE.out HN.out
              · have a0 : ¬ 0 ≤ k := by have := HM.out; have := HN.out; omega
                clear hI hA
                have hbb := hx.get HBOX.out
                have p0 := cell_of hbb 0
                have p1 := cell_of hbb 1
                have p2 := cell_of hbb 2
                have p3 := cell_of hbb 3
                simp at p0 p1 p2 p3
                replace p0 := cell_all p0
                replace p1 := cell_all p1
                replace p2 := cell_all p2
                replace p3 := cell_all p3
                clear hbb
                have hd := Ext.drew w4
                refine wpIn_region_G (fun j => !(List.contains (α := Nat) [25] j)) (by kernel_rfl) ?_
                refine batchG hfn (fuel := 5) [0, 1, 2, 3, 4, 5, 6, 7, 8, 9, 10, 11, 12, 13, 14, 15, 16, 17, 18, 19, 20, 21, 22, 23] (by kernel_rfl) rfl ?_
                repeat (go_big_quiet_step ((fail)))
                refine wpQuiet_nil ?_
                clear p0 p1 p2 p3
                refine wpAnyG_skip hfn (j := 24) (by kernel_rfl) rfl rfl ?_
                simp only [Act.put, List.setIfInBounds_toArray, List.set_cons_zero, List.set_cons_succ]
                refine wpAnyG_skip hfn (j := 25) (by kernel_rfl) rfl rfl ?_
                simp only [Act.put, List.setIfInBounds_toArray, List.set_cons_zero, List.set_cons_succ]
                replace hx := hx.trans hd
                clear hd
                refine batchG hfn (fuel := 0) [26, 27, 28] (by kernel_rfl) rfl ?_
                repeat (go_big_quiet_step ((fail)))
                refine wpQuiet_nil ?_
                refine wpAnyG_done (by kernel_rfl) ?_
                refine calmQ_normal ?_
                go_wp2
                go_roundw
                case rel => exact mod_rel HB HLE.out HN.out (HX.out.trans hx) (by rw [if_pos HT.out])
                case measure => exact mod_meas HB.out.1 HLE.out HN.out
        · have HT := Lib.hid ht
          refine ⟨wide_room _, (callsIn_wide.2 (takes_v _ 4 n bb false k 0 (by decide) false (by rw [mod_takes n bb k HN.out.1 HN.out.2, HR.out]; simp [ht]))).mono ?_⟩
          clear ht
          rintro e w4 ⟨rfl, hS⟩
          replace hx := hx.trans hS
          clear hS
          gi_wp2_with fail
          refine onePost_any (by kernel_rfl) ?_
          refine wpAnyG_done (by kernel_rfl) ?_
          refine calmQ_normal ?_
          go_wp2
          go_roundw
          case rel => exact mod_rel HB HLE.out HN.out (HX.out.trans hx) (by rw [if_neg HT.out])
          case measure => exact mod_meas HB.out.1 HLE.out HN.out
      · have HIN := Lib.hid hin
        have hdec : (decide (0 ≤ bb) && decide (bb < n)) = false := by
          rw [Bool.eq_false_iff, Ne, Bool.and_eq_true, decide_eq_true_eq, decide_eq_true_eq]; exact hin
        refine (may_v _ 4 n bb false (by decide) false (by rw [mod_may n bb HN.out.1, hdec])).mono ?_
        clear hdec
        rintro e w2 ⟨rfl, hx⟩
        obtain ⟨m⟩ : Nonempty Nat := ⟨0⟩
        have HT := Lib.hid (show ¬ r = bb by have := HRR.out; intro h; exact hin ⟨by omega, by omega⟩)
        by_cases h0 : 0 ≤ bb
        · have h1 : ¬ bb < n := fun h => hin ⟨h0, h⟩
          clear hin
          go_wp2_with fail
          refine (wpIn_wide (n := m)).1 ?_
          have hbb := hx.get HBOX.out
          have p0 := cell_of hbb 0
          have p1 := cell_of hbb 1
          have p2 := cell_of hbb 2
          have p3 := cell_of hbb 3
          simp at p0 p1 p2 p3
          replace p0 := cell_all p0
          replace p1 := cell_all p1
          replace p2 := cell_all p2
          replace p3 := cell_all p3
          clear hbb
          have hd := Ext.drew w2
          refine wpIn_region_G (fun j => !(List.contains (α := Nat) [3] j)) (by kernel_rfl) ?_
          refine batchG hfn (fuel := 2) [0, 1] (by kernel_rfl) rfl ?_
          repeat (go_big_quiet_step ((fail)))
          refine wpQuiet_nil ?_
          clear p0 p1 p2 p3
          refine wpAnyG_one (j := 2) (by kernel_rfl) rfl ?_
          gi_wp2_with fail
          refine ⟨wide_room _, (callsIn_wide.2 (pair_v _ k)).mono ?_⟩
          rintro e w3 ⟨rfl, hS⟩
          replace hx := hx.trans (hd.trans hS)
          gi_wp2_with fail
          refine onePost_ext (hS) ?_
          clear hS hd
          refine wpAnyG_one (j := 3) (by kernel_rfl) rfl ?_
          gi_wp2_with fail
          refine ⟨wide_room _, (callsIn_wide.2 (takes_v _ 4 n bb false k 0 (by decide) false (by rw [mod_takes n bb k HN.out.1 HN.out.2, HR.out]; simp [HT.out]))).mono ?_⟩
          rintro e w4 ⟨rfl, hS⟩
          replace hx := hx.trans hS
          clear hS
          gi_wp2_with fail
          refine onePost_any (by kernel_rfl) ?_
          refine wpAnyG_done (by kernel_rfl) ?_
          refine calmQ_normal ?_
          go_wp2
          go_roundw
          case rel => exact mod_rel HB HLE.out HN.out (HX.out.trans hx) (by rw [if_neg HT.out])
          case measure => exact mod_meas HB.out.1 HLE.out HN.out
        · clear hin
          go_wp2_with fail
          refine (wpIn_wide (n := m)).1 ?_
          have hbb := hx.get HBOX.out
          have p0 := cell_of hbb 0
          have p1 := cell_of hbb 1
          have p2 := cell_of hbb 2
          have p3 := cell_of hbb 3
          simp at p0 p1 p2 p3
          replace p0 := cell_all p0
          replace p1 := cell_all p1
          replace p2 := cell_all p2
          replace p3 := cell_all p3
          clear hbb
          have hd := Ext.drew w2
          refine wpIn_region_G (fun j => !(List.contains (α := Nat) [3] j)) (by kernel_rfl) ?_
          refine batchG hfn (fuel := 2) [0, 1] (by kernel_rfl) rfl ?_
          repeat (go_big_quiet_step ((fail)))
          refine wpQuiet_nil ?_
          clear p0 p1 p2 p3
          refine wpAnyG_one (j := 2) (by kernel_rfl) rfl ?_
          gi_wp2_with fail
          refine ⟨wide_room _, (callsIn_wide.2 (pair_v _ k)).mono ?_⟩
          rintro e w3 ⟨rfl, hS⟩
          replace hx := hx.trans (hd.trans hS)
          gi_wp2_with fail
          refine onePost_ext (hS) ?_
          clear hS hd
          refine wpAnyG_one (j := 3) (by kernel_rfl) rfl ?_
          gi_wp2_with fail
          refine ⟨wide_room _, (callsIn_wide.2 (takes_v _ 4 n bb false k 0 (by decide) false (by rw [mod_takes n bb k HN.out.1 HN.out.2, HR.out]; simp [HT.out]))).mono ?_⟩
          rintro e w4 ⟨rfl, hS⟩
          replace hx := hx.trans hS
          clear hS
          gi_wp2_with fail
          refine onePost_any (by kernel_rfl) ?_
          refine wpAnyG_done (by kernel_rfl) ?_
          refine calmQ_normal ?_
          go_wp2
          go_roundw
          case rel => exact mod_rel HB HLE.out HN.out (HX.out.trans hx) (by rw [if_neg HT.out])
          case measure => exact mod_meas HB.out.1 HLE.out HN.out
    · have htt : tt = 1 := by have := HB.out; have := HRR.out; rw [HB.out.2.2, if_pos (by omega)]
      subst htt
      have HX := Lib.hid hx
      clear hx
      go_wp2_with fail
      refine (alive06_any _).mono ?_
      rintro e w2 ⟨rfl, hS⟩
      go_wp2
      go_ret
      exact Ret.mk (HX.out.trans hS)
end Go.Proofs.Yteibbdieckephaa
