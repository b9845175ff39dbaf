/- The walk of SiftTells. -/
import Derived.Test.YteibbdieckephaaSift8
namespace Go.Proofs.Yteibbdieckephaa
open Go Go.RowKit

set_option maxRecDepth 100000 in
set_option maxHeartbeats 4000000 in
theorem siftTells_body (w : World) (kd : Nat) (a b : Int) (nt : Bool) (k v : Int) (p : Value) (zs : List (Int × Int)) (hk : kd < 256) (ha : I64 a) (hb : I64 b) (hp : PRow w p zs) :
    Calls Try.prog 3 #[.agg #[.int .u8 kd, .int .i64 a, .int .i64 b, .bool nt], .agg #[.int .i64 k, .int .i64 v], p] w (Ret (.bool true) w) := by
  have hfn : ∀ f, Fence.wide.fn f := fun _ => trivial
  obtain ⟨M, hM⟩ : ∃ M, sMay kd a b = M := ⟨_, rfl⟩
  obtain ⟨U, hU⟩ : ∃ U, sTakes kd a b nt k v = U := ⟨_, rfl⟩
  obtain ⟨Er, hEr⟩ : ∃ Er, eMay kd a b = Er := ⟨_, rfl⟩
  have HEr : Er = if M then 0 else 2 := by rw [← hEr, ← hM]; rfl
  have c1 := Lib.hid (fun W => siftMay_any W kd a b nt hk)
  have c2 := Lib.hid (fun W => refMay_any W kd a b nt ha)
  have c3 := Lib.hid (fun W => siftTakes_any W kd a b nt k v hk)
  have c4 := Lib.hid (fun W => refTakes_any W kd a b nt k v ha hb)
  have c5 := Lib.hid (fun W q l h h' => keep_any W kd a b nt q l hk h h')
  have c6 := Lib.hid (fun W q l h h' => split_any W kd a b nt q l hk h h')
  have c7 := Lib.hid (fun W q l h h' => refKeep_any W kd a b nt q l ha hb h h')
  have c8 := Lib.hid (fun W q l h h' => refKeep_any W kd a b (!nt) q l ha hb h h')
  have c9 := Lib.hid (fun W => not_any W kd a b nt)
  rw [hM] at c1 c2
  rw [hU] at c3 c4
  have HMM := Lib.hid hM
  have HEE := Lib.hid hEr
  have HNOT := Lib.hid (fun (h : M = true) => show zs.filter (fun z => sTakes kd a b (!nt) z.1 z.2) = zs.filter (fun z => !sTakes kd a b nt z.1 z.2) by
    congr 1
    funext z
    unfold sTakes
    rw [hM, h]
    cases sTk kd a b z.1 z.2 <;> cases nt <;> rfl)
  obtain ⟨K1, hK1⟩ : ∃ K1, (if M then zs.filter (fun z => sTakes kd a b nt z.1 z.2) else []) = K1 := ⟨_, rfl⟩
  obtain ⟨K2, hK2⟩ : ∃ K2, (if M then zs.filter (fun z => !sTakes kd a b nt z.1 z.2) else []) = K2 := ⟨_, rfl⟩
  have HK1 := Lib.hid hK1
  have HK2 := Lib.hid hK2
  have HER := Lib.hid HEr
  have HF := Lib.hid (fun (h : M = false) => show K1 = [] ∧ K2 = [] ∧ Er = 2 by subst h; exact ⟨hK1.symm, hK2.symm, HEr⟩)
  have HT := Lib.hid (fun (h : M = true) => show K1 = zs.filter (fun z => sTakes kd a b nt z.1 z.2) ∧ K2 = zs.filter (fun z => !sTakes kd a b nt z.1 z.2) ∧ Er = 0 by subst h; exact ⟨hK1.symm, hK2.symm, HEr⟩)
  have HLE := Lib.hid (show K1.length ≤ zs.length ∧ K2.length ≤ zs.length by
    rw [← hK1, ← hK2]
    cases M
    · exact ⟨Nat.zero_le _, Nat.zero_le _⟩
    · exact ⟨List.length_filter_le _ _, List.length_filter_le _ _⟩)
  clear HEr hK1 hK2
  have HP := Lib.hid hp
  obtain ⟨pa, pc, rfl⟩ := prow_slice hp
  obtain ⟨w1, hw1⟩ : ∃ w1, w1 = (w.alloc (.cells #[.int .u8 kd, .int .i64 a, .int .i64 b, .bool nt] 23)).alloc (.cells #[.int .i64 k, .int .i64 v] 25) := ⟨_, rfl⟩
  have hE : Ext w w1 := by rw [hw1]; exact ((Ext.refl w).alloc _).alloc _
  have hb0 : w1.heap[w.heap.size]? = some (.cells #[.int .u8 kd, .int .i64 a, .int .i64 b, .bool nt] 23 (0, 0)) := by rw [hw1, alloc_lt _ _ _ (by simp)]; exact alloc_at _ _ _ rfl
  have hb1 : w1.heap[w.heap.size + 1]? = some (.cells #[.int .i64 k, .int .i64 v] 25 (0, 0)) := by rw [hw1]; exact alloc_at _ _ _ (by simp)
  have HW := Lib.hid hw1
  have HB0 := Lib.hid hb0
  have HB1 := Lib.hid hb1
  unfold predV at c1 c2 c3 c4 c5 c6 c7 c8 c9
  unfold pairV at c3 c4
  clear hw1 hp hk ha hb hM hU hEr hb0 hb1
  by_cases hlen : 300 < zs.length
  · have hlen' : (300 : Int) < zs.length := by omega
    clear hlen
    go_enter Try.func3, Try.ntmps3
    go_wp2_with fail
    rw [← HW.out]
    refine (alive06_any _).mono ?_
    rintro e w2 ⟨rfl, h2⟩
    go_wp2
    go_ret
    exact Ret.mk (hE.trans h2)
  · have hlen' : ¬ (300 : Int) < zs.length := by omega
    have HL := Lib.hid (show zs.length ≤ 5000 by omega)
    clear hlen
    go_enter Try.func3, Try.ntmps3
    go_wp2_with fail
    rw [← HW.out]
    clear HW hlen'
    refine (own_any w1 _ zs (HP.out.ext hE) HL.out).mono ?_
    rintro e w2 ⟨v2, rfl, ho2, h2⟩
    have HM := Lib.hid ho2.row
    obtain ⟨ma, mc, rfl⟩ := prow_slice ho2.row
    have hx := h2
    clear ho2 h2
    have hbb := hx.get HB0.out
    have p0 := cell_of hbb 0
    have p1 := cell_of hbb 1
    have p2 := cell_of hbb 2
    have p3 := cell_of hbb 3
    simp at p0 p1 p2 p3
    go_wp2_with fail
    clear p0 p1 p2 p3 hbb
    refine (c5.out w2 _ zs HM.out HL.out).mono ?_
    rintro e w3 ⟨v3, rfl, ho3, h3⟩
    rw [HMM.out, HK1.out] at ho3
    rw [HEE.out]
    have HK := Lib.hid ho3.row
    have HM := Lib.hid (HM.out.ext h3)
    replace hx := hx.trans h3
    clear ho3 h3
    have hbb := hx.get HB0.out
    have p0 := cell_of hbb 0
    have p1 := cell_of hbb 1
    have p2 := cell_of hbb 2
    have p3 := cell_of hbb 3
    simp at p0 p1 p2 p3
    go_wp2_with fail
    clear p0 p1 p2 p3 hbb
    refine (c6.out w3 _ zs HM.out HL.out).mono ?_
    rintro e w4 ⟨v4, u4, rfl, ho4, hq4, h4⟩
    rw [HMM.out, HK1.out] at ho4
    rw [HMM.out, HK2.out] at hq4
    rw [HEE.out]
    have HA := Lib.hid ho4.row
    have HB := Lib.hid hq4.row
    have HK := Lib.hid (HK.out.ext h4)
    have HM := Lib.hid (HM.out.ext h4)
    replace hx := hx.trans h4
    clear ho4 hq4 h4
    go_wp2_with fail
    obtain ⟨m⟩ : Nonempty Nat := ⟨0⟩
    refine (wpIn_wide (n := m)).1 ?_
    have p0 := cell_of HB0.out 0
    have p1 := cell_of HB0.out 1
    have p2 := cell_of HB0.out 2
    have p3 := cell_of HB0.out 3
    have q0 := cell_of HB1.out 0
    have q1 := cell_of HB1.out 1
    simp at p0 p1 p2 p3 q0 q1
    replace p0 := cell_all p0
    replace p1 := cell_all p1
    replace p2 := cell_all p2
    replace p3 := cell_all p3
    replace q0 := cell_all q0
    replace q1 := cell_all q1
    replace hx := hx.trans (Ext.drew _)
    refine wpIn_region_G (fun j => !(List.contains (α := Nat) [3, 11, 17] j)) (by kernel_rfl) ?_
    refine batchG hfn (fuel := 18) [0, 2] (by kernel_rfl) rfl ?_
    repeat (go_big_quiet_step ((fail)))
    refine wpQuiet_nil ?_
    refine wpAnyG_one (j := 1) (by kernel_rfl) rfl ?_
    gi_wp2_with fail
    refine ⟨wide_room _, (callsIn_wide.2 (c1.out _)).mono ?_⟩
    rintro e w5 ⟨rfl, hS⟩
    have h45 := (Ext.drew w4).trans hS
    gi_wp2_with fail
    refine onePost_ext (hS) ?_
    refine wpAnyG_one (j := 3) (by kernel_rfl) rfl ?_
    gi_wp2_with fail
    refine ⟨wide_room _, (callsIn_wide.2 (c2.out _)).mono ?_⟩
    rintro e w6 ⟨rfl, hS6⟩
    have h46 := h45.trans hS6
    replace hx := hx.trans (hS.trans hS6)
    clear hS hS6 h45
    gi_wp2_with fail
    refine onePost_any (by kernel_rfl) ?_
    refine batchG hfn (fuel := 10) [4, 5, 6, 7, 9, 10] (by kernel_rfl) rfl ?_
    repeat (go_big_quiet_step ((fail)))
    refine wpQuiet_nil ?_
    refine wpAnyG_one (j := 8) (by kernel_rfl) rfl ?_
    gi_wp2_with fail
    refine ⟨wide_room _, (callsIn_wide.2 (c3.out _)).mono ?_⟩
    rintro e w7 ⟨rfl, hS⟩
    have h47 := h46.trans hS
    gi_wp2_with fail
    refine onePost_ext (hS) ?_
    refine wpAnyG_one (j := 11) (by kernel_rfl) rfl ?_
    gi_wp2_with fail
    refine ⟨wide_room _, (callsIn_wide.2 (c4.out _)).mono ?_⟩
    rintro e w8 ⟨rfl, hS8⟩
    have h48 := h47.trans hS8
    replace hx := hx.trans (hS.trans hS8)
    clear hS hS8 h46 h47
    gi_wp2_with fail
    refine onePost_any (by kernel_rfl) ?_
    refine batchG hfn (fuel := 3) [12, 13, 14, 15, 16] (by kernel_rfl) rfl ?_
    repeat (go_big_quiet_step ((fail)))
    refine wpQuiet_nil ?_
    refine wpAnyG_one (j := 17) (by kernel_rfl) rfl ?_
    gi_wp2_with fail
    refine ⟨wide_room _, (callsIn_wide.2 (samePairs04_any w8 _ _ zs (HM.out.ext h48) (HP.out.ext (hE.trans hx)) HL.out)).mono ?_⟩
    rintro e w9 ⟨rfl, hS⟩
    have h49 := h48.trans hS
    replace hx := hx.trans hS
    clear hS h48
    gi_wp2_with fail
    refine onePost_any (by kernel_rfl) ?_
    refine batchG hfn (fuel := 0) [18, 19] (by kernel_rfl) rfl ?_
    repeat (go_big_quiet_step ((fail)))
    refine wpQuiet_nil ?_
    refine wpAnyG_done (by kernel_rfl) ?_
    refine calmQ_normal ?_
    clear p0 p1 p2 p3 q0 q1
    have hbb := hx.get HB0.out
    have p0 := cell_of hbb 0
    have p1 := cell_of hbb 1
    have p2 := cell_of hbb 2
    have p3 := cell_of hbb 3
    simp at p0 p1 p2 p3
    go_wp2_with fail
    clear p0 p1 p2 p3 hbb
    refine (c2.out _).mono ?_
    rintro e w10 ⟨rfl, hS⟩
    have h410 := h49.trans hS
    replace hx := hx.trans hS
    clear hS h49
    cases M with
    | false =>
      obtain ⟨e1, e2, e3⟩ := HF.out (by trivial)
      subst e1 e2 e3
      obtain ⟨k1, k2, rfl⟩ := prow_slice HK.out
      obtain ⟨k3, k4, rfl⟩ := prow_slice HA.out
      obtain ⟨k5, k6, rfl⟩ := prow_slice HB.out
      rw [List.length_nil]
      go_wp2_with fail
      refine (alive06_any _).mono ?_
      rintro e w11 ⟨rfl, hS⟩
      go_wp2
      go_ret
      exact Ret.mk ((hE.trans hx).trans hS)
    | true =>
      obtain ⟨e1, e2, e3⟩ := HT.out (by trivial)
      subst e3
      have E1 := Lib.hid e1
      have E2 := Lib.hid e2
      clear e1 e2
      have hbb := hx.get HB0.out
      have p0 := cell_of hbb 0
      have p1 := cell_of hbb 1
      have p2 := cell_of hbb 2
      have p3 := cell_of hbb 3
      simp at p0 p1 p2 p3
      go_wp2_with fail
      clear p0 p1 p2 p3 hbb
      refine (c7.out _ _ zs (HP.out.ext (hE.trans hx)) HL.out).mono ?_
      rintro e w11 ⟨r1, rfl, hr1, hS⟩
      have HR1 := Lib.hid (show PRow w11 r1 K1 by rw [E1.out]; exact hr1.row)
      replace hx := hx.trans hS
      replace h410 := h410.trans hS
      clear hS hr1
      have HKL := Lib.hid (show K1.length ≤ 5000 from Nat.le_trans HLE.out.1 HL.out)
      have HKL2 := Lib.hid (show K2.length ≤ 5000 from Nat.le_trans HLE.out.2 HL.out)
      go_wp2_with fail
      refine (samePairs04_any w11 _ _ K1 (HK.out.ext h410) HR1.out HKL.out).mono ?_
      rintro e w12 ⟨rfl, hS⟩
      replace hx := hx.trans hS
      replace h410 := h410.trans hS
      clear hS
      go_wp2_with fail
      refine (samePairs04_any w12 _ _ K1 (HA.out.ext h410) (HK.out.ext h410) HKL.out).mono ?_
      rintro e w13 ⟨rfl, hS⟩
      replace hx := hx.trans hS
      replace h410 := h410.trans hS
      clear hS
      have hbb := hx.get HB0.out
      have p0 := cell_of hbb 0
      have p1 := cell_of hbb 1
      have p2 := cell_of hbb 2
      have p3 := cell_of hbb 3
      simp at p0 p1 p2 p3
      go_wp2_with fail
      clear p0 p1 p2 p3 hbb
      refine (c9.out _).mono ?_
      rintro e w14 ⟨rfl, hS⟩
      replace hx := hx.trans hS
      replace h410 := h410.trans hS
      clear hS
      go_wp2_with fail
      refine (c8.out _ _ zs (HP.out.ext (hE.trans hx)) HL.out).mono ?_
      rintro e w15 ⟨r2, rfl, hr2, hS⟩
      have HR2 := Lib.hid (show PRow w15 r2 K2 by rw [E2.out, ← HNOT.out (by trivial)]; exact hr2.row)
      replace hx := hx.trans hS
      replace h410 := h410.trans hS
      clear hS hr2
      go_wp2_with fail
      refine (samePairs04_any w15 _ _ K2 (HB.out.ext h410) HR2.out HKL2.out).mono ?_
      rintro e w16 ⟨rfl, hS⟩
      replace hx := hx.trans hS
      clear hS h410
      go_wp2_with fail
      refine (alive06_any _).mono ?_
      rintro e w17 ⟨rfl, hS⟩
      go_wp2
      go_ret
      exact Ret.mk ((hE.trans hx).trans hS)
theorem siftTells_walk (kd : Nat) (a b : Int) (nt : Bool) (k v : Int) (p : Option Addr) (len cap : Nat) (zs : List (Int × Int)) (w : World) (hk : kd < 256) (ha : I64 a) (hb : I64 b) (hp : PRow w (.slice p len cap) zs) :
    Calls Try.prog 3 #[.agg #[.int .u8 kd, .int .i64 a, .int .i64 b, .bool nt], .agg #[.int .i64 k, .int .i64 v], .slice p len cap] w (Ret (.bool true) w) :=
  siftTells_body w kd a b nt k v _ zs hk ha hb hp
end Go.Proofs.Yteibbdieckephaa
