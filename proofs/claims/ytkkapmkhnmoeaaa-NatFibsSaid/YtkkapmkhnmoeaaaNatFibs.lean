/- joinerylaw07.NatFibs. -/
import Derived.Test.YtkkapmkhnmoeaaaByte4
namespace Go.Proofs.Ytkkapmkhnmoeaaa
open Go Go.RowKit

theorem fibV_lt (i : Int) : FibV i < beta ^ 7 := by
  unfold FibV
  split
  · exact fibN_lt (by omega)
  · exact Nat.pow_pos beta_pos
theorem lt7 {n : Nat} (h : n < beta ^ 7) : n < beta ^ 128 := Nat.lt_of_lt_of_le h (Nat.pow_le_pow_right beta_pos (by decide))
set_option maxRecDepth 100000 in
set_option maxHeartbeats 2000000 in
theorem natFibs_walk (i : Int) (w : World) (wf : (Lit.int .i64 i).wf = true) : Calls Try.prog 3 #[.int .i64 i] w (Ret (.bool true) w) := by
  have hb : -9223372036854775808 ≤ i ∧ i ≤ 9223372036854775807 := by
    simp only [Lit.wf, Bool.and_eq_true, decide_eq_true_eq] at wf
    exact wf
  clear wf
  have HB := Lib.hid hb
  clear hb
  have HF := Lib.hid (fun w => natFib_any w i)
  have HG := Lib.hid (fun w => fib07_any w i)
  obtain ⟨E, hE⟩ : ∃ E, FibE i = E := ⟨_, rfl⟩
  obtain ⟨V, hV⟩ : ∃ V, FibV i = V := ⟨_, rfl⟩
  have HL := Lib.hid (fibV_lt i)
  unfold Fibs at HF HG
  rw [hE, hV] at HF HG
  rw [hV] at HL
  have HE := Lib.hid hE
  have HV := Lib.hid hV
  clear hE hV
  by_cases hi : 2 ≤ i ∧ i ≤ 200
  · obtain ⟨hi0, hi1⟩ := hi
    have HF1 := Lib.hid (fun w => natFib_any w (i - 1))
    have HF2 := Lib.hid (fun w => natFib_any w (i - 2))
    have e1 : FibE (i - 1) = 0 := if_pos (by omega)
    have e2 : FibE (i - 2) = 0 := if_pos (by omega)
    have v1 : FibV (i - 1) = fibN (i.toNat - 1) := by unfold FibV; rw [if_pos (by omega)]; congr 1; omega
    have v2 : FibV (i - 2) = fibN (i.toNat - 2) := by unfold FibV; rw [if_pos (by omega)]; congr 1; omega
    have HV3 := Lib.hid (show FibV (i - 1) + FibV (i - 2) = V by
      rw [v1, v2, ← HV.out]
      unfold FibV
      rw [if_pos (by omega)]
      obtain ⟨k, hk⟩ : ∃ k, i.toNat = k + 2 := ⟨i.toNat - 2, by omega⟩
      rw [hk]
      show fibN (k + 1) + fibN k = fibN k + fibN (k + 1)
      exact Nat.add_comm _ _)
    have HL1 := Lib.hid (fibV_lt (i - 1))
    have HL2 := Lib.hid (fibV_lt (i - 2))
    unfold Fibs at HF1 HF2
    rw [e1] at HF1
    rw [e2] at HF2
    generalize FibV (i - 1) = V1 at *
    generalize FibV (i - 2) = V2 at *
    clear e1 e2 v1 v2
    go_enter Try.func3, Try.ntmps3
    go_wp2_with fail
    refine (HF.out w).mono ?_
    rintro e w1 ⟨a, rfl, n1, h1⟩
    go_wp2_with fail
    refine (HG.out w1).mono ?_
    rintro e w2 ⟨b, rfl, n2, h2⟩
    have N1 := Lib.hid (n1.ext h2)
    have N2 := Lib.hid n2
    have X2 := Lib.hid (h1.trans h2)
    clear n1 n2 h1 h2
    go_wp2_with fail
    refine (sameN_num w2 a b V N1.out N2.out (lt256 (lt7 HL.out))).mono ?_
    rintro e w3 ⟨rfl, h3⟩
    replace X2 := Lib.hid (X2.out.trans h3)
    replace N1 := Lib.hid (N1.out.ext h3)
    clear h3
    go_wp2_with fail
    refine (HF1.out w3).mono ?_
    rintro e w4 ⟨c, rfl, n4, h4⟩
    replace X2 := Lib.hid (X2.out.trans h4)
    replace N1 := Lib.hid (N1.out.ext h4)
    have N4 := Lib.hid n4
    clear n4 h4
    go_wp2_with fail
    refine (HF2.out w4).mono ?_
    rintro e w5 ⟨d, rfl, n5, h5⟩
    replace X2 := Lib.hid (X2.out.trans h5)
    replace N1 := Lib.hid (N1.out.ext h5)
    replace N4 := Lib.hid (N4.out.ext h5)
    have N5 := Lib.hid n5
    clear n5 h5
    go_wp2_with fail
    refine (natAdd_num w5 c d V1 V2 N4.out N5.out (lt7 HL1.out) (lt7 HL2.out)).mono ?_
    rw [HV3.out]
    unfold Fits
    rw [(fit_of (lt7 HL.out)).1, (fit_of (lt7 HL.out)).2]
    rintro e w6 ⟨s, rfl, n6, h6⟩
    replace X2 := Lib.hid (X2.out.trans h6)
    replace N1 := Lib.hid (N1.out.ext h6)
    have N6 := Lib.hid n6
    clear n6 h6
    go_wp2_with fail
    refine (sameN_num w6 s a V N6.out N1.out (lt256 (lt7 HL.out))).mono ?_
    rintro e w7 ⟨rfl, h7⟩
    replace X2 := Lib.hid (X2.out.trans h7)
    clear h7
    go_wp2_with fail
    refine (alive07_any _).mono ?_
    rintro e w8 ⟨rfl, h8⟩
    go_wp2
    go_ret
    exact Ret.mk (X2.out.trans h8)
  · by_cases hi0 : i < 2
    · clear hi
      go_enter Try.func3, Try.ntmps3
      go_wp2_with fail
      refine (HF.out w).mono ?_
      rintro e w1 ⟨a, rfl, n1, h1⟩
      go_wp2_with fail
      refine (HG.out w1).mono ?_
      rintro e w2 ⟨b, rfl, n2, h2⟩
      have N1 := Lib.hid (n1.ext h2)
      have N2 := Lib.hid n2
      have X2 := Lib.hid (h1.trans h2)
      clear n1 n2 h1 h2
      go_wp2_with fail
      refine (sameN_num w2 a b V N1.out N2.out (lt256 (lt7 HL.out))).mono ?_
      rintro e w3 ⟨rfl, h3⟩
      replace X2 := Lib.hid (X2.out.trans h3)
      clear h3
      go_wp2_with fail
      refine (alive07_any _).mono ?_
      rintro e w8 ⟨rfl, h8⟩
      go_wp2
      go_ret
      exact Ret.mk (X2.out.trans h8)
    · have hi1 : 200 < i := by omega
      clear hi
      go_enter Try.func3, Try.ntmps3
      go_wp2_with fail
      refine (HF.out w).mono ?_
      rintro e w1 ⟨a, rfl, n1, h1⟩
      go_wp2_with fail
      refine (HG.out w1).mono ?_
      rintro e w2 ⟨b, rfl, n2, h2⟩
      have N1 := Lib.hid (n1.ext h2)
      have N2 := Lib.hid n2
      have X2 := Lib.hid (h1.trans h2)
      clear n1 n2 h1 h2
      go_wp2_with fail
      refine (sameN_num w2 a b V N1.out N2.out (lt256 (lt7 HL.out))).mono ?_
      rintro e w3 ⟨rfl, h3⟩
      replace X2 := Lib.hid (X2.out.trans h3)
      clear h3
      go_wp2_with fail
      refine (alive07_any _).mono ?_
      rintro e w8 ⟨rfl, h8⟩
      go_wp2
      go_ret
      exact Ret.mk (X2.out.trans h8)
end Go.Proofs.Ytkkapmkhnmoeaaa
