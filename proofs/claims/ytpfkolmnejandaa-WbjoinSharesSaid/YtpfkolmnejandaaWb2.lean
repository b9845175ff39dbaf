/- wb.May, wb.Rank; joineryref18. -/
import Derived.Test.YtpfkolmnejandaaWb
import Derived.Test.YtpfkolmnejandaaBead3
namespace Go.Proofs.Ytpfkolmnejandaa
open Go Go.RowKit

def wbMay (T : Tr) : Bool := mayOf wbOne T
set_option maxHeartbeats 400000 in
theorem wbMay_any (w : World) (T : Tr) (hT : InH w T) (hc : T.pre.length ≤ 4000) : Calls Try.prog 16 #[.pointer T.ptr] w (Ret (.bool (wbMay T)) w) := by
  go_enter Try.func16, Try.ntmps16
  go_wp2_with fail
  refine (wbCheck_any _ T hT hc).mono ?_
  rintro e w1 ⟨rfl, h1⟩
  go_wp2
  go_ret
  exact ⟨rfl, h1⟩
theorem pow_log (n k : Nat) (hn : n ≠ 0) : k ≤ Nat.log2 n ↔ (0 : Int) < (n : Int) / 2 ^ k := by
  rw [Nat.le_log2 hn]
  have e : ((2 : Int) ^ k) = ((2 ^ k : Nat) : Int) := by simp
  rw [e]
  have hp : 0 < 2 ^ k := Nat.two_pow_pos k
  constructor
  · intro h
    have := (Nat.le_div_iff_mul_le hp).2 (by omega : 1 * 2 ^ k ≤ n)
    omega
  · intro h
    have h2 : 0 < n / 2 ^ k := by
      have : ((n / 2 ^ k : Nat) : Int) = (n : Int) / ((2 ^ k : Nat) : Int) := Int.natCast_ediv n (2 ^ k)
      omega
    have := (Nat.le_div_iff_mul_le hp).1 h2
    omega
set_option maxHeartbeats 1000000 in
theorem wbRank_any (w : World) (T : Tr) (n : Nat) (hT : InH w T) (hn : wt T = n) (h1 : 1 ≤ n) (h2 : n ≤ 100000) : Calls Try.prog 36 #[.pointer T.ptr] w (Ret (.int .i64 (Nat.log2 n)) w) := by
  have HN := Lib.hid hn
  have HU := Lib.hid (show IntKind.u64.wrap (n : Int) = n by
    have : (2 : Int) ^ 64 = 18446744073709551616 := by decide
    simp only [IntKind.wrap, IntKind.bits, IntKind.signed, this]
    simp
    omega)
  clear hn
  go_enter Try.func36, Try.ntmps36
  go_wp2_with fail
  refine (wbWeight_any w T hT).mono ?_
  rw [HN.out]
  rintro e w1 ⟨rfl, h1⟩
  go_wp2_with fail
  go_loop [2, 8] (fun r i => ∃ k : Nat, k ≤ 63 ∧ i = .int .i64 k ∧ r = .int .i64 (min k (Nat.log2 n) : Nat)) (fun _ i => 63 - (intOf i).toNat)
  case atStart => exact ⟨0, Nat.zero_le _, rfl, rfl⟩
  case round =>
    obtain ⟨k, hk, rfl, rfl⟩ := hrel
    by_cases hlt : k < 63
    · have hk1 : 0 ≤ (k : Int) + 1 := by omega
      have hk2 : (k : Int) + 1 ≤ 64 := by omega
      have htn : ((k : Int) + 1).toNat = k + 1 := by omega
      have hpow := pow_log n (k + 1) (by omega)
      by_cases hq : k + 1 ≤ Nat.log2 n
      · have hd : (0 : Int) < (n : Int) / 2 ^ (k + 1) := hpow.1 hq
        have hmin := Lib.hid (show min (k + 1) (Nat.log2 n) = k + 1 by omega)
        clear hpow hq
        go_wp2
        go_round
        case rel => exact ⟨k + 1, by omega, by go_num, by rw [hmin.out]; go_num⟩
        case measure => simp [intOf]; omega
      · have hd : ¬ (0 : Int) < (n : Int) / 2 ^ (k + 1) := fun h => hq (hpow.2 h)
        have hmin := Lib.hid (show min (k + 1) (Nat.log2 n) = min k (Nat.log2 n) by omega)
        clear hpow hq
        go_wp2
        go_round
        case rel => exact ⟨k + 1, by omega, by go_num, by rw [hmin.out]⟩
        case measure => simp [intOf]; omega
    · have hl := Nat.log2_lt (n := n) (k := 63) (by omega)
      have hl2 := Lib.hid (show min k (Nat.log2 n) = Nat.log2 n by
        have := hl.2 (by omega)
        omega)
      clear hl
      go_wp2
      go_ret
      exact ⟨ret_int (by rw [hl2.out]), h1⟩
end Go.Proofs.Ytpfkolmnejandaa
