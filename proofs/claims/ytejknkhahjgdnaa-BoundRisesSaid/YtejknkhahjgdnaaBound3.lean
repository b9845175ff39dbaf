/- bound.fewer, Least. -/
import Derived.Test.YtejknkhahjgdnaaBound2
namespace Go.Proofs.Ytejknkhahjgdnaa
open Go Go.RowKit

/-- the least of a height. -/
def leastN (s h : Nat) : Nat := if s = 1 then fibN (h + 2) - 1 else if s = 2 then (if h % 2 = 1 then 3 * 2 ^ ((h + 1) / 2 - 1) - 2 else 2 * 2 ^ ((h + 1) / 2) - 2) else if s = 3 then wrow h - 1 else h
theorem fibN_pos : ∀ n, 1 ≤ fibN (n + 1)
  | 0 => Nat.le_refl 1
  | n + 1 => by
    show 1 ≤ fibN n + fibN (n + 1)
    have := fibN_pos n
    omega
theorem wrap_u64n {n : Nat} (h : n < 18446744073709551616) : IntKind.u64.wrap (n : Int) = (n : Int) := by
  have : (2 : Int) ^ 64 = 18446744073709551616 := by decide
  simp only [IntKind.wrap, IntKind.bits, IntKind.signed]
  simp
  omega
theorem u64_pow {a d : Nat} (ha3 : a ≤ 3) (hd : d ≤ 51) (h2 : 2 ≤ a * 2 ^ d) : IntKind.u64.wrap (IntKind.u64.wrap ((a : Int) * 2 ^ d) - 2) = ((a * 2 ^ d - 2 : Nat) : Int) := by
  have h1 : 2 ^ d ≤ 2 ^ 51 := Nat.pow_le_pow_right (by decide) hd
  have h3 : a * 2 ^ d ≤ 3 * 2 ^ 51 := Nat.mul_le_mul ha3 h1
  have e : ((a : Int) * 2 ^ d) = ((a * 2 ^ d : Nat) : Int) := by simp
  rw [e]
  generalize a * 2 ^ d = P at *
  have h4 : P < 18446744073709551616 := Nat.lt_of_le_of_lt h3 (by decide)
  rw [wrap_u64n h4, show (P : Int) - 2 = ((P - 2 : Nat) : Int) by omega, wrap_u64n (by omega)]
set_option maxHeartbeats 1000000 in
theorem least2_any (w : World) (h : Nat) (hh : h ≤ 101) : Calls Try.prog 52 #[.int .i64 (h : Nat)] w (Ret (.int .u64 (leastN 2 h : Nat)) w) := by
  obtain ⟨c, hc⟩ : ∃ c, c = (h + 1) / 2 := ⟨_, rfl⟩
  have hcl : c ≤ 51 := by omega
  have hcq : ((h : Int) + 1) / 2 = (c : Int) := by omega
  by_cases hp : h % 2 = 1
  · have hr : (h : Int) % 2 = 1 := by omega
    obtain ⟨d, rfl⟩ : ∃ d, c = d + 1 := ⟨c - 1, by omega⟩
    have e : leastN 2 h = 3 * 2 ^ d - 2 := by unfold leastN; simp [hp, ← hc]
    rw [e]
    have HU := Lib.hid (u64_pow (a := 3) (d := d) (by omega) (by omega) (by have := Nat.pow_pos (n := d) (show 0 < 2 by decide); omega))
    clear e hp hc
    go_enter Try.func52, Try.ntmps52
    go_wp2
    go_ret
    exact ⟨by rw [← HU.out]; rfl, Ext.refl _⟩
  · have hr : (h : Int) % 2 = 0 := by omega
    have e : leastN 2 h = 2 * 2 ^ c - 2 := by unfold leastN; simp [hp, ← hc]
    rw [e]
    have HU := Lib.hid (u64_pow (a := 2) (d := c) (by omega) (by omega) (by have := Nat.pow_pos (n := c) (show 0 < 2 by decide); omega))
    clear e hp hc
    go_enter Try.func52, Try.ntmps52
    go_wp2
    go_ret
    exact ⟨by rw [← HU.out]; rfl, Ext.refl _⟩
set_option maxHeartbeats 1000000 in
theorem least3_any (w : World) (h : Nat) (hh : h ≤ 101) : Calls Try.prog 53 #[.int .i64 (h : Nat)] w (Ret (.int .u64 (leastN 3 h : Nat)) w) := by
  have HW := Lib.hid (weight_any w h hh)
  have e : leastN 3 h = wrow h - 1 := rfl
  rw [e]
  have h1 := wrow_pos h
  have h2 := wrow_lt (k := h) (by omega)
  generalize wrow h = x at *
  have HU := Lib.hid (show (x : Int) - 1 = ((x - 1 : Nat) : Int) by omega)
  clear e
  go_enter Try.func53, Try.ntmps53
  go_wp2_with fail
  refine HW.out.mono ?_
  rintro e w1 ⟨rfl, hE⟩
  go_wp2
  go_ret
  exact ⟨by rw [← HU.out]; rfl, hE⟩
theorem least4_any (w : World) (h : Nat) (hh : h ≤ 4611686018427387904) : Calls Try.prog 55 #[.int .i64 (h : Nat)] w (Ret (.int .u64 (leastN 4 h : Nat)) w) := by
  have e : leastN 4 h = h := rfl
  rw [e]
  have h2 : (h : Int) ≤ 4611686018427387904 := by omega
  have HU := Lib.hid (wrap_u64n (n := h) (by omega))
  clear e hh
  go_enter Try.func55, Try.ntmps55
  go_wp2
  go_ret
  exact ⟨by first | rfl | (rw [HU.out]), Ext.refl _⟩
set_option maxHeartbeats 2000000 in
theorem fewer_any (w : World) (h : Nat) (hh : h ≤ 101) : Calls Try.prog 25 #[.int .i64 ((h : Int) + 2)] w (Num (leastN 1 h) w) := by
  have e : leastN 1 h = fibN (h + 2) - 1 := rfl
  rw [e]
  clear e
  go_enter Try.func25, Try.ntmps25
  go_wp2_with fail
  go_loopw [2, 3] (fun v i W => ∃ k : Nat, i = .int .i64 ((k : Int) + 1) ∧ Hid (k ≤ h ∧ NumIs W v (fibN (k + 2) - 1) ∧ Ext w W)) (fun _ i _ => h + 1 - (intOf i).toNat)
  case atStart => exact ⟨0, rfl, Lib.hid ⟨Nat.zero_le _, num_nil _ _ _, Ext.refl _⟩⟩
  case round =>
    obtain ⟨k, rfl, HH⟩ := hrel
    by_cases hk : k < h
    · have HK := Lib.hid hk
      have HF := Lib.hid (natFib_any wr ((k + 1 : Nat) : Int))
      have e1 : FibE ((k + 1 : Nat) : Int) = 0 := if_pos (by omega)
      have e2 : FibV ((k + 1 : Nat) : Int) = fibN (k + 1) := by unfold FibV; rw [if_pos (by omega)]; rfl
      unfold Fibs at HF
      rw [e1, e2] at HF
      have hle : (k : Int) + 1 ≤ h := by omega
      rw [show ((k : Int) + 1) = ((k + 1 : Nat) : Int) by rfl] at *
      clear e1 e2
      go_wp2_with fail
      refine HF.out.mono ?_
      rintro e w1 ⟨f, rfl, n1, h1⟩
      have hp := fibN_pos (k + 1)
      have HA := Lib.hid (natAdd_num w1 u2 f (fibN (k + 2) - 1) (fibN (k + 1)) (HH.out.2.1.ext h1) n1 (Nat.lt_of_le_of_lt (Nat.sub_le _ _) (Nat.lt_of_lt_of_le (fibN_lt (by omega)) (Nat.pow_le_pow_right beta_pos (by decide)))) (Nat.lt_of_lt_of_le (fibN_lt (by omega)) (Nat.pow_le_pow_right beta_pos (by decide))))
      have hs : fibN (k + 2) - 1 + fibN (k + 1) = fibN (k + 1 + 2) - 1 := by
        have h1 : fibN (k + 1 + 2) = fibN (k + 1) + fibN (k + 2) := rfl
        have h2 : 1 ≤ fibN (k + 2) := hp
        omega
      have hlt : fibN (k + 1 + 2) - 1 < beta ^ 128 := Nat.lt_of_le_of_lt (Nat.sub_le _ _) (Nat.lt_of_lt_of_le (fibN_lt (by omega)) (Nat.pow_le_pow_right beta_pos (by decide)))
      rw [hs] at HA
      unfold Fits at HA
      rw [(fit_of hlt).1, (fit_of hlt).2] at HA
      have HX := Lib.hid (HH.out.2.2.trans h1)
      clear n1 h1 hp hs hlt
      go_wp2_with fail
      refine HA.out.mono ?_
      rintro e w2 ⟨s, rfl, n2, h2⟩
      have HN := Lib.hid (And.intro n2 h2)
      clear n2 h2
      go_wp2
      go_roundw
      case rel => exact ⟨k + 1, by go_num, Lib.hid ⟨HK.out, HN.out.1, HX.out.trans HN.out.2⟩⟩
      case measure => simp [intOf]; have := HK.out; omega
    · obtain rfl : k = h := Nat.le_antisymm HH.out.1 (Nat.le_of_not_lt hk)
      have hle : ¬ (k : Int) + 1 ≤ k := by omega
      go_wp2
      go_ret
      exact ⟨_, rfl, HH.out.2.1, HH.out.2.2⟩
end Go.Proofs.Ytejknkhahjgdnaa
