/- joineryref34: Least, within, Most, May. -/
import Derived.Test.YtejknkhahjgdnaaBound6
namespace Go.Proofs.Ytejknkhahjgdnaa
open Go Go.RowKit

set_option maxRecDepth 100000 in
set_option maxHeartbeats 1000000 in
theorem least34_1 (w : World) (k : Nat) (hk : k ≤ 100) : Calls Try.prog 15 #[.int .u8 1, .int .i64 (k : Nat)] w (Num (leastN 1 k) w) := by
  have HF := Lib.hid (fib34_any w (k + 2) (by omega))
  have HL := Lib.hid (fun w p h => less_any w p (fibN (k + 2)) h (fibN_pos (k + 1)) (Nat.lt_of_lt_of_le (fibN_lt (by omega)) (Nat.pow_le_pow_right beta_pos (by decide))))
  have hk' : (k : Int) ≤ 100 := by omega
  go_enter Try.func15, Try.ntmps15
  go_wp2_with fail
  refine HF.out.mono ?_
  rintro e w1 ⟨f, rfl, n1, h1⟩
  have H1 := Lib.hid (And.intro n1 h1)
  clear n1 h1
  go_wp2_with fail
  refine (HL.out w1 f H1.out.1).mono ?_
  rintro e w2 ⟨g, rfl, n2, h2⟩
  have H2 := Lib.hid (And.intro n2 h2)
  clear n2 h2
  go_wp2
  go_ret
  exact ⟨_, rfl, H2.out.1, H1.out.2.trans H2.out.2⟩
set_option maxRecDepth 100000 in
set_option maxHeartbeats 1000000 in
theorem least34_2 (w : World) (h : Nat) (hh : h ≤ 100) : Calls Try.prog 15 #[.int .u8 2, .int .i64 (h : Nat)] w (Num (leastN 2 h) w) := by
  obtain ⟨c, hc⟩ : ∃ c, c = (h + 1) / 2 := ⟨_, rfl⟩
  have hcl : c ≤ 51 := by omega
  have hcq : ((h : Int) + 1) / 2 = (c : Int) := by omega
  have HB := Lib.hid (leastN_lt2 (h := h) (by omega))
  by_cases hp : h % 2 = 1
  · have hr : (h : Int) % 2 = 1 := by omega
    obtain ⟨d, rfl⟩ : ∃ d, c = d + 1 := ⟨c - 1, by omega⟩
    have e : leastN 2 h = 3 * 2 ^ d - 2 := by unfold leastN; simp [hp, ← hc]
    rw [e] at HB ⊢
    have HU : IntKind.u64.wrap (IntKind.u64.wrap (3 * 2 ^ d) - 2) = ((3 * 2 ^ d - 2 : Nat) : Int) := u64_pow (a := 3) (d := d) (by omega) (by omega) (by have := Nat.pow_pos (n := d) (show 0 < 2 by decide); omega)
    have HC := Lib.hid (from07_any w _ HB.out)
    rw [← HU] at HC
    clear e hp hc HU
    go_enter Try.func15, Try.ntmps15
    go_wp2_with fail
    refine HC.out.mono ?_
    rintro e w2 ⟨g, rfl, n2, h2⟩
    have H2 := Lib.hid (And.intro n2 h2)
    clear n2 h2
    go_wp2
    go_ret
    exact ⟨_, rfl, H2.out.1, H2.out.2⟩
  · have hr : (h : Int) % 2 = 0 := by omega
    have e : leastN 2 h = 1 * 2 ^ (c + 1) - 2 := by
      have : leastN 2 h = 2 * 2 ^ c - 2 := by unfold leastN; simp [hp, ← hc]
      rw [this, Nat.pow_succ, Nat.one_mul, Nat.mul_comm]
    rw [e] at HB ⊢
    have HU : IntKind.u64.wrap (IntKind.u64.wrap (2 ^ (c + 1)) - 2) = ((1 * 2 ^ (c + 1) - 2 : Nat) : Int) := by
      have := u64_pow (a := 1) (d := c + 1) (by omega) (by omega) (by have := Nat.pow_pos (n := c) (show 0 < 2 by decide); rw [Nat.pow_succ]; omega)
      simpa using this
    have HC := Lib.hid (from07_any w _ HB.out)
    rw [← HU] at HC
    clear e hp hc HU
    go_enter Try.func15, Try.ntmps15
    go_wp2_with fail
    refine HC.out.mono ?_
    rintro e w2 ⟨g, rfl, n2, h2⟩
    have H2 := Lib.hid (And.intro n2 h2)
    clear n2 h2
    go_wp2
    go_ret
    exact ⟨_, rfl, H2.out.1, H2.out.2⟩
set_option maxRecDepth 100000 in
set_option maxHeartbeats 1000000 in
theorem least34_3 (w : World) (h : Nat) (hh : h ≤ 100) : Calls Try.prog 15 #[.int .u8 3, .int .i64 (h : Nat)] w (Num (leastN 3 h) w) := by
  have HW := Lib.hid (weight34_any w h (by omega))
  have e : leastN 3 h = wrow h - 1 := rfl
  have HB := leastN_lt3 (h := h) (by omega)
  rw [e] at HB ⊢
  have h1 := wrow_pos h
  have h2 := wrow_lt (k := h) (by omega)
  generalize wrow h = x at *
  have HU : (x : Int) - 1 = ((x - 1 : Nat) : Int) := by omega
  have HC := Lib.hid (fun w => from07_any w _ HB)
  rw [← HU] at HC
  clear e HU HB
  go_enter Try.func15, Try.ntmps15
  go_wp2_with fail
  refine HW.out.mono ?_
  rintro e w1 ⟨rfl, hE⟩
  go_wp2_with fail
  refine (HC.out w1).mono ?_
  rintro e w2 ⟨g, rfl, n2, h2⟩
  have H2 := Lib.hid (And.intro n2 h2)
  clear n2 h2
  go_wp2
  go_ret
  exact ⟨_, rfl, H2.out.1, hE.trans H2.out.2⟩
set_option maxRecDepth 100000 in
set_option maxHeartbeats 1000000 in
theorem least34_4 (w : World) (h : Nat) (hh : h ≤ 4611686018427387904) : Calls Try.prog 15 #[.int .u8 4, .int .i64 (h : Nat)] w (Num (leastN 4 h) w) := by
  have e : leastN 4 h = h := rfl
  rw [e]
  have HC := Lib.hid (from07_any w h (by omega))
  have h2 : (h : Int) ≤ 4611686018427387904 := by omega
  clear e hh
  go_enter Try.func15, Try.ntmps15
  go_wp2_with fail
  refine HC.out.mono ?_
  rintro e w2 ⟨g, rfl, n2, h2⟩
  have H2 := Lib.hid (And.intro n2 h2)
  clear n2 h2
  go_wp2
  go_ret
  exact ⟨_, rfl, H2.out.1, H2.out.2⟩
/-- joineryref34.Least, of a height that there is. -/
theorem least34_any (w : World) (s h : Int) (k : okH s h = true) : Calls Try.prog 15 #[.int .u8 s, .int .i64 h] w (Num (LstN s h) w) := by
  rw [(lst_ok k).2]
  unfold okH at k
  simp only [Bool.and_eq_true, decide_eq_true_eq] at k
  obtain ⟨h, rfl⟩ := Int.eq_ofNat_of_zero_le k.1
  have k2 := k.2
  by_cases h4 : s = 4
  · subst h4
    rw [if_pos rfl] at k2
    simp only [decide_eq_true_eq] at k2
    exact least34_4 w h (by omega)
  · rw [if_neg h4] at k2
    simp only [Bool.and_eq_true, decide_eq_true_eq] at k2
    have : s = 1 ∨ s = 2 ∨ s = 3 := by omega
    rcases this with rfl | rfl | rfl
    · exact least34_1 w h (by omega)
    · exact least34_2 w h (by omega)
    · exact least34_3 w h (by omega)
theorem cmp07_num (w : World) (p q : Value) (a b : Nat) (hp : NumIs w p a) (hq : NumIs w q b) (ha : a < beta ^ 128) (hb : b < beta ^ 128) : Calls Try.prog 58 #[p, q] w (Ret (.int .i64 (cmpV a b)) w) := by
  obtain ⟨xs, h1, h2, h3⟩ := hp
  obtain ⟨ys, g1, g2, g3⟩ := hq
  have h := cmp07_any w p q xs ys h1 g1 h2.1 g2.1
  unfold CmpR at h
  rw [may_of h2 h3 ha, may_of g2 g3 hb, h3, g3] at h
  exact h
set_option maxHeartbeats 1000000 in
theorem within34_any (w : World) (s h : Int) (n : Nat) (k : okH s h = true) (hn : n ≤ 4611686018427387904) : Calls Try.prog 27 #[.int .u8 s, .int .i64 h, .int .i64 (n : Nat)] w (Ret (.bool (decide (LstN s h ≤ n))) w) := by
  have HL := Lib.hid (least34_any w s h k)
  have HLT := Lib.hid (lstN_lt s h)
  rw [← cmp_le]
  generalize LstN s h = L at *
  have hn2 : (n : Int) ≤ 4611686018427387904 := by omega
  have HN := Lib.hid hn
  clear hn k
  go_enter Try.func27, Try.ntmps27
  go_wp2_with fail
  refine HL.out.mono ?_
  rintro e w1 ⟨v, rfl, n1, h1⟩
  have H1 := Lib.hid (And.intro n1 h1)
  clear n1 h1
  go_wp2_with fail
  refine (from07_any w1 n (Nat.lt_of_le_of_lt HN.out (by decide))).mono ?_
  rintro e w2 ⟨u, rfl, n2, h2⟩
  have H2 := Lib.hid (And.intro n2 h2)
  clear n2 h2
  go_wp2_with fail
  refine (cmp07_num w2 v u L n (H1.out.1.ext H2.out.2) H2.out.1 HLT.out (u64_beta (Nat.lt_of_le_of_lt HN.out (by decide)))).mono ?_
  rintro e w3 ⟨rfl, h3⟩
  go_wp2
  go_ret
  exact ⟨rfl, (H1.out.2.trans H2.out.2).trans h3⟩
theorem okH_zero (s : Int) : okH s 0 = (decide (1 ≤ s) && decide (s ≤ 4)) := by
  unfold okH
  by_cases h4 : s = 4
  · subst h4; rfl
  · rw [if_neg h4, show decide ((0 : Int) ≤ 0) = true from rfl, show decide ((0 : Int) ≤ 100) = true from rfl, Bool.true_and, Bool.and_true]
    congr 1
    rw [Bool.eq_iff_iff]
    simp only [decide_eq_true_eq]
    omega
end Go.Proofs.Ytejknkhahjgdnaa
