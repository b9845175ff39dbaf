/- joineryref07: May, Add, Mul, Pow, Fib, From. -/
import Derived.Test.YtkkapmkhnmoeaaaByte3
import Derived.Test.YtkkapmkhnmoeaaaNatRing
namespace Go.Proofs.Ytkkapmkhnmoeaaa
open Go Go.RowKit

set_option maxHeartbeats 1000000 in
theorem may07_any (w : World) (p : Value) (xs : List Nat) (h : URow w p xs) : Calls Try.prog 19 #[p] w (Ret (.bool (mayN xs)) w) := by
  obtain ⟨a, c, rfl⟩ := h.slice
  by_cases hl : xs.length ≤ 128
  · by_cases h0 : xs.length = 0
    · have hx : xs = [] := List.length_eq_zero_iff.1 h0
      subst hx
      rw [show mayN [] = true by decide, show ([] : List Nat).length = 0 from rfl]
      clear h hl h0
      go_enter Try.func19, Try.ntmps19
      go_wp2
      go_ret
      exact Ret.mk (Ext.refl _)
    · rcases h with ⟨h, _⟩ | ⟨b, o, c', hv, _, h2, h3⟩
      · rw [h] at h0; exact absurd rfl h0
      · obtain ⟨rfl, rfl⟩ : a = some ⟨b, o, none⟩ ∧ c = c' := by cases hv; exact ⟨rfl, rfl⟩
        obtain ⟨m, hm⟩ : ∃ m, xs.length = m + 1 := ⟨xs.length - 1, by omega⟩
        have hc := urow_cell h3 m (by omega)
        have hmay : mayN xs = !decide (xs.getD m 0 = 0) := by
          unfold mayN
          rw [decide_eq_true hl, Bool.true_and, show xs.length - 1 = m by omega]
          have hne : xs ≠ [] := by intro e; rw [e] at h0; exact h0 rfl
          by_cases hz : xs.getD m 0 = 0
          · rw [decide_eq_true hz, decide_eq_false (by rintro (h | h); exact hne h; exact h hz)]; rfl
          · rw [decide_eq_false hz, decide_eq_true (Or.inr hz)]; rfl
        rw [hmay]
        rw [show m = xs.length - 1 by omega] at *
        generalize xs.getD (xs.length - 1) 0 = d at *
        have hcap : xs.length ≤ c := h2
        have hpos : 0 < xs.length := by omega
        have hl1 : (xs.length : Int) ≤ 128 := by omega
        have h01 : ¬ (xs.length : Int) = 0 := by omega
        have htn : ((xs.length : Int) - 1).toNat = xs.length - 1 := by omega
        have hlt : xs.length - 1 < xs.length := by omega
        clear hv h2 h3 hmay h0 hl hm
        have hund : undef = Value.tuple #[] := rfl
        by_cases hz : d = 0
        · subst hz
          go_enter Try.func19, Try.ntmps19
          go_wp2
          go_ret
          exact ⟨ret_bool (by rw [show ((xs.length : Int) == 0) = false by simpa using h01]; rfl), Ext.refl _⟩
        · rw [decide_eq_false hz]
          have hz' : ¬ (d : Int) = 0 := by omega
          have hz2 : ((d : Int) == 0) = false := by simpa using hz
          clear hz
          go_enter Try.func19, Try.ntmps19
          go_wp2
          go_ret
          exact ⟨ret_bool (by rw [show ((d : Int) != 0) = true by simpa using hz', Bool.or_true]; rfl), Ext.refl _⟩
  · have e : mayN xs = false := by unfold mayN; simp [hl]
    rw [e]
    have hl' : ¬ (xs.length : Int) ≤ 128 := by omega
    clear h e hl
    go_enter Try.func19, Try.ntmps19
    go_wp2
    go_ret
    exact Ret.mk (Ext.refl _)
theorem bytes_num (w : World) (p : Value) (n : Nat) (h : NumIs w p n) (hn : n < beta ^ 256) : Calls Try.prog 31 #[p] w (BNum n w) := by
  obtain ⟨xs, h1, h2, h3⟩ := h
  have := bytes_any w p xs h1 h2.1 (Nat.le_trans ((norm_len h2 256).2 (by rw [h3]; exact hn)) (by decide))
  rwa [h3] at this
theorem add07_num (w : World) (p q : Value) (a b : Nat) (hp : BIs w p a) (hq : BIs w q b) (ha : a < bby ^ bK) (hb : b < bby ^ bK) : Calls Try.prog 27 #[p, q] w (BNum (a + b) w) := by
  obtain ⟨xs, h1, h2, h3⟩ := hp
  obtain ⟨ys, g1, g2, g3⟩ := hq
  have := add07_any w p q xs ys h1 g1 h2.1 g2.1 (bis_lenK h2 h3 ha) (bis_lenK g2 g3 hb)
  rwa [h3, g3] at this
theorem mul07_num (w : World) (p q : Value) (a b : Nat) (hp : BIs w p a) (hq : BIs w q b) (ha : a < bby ^ bK) (hb : b < bby ^ bK) : Calls Try.prog 33 #[p, q] w (BNum (a * b) w) := by
  obtain ⟨xs, h1, h2, h3⟩ := hp
  obtain ⟨ys, g1, g2, g3⟩ := hq
  have := mul07_any w p q xs ys h1 g1 h2.1 g2.1 (bis_lenK h2 h3 ha) (bis_lenK g2 g3 hb)
  rwa [h3, g3] at this
theorem may_num {xs : List Nat} (hw : Words xs) (h : mayN xs = true) : Norm xs ∧ nval xs < beta ^ 128 := by
  obtain ⟨h1, h2⟩ := (mayN_norm hw).1 h
  exact ⟨h1, (norm_len h1 128).1 h2⟩
theorem lt_bby {n k : Nat} (h : n < beta ^ k) (hk : 4 * k ≤ 5000) : n < bby ^ bK := by
  rw [beta_bby] at h
  exact Nat.lt_of_lt_of_le h (Nat.pow_le_pow_right bby_pos (show 4 * k ≤ bK from hk))
set_option maxHeartbeats 1000000 in
theorem addE07_any (w : World) (p q : Value) (xs ys : List Nat) (hp : URow w p xs) (hq : URow w q ys) (hx : Words xs) (hy : Words ys) : Calls Try.prog 13 #[p, q] w (Both xs ys (nval xs + nval ys) w) := by
  obtain ⟨N, hN⟩ : ∃ N, nval xs + nval ys = N := ⟨_, rfl⟩
  have HNN := Lib.hid hN
  have HBIG := Lib.hid (show nval xs < beta ^ 128 → nval ys < beta ^ 128 → N < beta ^ 256 by
    intro a1 a2
    have a3 : beta ^ 129 ≤ beta ^ 256 := Nat.pow_le_pow_right beta_pos (by decide)
    have a4 : beta ^ 128 * 2 ≤ beta ^ 129 := by rw [Nat.pow_succ]; exact Nat.mul_le_mul_left _ (by decide)
    generalize beta ^ 128 = A at *
    generalize beta ^ 129 = B at *
    generalize beta ^ 256 = C at *
    omega)
  rw [hN]
  clear hN
  have HM1 := Lib.hid (may07_any w p xs hp)
  have HM2 := Lib.hid (fun W (h : Ext w W) => may07_any W q ys (hq.ext h))
  have HP := Lib.hid hp
  have HQ := Lib.hid hq
  have HX := Lib.hid (And.intro hx hy)
  cases m1 : mayN xs with
  | false =>
    have HE := Lib.hid (show SumE xs ys N = 2 ∧ SumN xs ys N = 0 by unfold SumE SumN; rw [m1]; exact ⟨rfl, rfl⟩)
    rw [m1] at HM1
    clear hp hq hx hy m1
    go_enter Try.func13, Try.ntmps13
    go_wp2_with fail
    refine HM1.out.mono ?_
    rintro e w1 ⟨rfl, h1⟩
    go_wp2
    go_ret2
    unfold Both
    rw [HE.out.1, HE.out.2]
    exact ⟨_, rfl, num_nil _ _ _, h1⟩
  | true =>
    cases m2 : mayN ys with
    | false =>
      have HE := Lib.hid (show SumE xs ys N = 2 ∧ SumN xs ys N = 0 by unfold SumE SumN; rw [m1, m2]; exact ⟨rfl, rfl⟩)
      rw [m1] at HM1
      rw [m2] at HM2
      clear hp hq hx hy m1 m2
      go_enter Try.func13, Try.ntmps13
      go_wp2_with fail
      refine HM1.out.mono ?_
      rintro e w1 ⟨rfl, h1⟩
      go_wp2_with fail
      refine (HM2.out w1 h1).mono ?_
      rintro e w2 ⟨rfl, h2⟩
      go_wp2
      go_ret2
      unfold Both
      rw [HE.out.1, HE.out.2]
      exact ⟨_, rfl, num_nil _ _ _, h1.trans h2⟩
    | true =>
      have HE := Lib.hid (show SumE xs ys N = fitE N ∧ SumN xs ys N = fitN N by unfold SumE SumN; rw [m1, m2]; exact ⟨rfl, rfl⟩)
      have n1 := may_num hx m1
      have n2 := may_num hy m2
      have HN := Lib.hid (And.intro n1 n2)
      rw [m1] at HM1
      rw [m2] at HM2
      clear hp hq hx hy m1 m2 n1 n2
      go_enter Try.func13, Try.ntmps13
      go_wp2_with fail
      refine HM1.out.mono ?_
      rintro e w1 ⟨rfl, h1⟩
      go_wp2_with fail
      refine (HM2.out w1 h1).mono ?_
      rintro e w2 ⟨rfl, h2⟩
      have h02 := h1.trans h2
      go_wp2_with fail
      refine (bytes_num w2 p (nval xs) ⟨xs, HP.out.ext h02, HN.out.1.1, rfl⟩ (lt256 HN.out.1.2)).mono ?_
      rintro e w3 ⟨v3, bs, rfl, g1, g2, g3, h3⟩
      go_wp2_with fail
      refine (bytes_num w3 q (nval ys) ⟨ys, HQ.out.ext (h02.trans h3), HN.out.2.1, rfl⟩ (lt256 HN.out.2.2)).mono ?_
      rintro e w4 ⟨v4, cs, rfl, k1, k2, k3, h4⟩
      go_wp2_with fail
      refine (add07_num w4 v3 v4 (nval xs) (nval ys) ⟨bs, g1.ext h4, g2, g3⟩ ⟨cs, k1, k2, k3⟩ (lt_bby HN.out.1.2 (by decide)) (lt_bby HN.out.2.2 (by decide))).mono ?_
      rw [HNN.out]
      rintro e w5 ⟨v5, ds, rfl, j1, j2, j3, h5⟩
      have HX5 := Lib.hid ((h02.trans (h3.trans h4)).trans h5)
      have HD := Lib.hid (show BIs w5 v5 N from ⟨ds, j1, j2, j3⟩)
      clear g1 g2 g3 k1 k2 k3 j1 j2 j3 h02 h1 h2 h3 h4 h5
      go_wp2_with fail
      refine (fits07_any w5 v5 N HD.out (lt_bby (HBIG.out HN.out.1.2 HN.out.2.2) (by decide))).mono ?_
      rintro e w6 ⟨v6, rfl, hv6, h6⟩
      have HV := Lib.hid hv6
      go_wp2
      go_ret2
      unfold Both
      rw [HE.out.1, HE.out.2]
      exact ⟨_, rfl, HV.out, HX5.out.trans h6⟩
set_option maxHeartbeats 1000000 in
theorem mulE07_any (w : World) (p q : Value) (xs ys : List Nat) (hp : URow w p xs) (hq : URow w q ys) (hx : Words xs) (hy : Words ys) : Calls Try.prog 15 #[p, q] w (Both xs ys (nval xs * nval ys) w) := by
  obtain ⟨N, hN⟩ : ∃ N, nval xs * nval ys = N := ⟨_, rfl⟩
  have HNN := Lib.hid hN
  have HBIG := Lib.hid (show nval xs < beta ^ 128 → nval ys < beta ^ 128 → N < beta ^ 256 by
    intro a1 a2
    rw [← hN, show (256 : Nat) = 128 + 128 from rfl, Nat.pow_add]
    exact Nat.mul_lt_mul_of_lt_of_le a1 (Nat.le_of_lt a2) (Nat.pow_pos beta_pos))
  rw [hN]
  clear hN
  have HM1 := Lib.hid (may07_any w p xs hp)
  have HM2 := Lib.hid (fun W (h : Ext w W) => may07_any W q ys (hq.ext h))
  have HP := Lib.hid hp
  have HQ := Lib.hid hq
  have HX := Lib.hid (And.intro hx hy)
  cases m1 : mayN xs with
  | false =>
    have HE := Lib.hid (show SumE xs ys N = 2 ∧ SumN xs ys N = 0 by unfold SumE SumN; rw [m1]; exact ⟨rfl, rfl⟩)
    rw [m1] at HM1
    clear hp hq hx hy m1
    go_enter Try.func15, Try.ntmps15
    go_wp2_with fail
    refine HM1.out.mono ?_
    rintro e w1 ⟨rfl, h1⟩
    go_wp2
    go_ret2
    unfold Both
    rw [HE.out.1, HE.out.2]
    exact ⟨_, rfl, num_nil _ _ _, h1⟩
  | true =>
    cases m2 : mayN ys with
    | false =>
      have HE := Lib.hid (show SumE xs ys N = 2 ∧ SumN xs ys N = 0 by unfold SumE SumN; rw [m1, m2]; exact ⟨rfl, rfl⟩)
      rw [m1] at HM1
      rw [m2] at HM2
      clear hp hq hx hy m1 m2
      go_enter Try.func15, Try.ntmps15
      go_wp2_with fail
      refine HM1.out.mono ?_
      rintro e w1 ⟨rfl, h1⟩
      go_wp2_with fail
      refine (HM2.out w1 h1).mono ?_
      rintro e w2 ⟨rfl, h2⟩
      go_wp2
      go_ret2
      unfold Both
      rw [HE.out.1, HE.out.2]
      exact ⟨_, rfl, num_nil _ _ _, h1.trans h2⟩
    | true =>
      have HE := Lib.hid (show SumE xs ys N = fitE N ∧ SumN xs ys N = fitN N by unfold SumE SumN; rw [m1, m2]; exact ⟨rfl, rfl⟩)
      have n1 := may_num hx m1
      have n2 := may_num hy m2
      have HN := Lib.hid (And.intro n1 n2)
      rw [m1] at HM1
      rw [m2] at HM2
      clear hp hq hx hy m1 m2 n1 n2
      go_enter Try.func15, Try.ntmps15
      go_wp2_with fail
      refine HM1.out.mono ?_
      rintro e w1 ⟨rfl, h1⟩
      go_wp2_with fail
      refine (HM2.out w1 h1).mono ?_
      rintro e w2 ⟨rfl, h2⟩
      have h02 := h1.trans h2
      go_wp2_with fail
      refine (bytes_num w2 p (nval xs) ⟨xs, HP.out.ext h02, HN.out.1.1, rfl⟩ (lt256 HN.out.1.2)).mono ?_
      rintro e w3 ⟨v3, bs, rfl, g1, g2, g3, h3⟩
      go_wp2_with fail
      refine (bytes_num w3 q (nval ys) ⟨ys, HQ.out.ext (h02.trans h3), HN.out.2.1, rfl⟩ (lt256 HN.out.2.2)).mono ?_
      rintro e w4 ⟨v4, cs, rfl, k1, k2, k3, h4⟩
      go_wp2_with fail
      refine (mul07_num w4 v3 v4 (nval xs) (nval ys) ⟨bs, g1.ext h4, g2, g3⟩ ⟨cs, k1, k2, k3⟩ (lt_bby HN.out.1.2 (by decide)) (lt_bby HN.out.2.2 (by decide))).mono ?_
      rw [HNN.out]
      rintro e w5 ⟨v5, ds, rfl, j1, j2, j3, h5⟩
      have HX5 := Lib.hid ((h02.trans (h3.trans h4)).trans h5)
      have HD := Lib.hid (show BIs w5 v5 N from ⟨ds, j1, j2, j3⟩)
      clear g1 g2 g3 k1 k2 k3 j1 j2 j3 h02 h1 h2 h3 h4 h5
      go_wp2_with fail
      refine (fits07_any w5 v5 N HD.out (lt_bby (HBIG.out HN.out.1.2 HN.out.2.2) (by decide))).mono ?_
      rintro e w6 ⟨v6, rfl, hv6, h6⟩
      have HV := Lib.hid hv6
      go_wp2
      go_ret2
      unfold Both
      rw [HE.out.1, HE.out.2]
      exact ⟨_, rfl, HV.out, HX5.out.trans h6⟩
theorem one_is (w : World) : BIs (w.alloc (.cells #[.int .i64 1] 3)) (.slice (some ⟨w.heap.size, 0, none⟩) 1 1) 1 :=
  ⟨[1], .inr ⟨w.heap.size, 0, 1, rfl, by simp, by simp, fun q u hq => by
    rw [Nat.zero_add, cell_of (alloc_at w _ _ rfl) q]
    simpa [i64] using hq⟩, ⟨fun d hd => by simp at hd; subst hd; decide, by right; decide⟩, by decide⟩
set_option maxHeartbeats 2000000 in
theorem fib07_any (w : World) (i : Int) : Calls Try.prog 8 #[.int .i64 i] w (Fibs i w) := by
  by_cases hi : 0 ≤ i ∧ i ≤ 200
  · have HE := Lib.hid (show FibE i = 0 ∧ FibV i = fibN i.toNat by unfold FibE FibV; rw [if_pos hi, if_pos hi]; exact ⟨rfl, rfl⟩)
    obtain ⟨hi0, hi1⟩ := hi
    obtain ⟨N, rfl⟩ := Int.eq_ofNat_of_zero_le hi0
    rw [Int.toNat_natCast] at HE
    have HN := Lib.hid (show N ≤ 200 by omega)
    have h1 := Lib.hid (one_is w)
    have hA := Lib.hid ((Ext.refl w).alloc (.cells #[.int .i64 1] 3))
    go_enter Try.func8, Try.ntmps8
    go_wp2_with fail
    go_loopw [4, 5, 6] (fun a b i W => ∃ k : Nat, i = .int .i64 (k : Nat) ∧ Hid (k ≤ N ∧ BIs W a (fibN k) ∧ BIs W b (fibN (k + 1)) ∧ Ext w W)) (fun _ _ i _ => N - (intOf i).toNat)
    case atStart => exact ⟨0, rfl, Lib.hid ⟨Nat.zero_le _, ⟨[], .inl ⟨rfl, _, _, rfl⟩, ⟨(fun d hd => by cases hd), .inl rfl⟩, rfl⟩, h1.out, hA.out⟩⟩
    case round =>
      obtain ⟨k, rfl, HH⟩ := hrel
      by_cases hk : k < N
      · have hkn : k < 200 := Nat.lt_of_lt_of_le hk HN.out
        have HK := Lib.hid hk
        have HC := Lib.hid (add07_num wr u4 u5 (fibN k) (fibN (k + 1)) HH.out.2.1 HH.out.2.2.1 (lt_bby (fibN_lt (by omega)) (by decide)) (lt_bby (fibN_lt (by omega)) (by decide)))
        go_wp2_with fail
        refine HC.out.mono ?_
        rintro e w2 ⟨v, bs, rfl, g1, g2, g3, h2⟩
        have HB := Lib.hid (show BIs w2 v (fibN (k + 1 + 1)) from ⟨bs, g1, g2, g3⟩)
        have HX := Lib.hid h2
        clear g1 g2 g3 h2
        go_wp2
        go_roundw
        case rel => exact ⟨k + 1, by go_num, Lib.hid ⟨HK.out, HH.out.2.2.1.ext HX.out, HB.out, HH.out.2.2.2.trans HX.out⟩⟩
        case measure => exact meas_i HK.out
      · have hke : k = N := Nat.le_antisymm HH.out.1 (Nat.le_of_not_lt hk)
        subst hke
        have HC := Lib.hid (fits07_any wr u4 (fibN k) HH.out.2.1 (lt_bby (fibN_lt (Nat.le_trans HN.out (by decide))) (by decide)))
        have hf := fit_of (Nat.lt_of_lt_of_le (fibN_lt (n := k) (Nat.le_trans HN.out (by decide))) (Nat.pow_le_pow_right beta_pos (show 7 ≤ 128 by decide)))
        unfold Fits at HC
        rw [hf.1, hf.2] at HC
        clear hf
        go_wp2_with fail
        refine HC.out.mono ?_
        rintro e w2 ⟨v, rfl, hv, h2⟩
        have HV := Lib.hid (And.intro hv h2)
        clear hv h2
        go_wp2
        go_ret2
        unfold Fibs
        rw [HE.out.1, HE.out.2]
        exact ⟨_, rfl, HV.out.1, HH.out.2.2.2.trans HV.out.2⟩
  · have HE := Lib.hid (show FibE i = 2 ∧ FibV i = 0 by unfold FibE FibV; rw [if_neg hi, if_neg hi]; exact ⟨rfl, rfl⟩)
    by_cases e0 : i < 0
    · clear hi
      go_enter Try.func8, Try.ntmps8
      go_wp2
      go_ret2
      unfold Fibs
      rw [HE.out.1, HE.out.2]
      exact ⟨_, rfl, num_nil _ _ _, Ext.refl _⟩
    · have e1 : 200 < i := by omega
      clear hi
      go_enter Try.func8, Try.ntmps8
      go_wp2
      go_ret2
      unfold Fibs
      rw [HE.out.1, HE.out.2]
      exact ⟨_, rfl, num_nil _ _ _, Ext.refl _⟩
end Go.Proofs.Ytkkapmkhnmoeaaa
