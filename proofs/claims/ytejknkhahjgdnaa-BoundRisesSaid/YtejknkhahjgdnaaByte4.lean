/- joineryref07: May, Add, Mul, Pow, Fib, From. -/
import Derived.Test.YtejknkhahjgdnaaByte3
import Derived.Test.YtejknkhahjgdnaaNatRing
namespace Go.Proofs.Ytejknkhahjgdnaa
open Go Go.RowKit

set_option maxHeartbeats 1000000 in
theorem may07_any (w : World) (p : Value) (xs : List Nat) (h : URow w p xs) : Calls Try.prog 77 #[p] w (Ret (.bool (mayN xs)) w) := by
  obtain ⟨a, c, rfl⟩ := h.slice
  by_cases hl : xs.length ≤ 128
  · by_cases h0 : xs.length = 0
    · have hx : xs = [] := List.length_eq_zero_iff.1 h0
      subst hx
      rw [show mayN [] = true by decide, show ([] : List Nat).length = 0 from rfl]
      clear h hl h0
      go_enter Try.func77, Try.ntmps77
      go_wp2
      go_ret
      exact Ret.mk (Ext.refl _)
    · rcases h with ⟨h, _⟩ | ⟨b, o, c', hv, _, h2, h3⟩
      · rw [h] at h0; exact absurd rfl h0
      · obtain ⟨rfl, rfl⟩ : a = some ⟨b, o, none⟩ ∧ c = c' := by cases hv; exact ⟨rfl, rfl⟩
        obtain ⟨m, hm⟩ : ∃ m, xs.length = m + 1 := ⟨xs.length - 1, by omega⟩
        have hc := urow_cell h3 m (by omega)
        have hmay : mayN xs = !decide (xs.getD m 0 = 0) := by
          unfold mayN
          rw [decide_eq_true hl, Bool.true_and, show xs.length - 1 = m by omega]
          have hne : xs ≠ [] := by intro e; rw [e] at h0; exact h0 rfl
          by_cases hz : xs.getD m 0 = 0
          · rw [decide_eq_true hz, decide_eq_false (by rintro (h | h); exact hne h; exact h hz)]; rfl
          · rw [decide_eq_false hz, decide_eq_true (Or.inr hz)]; rfl
        rw [hmay]
        rw [show m = xs.length - 1 by omega] at *
        generalize xs.getD (xs.length - 1) 0 = d at *
        have hcap : xs.length ≤ c := h2
        have hpos : 0 < xs.length := by omega
        have hl1 : (xs.length : Int) ≤ 128 := by omega
        have h01 : ¬ (xs.length : Int) = 0 := by omega
        have htn : ((xs.length : Int) - 1).toNat = xs.length - 1 := by omega
        have hlt : xs.length - 1 < xs.length := by omega
        clear hv h2 h3 hmay h0 hl hm
        have hund : undef = Value.tuple #[] := rfl
        by_cases hz : d = 0
        · subst hz
          go_enter Try.func77, Try.ntmps77
          go_wp2
          go_ret
          exact ⟨ret_bool (by rw [show ((xs.length : Int) == 0) = false by simpa using h01]; rfl), Ext.refl _⟩
        · rw [decide_eq_false hz]
          have hz' : ¬ (d : Int) = 0 := by omega
          have hz2 : ((d : Int) == 0) = false := by simpa using hz
          clear hz
          go_enter Try.func77, Try.ntmps77
          go_wp2
          go_ret
          exact ⟨ret_bool (by rw [show ((d : Int) != 0) = true by simpa using hz', Bool.or_true]; rfl), Ext.refl _⟩
  · have e : mayN xs = false := by unfold mayN; simp [hl]
    rw [e]
    have hl' : ¬ (xs.length : Int) ≤ 128 := by omega
    clear h e hl
    go_enter Try.func77, Try.ntmps77
    go_wp2
    go_ret
    exact Ret.mk (Ext.refl _)
theorem bytes_num (w : World) (p : Value) (n : Nat) (h : NumIs w p n) (hn : n < beta ^ 256) : Calls Try.prog 78 #[p] w (BNum n w) := by
  obtain ⟨xs, h1, h2, h3⟩ := h
  have := bytes_any w p xs h1 h2.1 (Nat.le_trans ((norm_len h2 256).2 (by rw [h3]; exact hn)) (by decide))
  rwa [h3] at this
theorem add07_num (w : World) (p q : Value) (a b : Nat) (hp : BIs w p a) (hq : BIs w q b) (ha : a < bby ^ bK) (hb : b < bby ^ bK) : Calls Try.prog 81 #[p, q] w (BNum (a + b) w) := by
  obtain ⟨xs, h1, h2, h3⟩ := hp
  obtain ⟨ys, g1, g2, g3⟩ := hq
  have := add07_any w p q xs ys h1 g1 h2.1 g2.1 (bis_lenK h2 h3 ha) (bis_lenK g2 g3 hb)
  rwa [h3, g3] at this
theorem may_num {xs : List Nat} (hw : Words xs) (h : mayN xs = true) : Norm xs ∧ nval xs < beta ^ 128 := by
  obtain ⟨h1, h2⟩ := (mayN_norm hw).1 h
  exact ⟨h1, (norm_len h1 128).1 h2⟩
theorem lt_bby {n k : Nat} (h : n < beta ^ k) (hk : 4 * k ≤ 5000) : n < bby ^ bK := by
  rw [beta_bby] at h
  exact Nat.lt_of_lt_of_le h (Nat.pow_le_pow_right bby_pos (show 4 * k ≤ bK from hk))
theorem one_is (w : World) : BIs (w.alloc (.cells #[.int .i64 1] 3)) (.slice (some ⟨w.heap.size, 0, none⟩) 1 1) 1 :=
  ⟨[1], .inr ⟨w.heap.size, 0, 1, rfl, by simp, by simp, fun q u hq => by
    rw [Nat.zero_add, cell_of (alloc_at w _ _ rfl) q]
    simpa [i64] using hq⟩, ⟨fun d hd => by simp at hd; subst hd; decide, by right; decide⟩, by decide⟩
set_option maxHeartbeats 2000000 in
theorem fib07_any (w : World) (i : Int) : Calls Try.prog 60 #[.int .i64 i] w (Fibs i w) := by
  by_cases hi : 0 ≤ i ∧ i ≤ 200
  · have HE := Lib.hid (show FibE i = 0 ∧ FibV i = fibN i.toNat by unfold FibE FibV; rw [if_pos hi, if_pos hi]; exact ⟨rfl, rfl⟩)
    obtain ⟨hi0, hi1⟩ := hi
    obtain ⟨N, rfl⟩ := Int.eq_ofNat_of_zero_le hi0
    rw [Int.toNat_natCast] at HE
    have HN := Lib.hid (show N ≤ 200 by omega)
    have h1 := Lib.hid (one_is w)
    have hA := Lib.hid ((Ext.refl w).alloc (.cells #[.int .i64 1] 3))
    go_enter Try.func60, Try.ntmps60
    go_wp2_with fail
    go_loopw [4, 5, 6] (fun a b i W => ∃ k : Nat, i = .int .i64 (k : Nat) ∧ Hid (k ≤ N ∧ BIs W a (fibN k) ∧ BIs W b (fibN (k + 1)) ∧ Ext w W)) (fun _ _ i _ => N - (intOf i).toNat)
    case atStart => exact ⟨0, rfl, Lib.hid ⟨Nat.zero_le _, ⟨[], .inl ⟨rfl, _, _, rfl⟩, ⟨(fun d hd => by cases hd), .inl rfl⟩, rfl⟩, h1.out, hA.out⟩⟩
    case round =>
      obtain ⟨k, rfl, HH⟩ := hrel
      by_cases hk : k < N
      · have hkn : k < 200 := Nat.lt_of_lt_of_le hk HN.out
        have HK := Lib.hid hk
        have HC := Lib.hid (add07_num wr u4 u5 (fibN k) (fibN (k + 1)) HH.out.2.1 HH.out.2.2.1 (lt_bby (fibN_lt (by omega)) (by decide)) (lt_bby (fibN_lt (by omega)) (by decide)))
        go_wp2_with fail
        refine HC.out.mono ?_
        rintro e w2 ⟨v, bs, rfl, g1, g2, g3, h2⟩
        have HB := Lib.hid (show BIs w2 v (fibN (k + 1 + 1)) from ⟨bs, g1, g2, g3⟩)
        have HX := Lib.hid h2
        clear g1 g2 g3 h2
        go_wp2
        go_roundw
        case rel => exact ⟨k + 1, by go_num, Lib.hid ⟨HK.out, HH.out.2.2.1.ext HX.out, HB.out, HH.out.2.2.2.trans HX.out⟩⟩
        case measure => exact meas_i HK.out
      · have hke : k = N := Nat.le_antisymm HH.out.1 (Nat.le_of_not_lt hk)
        subst hke
        have HC := Lib.hid (fits07_any wr u4 (fibN k) HH.out.2.1 (lt_bby (fibN_lt (Nat.le_trans HN.out (by decide))) (by decide)))
        have hf := fit_of (Nat.lt_of_lt_of_le (fibN_lt (n := k) (Nat.le_trans HN.out (by decide))) (Nat.pow_le_pow_right beta_pos (show 7 ≤ 128 by decide)))
        unfold Fits at HC
        rw [hf.1, hf.2] at HC
        clear hf
        go_wp2_with fail
        refine HC.out.mono ?_
        rintro e w2 ⟨v, rfl, hv, h2⟩
        have HV := Lib.hid (And.intro hv h2)
        clear hv h2
        go_wp2
        go_ret2
        unfold Fibs
        rw [HE.out.1, HE.out.2]
        exact ⟨_, rfl, HV.out.1, HH.out.2.2.2.trans HV.out.2⟩
  · have HE := Lib.hid (show FibE i = 2 ∧ FibV i = 0 by unfold FibE FibV; rw [if_neg hi, if_neg hi]; exact ⟨rfl, rfl⟩)
    by_cases e0 : i < 0
    · clear hi
      go_enter Try.func60, Try.ntmps60
      go_wp2
      go_ret2
      unfold Fibs
      rw [HE.out.1, HE.out.2]
      exact ⟨_, rfl, num_nil _ _ _, Ext.refl _⟩
    · have e1 : 200 < i := by omega
      clear hi
      go_enter Try.func60, Try.ntmps60
      go_wp2
      go_ret2
      unfold Fibs
      rw [HE.out.1, HE.out.2]
      exact ⟨_, rfl, num_nil _ _ _, Ext.refl _⟩
end Go.Proofs.Ytejknkhahjgdnaa
