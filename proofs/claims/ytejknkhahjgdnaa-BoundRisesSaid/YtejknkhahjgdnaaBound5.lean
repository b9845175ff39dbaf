/- bound.within, Most, May. -/
import Derived.Test.YtejknkhahjgdnaaBound4
namespace Go.Proofs.Ytejknkhahjgdnaa
open Go Go.RowKit

theorem beta_7 : beta ^ 7 ≤ beta ^ 128 := Nat.pow_le_pow_right beta_pos (by decide)
theorem u64_beta {n : Nat} (h : n < 18446744073709551616) : n < beta ^ 128 := Nat.lt_of_lt_of_le (show n < beta ^ 2 from h) (Nat.pow_le_pow_right beta_pos (by decide))
theorem lstN_lt (s h : Int) : LstN s h < beta ^ 128 := by
  cases k : okH s h with
  | false => rw [(lst_not k).2]; exact Nat.pow_pos beta_pos
  | true =>
    rw [(lst_ok k).2]
    unfold okH at k
    by_cases h4 : s = 4
    · subst h4
      rw [if_pos rfl] at k
      simp only [Bool.and_eq_true, decide_eq_true_eq] at k
      exact u64_beta (show h.toNat < _ by omega)
    · rw [if_neg h4] at k
      simp only [Bool.and_eq_true, decide_eq_true_eq] at k
      obtain ⟨k0, ⟨k1, k2⟩, k3⟩ := k
      have : s = 1 ∨ s = 2 ∨ s = 3 := by omega
      rcases this with rfl | rfl | rfl
      · exact Nat.lt_of_lt_of_le (Nat.lt_of_le_of_lt (Nat.sub_le _ _) (fibN_lt (by omega))) beta_7
      · exact u64_beta (leastN_lt2 (by omega))
      · exact u64_beta (leastN_lt3 (by omega))
/-- is a height's least at most n? -/
def withinB (s h : Int) (n : Nat) : Bool := okH s h && decide (LstN s h ≤ n)
theorem cmp_le {a b : Nat} : decide (cmpV a b ≤ 0) = decide (a ≤ b) := by
  unfold cmpV
  by_cases h : a < b
  · rw [if_pos h, decide_eq_true (by omega), decide_eq_true (by omega)]
  · rw [if_neg h]
    by_cases h2 : b < a
    · rw [if_pos h2, decide_eq_false (by omega), decide_eq_false (by omega)]
    · rw [if_neg h2, decide_eq_true (by omega), decide_eq_true (by omega)]
set_option maxHeartbeats 1000000 in
theorem within_any (w : World) (s h : Int) (n : Nat) (hn : n ≤ 4611686018427387904) : Calls Try.prog 26 #[.int .u8 s, .int .i64 h, .int .i64 (n : Nat)] w (Ret (.bool (withinB s h n)) w) := by
  have HL := Lib.hid (least_any w s h)
  have HLT := Lib.hid (lstN_lt s h)
  obtain ⟨B, hB⟩ : ∃ B, withinB s h n = B := ⟨_, rfl⟩
  rw [hB]
  unfold withinB at hB
  cases k : okH s h with
  | false =>
    have e := lst_not k
    unfold Lst at HL
    rw [e.1, e.2] at HL
    rw [k, Bool.false_and] at hB
    subst hB
    clear e k
    have hund : undef = Value.tuple #[] := rfl
    go_enter Try.func26, Try.ntmps26
    go_wp2_with fail
    refine HL.out.mono ?_
    rintro e w1 ⟨v, rfl, n1, h1⟩
    clear n1
    go_wp2
    go_ret
    exact Ret.mk h1
  | true =>
    have e := lst_ok k
    unfold Lst at HL
    rw [e.1] at HL
    rw [k, Bool.true_and, ← cmp_le] at hB
    generalize LstN s h = L at *
    have HC : Hid (decide (cmpV L n ≤ 0) = B) := Lib.hid hB
    clear e k hB
    have hn2 : (n : Int) ≤ 4611686018427387904 := by omega
    have HN := Lib.hid hn
    clear hn
    go_enter Try.func26, Try.ntmps26
    go_wp2_with fail
    refine HL.out.mono ?_
    rintro e w1 ⟨v, rfl, n1, h1⟩
    have H1 := Lib.hid (And.intro n1 h1)
    clear n1 h1
    go_wp2_with fail
    refine (from_any w1 n (Nat.lt_of_le_of_lt HN.out (by decide))).mono ?_
    rintro e w2 ⟨u, rfl, n2, h2⟩
    have H2 := Lib.hid (And.intro n2 h2)
    clear n2 h2
    go_wp2_with fail
    refine (natCmp_num w2 v u L n (H1.out.1.ext H2.out.2) H2.out.1 HLT.out (u64_beta (Nat.lt_of_le_of_lt HN.out (by decide)))).mono ?_
    rintro e w3 ⟨rfl, h3⟩
    go_wp2
    go_ret
    exact ⟨ret_bool HC.out, (H1.out.2.trans H2.out.2).trans h3⟩
/-- the greatest height that n lets. -/
def IsMost (s n h : Nat) : Prop := h ≤ 100 ∧ (∀ j, 1 ≤ j → j ≤ h → leastN s j ≤ n) ∧ (h = 100 ∨ n < leastN s (h + 1))
theorem IsMost.uniq {s n h k : Nat} (a : IsMost s n h) (b : IsMost s n k) : h = k := by
  obtain ⟨a1, a2, a3⟩ := a
  obtain ⟨b1, b2, b3⟩ := b
  rcases Nat.lt_trichotomy h k with c | c | c
  · have := b2 (h + 1) (by omega) (by omega)
    rcases a3 with a3 | a3 <;> omega
  · exact c
  · have := a2 (k + 1) (by omega) (by omega)
    rcases b3 with b3 | b3 <;> omega
/-- what Most hands back: no scheme or no count; the count itself; the greatest height. -/
def Mosts (s n : Int) (w : World) (r : Ending) (w' : World) : Prop :=
  (¬ (1 ≤ s ∧ s ≤ 4 ∧ 0 ≤ n ∧ n ≤ 1099511627776) ∧ Ret (.tuple #[.int .i64 0, .int .i64 2]) w r w') ∨ (s = 4 ∧ 0 ≤ n ∧ n ≤ 1099511627776 ∧ Ret (.tuple #[.int .i64 n, .int .i64 0]) w r w') ∨
  (1 ≤ s ∧ s ≤ 3 ∧ 0 ≤ n ∧ n ≤ 1099511627776 ∧ ∃ h : Nat, IsMost s.toNat n.toNat h ∧ Ret (.tuple #[.int .i64 (h : Nat), .int .i64 0]) w r w')
theorem within_up {s : Int} (hs : 1 ≤ s ∧ s ≤ 3) (h n : Nat) : withinB s ((h : Int) + 1) n = (decide (h < 100) && decide (leastN s.toNat (h + 1) ≤ n)) := by
  unfold withinB
  by_cases k : h < 100
  · have e : okH s ((h : Int) + 1) = true := by unfold okH; rw [if_neg (by omega)]; simp; omega
    rw [e, (lst_ok e).2, decide_eq_true k, show ((h : Int) + 1).toNat = h + 1 by omega]
  · have e : okH s ((h : Int) + 1) = false := by unfold okH; rw [if_neg (by omega), decide_eq_false (p := (h : Int) + 1 ≤ 100) (by omega)]; simp
    rw [e, decide_eq_false k, Bool.false_and, Bool.false_and]
set_option maxRecDepth 100000 in
set_option maxHeartbeats 4000000 in
theorem most_1 (w : World) (n M : Int) (hM : M = 1099511627776) : Calls Try.prog 8 #[.int .u8 1, .int .i64 n] w (Mosts 1 n w) := by
  have HK := Lib.hid (kinds_any w M hM)
  have HE := Lib.hid ((Ext.refl w).alloc (.map (kindsE M) 4))
  have hl := look1 (alloc_at w (.map (kindsE M) 4) _ rfl)
  have hund : undef = Value.tuple #[] := rfl
  by_cases h0 : n < 0
  · have HX := Lib.hid (show ¬ ((1 : Int) ≤ 1 ∧ (1 : Int) ≤ 4 ∧ 0 ≤ n ∧ n ≤ 1099511627776) by omega)
    go_enter Try.func8, Try.ntmps8
    rw [← hM]
    clear hM
    go_wp2_with fail
    refine HK.out.mono ?_
    rintro e w1 ⟨rfl, rfl⟩
    go_wp2
    go_ret2
    exact .inl ⟨HX.out, Ret.mk (HE.out.alloc _)⟩
  · by_cases h1 : M < n
    · have HX := Lib.hid (show ¬ ((1 : Int) ≤ 1 ∧ (1 : Int) ≤ 4 ∧ 0 ≤ n ∧ n ≤ 1099511627776) by omega)
      go_enter Try.func8, Try.ntmps8
      rw [← hM]
      clear hM
      go_wp2_with fail
      refine HK.out.mono ?_
      rintro e w1 ⟨rfl, rfl⟩
      go_wp2
      go_ret2
      exact .inl ⟨HX.out, Ret.mk (HE.out.alloc _)⟩
    · obtain ⟨n, rfl⟩ := Int.eq_ofNat_of_zero_le (Int.not_lt.1 h0)
      have HN := Lib.hid (show ((n : Int) ≤ 1099511627776) ∧ n ≤ 4611686018427387904 by omega)
      clear h0
      go_enter Try.func8, Try.ntmps8
      rw [← hM]
      clear hM
      go_wp2_with fail
      refine HK.out.mono ?_
      rintro e w1 ⟨rfl, rfl⟩
      go_wp2_with fail
      clear hl h1
      have HE1 := HE.out.alloc (.cells #[.int .i64 100, .nilFunc] 53)
      generalize (w.alloc (.map (kindsE M) 4)).alloc _ = w1 at *
      go_loopw [4] (fun i W => ∃ h : Nat, i = .int .i64 (h : Nat) ∧ Hid (h ≤ 100 ∧ (∀ j, 1 ≤ j → j ≤ h → leastN 1 j ≤ n) ∧ Ext w W)) (fun i _ => 101 - (intOf i).toNat)
      case atStart => exact ⟨0, rfl, Lib.hid ⟨Nat.zero_le _, (fun j h1 h2 => by omega), HE1⟩⟩
      case round =>
        obtain ⟨h, rfl, HH⟩ := hrel
        have HWI := Lib.hid (within_any wr 1 ((h : Int) + 1) n HN.out.2)
        rw [within_up (by decide)] at HWI
        have hh : h ≤ 100 := HH.out.1
        by_cases k : h < 100 ∧ leastN 1 (h + 1) ≤ n
        · have HW2 := Lib.hid k
          rw [show ((1 : Int).toNat) = 1 from rfl, decide_eq_true k.1, decide_eq_true k.2] at HWI
          clear k
          go_wp2_with fail
          refine HWI.out.mono ?_
          rintro e w2 ⟨rfl, h2⟩
          have H2 := Lib.hid h2
          clear h2
          go_wp2
          go_roundw
          case rel => exact ⟨h + 1, by go_num, Lib.hid ⟨HW2.out.1, (fun j h1 h2 => by
            rcases Nat.eq_or_lt_of_le h2 with e | e
            · rw [e]; exact HW2.out.2
            · exact HH.out.2.1 j h1 (Nat.le_of_lt_succ e)), HH.out.2.2.trans H2.out⟩⟩
          case measure => exact meas_s (Nat.lt_of_lt_of_le HW2.out.1 (by decide))
        · have HW2 := Lib.hid (show h = 100 ∨ n < leastN 1 (h + 1) by omega)
          have hf : (decide (h < 100) && decide (leastN 1 (h + 1) ≤ n)) = false := by
            rw [Bool.and_eq_false_iff]
            simp only [decide_eq_false_iff_not]
            omega
          rw [show ((1 : Int).toNat) = 1 from rfl, hf] at HWI
          clear k hf
          go_wp2_with fail
          refine HWI.out.mono ?_
          rintro e w2 ⟨rfl, h2⟩
          have H2 := Lib.hid h2
          clear h2
          go_wp2
          go_ret2
          exact .inr (.inr ⟨by decide, by decide, by omega, HN.out.1, h, ⟨HH.out.1, HH.out.2.1, HW2.out⟩, Ret.mk (HH.out.2.2.trans H2.out)⟩)
set_option maxRecDepth 100000 in
set_option maxHeartbeats 4000000 in
theorem most_2 (w : World) (n M : Int) (hM : M = 1099511627776) : Calls Try.prog 8 #[.int .u8 2, .int .i64 n] w (Mosts 2 n w) := by
  have HK := Lib.hid (kinds_any w M hM)
  have HE := Lib.hid ((Ext.refl w).alloc (.map (kindsE M) 4))
  have hl := look2 (alloc_at w (.map (kindsE M) 4) _ rfl)
  have hund : undef = Value.tuple #[] := rfl
  by_cases h0 : n < 0
  · have HX := Lib.hid (show ¬ ((1 : Int) ≤ 2 ∧ (2 : Int) ≤ 4 ∧ 0 ≤ n ∧ n ≤ 1099511627776) by omega)
    go_enter Try.func8, Try.ntmps8
    rw [← hM]
    clear hM
    go_wp2_with fail
    refine HK.out.mono ?_
    rintro e w1 ⟨rfl, rfl⟩
    go_wp2
    go_ret2
    exact .inl ⟨HX.out, Ret.mk (HE.out.alloc _)⟩
  · by_cases h1 : M < n
    · have HX := Lib.hid (show ¬ ((1 : Int) ≤ 2 ∧ (2 : Int) ≤ 4 ∧ 0 ≤ n ∧ n ≤ 1099511627776) by omega)
      go_enter Try.func8, Try.ntmps8
      rw [← hM]
      clear hM
      go_wp2_with fail
      refine HK.out.mono ?_
      rintro e w1 ⟨rfl, rfl⟩
      go_wp2
      go_ret2
      exact .inl ⟨HX.out, Ret.mk (HE.out.alloc _)⟩
    · obtain ⟨n, rfl⟩ := Int.eq_ofNat_of_zero_le (Int.not_lt.1 h0)
      have HN := Lib.hid (show ((n : Int) ≤ 1099511627776) ∧ n ≤ 4611686018427387904 by omega)
      clear h0
      go_enter Try.func8, Try.ntmps8
      rw [← hM]
      clear hM
      go_wp2_with fail
      refine HK.out.mono ?_
      rintro e w1 ⟨rfl, rfl⟩
      go_wp2_with fail
      clear hl h1
      have HE1 := HE.out.alloc (.cells #[.int .i64 100, .func (.func 52) #[] #[]] 53)
      generalize (w.alloc (.map (kindsE M) 4)).alloc _ = w1 at *
      go_loopw [4] (fun i W => ∃ h : Nat, i = .int .i64 (h : Nat) ∧ Hid (h ≤ 100 ∧ (∀ j, 1 ≤ j → j ≤ h → leastN 2 j ≤ n) ∧ Ext w W)) (fun i _ => 101 - (intOf i).toNat)
      case atStart => exact ⟨0, rfl, Lib.hid ⟨Nat.zero_le _, (fun j h1 h2 => by omega), HE1⟩⟩
      case round =>
        obtain ⟨h, rfl, HH⟩ := hrel
        have HWI := Lib.hid (within_any wr 2 ((h : Int) + 1) n HN.out.2)
        rw [within_up (by decide)] at HWI
        have hh : h ≤ 100 := HH.out.1
        by_cases k : h < 100 ∧ leastN 2 (h + 1) ≤ n
        · have HW2 := Lib.hid k
          rw [show ((2 : Int).toNat) = 2 from rfl, decide_eq_true k.1, decide_eq_true k.2] at HWI
          clear k
          go_wp2_with fail
          refine HWI.out.mono ?_
          rintro e w2 ⟨rfl, h2⟩
          have H2 := Lib.hid h2
          clear h2
          go_wp2
          go_roundw
          case rel => exact ⟨h + 1, by go_num, Lib.hid ⟨HW2.out.1, (fun j h1 h2 => by
            rcases Nat.eq_or_lt_of_le h2 with e | e
            · rw [e]; exact HW2.out.2
            · exact HH.out.2.1 j h1 (Nat.le_of_lt_succ e)), HH.out.2.2.trans H2.out⟩⟩
          case measure => exact meas_s (Nat.lt_of_lt_of_le HW2.out.1 (by decide))
        · have HW2 := Lib.hid (show h = 100 ∨ n < leastN 2 (h + 1) by omega)
          have hf : (decide (h < 100) && decide (leastN 2 (h + 1) ≤ n)) = false := by
            rw [Bool.and_eq_false_iff]
            simp only [decide_eq_false_iff_not]
            omega
          rw [show ((2 : Int).toNat) = 2 from rfl, hf] at HWI
          clear k hf
          go_wp2_with fail
          refine HWI.out.mono ?_
          rintro e w2 ⟨rfl, h2⟩
          have H2 := Lib.hid h2
          clear h2
          go_wp2
          go_ret2
          exact .inr (.inr ⟨by decide, by decide, by omega, HN.out.1, h, ⟨HH.out.1, HH.out.2.1, HW2.out⟩, Ret.mk (HH.out.2.2.trans H2.out)⟩)
set_option maxRecDepth 100000 in
set_option maxHeartbeats 4000000 in
theorem most_3 (w : World) (n M : Int) (hM : M = 1099511627776) : Calls Try.prog 8 #[.int .u8 3, .int .i64 n] w (Mosts 3 n w) := by
  have HK := Lib.hid (kinds_any w M hM)
  have HE := Lib.hid ((Ext.refl w).alloc (.map (kindsE M) 4))
  have hl := look3 (alloc_at w (.map (kindsE M) 4) _ rfl)
  have hund : undef = Value.tuple #[] := rfl
  by_cases h0 : n < 0
  · have HX := Lib.hid (show ¬ ((1 : Int) ≤ 3 ∧ (3 : Int) ≤ 4 ∧ 0 ≤ n ∧ n ≤ 1099511627776) by omega)
    go_enter Try.func8, Try.ntmps8
    rw [← hM]
    clear hM
    go_wp2_with fail
    refine HK.out.mono ?_
    rintro e w1 ⟨rfl, rfl⟩
    go_wp2
    go_ret2
    exact .inl ⟨HX.out, Ret.mk (HE.out.alloc _)⟩
  · by_cases h1 : M < n
    · have HX := Lib.hid (show ¬ ((1 : Int) ≤ 3 ∧ (3 : Int) ≤ 4 ∧ 0 ≤ n ∧ n ≤ 1099511627776) by omega)
      go_enter Try.func8, Try.ntmps8
      rw [← hM]
      clear hM
      go_wp2_with fail
      refine HK.out.mono ?_
      rintro e w1 ⟨rfl, rfl⟩
      go_wp2
      go_ret2
      exact .inl ⟨HX.out, Ret.mk (HE.out.alloc _)⟩
    · obtain ⟨n, rfl⟩ := Int.eq_ofNat_of_zero_le (Int.not_lt.1 h0)
      have HN := Lib.hid (show ((n : Int) ≤ 1099511627776) ∧ n ≤ 4611686018427387904 by omega)
      clear h0
      go_enter Try.func8, Try.ntmps8
      rw [← hM]
      clear hM
      go_wp2_with fail
      refine HK.out.mono ?_
      rintro e w1 ⟨rfl, rfl⟩
      go_wp2_with fail
      clear hl h1
      have HE1 := HE.out.alloc (.cells #[.int .i64 100, .func (.func 53) #[] #[]] 53)
      generalize (w.alloc (.map (kindsE M) 4)).alloc _ = w1 at *
      go_loopw [4] (fun i W => ∃ h : Nat, i = .int .i64 (h : Nat) ∧ Hid (h ≤ 100 ∧ (∀ j, 1 ≤ j → j ≤ h → leastN 3 j ≤ n) ∧ Ext w W)) (fun i _ => 101 - (intOf i).toNat)
      case atStart => exact ⟨0, rfl, Lib.hid ⟨Nat.zero_le _, (fun j h1 h2 => by omega), HE1⟩⟩
      case round =>
        obtain ⟨h, rfl, HH⟩ := hrel
        have HWI := Lib.hid (within_any wr 3 ((h : Int) + 1) n HN.out.2)
        rw [within_up (by decide)] at HWI
        have hh : h ≤ 100 := HH.out.1
        by_cases k : h < 100 ∧ leastN 3 (h + 1) ≤ n
        · have HW2 := Lib.hid k
          rw [show ((3 : Int).toNat) = 3 from rfl, decide_eq_true k.1, decide_eq_true k.2] at HWI
          clear k
          go_wp2_with fail
          refine HWI.out.mono ?_
          rintro e w2 ⟨rfl, h2⟩
          have H2 := Lib.hid h2
          clear h2
          go_wp2
          go_roundw
          case rel => exact ⟨h + 1, by go_num, Lib.hid ⟨HW2.out.1, (fun j h1 h2 => by
            rcases Nat.eq_or_lt_of_le h2 with e | e
            · rw [e]; exact HW2.out.2
            · exact HH.out.2.1 j h1 (Nat.le_of_lt_succ e)), HH.out.2.2.trans H2.out⟩⟩
          case measure => exact meas_s (Nat.lt_of_lt_of_le HW2.out.1 (by decide))
        · have HW2 := Lib.hid (show h = 100 ∨ n < leastN 3 (h + 1) by omega)
          have hf : (decide (h < 100) && decide (leastN 3 (h + 1) ≤ n)) = false := by
            rw [Bool.and_eq_false_iff]
            simp only [decide_eq_false_iff_not]
            omega
          rw [show ((3 : Int).toNat) = 3 from rfl, hf] at HWI
          clear k hf
          go_wp2_with fail
          refine HWI.out.mono ?_
          rintro e w2 ⟨rfl, h2⟩
          have H2 := Lib.hid h2
          clear h2
          go_wp2
          go_ret2
          exact .inr (.inr ⟨by decide, by decide, by omega, HN.out.1, h, ⟨HH.out.1, HH.out.2.1, HW2.out⟩, Ret.mk (HH.out.2.2.trans H2.out)⟩)
set_option maxRecDepth 100000 in
set_option maxHeartbeats 4000000 in
theorem most_4 (w : World) (n M : Int) (hM : M = 1099511627776) : Calls Try.prog 8 #[.int .u8 4, .int .i64 n] w (Mosts 4 n w) := by
  have HK := Lib.hid (kinds_any w M hM)
  have HE := Lib.hid ((Ext.refl w).alloc (.map (kindsE M) 4))
  have hl := look4 (alloc_at w (.map (kindsE M) 4) _ rfl)
  have hund : undef = Value.tuple #[] := rfl
  by_cases h0 : n < 0
  · have HX := Lib.hid (show ¬ ((1 : Int) ≤ 4 ∧ (4 : Int) ≤ 4 ∧ 0 ≤ n ∧ n ≤ 1099511627776) by omega)
    go_enter Try.func8, Try.ntmps8
    rw [← hM]
    clear hM
    go_wp2_with fail
    refine HK.out.mono ?_
    rintro e w1 ⟨rfl, rfl⟩
    go_wp2
    go_ret2
    exact .inl ⟨HX.out, Ret.mk (HE.out.alloc _)⟩
  · by_cases h1 : M < n
    · have HX := Lib.hid (show ¬ ((1 : Int) ≤ 4 ∧ (4 : Int) ≤ 4 ∧ 0 ≤ n ∧ n ≤ 1099511627776) by omega)
      go_enter Try.func8, Try.ntmps8
      rw [← hM]
      clear hM
      go_wp2_with fail
      refine HK.out.mono ?_
      rintro e w1 ⟨rfl, rfl⟩
      go_wp2
      go_ret2
      exact .inl ⟨HX.out, Ret.mk (HE.out.alloc _)⟩
    · have HN := Lib.hid (show 0 ≤ n ∧ (n ≤ 1099511627776) by omega)
      go_enter Try.func8, Try.ntmps8
      rw [← hM]
      clear hM
      go_wp2_with fail
      refine HK.out.mono ?_
      rintro e w1 ⟨rfl, rfl⟩
      go_wp2
      go_ret2
      exact .inr (.inl ⟨rfl, HN.out.1, HN.out.2, Ret.mk (HE.out.alloc _)⟩)
set_option maxRecDepth 100000 in
set_option maxHeartbeats 4000000 in
theorem most_m (w : World) (s n M : Int) (hM : M = 1099511627776) (hs : s ≠ 1 ∧ s ≠ 2 ∧ s ≠ 3 ∧ s ≠ 4) : Calls Try.prog 8 #[.int .u8 s, .int .i64 n] w (Mosts s n w) := by
  have HK := Lib.hid (kinds_any w M hM)
  have HE := Lib.hid ((Ext.refl w).alloc (.map (kindsE M) 4))
  have hl := lookM (alloc_at w (.map (kindsE M) 4) _ rfl) hs
  have hund : undef = Value.tuple #[] := rfl
  have HX := Lib.hid (show ¬ (1 ≤ s ∧ s ≤ 4 ∧ 0 ≤ n ∧ n ≤ 1099511627776) by omega)
  clear hs
  go_enter Try.func8, Try.ntmps8
  rw [← hM]
  clear hM
  go_wp2_with fail
  refine HK.out.mono ?_
  rintro e w1 ⟨rfl, rfl⟩
  go_wp2
  go_ret2
  exact .inl ⟨HX.out, Ret.mk (HE.out.alloc _)⟩
/-- **bound.Most**, of any scheme and count. -/
theorem most_any (w : World) (s n : Int) : Calls Try.prog 8 #[.int .u8 s, .int .i64 n] w (Mosts s n w) := by
  by_cases h1 : s = 1
  · subst h1; exact most_1 w n _ rfl
  by_cases h2 : s = 2
  · subst h2; exact most_2 w n _ rfl
  by_cases h3 : s = 3
  · subst h3; exact most_3 w n _ rfl
  by_cases h4 : s = 4
  · subst h4; exact most_4 w n _ rfl
  exact most_m w s n _ rfl ⟨h1, h2, h3, h4⟩
/-- may a height, and a count, be together? -/
def mayB (s h n : Int) : Bool := decide (0 ≤ n) && decide (n ≤ 1099511627776) && withinB s h n.toNat && (decide (40 < h) || decide (n < 2 ^ h.toNat))
theorem pow_64 {h : Nat} (hh : h ≤ 61) : wrap64 ((2 : Int) ^ h) = (2 : Int) ^ h := by
  have hp : (2 : Nat) ^ h ≤ 2 ^ 61 := Nat.pow_le_pow_right (by decide) hh
  have hp2 : (2 : Int) ^ h = ((2 ^ h : Nat) : Int) := by simp
  have hp3 : (2 : Nat) ^ 61 = 2305843009213693952 := by decide
  rw [hp2]
  clear hp2
  generalize (2 : Nat) ^ h = P at *
  unfold wrap64
  omega
set_option maxRecDepth 100000 in
set_option maxHeartbeats 4000000 in
theorem mayN_any34 (w : World) (s h n M : Int) (hM : M = 1099511627776) : Calls Try.prog 10 #[.int .u8 s, .int .i64 h, .int .i64 n] w (Ret (.bool (mayB s h n)) w) := by
  have hund : undef = Value.tuple #[] := rfl
  by_cases h0 : 0 ≤ n
  · by_cases h1 : n ≤ M
    · obtain ⟨n, rfl⟩ := Int.eq_ofNat_of_zero_le h0
      have e : mayB s h n = (withinB s h n && (decide (40 < h) || decide ((n : Int) < 2 ^ h.toNat))) := by unfold mayB; rw [decide_eq_true h0, decide_eq_true (p := (n : Int) ≤ 1099511627776) (by omega), Int.toNat_natCast]; rfl
      rw [e]
      have HW := Lib.hid (within_any w s h n (by omega))
      cases k : withinB s h n with
      | false =>
        rw [k] at HW
        clear e k
        rw [Bool.false_and]
        go_enter Try.func10, Try.ntmps10
        rw [← hM]
        clear hM
        go_wp2_with fail
        refine HW.out.mono ?_
        rintro e w1 ⟨rfl, h1⟩
        go_wp2
        go_ret
        exact Ret.mk h1
      | true =>
        rw [k] at HW
        rw [Bool.true_and]
        have hok : 0 ≤ h := by
          unfold withinB okH at k
          simp only [Bool.and_eq_true, decide_eq_true_eq] at k
          exact k.1.1
        clear e k
        by_cases h40 : 40 < h
        · rw [decide_eq_true h40, Bool.true_or]
          go_enter Try.func10, Try.ntmps10
          rw [← hM]
          clear hM
          go_wp2_with fail
          refine HW.out.mono ?_
          rintro e w1 ⟨rfl, h1⟩
          go_wp2
          go_ret
          exact Ret.mk h1
        · obtain ⟨h, rfl⟩ := Int.eq_ofNat_of_zero_le hok
          rw [decide_eq_false h40, Bool.false_or, Int.toNat_natCast]
          have HP := Lib.hid (pow_64 (h := h) (by omega))
          go_enter Try.func10, Try.ntmps10
          rw [← hM]
          clear hM
          go_wp2_with fail
          refine HW.out.mono ?_
          rintro e w1 ⟨rfl, h1⟩
          go_wp2
          go_ret
          exact ⟨ret_bool (by rw [HP.out, decide_eq_false (by omega), Bool.false_or]), h1⟩
    · have e : mayB s h n = false := by unfold mayB; rw [decide_eq_false (p := n ≤ 1099511627776) (by omega)]; simp
      rw [e]
      clear e
      go_enter Try.func10, Try.ntmps10
      rw [← hM]
      clear hM
      go_wp2
      go_ret
      exact Ret.mk (Ext.refl _)
  · have e : mayB s h n = false := by unfold mayB; rw [decide_eq_false h0]; rfl
    rw [e]
    clear e
    go_enter Try.func10, Try.ntmps10
    rw [← hM]
    clear hM
    go_wp2
    go_ret
    exact Ret.mk (Ext.refl _)
end Go.Proofs.Ytejknkhahjgdnaa
