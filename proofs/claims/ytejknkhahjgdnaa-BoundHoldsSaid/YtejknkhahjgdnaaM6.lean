/- bound.within, Most, May. Numbers in bytes (plain). joineryref07: rows of integers; trim, at, bytes. joineryref07: words, add, fits, From. joineryref07: add, mul. joinerylaw07.NatRing. joineryref07: May, Add, Mul, Pow, Fib, From. joineryref07: Pow, From; joinerylaw07.own. -/
import Derived.Test.YtejknkhahjgdnaaM5
import Derived.Maps.AppendAt
import Derived.Deep.QuietTactic
import Derived.BigQuiet
import Derived.IntWalk
import Derived.Deep.Upon
namespace Go.Proofs.Ytejknkhahjgdnaa
open Go Go.RowKit

theorem beta_7 : beta ^ 7 ≤ beta ^ 128 := Nat.pow_le_pow_right beta_pos (by decide)
theorem u64_beta {n : Nat} (h : n < 18446744073709551616) : n < beta ^ 128 := Nat.lt_of_lt_of_le (show n < beta ^ 2 from h) (Nat.pow_le_pow_right beta_pos (by decide))
theorem lstN_lt (s h : Int) : LstN s h < beta ^ 128 := by
  cases k : okH s h with
  | false => rw [(lst_not k).2]; exact Nat.pow_pos beta_pos
  | true =>
    rw [(lst_ok k).2]
    unfold okH at k
    by_cases h4 : s = 4
    · subst h4
      rw [if_pos rfl] at k
      simp only [Bool.and_eq_true, decide_eq_true_eq] at k
      exact u64_beta (show h.toNat < _ by omega)
    · rw [if_neg h4] at k
      simp only [Bool.and_eq_true, decide_eq_true_eq] at k
      obtain ⟨k0, ⟨k1, k2⟩, k3⟩ := k
      have : s = 1 ∨ s = 2 ∨ s = 3 := by omega
      rcases this with rfl | rfl | rfl
      · exact Nat.lt_of_lt_of_le (Nat.lt_of_le_of_lt (Nat.sub_le _ _) (fibN_lt (by omega))) beta_7
      · exact u64_beta (lstS_lt2 (by omega))
      · exact u64_beta (lstS_lt3 (by omega))
/-- is a height's least at most n? -/
def bwithinB (s h : Int) (n : Nat) : Bool := okH s h && decide (LstN s h ≤ n)
theorem cmp_le {a b : Nat} : decide (cmpV a b ≤ 0) = decide (a ≤ b) := by
  unfold cmpV
  by_cases h : a < b
  · rw [if_pos h, decide_eq_true (by omega), decide_eq_true (by omega)]
  · rw [if_neg h]
    by_cases h2 : b < a
    · rw [if_pos h2, decide_eq_false (by omega), decide_eq_false (by omega)]
    · rw [if_neg h2, decide_eq_true (by omega), decide_eq_true (by omega)]
set_option maxHeartbeats 1000000 in
theorem bwithin_any (w : World) (s h : Int) (n : Nat) (hn : n ≤ 4611686018427387904) : Calls Try.prog 26 #[.int .u8 s, .int .i64 h, .int .i64 (n : Nat)] w (Ret (.bool (bwithinB s h n)) w) := by
  have HL := Lib.hid (bleast_any w s h)
  have HLT := Lib.hid (lstN_lt s h)
  obtain ⟨B, hB⟩ : ∃ B, bwithinB s h n = B := ⟨_, rfl⟩
  rw [hB]
  unfold bwithinB at hB
  cases k : okH s h with
  | false =>
    have e := lst_not k
    unfold Lst at HL
    rw [e.1, e.2] at HL
    rw [k, Bool.false_and] at hB
    subst hB
    clear e k
    have hund : undef = Value.tuple #[] := rfl
    go_enter Try.func26, Try.ntmps26
    go_wp2_with fail
    refine HL.out.mono ?_
    rintro e w1 ⟨v, rfl, n1, h1⟩
    clear n1
    go_wp2
    go_ret
    exact Ret.mk h1
  | true =>
    have e := lst_ok k
    unfold Lst at HL
    rw [e.1] at HL
    rw [k, Bool.true_and, ← cmp_le] at hB
    generalize LstN s h = L at *
    have HC : Hid (decide (cmpV L n ≤ 0) = B) := Lib.hid hB
    clear e k hB
    have hn2 : (n : Int) ≤ 4611686018427387904 := by omega
    have HN := Lib.hid hn
    clear hn
    go_enter Try.func26, Try.ntmps26
    go_wp2_with fail
    refine HL.out.mono ?_
    rintro e w1 ⟨v, rfl, n1, h1⟩
    have H1 := Lib.hid (And.intro n1 h1)
    clear n1 h1
    go_wp2_with fail
    refine (from_any w1 n (Nat.lt_of_le_of_lt HN.out (by decide))).mono ?_
    rintro e w2 ⟨u, rfl, n2, h2⟩
    have H2 := Lib.hid (And.intro n2 h2)
    clear n2 h2
    go_wp2_with fail
    refine (natCmp_num w2 v u L n (H1.out.1.ext H2.out.2) H2.out.1 HLT.out (u64_beta (Nat.lt_of_le_of_lt HN.out (by decide)))).mono ?_
    rintro e w3 ⟨rfl, h3⟩
    go_wp2
    go_ret
    exact ⟨ret_bool HC.out, (H1.out.2.trans H2.out.2).trans h3⟩
/-- the greatest height that n lets. -/
def IsMost (s n h : Nat) : Prop := h ≤ 100 ∧ (∀ j, 1 ≤ j → j ≤ h → lstS s j ≤ n) ∧ (h = 100 ∨ n < lstS s (h + 1))
theorem IsMost.uniq {s n h k : Nat} (a : IsMost s n h) (b : IsMost s n k) : h = k := by
  obtain ⟨a1, a2, a3⟩ := a
  obtain ⟨b1, b2, b3⟩ := b
  rcases Nat.lt_trichotomy h k with c | c | c
  · have := b2 (h + 1) (by omega) (by omega)
    rcases a3 with a3 | a3 <;> omega
  · exact c
  · have := a2 (k + 1) (by omega) (by omega)
    rcases b3 with b3 | b3 <;> omega
/-- what Most hands back: no scheme or no count; the count itself; the greatest height. -/
def Mosts (s n : Int) (w : World) (r : Ending) (w' : World) : Prop :=
  (¬ (1 ≤ s ∧ s ≤ 4 ∧ 0 ≤ n ∧ n ≤ 1099511627776) ∧ Ret (.tuple #[.int .i64 0, .int .i64 2]) w r w') ∨ (s = 4 ∧ 0 ≤ n ∧ n ≤ 1099511627776 ∧ Ret (.tuple #[.int .i64 n, .int .i64 0]) w r w') ∨
  (1 ≤ s ∧ s ≤ 3 ∧ 0 ≤ n ∧ n ≤ 1099511627776 ∧ ∃ h : Nat, IsMost s.toNat n.toNat h ∧ Ret (.tuple #[.int .i64 (h : Nat), .int .i64 0]) w r w')
theorem within_up {s : Int} (hs : 1 ≤ s ∧ s ≤ 3) (h n : Nat) : bwithinB s ((h : Int) + 1) n = (decide (h < 100) && decide (lstS s.toNat (h + 1) ≤ n)) := by
  unfold bwithinB
  by_cases k : h < 100
  · have e : okH s ((h : Int) + 1) = true := by unfold okH; rw [if_neg (by omega)]; simp; omega
    rw [e, (lst_ok e).2, decide_eq_true k, show ((h : Int) + 1).toNat = h + 1 by omega]
  · have e : okH s ((h : Int) + 1) = false := by unfold okH; rw [if_neg (by omega), decide_eq_false (p := (h : Int) + 1 ≤ 100) (by omega)]; simp
    rw [e, decide_eq_false k, Bool.false_and, Bool.false_and]
set_option maxRecDepth 100000 in
set_option maxHeartbeats 4000000 in
theorem most_1 (w : World) (n M : Int) (hM : M = 1099511627776) : Calls Try.prog 8 #[.int .u8 1, .int .i64 n] w (Mosts 1 n w) := by
  have HK := Lib.hid (bkinds_any w M hM)
  have HE := Lib.hid ((Ext.refl w).alloc (.map (kindsE M) 4))
  have hl := look1 (alloc_at w (.map (kindsE M) 4) _ rfl)
  have hund : undef = Value.tuple #[] := rfl
  by_cases h0 : n < 0
  · have HX := Lib.hid (show ¬ ((1 : Int) ≤ 1 ∧ (1 : Int) ≤ 4 ∧ 0 ≤ n ∧ n ≤ 1099511627776) by omega)
    go_enter Try.func8, Try.ntmps8
    rw [← hM]
    clear hM
    go_wp2_with fail
    refine HK.out.mono ?_
    rintro e w1 ⟨rfl, rfl⟩
    go_wp2
    go_ret2
    exact .inl ⟨HX.out, Ret.mk (HE.out.alloc _)⟩
  · by_cases h1 : M < n
    · have HX := Lib.hid (show ¬ ((1 : Int) ≤ 1 ∧ (1 : Int) ≤ 4 ∧ 0 ≤ n ∧ n ≤ 1099511627776) by omega)
      go_enter Try.func8, Try.ntmps8
      rw [← hM]
      clear hM
      go_wp2_with fail
      refine HK.out.mono ?_
      rintro e w1 ⟨rfl, rfl⟩
      go_wp2
      go_ret2
      exact .inl ⟨HX.out, Ret.mk (HE.out.alloc _)⟩
    · obtain ⟨n, rfl⟩ := Int.eq_ofNat_of_zero_le (Int.not_lt.1 h0)
      have HN := Lib.hid (show ((n : Int) ≤ 1099511627776) ∧ n ≤ 4611686018427387904 by omega)
      clear h0
      go_enter Try.func8, Try.ntmps8
      rw [← hM]
      clear hM
      go_wp2_with fail
      refine HK.out.mono ?_
      rintro e w1 ⟨rfl, rfl⟩
      go_wp2_with fail
      clear hl h1
      have HE1 := HE.out.alloc (.cells #[.int .i64 100, .nilFunc] 53)
      generalize (w.alloc (.map (kindsE M) 4)).alloc _ = w1 at *
      go_loopw [4] (fun i W => ∃ h : Nat, i = .int .i64 (h : Nat) ∧ Hid (h ≤ 100 ∧ (∀ j, 1 ≤ j → j ≤ h → lstS 1 j ≤ n) ∧ Ext w W)) (fun i _ => 101 - (intOf i).toNat)
      case atStart => exact ⟨0, rfl, Lib.hid ⟨Nat.zero_le _, (fun j h1 h2 => by omega), HE1⟩⟩
      case round =>
        obtain ⟨h, rfl, HH⟩ := hrel
        have HWI := Lib.hid (bwithin_any wr 1 ((h : Int) + 1) n HN.out.2)
        rw [within_up (by decide)] at HWI
        have hh : h ≤ 100 := HH.out.1
        by_cases k : h < 100 ∧ lstS 1 (h + 1) ≤ n
        · have HW2 := Lib.hid k
          rw [show ((1 : Int).toNat) = 1 from rfl, decide_eq_true k.1, decide_eq_true k.2] at HWI
          clear k
          go_wp2_with fail
          refine HWI.out.mono ?_
          rintro e w2 ⟨rfl, h2⟩
          have H2 := Lib.hid h2
          clear h2
          go_wp2
          go_roundw
          case rel => exact ⟨h + 1, by go_num, Lib.hid ⟨HW2.out.1, (fun j h1 h2 => by
            rcases Nat.eq_or_lt_of_le h2 with e | e
            · rw [e]; exact HW2.out.2
            · exact HH.out.2.1 j h1 (Nat.le_of_lt_succ e)), HH.out.2.2.trans H2.out⟩⟩
          case measure => exact meas_s (Nat.lt_of_lt_of_le HW2.out.1 (by decide))
        · have HW2 := Lib.hid (show h = 100 ∨ n < lstS 1 (h + 1) by omega)
          have hf : (decide (h < 100) && decide (lstS 1 (h + 1) ≤ n)) = false := by
            rw [Bool.and_eq_false_iff]
            simp only [decide_eq_false_iff_not]
            omega
          rw [show ((1 : Int).toNat) = 1 from rfl, hf] at HWI
          clear k hf
          go_wp2_with fail
          refine HWI.out.mono ?_
          rintro e w2 ⟨rfl, h2⟩
          have H2 := Lib.hid h2
          clear h2
          go_wp2
          go_ret2
          exact .inr (.inr ⟨by decide, by decide, by omega, HN.out.1, h, ⟨HH.out.1, HH.out.2.1, HW2.out⟩, Ret.mk (HH.out.2.2.trans H2.out)⟩)
set_option maxRecDepth 100000 in
set_option maxHeartbeats 4000000 in
theorem most_2 (w : World) (n M : Int) (hM : M = 1099511627776) : Calls Try.prog 8 #[.int .u8 2, .int .i64 n] w (Mosts 2 n w) := by
  have HK := Lib.hid (bkinds_any w M hM)
  have HE := Lib.hid ((Ext.refl w).alloc (.map (kindsE M) 4))
  have hl := look2 (alloc_at w (.map (kindsE M) 4) _ rfl)
  have hund : undef = Value.tuple #[] := rfl
  by_cases h0 : n < 0
  · have HX := Lib.hid (show ¬ ((1 : Int) ≤ 2 ∧ (2 : Int) ≤ 4 ∧ 0 ≤ n ∧ n ≤ 1099511627776) by omega)
    go_enter Try.func8, Try.ntmps8
    rw [← hM]
    clear hM
    go_wp2_with fail
    refine HK.out.mono ?_
    rintro e w1 ⟨rfl, rfl⟩
    go_wp2
    go_ret2
    exact .inl ⟨HX.out, Ret.mk (HE.out.alloc _)⟩
  · by_cases h1 : M < n
    · have HX := Lib.hid (show ¬ ((1 : Int) ≤ 2 ∧ (2 : Int) ≤ 4 ∧ 0 ≤ n ∧ n ≤ 1099511627776) by omega)
      go_enter Try.func8, Try.ntmps8
      rw [← hM]
      clear hM
      go_wp2_with fail
      refine HK.out.mono ?_
      rintro e w1 ⟨rfl, rfl⟩
      go_wp2
      go_ret2
      exact .inl ⟨HX.out, Ret.mk (HE.out.alloc _)⟩
    · obtain ⟨n, rfl⟩ := Int.eq_ofNat_of_zero_le (Int.not_lt.1 h0)
      have HN := Lib.hid (show ((n : Int) ≤ 1099511627776) ∧ n ≤ 4611686018427387904 by omega)
      clear h0
      go_enter Try.func8, Try.ntmps8
      rw [← hM]
      clear hM
      go_wp2_with fail
      refine HK.out.mono ?_
      rintro e w1 ⟨rfl, rfl⟩
      go_wp2_with fail
      clear hl h1
      have HE1 := HE.out.alloc (.cells #[.int .i64 100, .func (.func 52) #[] #[]] 53)
      generalize (w.alloc (.map (kindsE M) 4)).alloc _ = w1 at *
      go_loopw [4] (fun i W => ∃ h : Nat, i = .int .i64 (h : Nat) ∧ Hid (h ≤ 100 ∧ (∀ j, 1 ≤ j → j ≤ h → lstS 2 j ≤ n) ∧ Ext w W)) (fun i _ => 101 - (intOf i).toNat)
      case atStart => exact ⟨0, rfl, Lib.hid ⟨Nat.zero_le _, (fun j h1 h2 => by omega), HE1⟩⟩
      case round =>
        obtain ⟨h, rfl, HH⟩ := hrel
        have HWI := Lib.hid (bwithin_any wr 2 ((h : Int) + 1) n HN.out.2)
        rw [within_up (by decide)] at HWI
        have hh : h ≤ 100 := HH.out.1
        by_cases k : h < 100 ∧ lstS 2 (h + 1) ≤ n
        · have HW2 := Lib.hid k
          rw [show ((2 : Int).toNat) = 2 from rfl, decide_eq_true k.1, decide_eq_true k.2] at HWI
          clear k
          go_wp2_with fail
          refine HWI.out.mono ?_
          rintro e w2 ⟨rfl, h2⟩
          have H2 := Lib.hid h2
          clear h2
          go_wp2
          go_roundw
          case rel => exact ⟨h + 1, by go_num, Lib.hid ⟨HW2.out.1, (fun j h1 h2 => by
            rcases Nat.eq_or_lt_of_le h2 with e | e
            · rw [e]; exact HW2.out.2
            · exact HH.out.2.1 j h1 (Nat.le_of_lt_succ e)), HH.out.2.2.trans H2.out⟩⟩
          case measure => exact meas_s (Nat.lt_of_lt_of_le HW2.out.1 (by decide))
        · have HW2 := Lib.hid (show h = 100 ∨ n < lstS 2 (h + 1) by omega)
          have hf : (decide (h < 100) && decide (lstS 2 (h + 1) ≤ n)) = false := by
            rw [Bool.and_eq_false_iff]
            simp only [decide_eq_false_iff_not]
            omega
          rw [show ((2 : Int).toNat) = 2 from rfl, hf] at HWI
          clear k hf
          go_wp2_with fail
          refine HWI.out.mono ?_
          rintro e w2 ⟨rfl, h2⟩
          have H2 := Lib.hid h2
          clear h2
          go_wp2
          go_ret2
          exact .inr (.inr ⟨by decide, by decide, by omega, HN.out.1, h, ⟨HH.out.1, HH.out.2.1, HW2.out⟩, Ret.mk (HH.out.2.2.trans H2.out)⟩)
set_option maxRecDepth 100000 in
set_option maxHeartbeats 4000000 in
theorem most_3 (w : World) (n M : Int) (hM : M = 1099511627776) : Calls Try.prog 8 #[.int .u8 3, .int .i64 n] w (Mosts 3 n w) := by
  have HK := Lib.hid (bkinds_any w M hM)
  have HE := Lib.hid ((Ext.refl w).alloc (.map (kindsE M) 4))
  have hl := look3 (alloc_at w (.map (kindsE M) 4) _ rfl)
  have hund : undef = Value.tuple #[] := rfl
  by_cases h0 : n < 0
  · have HX := Lib.hid (show ¬ ((1 : Int) ≤ 3 ∧ (3 : Int) ≤ 4 ∧ 0 ≤ n ∧ n ≤ 1099511627776) by omega)
    go_enter Try.func8, Try.ntmps8
    rw [← hM]
    clear hM
    go_wp2_with fail
    refine HK.out.mono ?_
    rintro e w1 ⟨rfl, rfl⟩
    go_wp2
    go_ret2
    exact .inl ⟨HX.out, Ret.mk (HE.out.alloc _)⟩
  · by_cases h1 : M < n
    · have HX := Lib.hid (show ¬ ((1 : Int) ≤ 3 ∧ (3 : Int) ≤ 4 ∧ 0 ≤ n ∧ n ≤ 1099511627776) by omega)
      go_enter Try.func8, Try.ntmps8
      rw [← hM]
      clear hM
      go_wp2_with fail
      refine HK.out.mono ?_
      rintro e w1 ⟨rfl, rfl⟩
      go_wp2
      go_ret2
      exact .inl ⟨HX.out, Ret.mk (HE.out.alloc _)⟩
    · obtain ⟨n, rfl⟩ := Int.eq_ofNat_of_zero_le (Int.not_lt.1 h0)
      have HN := Lib.hid (show ((n : Int) ≤ 1099511627776) ∧ n ≤ 4611686018427387904 by omega)
      clear h0
      go_enter Try.func8, Try.ntmps8
      rw [← hM]
      clear hM
      go_wp2_with fail
      refine HK.out.mono ?_
      rintro e w1 ⟨rfl, rfl⟩
      go_wp2_with fail
      clear hl h1
      have HE1 := HE.out.alloc (.cells #[.int .i64 100, .func (.func 53) #[] #[]] 53)
      generalize (w.alloc (.map (kindsE M) 4)).alloc _ = w1 at *
      go_loopw [4] (fun i W => ∃ h : Nat, i = .int .i64 (h : Nat) ∧ Hid (h ≤ 100 ∧ (∀ j, 1 ≤ j → j ≤ h → lstS 3 j ≤ n) ∧ Ext w W)) (fun i _ => 101 - (intOf i).toNat)
      case atStart => exact ⟨0, rfl, Lib.hid ⟨Nat.zero_le _, (fun j h1 h2 => by omega), HE1⟩⟩
      case round =>
        obtain ⟨h, rfl, HH⟩ := hrel
        have HWI := Lib.hid (bwithin_any wr 3 ((h : Int) + 1) n HN.out.2)
        rw [within_up (by decide)] at HWI
        have hh : h ≤ 100 := HH.out.1
        by_cases k : h < 100 ∧ lstS 3 (h + 1) ≤ n
        · have HW2 := Lib.hid k
          rw [show ((3 : Int).toNat) = 3 from rfl, decide_eq_true k.1, decide_eq_true k.2] at HWI
          clear k
          go_wp2_with fail
          refine HWI.out.mono ?_
          rintro e w2 ⟨rfl, h2⟩
          have H2 := Lib.hid h2
          clear h2
          go_wp2
          go_roundw
          case rel => exact ⟨h + 1, by go_num, Lib.hid ⟨HW2.out.1, (fun j h1 h2 => by
            rcases Nat.eq_or_lt_of_le h2 with e | e
            · rw [e]; exact HW2.out.2
            · exact HH.out.2.1 j h1 (Nat.le_of_lt_succ e)), HH.out.2.2.trans H2.out⟩⟩
          case measure => exact meas_s (Nat.lt_of_lt_of_le HW2.out.1 (by decide))
        · have HW2 := Lib.hid (show h = 100 ∨ n < lstS 3 (h + 1) by omega)
          have hf : (decide (h < 100) && decide (lstS 3 (h + 1) ≤ n)) = false := by
            rw [Bool.and_eq_false_iff]
            simp only [decide_eq_false_iff_not]
            omega
          rw [show ((3 : Int).toNat) = 3 from rfl, hf] at HWI
          clear k hf
          go_wp2_with fail
          refine HWI.out.mono ?_
          rintro e w2 ⟨rfl, h2⟩
          have H2 := Lib.hid h2
          clear h2
          go_wp2
          go_ret2
          exact .inr (.inr ⟨by decide, by decide, by omega, HN.out.1, h, ⟨HH.out.1, HH.out.2.1, HW2.out⟩, Ret.mk (HH.out.2.2.trans H2.out)⟩)
set_option maxRecDepth 100000 in
set_option maxHeartbeats 4000000 in
theorem most_4 (w : World) (n M : Int) (hM : M = 1099511627776) : Calls Try.prog 8 #[.int .u8 4, .int .i64 n] w (Mosts 4 n w) := by
  have HK := Lib.hid (bkinds_any w M hM)
  have HE := Lib.hid ((Ext.refl w).alloc (.map (kindsE M) 4))
  have hl := look4 (alloc_at w (.map (kindsE M) 4) _ rfl)
  have hund : undef = Value.tuple #[] := rfl
  by_cases h0 : n < 0
  · have HX := Lib.hid (show ¬ ((1 : Int) ≤ 4 ∧ (4 : Int) ≤ 4 ∧ 0 ≤ n ∧ n ≤ 1099511627776) by omega)
    go_enter Try.func8, Try.ntmps8
    rw [← hM]
    clear hM
    go_wp2_with fail
    refine HK.out.mono ?_
    rintro e w1 ⟨rfl, rfl⟩
    go_wp2
    go_ret2
    exact .inl ⟨HX.out, Ret.mk (HE.out.alloc _)⟩
  · by_cases h1 : M < n
    · have HX := Lib.hid (show ¬ ((1 : Int) ≤ 4 ∧ (4 : Int) ≤ 4 ∧ 0 ≤ n ∧ n ≤ 1099511627776) by omega)
      go_enter Try.func8, Try.ntmps8
      rw [← hM]
      clear hM
      go_wp2_with fail
      refine HK.out.mono ?_
      rintro e w1 ⟨rfl, rfl⟩
      go_wp2
      go_ret2
      exact .inl ⟨HX.out, Ret.mk (HE.out.alloc _)⟩
    · have HN := Lib.hid (show 0 ≤ n ∧ (n ≤ 1099511627776) by omega)
      go_enter Try.func8, Try.ntmps8
      rw [← hM]
      clear hM
      go_wp2_with fail
      refine HK.out.mono ?_
      rintro e w1 ⟨rfl, rfl⟩
      go_wp2
      go_ret2
      exact .inr (.inl ⟨rfl, HN.out.1, HN.out.2, Ret.mk (HE.out.alloc _)⟩)
set_option maxRecDepth 100000 in
set_option maxHeartbeats 4000000 in
theorem most_m (w : World) (s n M : Int) (hM : M = 1099511627776) (hs : s ≠ 1 ∧ s ≠ 2 ∧ s ≠ 3 ∧ s ≠ 4) : Calls Try.prog 8 #[.int .u8 s, .int .i64 n] w (Mosts s n w) := by
  have HK := Lib.hid (bkinds_any w M hM)
  have HE := Lib.hid ((Ext.refl w).alloc (.map (kindsE M) 4))
  have hl := lookM (alloc_at w (.map (kindsE M) 4) _ rfl) hs
  have hund : undef = Value.tuple #[] := rfl
  have HX := Lib.hid (show ¬ (1 ≤ s ∧ s ≤ 4 ∧ 0 ≤ n ∧ n ≤ 1099511627776) by omega)
  clear hs
  go_enter Try.func8, Try.ntmps8
  rw [← hM]
  clear hM
  go_wp2_with fail
  refine HK.out.mono ?_
  rintro e w1 ⟨rfl, rfl⟩
  go_wp2
  go_ret2
  exact .inl ⟨HX.out, Ret.mk (HE.out.alloc _)⟩
/-- **bound.Most**, of any scheme and count. -/
theorem most_any (w : World) (s n : Int) : Calls Try.prog 8 #[.int .u8 s, .int .i64 n] w (Mosts s n w) := by
  by_cases h1 : s = 1
  · subst h1; exact most_1 w n _ rfl
  by_cases h2 : s = 2
  · subst h2; exact most_2 w n _ rfl
  by_cases h3 : s = 3
  · subst h3; exact most_3 w n _ rfl
  by_cases h4 : s = 4
  · subst h4; exact most_4 w n _ rfl
  exact most_m w s n _ rfl ⟨h1, h2, h3, h4⟩
/-- may a height, and a count, be together? -/
def bmayB (s h n : Int) : Bool := decide (0 ≤ n) && decide (n ≤ 1099511627776) && bwithinB s h n.toNat && (decide (40 < h) || decide (n < 2 ^ h.toNat))
theorem pow_64 {h : Nat} (hh : h ≤ 61) : wrap64 ((2 : Int) ^ h) = (2 : Int) ^ h := by
  have hp : (2 : Nat) ^ h ≤ 2 ^ 61 := Nat.pow_le_pow_right (by decide) hh
  have hp2 : (2 : Int) ^ h = ((2 ^ h : Nat) : Int) := by simp
  have hp3 : (2 : Nat) ^ 61 = 2305843009213693952 := by decide
  rw [hp2]
  clear hp2
  generalize (2 : Nat) ^ h = P at *
  unfold wrap64
  omega
set_option maxRecDepth 100000 in
set_option maxHeartbeats 4000000 in
theorem mayN_any34 (w : World) (s h n M : Int) (hM : M = 1099511627776) : Calls Try.prog 10 #[.int .u8 s, .int .i64 h, .int .i64 n] w (Ret (.bool (bmayB s h n)) w) := by
  have hund : undef = Value.tuple #[] := rfl
  by_cases h0 : 0 ≤ n
  · by_cases h1 : n ≤ M
    · obtain ⟨n, rfl⟩ := Int.eq_ofNat_of_zero_le h0
      have e : bmayB s h n = (bwithinB s h n && (decide (40 < h) || decide ((n : Int) < 2 ^ h.toNat))) := by unfold bmayB; rw [decide_eq_true h0, decide_eq_true (p := (n : Int) ≤ 1099511627776) (by omega), Int.toNat_natCast]; rfl
      rw [e]
      have HW := Lib.hid (bwithin_any w s h n (by omega))
      cases k : bwithinB s h n with
      | false =>
        rw [k] at HW
        clear e k
        rw [Bool.false_and]
        go_enter Try.func10, Try.ntmps10
        rw [← hM]
        clear hM
        go_wp2_with fail
        refine HW.out.mono ?_
        rintro e w1 ⟨rfl, h1⟩
        go_wp2
        go_ret
        exact Ret.mk h1
      | true =>
        rw [k] at HW
        rw [Bool.true_and]
        have hok : 0 ≤ h := by
          unfold bwithinB okH at k
          simp only [Bool.and_eq_true, decide_eq_true_eq] at k
          exact k.1.1
        clear e k
        by_cases h40 : 40 < h
        · rw [decide_eq_true h40, Bool.true_or]
          go_enter Try.func10, Try.ntmps10
          rw [← hM]
          clear hM
          go_wp2_with fail
          refine HW.out.mono ?_
          rintro e w1 ⟨rfl, h1⟩
          go_wp2
          go_ret
          exact Ret.mk h1
        · obtain ⟨h, rfl⟩ := Int.eq_ofNat_of_zero_le hok
          rw [decide_eq_false h40, Bool.false_or, Int.toNat_natCast]
          have HP := Lib.hid (pow_64 (h := h) (by omega))
          go_enter Try.func10, Try.ntmps10
          rw [← hM]
          clear hM
          go_wp2_with fail
          refine HW.out.mono ?_
          rintro e w1 ⟨rfl, h1⟩
          go_wp2
          go_ret
          exact ⟨ret_bool (by rw [HP.out, decide_eq_false (by omega), Bool.false_or]), h1⟩
    · have e : bmayB s h n = false := by unfold bmayB; rw [decide_eq_false (p := n ≤ 1099511627776) (by omega)]; simp
      rw [e]
      clear e
      go_enter Try.func10, Try.ntmps10
      rw [← hM]
      clear hM
      go_wp2
      go_ret
      exact Ret.mk (Ext.refl _)
  · have e : bmayB s h n = false := by unfold bmayB; rw [decide_eq_false h0]; rfl
    rw [e]
    clear e
    go_enter Try.func10, Try.ntmps10
    rw [← hM]
    clear hM
    go_wp2
    go_ret
    exact Ret.mk (Ext.refl _)
end Go.Proofs.Ytejknkhahjgdnaa
namespace Go.Proofs.Ytejknkhahjgdnaa

/-- the base. -/
def bby : Nat := 256
theorem bby_pos : 0 < bby := by decide
def bval : List Nat → Nat
  | [] => 0
  | d :: ds => d + bby * bval ds
/-- all words are less than the base. -/
def Byts (xs : List Nat) : Prop := ∀ d ∈ xs, d < bby
/-- a number as it should be: no nought at its end. -/
def BNorm (xs : List Nat) : Prop := Byts xs ∧ (xs = [] ∨ xs.getD (xs.length - 1) 0 ≠ 0)
theorem bval_append : ∀ (xs ys : List Nat), bval (xs ++ ys) = bval xs + bby ^ xs.length * bval ys
  | [], ys => by simp [bval]
  | x :: xs, ys => by
    rw [List.cons_append, bval, bval, bval_append xs ys, List.length_cons, Nat.pow_succ, Nat.mul_add, Nat.mul_comm (bby ^ xs.length) bby, Nat.mul_assoc, Nat.add_assoc]
theorem bval_lt : ∀ {xs : List Nat}, Byts xs → bval xs < bby ^ xs.length
  | [], _ => by simp [bval]
  | x :: xs, h => by
    have h1 := bval_lt (xs := xs) (fun d hd => h d (List.mem_cons_of_mem _ hd))
    have h2 := h x (List.mem_cons_self ..)
    rw [bval, List.length_cons, Nat.pow_succ]
    have h3 : bby * (bval xs + 1) ≤ bby * bby ^ xs.length := Nat.mul_le_mul_left _ h1
    rw [Nat.mul_comm (bby ^ xs.length), Nat.mul_add] at *
    omega
theorem bval_zero : ∀ {xs : List Nat}, (∀ d ∈ xs, d = 0) → bval xs = 0
  | [], _ => rfl
  | x :: xs, h => by rw [bval, h x (List.mem_cons_self ..), bval_zero (fun d hd => h d (List.mem_cons_of_mem _ hd))]; rfl
theorem b_words_tail {x : Nat} {xs : List Nat} (h : Byts (x :: xs)) : Byts xs := fun d hd => h d (List.mem_cons_of_mem _ hd)
theorem b_norm_tail {x : Nat} {xs : List Nat} (h : BNorm (x :: xs)) : BNorm xs := by
  refine ⟨b_words_tail h.1, ?_⟩
  cases xs with
  | nil => exact .inl rfl
  | cons y ys =>
    rcases h.2 with h | h
    · cases h
    · right
      simpa using h
theorem b_norm_zero {xs : List Nat} (h : BNorm xs) (h0 : bval xs = 0) : xs = [] := by
  induction xs with
  | nil => rfl
  | cons x xs ih =>
    exfalso
    rw [bval] at h0
    have hb := bby_pos
    have hx : x = 0 := by omega
    have h1 : bval xs = 0 := by
      rcases Nat.eq_zero_or_pos (bval xs) with h | h
      · exact h
      · have := Nat.mul_le_mul_left bby h
        omega
    have h2 := ih (b_norm_tail h) h1
    subst h2
    rcases h.2 with h | h
    · cases h
    · simp [hx] at h
theorem b_norm_inj : ∀ {xs ys : List Nat}, BNorm xs → BNorm ys → bval xs = bval ys → xs = ys
  | [], ys, _, hy, e => (b_norm_zero hy e.symm).symm
  | x :: xs, [], hx, _, e => b_norm_zero hx e
  | x :: xs, y :: ys, hx, hy, e => by
    have h1 := hx.1 x (List.mem_cons_self ..)
    have h2 := hy.1 y (List.mem_cons_self ..)
    rw [bval, bval] at e
    have e1 : x = y := by
      have := congrArg (· % bby) e
      simpa [Nat.add_mul_mod_self_left, Nat.mod_eq_of_lt h1, Nat.mod_eq_of_lt h2] using this
    subst e1
    have e2 : bval xs = bval ys := Nat.eq_of_mul_eq_mul_left bby_pos (by omega)
    rw [b_norm_inj (b_norm_tail hx) (b_norm_tail hy) e2]
theorem b_norm_low : ∀ {xs : List Nat}, BNorm xs → xs ≠ [] → bby ^ (xs.length - 1) ≤ bval xs
  | [], _, h => absurd rfl h
  | [x], h, _ => by
    rcases h.2 with h | h
    · cases h
    · simp [bval] at h ⊢; omega
  | x :: y :: ys, h, _ => by
    have h1 := b_norm_low (b_norm_tail h) (by simp)
    rw [bval]
    simp only [List.length_cons, Nat.add_sub_cancel] at h1 ⊢
    rw [Nat.pow_succ, Nat.mul_comm]
    exact Nat.le_trans (Nat.mul_le_mul_left bby h1) (Nat.le_add_left _ _)
/-- how long a number is. -/
theorem b_norm_len {xs : List Nat} (h : BNorm xs) (k : Nat) : xs.length ≤ k ↔ bval xs < bby ^ k := by
  constructor
  · intro hk
    exact Nat.lt_of_lt_of_le (bval_lt h.1) (Nat.pow_le_pow_right bby_pos hk)
  · intro hk
    rcases Nat.lt_or_ge k xs.length with h1 | h1
    · exfalso
      have h2 := b_norm_low h (by intro e; subst e; simp at h1)
      have h3 : bby ^ k ≤ bby ^ (xs.length - 1) := Nat.pow_le_pow_right bby_pos (by omega)
      omega
    · exact h1
theorem bval_take (xs : List Nat) (k : Nat) (hk : k < xs.length) : bval (xs.take (k + 1)) = bval (xs.take k) + bby ^ k * xs.getD k 0 := by
  have hz : xs[k]? = some (xs.getD k 0) := by rw [List.getD_eq_getElem?_getD, List.getElem?_eq_getElem hk]; rfl
  rw [List.take_add_one, hz, bval_append, List.length_take, Nat.min_eq_left (Nat.le_of_lt hk)]
  simp [bval]
theorem bval_take_past (xs : List Nat) (k : Nat) (hk : xs.length ≤ k) : bval (xs.take k) = bval xs := by rw [List.take_of_length_le hk]
/-- the same, past the end as well. -/
theorem bval_take' (xs : List Nat) (k : Nat) : bval (xs.take (k + 1)) = bval (xs.take k) + bby ^ k * xs.getD k 0 := by
  rcases Nat.lt_or_ge k xs.length with h | h
  · exact bval_take xs k h
  · rw [bval_take_past xs k h, bval_take_past xs (k + 1) (by omega), getD_past xs k h, Nat.mul_zero, Nat.add_zero]
theorem bval_set : ∀ (xs : List Nat) (k d : Nat), k < xs.length → bval (xs.set k d) + bby ^ k * xs.getD k 0 = bval xs + bby ^ k * d
  | [], k, _, h => by simp at h
  | x :: xs, 0, d, _ => by simp [bval]; omega
  | x :: xs, k + 1, d, h => by
    have ih := bval_set xs k d (by simpa using h)
    rw [List.set_cons_succ, bval, bval, List.getD_cons_succ, Nat.pow_succ, Nat.mul_comm (bby ^ k) bby, Nat.mul_assoc, Nat.mul_assoc]
    have := congrArg (bby * ·) ih
    simp only [Nat.mul_add] at this
    omega
theorem b_words_set {xs : List Nat} {k d : Nat} (h : Byts xs) (hd : d < bby) : Byts (xs.set k d) := fun y hy => by
  rcases List.mem_or_eq_of_mem_set hy with h1 | h1
  · exact h y h1
  · rw [h1]; exact hd
theorem b_words_getD {xs : List Nat} (h : Byts xs) (k : Nat) : xs.getD k 0 < bby := by
  rcases Nat.lt_or_ge k xs.length with hk | hk
  · rw [List.getD_eq_getElem?_getD, List.getElem?_eq_getElem hk]; exact h _ (List.getElem_mem hk)
  · rw [getD_past xs k hk]; exact bby_pos
theorem b_words_take {xs : List Nat} (h : Byts xs) (k : Nat) : Byts (xs.take k) := fun d hd => h d (List.mem_of_mem_take hd)
/-- what trim leaves. -/
theorem b_trim_norm {xs : List Nat} (h : Byts xs) {k : Nat} (hk : k ≤ xs.length) (h0 : ∀ j, k ≤ j → xs.getD j 0 = 0) (h1 : k = 0 ∨ xs.getD (k - 1) 0 ≠ 0) : BNorm (xs.take k) ∧ bval (xs.take k) = bval xs := by
  refine ⟨⟨b_words_take h k, ?_⟩, ?_⟩
  · rcases h1 with h1 | h1
    · left; rw [h1]; rfl
    · by_cases hk0 : k = 0
      · left; rw [hk0]; rfl
      · right
        rw [List.length_take, Nat.min_eq_left hk, List.getD_eq_getElem?_getD, List.getElem?_take, if_pos (by omega), ← List.getD_eq_getElem?_getD]
        exact h1
  · have e : bval xs = bval (xs.take k ++ xs.drop k) := by rw [List.take_append_drop]
    rw [e, bval_append, bval_zero (xs := xs.drop k), Nat.mul_zero, Nat.add_zero]
    intro d hd
    obtain ⟨j, hj, e⟩ := List.getElem_of_mem hd
    have := h0 (k + j) (by omega)
    rw [List.getElem_drop] at e
    rw [← e]
    rw [List.getD_eq_getElem?_getD, List.getElem?_eq_getElem (by simp at hj; omega)] at this
    exact this
/-- the round of a sum. -/
theorem b_add_step {ds xs ys : List Nat} {k c : Nat} (hk : k < ds.length) (hc : c ≤ 1) (hx : Byts xs) (hy : Byts ys) (hd : ∀ j, k ≤ j → ds.getD j 0 = xs.getD j 0)
    (h : bval (ds.take k) + bby ^ k * c = bval (xs.take k) + bval (ys.take k)) :
    let s := c + xs.getD k 0 + ys.getD k 0
    (s / bby ≤ 1) ∧ (∀ j, k + 1 ≤ j → (ds.set k (s % bby)).getD j 0 = xs.getD j 0) ∧ bval ((ds.set k (s % bby)).take (k + 1)) + bby ^ (k + 1) * (s / bby) = bval (xs.take (k + 1)) + bval (ys.take (k + 1)) := by
  intro s
  have h1 := b_words_getD hx k
  have h2 := b_words_getD hy k
  have hb : bby = 256 := rfl
  refine ⟨?_, ?_, ?_⟩
  · have : s < 2 * bby := by show c + xs.getD k 0 + ys.getD k 0 < _; omega
    have := Nat.div_lt_of_lt_mul (show s < bby * 2 by omega)
    omega
  · intro j hj
    rw [List.getD_eq_getElem?_getD, List.getElem?_set_ne (by omega), ← List.getD_eq_getElem?_getD]
    exact hd j (by omega)
  · rw [bval_take _ k (by simpa using hk), bval_take' xs k, bval_take' ys k]
    have e1 : (ds.set k (s % bby)).getD k 0 = s % bby := by simp [List.getD_eq_getElem?_getD, hk]
    have e2 : (ds.set k (s % bby)).take k = ds.take k := by
      apply List.ext_getElem?
      intro i
      rw [List.getElem?_take, List.getElem?_take]
      split
      · rw [List.getElem?_set_ne (by omega)]
      · rfl
    rw [e1, e2, Nat.pow_succ, Nat.mul_assoc]
    have hs := Nat.mod_add_div s bby
    have h3 : bby ^ k * (s % bby) + bby ^ k * (bby * (s / bby)) = bby ^ k * c + bby ^ k * xs.getD k 0 + bby ^ k * ys.getD k 0 := by
      rw [← Nat.mul_add, hs, ← Nat.mul_add, ← Nat.mul_add]
    omega
theorem b_add_end {ds xs ys : List Nat} {c : Nat} (hx : Byts xs) (hy : Byts ys) (hl : ds.length = max xs.length ys.length + 1) (h : bval (ds.take ds.length) + bby ^ ds.length * c = bval (xs.take ds.length) + bval (ys.take ds.length)) : bval ds = bval xs + bval ys := by
  rw [List.take_length, bval_take_past xs _ (by omega), bval_take_past ys _ (by omega)] at h
  have h1 := Nat.lt_of_lt_of_le (bval_lt hx) (Nat.pow_le_pow_right bby_pos (show xs.length ≤ ds.length - 1 by omega))
  have h2 := Nat.lt_of_lt_of_le (bval_lt hy) (Nat.pow_le_pow_right bby_pos (show ys.length ≤ ds.length - 1 by omega))
  have h3 : bby ^ ds.length = bby ^ (ds.length - 1) * bby := by rw [← Nat.pow_succ]; congr 1; omega
  have h4 : bby ^ (ds.length - 1) * 2 ≤ bby ^ ds.length := by rw [h3]; exact Nat.mul_le_mul_left _ (by decide)
  rcases Nat.eq_zero_or_pos c with hc | hc
  · subst hc; omega
  · have := Nat.mul_le_mul_left (bby ^ ds.length) hc
    omega
/-- the round of a product. -/
theorem b_mul_step {ds ys : List Nat} {i k c x V : Nat} (hk : i + k < ds.length) (hd : Byts ds) (hy : Byts ys) (hx : x < bby) (hc : c < bby)
    (h : bval ds + bby ^ (i + k) * c = V + x * bval (ys.take k) * bby ^ i) :
    let s := c + ds.getD (i + k) 0 + x * ys.getD k 0
    s < 65536 ∧ s / bby < bby ∧ bval (ds.set (i + k) (s % bby)) + bby ^ (i + k + 1) * (s / bby) = V + x * bval (ys.take (k + 1)) * bby ^ i := by
  intro s
  have h1 := b_words_getD hd (i + k)
  have h2 := b_words_getD hy k
  have hs : s < bby * bby := by
    have h3 : x * ys.getD k 0 ≤ (bby - 1) * (bby - 1) := Nat.mul_le_mul (by omega) (by omega)
    have h4 : (bby - 1) * (bby - 1) + (bby - 1) + (bby - 1) < bby * bby := by decide
    show c + ds.getD (i + k) 0 + x * ys.getD k 0 < _
    omega
  refine ⟨hs, Nat.div_lt_of_lt_mul hs, ?_⟩
  have e := bval_set ds (i + k) (s % bby) hk
  rw [bval_take' ys k, Nat.mul_add, Nat.add_mul, Nat.pow_succ, Nat.mul_assoc]
  have hm := Nat.mod_add_div s bby
  have h3 : bby ^ (i + k) * (s % bby) + bby ^ (i + k) * (bby * (s / bby)) = bby ^ (i + k) * c + bby ^ (i + k) * ds.getD (i + k) 0 + bby ^ (i + k) * (x * ys.getD k 0) := by
    rw [← Nat.mul_add, hm, ← Nat.mul_add, ← Nat.mul_add]
  have h4 : x * (bby ^ k * ys.getD k 0) * bby ^ i = bby ^ (i + k) * (x * ys.getD k 0) := by
    rw [Nat.pow_add]
    simp only [Nat.mul_comm, Nat.mul_left_comm, Nat.mul_assoc]
  rw [h4]
  omega
theorem b_mul_end {ds xs ys : List Nat} {i c V : Nat} (hx : Byts xs) (hy : Byts ys) (hi : i < xs.length) (hV : V = bval (xs.take i) * bval ys)
    (h : bval ds + bby ^ (i + (ys.length + 1)) * c = V + xs.getD i 0 * bval (ys.take (ys.length + 1)) * bby ^ i) : bval ds = bval (xs.take (i + 1)) * bval ys := by
  rw [bval_take_past ys _ (by omega)] at h
  have e : V + xs.getD i 0 * bval ys * bby ^ i = bval (xs.take (i + 1)) * bval ys := by
    rw [hV, bval_take xs i hi, Nat.add_mul]
    congr 1
    simp only [Nat.mul_comm, Nat.mul_assoc]
  rw [e] at h
  have h1 := bval_lt (b_words_take hx (i + 1))
  have h2 := bval_lt hy
  rw [List.length_take, Nat.min_eq_left (by omega)] at h1
  have h3 : bval (xs.take (i + 1)) * bval ys < bby ^ (i + (ys.length + 1)) := by
    rw [show i + (ys.length + 1) = (i + 1) + ys.length by omega, Nat.pow_add]
    exact Nat.mul_lt_mul_of_lt_of_le h1 (Nat.le_of_lt h2) (Nat.pow_pos bby_pos)
  generalize bby ^ (i + (ys.length + 1)) = P at *
  generalize bval (xs.take (i + 1)) * bval ys = R at *
  generalize bval ds = D at *
  clear e h1 h2 hV hx hy hi
  rcases Nat.eq_zero_or_pos c with hc | hc
  · subst hc; rw [← h, Nat.mul_zero, Nat.add_zero]
  · exfalso
    have h4 : P * 1 ≤ P * c := Nat.mul_le_mul_left P hc
    rw [Nat.mul_one] at h4
    exact absurd (Nat.lt_of_le_of_lt (Nat.le_trans h4 (Nat.le_add_left _ D)) (h ▸ h3)) (Nat.lt_irrefl _)
end Go.Proofs.Ytejknkhahjgdnaa
namespace Go.Proofs.Ytejknkhahjgdnaa
open Go Go.RowKit

def i64 (d : Nat) : Value := .int .i64 (d : Int)
/-- a row of integers: empty, whatever its address; or laid at an address. -/
def IRow (w : World) (v : Value) (xs : List Nat) : Prop :=
  (xs = [] ∧ ∃ a c, v = .slice a 0 c) ∨ ∃ b o c, v = .slice (some ⟨b, o, none⟩) xs.length c ∧ xs ≠ [] ∧ xs.length ≤ c ∧ w.rangeAt b o (xs.map i64)
theorem IRow.ext {w w' : World} {v : Value} {xs : List Nat} (h : IRow w v xs) (e : Ext w w') : IRow w' v xs := by
  rcases h with h | ⟨b, o, c, h0, h1, h2, h3⟩
  · exact .inl h
  · exact .inr ⟨b, o, c, h0, h1, h2, rangeAt_ext' h3 e⟩
theorem IRow.slice {w : World} {v : Value} {xs : List Nat} (h : IRow w v xs) : ∃ a c, v = .slice a xs.length c := by
  rcases h with ⟨rfl, a, c, rfl⟩ | ⟨b, o, c, h0, _⟩
  · exact ⟨a, c, rfl⟩
  · exact ⟨_, c, h0⟩
/-- an element of a row. -/
theorem irow_cell {w : World} {b o : Nat} {xs : List Nat} (h : w.rangeAt b o (xs.map i64)) (k : Nat) (hk : k < xs.length) : w.cell? ⟨b, o + k, none⟩ = some (.int .i64 (xs.getD k 0 : Nat)) := by
  refine h k _ ?_
  rw [List.getElem?_map, List.getD_eq_getElem?_getD, List.getElem?_eq_getElem hk]
  rfl
/-- the first ones of a row. -/
theorem IRow.take {w : World} {a : Option Addr} {n c : Nat} {xs : List Nat} (h : IRow w (.slice a n c) xs) (k : Nat) (hk : k ≤ xs.length) : IRow w (.slice a k c) (xs.take k) := by
  rcases h with ⟨rfl, a', c', e⟩ | ⟨b, o, c', e, h1, h2, h3⟩
  · cases e
    obtain rfl : k = 0 := by simpa using hk
    exact .inl ⟨rfl, _, _, rfl⟩
  · cases e
    by_cases h0 : k = 0
    · subst h0; exact .inl ⟨by simp, _, _, rfl⟩
    · refine .inr ⟨b, o, c, by rw [List.length_take, Nat.min_eq_left hk], ?_, by rw [List.length_take]; omega, ?_⟩
      · intro e
        have := congrArg List.length e
        rw [List.length_take, List.length_nil] at this
        have h1' := List.length_pos_iff.2 h1
        omega
      · intro q u hq
        rw [List.map_take, List.getElem?_take] at hq
        split at hq
        · exact h3 q u hq
        · cases hq
set_option maxHeartbeats 1000000 in
theorem btrim_any (w : World) (a : Option Addr) (c : Nat) (xs : List Nat) (h : IRow w (.slice a xs.length c) xs) (hl : xs.length ≤ 20000) : Calls Try.prog 97 #[.slice a xs.length c] w (Trims a xs c w) := by
  have HL := Lib.hid hl
  have H := Lib.hid h
  clear h
  go_enter Try.func97, Try.ntmps97
  go_wp2_with fail
  clear hl
  go_loopw [3] (fun v W => W = w ∧ ∃ k : Nat, v = .int .i64 (k : Nat) ∧ Hid (k ≤ xs.length ∧ ∀ j, k ≤ j → xs.getD j 0 = 0)) (fun v _ => (intOf v).toNat)
  case atStart => exact ⟨rfl, xs.length, rfl, Lib.hid ⟨Nat.le_refl _, fun j hj => getD_past xs j hj⟩⟩
  case round =>
    obtain ⟨rfl, k, rfl, HK⟩ := hrel
    by_cases h0 : k = 0
    · subst h0
      go_wp2
      go_ret
      exact ⟨0, rfl, HK.out.1, HK.out.2, .inl rfl, Ext.refl _⟩
    · obtain ⟨m, rfl⟩ : ∃ m, k = m + 1 := ⟨k - 1, by omega⟩
      clear h0
      have hm : m < xs.length := HK.out.1
      have hm2 : m < 20000 := Nat.lt_of_lt_of_le hm HL.out
      rcases H.out with ⟨h, _⟩ | ⟨b, o, c', hv, _, h2, h3⟩
      · exact absurd h (by intro e; rw [e] at hm; exact absurd hm (Nat.not_lt_zero _))
      · obtain ⟨rfl, rfl⟩ : a = some ⟨b, o, none⟩ ∧ c = c' := by cases hv; exact ⟨rfl, rfl⟩
        have hc := irow_cell h3 m hm
        have hcap : m + 1 ≤ c := by omega
        clear hv h2 h3
        by_cases hz : xs.getD m 0 = 0
        · rw [hz] at hc
          have HZ := Lib.hid hz
          clear hz
          go_wp2
          go_roundw
          case rel =>
            exact ⟨trivial, m, by first | rfl | (congr 1; omega), Lib.hid ⟨Nat.le_of_lt hm, fun j hj => by
              rcases Nat.eq_or_lt_of_le hj with e | e
              · rw [← e]; exact HZ.out
              · exact HK.out.2 j e⟩⟩
          case measure => simp [intOf]
        · have HZ := Lib.hid hz
          obtain ⟨d, hd⟩ : ∃ d, xs.getD m 0 = d := ⟨_, rfl⟩
          rw [hd] at hc hz
          have hz' : ¬ (d : Int) = 0 := by omega
          have hz2 : ((d : Int) == 0) = false := by simpa using hz
          clear hz hd
          go_wp2
          go_ret
          exact ⟨m + 1, rfl, HK.out.1, HK.out.2, .inr HZ.out, Ext.refl _⟩
set_option maxHeartbeats 1000000 in
theorem at07_any (w : World) (p : Value) (xs : List Nat) (i : Nat) (h : IRow w p xs) (hl : xs.length ≤ 20000) : Calls Try.prog 79 #[p, .int .i64 (i : Nat)] w fun e w' => e = .returned (.int .i64 ((xs.getD i 0 : Nat) : Int)) ∧ w = w' := by
  obtain ⟨a, c, rfl⟩ := h.slice
  by_cases hk : i < xs.length
  · rcases h with ⟨rfl, _⟩ | ⟨b, o, c', hv, _, h2, h3⟩
    · exact absurd hk (Nat.not_lt_zero _)
    · obtain ⟨rfl, rfl⟩ : a = some ⟨b, o, none⟩ ∧ c = c' := by cases hv; exact ⟨rfl, rfl⟩
      have hc := irow_cell h3 i hk
      generalize xs.getD i 0 = x at *
      clear hv h3
      go_enter Try.func79, Try.ntmps79
      go_wp2
      go_ret
      exact ⟨rfl, rfl⟩
  · rw [getD_past xs i (Nat.le_of_not_lt hk)]
    clear h
    go_enter Try.func79, Try.ntmps79
    go_wp2
    go_ret
    exact ⟨rfl, rfl⟩
/-- one more cell behind a row of one's own. -/
theorem wpList_append_one {T E : TypeId} {zv : Value} {by' : Nat} (hT : Try.prog.underlying T = some (.slice E)) (hI : (Try.prog.info? E).map (fun i => (i.zero, i.size, i.bytes)) = some (some zv, 1, by')) (hzc : zv.cells.size = 1) (hby' : by' ≤ 8)
    {ops : Array Oper} {rest : List Oper} {o : Oper} {a : Act} {Q : Exit → Act → World → Prop} (hgd : o.guard = none) (s x : Operand) (ho : o.op = .call { callee := .builtin .append, args := #[s, x], argTypes := #[T, T] })
    {B : Nat} {w : World} {v u : Value} {n : Nat} {cs : List Value} {b : Nat} (hs : a.eval s = v) (hx : a.eval x = .slice (some ⟨b, 0, none⟩) 1 1) (hv : w.ownsRow B E 1 v n cs) (hb : w.cell? ⟨b, 0, none⟩ = some u) (hu : u.oneCell' = true) (hlen : n ≤ 20000) (hB : B ≤ w.heap.size)
    (h : ∀ v' w', w'.ownsRow B E 1 v' (n + 1) (cs ++ [u]) → w.grownBy w' v.ownBlock → (v'.ownBlock = v.ownBlock ∨ v'.ownBlock = some w.heap.size) → wpList Try.prog ops Q rest (a.put o.dst v') w') : wpList Try.prog ops Q (o :: rest) a w := by
  refine wpList_plain hgd fun K hK => ?_
  cases hi : Try.prog.info? E with
  | none => rw [hi] at hI; cases hI
  | some i =>
    rw [hi] at hI
    simp only [Option.map_some, Option.some.injEq, Prod.mk.injEq] at hI
    have hml : (20001 : Nat) ≤ maxLen := by decide
    have hmul : (n + 1) * by' ≤ 20001 * 8 := Nat.mul_le_mul (by omega) hby'
    obtain ⟨v', w', hr, h2, h3, _, h4⟩ := run_append_own_at (P := Try.prog) w B T o.type E i zv 1 by' hT hi hI.1 hI.2.1 hI.2.2 hzc (by omega) v n cs hv ⟨b, 0, none⟩ 1 1 [u] rfl
      (fun j u' hj => by
        rcases j with _ | j
        · simp at hj; subst hj; rw [Addr.add_mid]; exact hb
        · simp at hj) (fun u' hu' => by simp at hu'; subst hu'; exact hu) (by omega) (by omega) hB
    unfold Oper.wp execOp
    simp only [ho, resolve, invoke, builtin, Sem.run_bind, Sem.run_pure, Result.andThen_ok, List.map_toArray, List.map_cons, List.map_nil, hs, hx, hr]
    exact hK _ _ (h v' w' h2 h3 h4)
/-- a row of integers that was made since the heap had B blocks. -/
def IOwn (B : Nat) (w : World) (v : Value) (zs : List Nat) : Prop := w.ownsRow B 3 1 v zs.length (zs.map i64)
theorem IOwn.nil (B : Nat) (w : World) : IOwn B w (.slice none 0 0) [] := ⟨rfl, .inl ⟨rfl, rfl⟩⟩
theorem IOwn.slice {B : Nat} {w : World} {v : Value} {zs : List Nat} (h : IOwn B w v zs) : ∃ a c, v = .slice a zs.length c := by
  obtain ⟨h1, ⟨rfl, h0⟩ | ⟨g, cap, cur, rfl, _⟩⟩ := h
  · exact ⟨none, 0, by rw [h0]⟩
  · exact ⟨_, _, rfl⟩
theorem IOwn.ext {B : Nat} {w w' : World} {v : Value} {zs : List Nat} (h : IOwn B w v zs) (e : Ext w w') : IOwn B w' v zs := by
  obtain ⟨h1, h | ⟨g, cap, cur, hv, hb, hg, hc⟩⟩ := h
  · exact ⟨h1, .inl h⟩
  · exact ⟨h1, .inr ⟨g, cap, cur, hv, hb, (e.block g (lt_of hg)).trans hg, hc⟩⟩
theorem IOwn.row {B : Nat} {w : World} {v : Value} {zs : List Nat} (h : IOwn B w v zs) : IRow w v zs := by
  obtain ⟨h1, ⟨rfl, h0⟩ | ⟨g, cap, cur, rfl, hb, hg, hc, hm, hs, ht⟩⟩ := h
  · exact .inl ⟨List.eq_nil_of_length_eq_zero h0, _, 0, rfl⟩
  · by_cases h0 : zs = []
    · subst h0; exact .inl ⟨rfl, _, _, rfl⟩
    · refine .inr ⟨g, 0, cap, rfl, h0, hc, fun j u hj => ?_⟩
      rw [Nat.zero_add, cell_of hg j]
      rw [← ht, List.getElem?_take] at hj
      split at hj
      · simpa using hj
      · cases hj
theorem IOwn.grown {w W W' : World} {v : Value} {zs : List Nat} (hE : Ext w W) (h : IOwn w.heap.size W v zs) (hg : W.grownBy W' v.ownBlock) : Ext w W' :=
  RowKit.Below.grown hE hg hE.size (fun k hk => ((World.ownsRow.lt h) k hk).1)
theorem wpList_append_int {ops : Array Oper} {rest : List Oper} {o : Oper} {a : Act} {Q : Exit → Act → World → Prop} (hgd : o.guard = none) (s x : Operand) (ho : o.op = .call { callee := .builtin .append, args := #[s, x], argTypes := #[103, 103] })
    {B : Nat} {w : World} {v : Value} {zs : List Nat} {d b : Nat} (hs : a.eval s = v) (hx : a.eval x = .slice (some ⟨b, 0, none⟩) 1 1) (hv : IOwn B w v zs) (hb : w.cell? ⟨b, 0, none⟩ = some (.int .i64 (d : Nat))) (hlen : zs.length ≤ 20000) (hB : B ≤ w.heap.size)
    (h : ∀ v' w', IOwn B w' v' (zs ++ [d]) → w.grownBy w' v.ownBlock → (v'.ownBlock = v.ownBlock ∨ v'.ownBlock = some w.heap.size) → wpList Try.prog ops Q rest (a.put o.dst v') w') : wpList Try.prog ops Q (o :: rest) a w :=
  wpList_append_one (zv := .int .i64 0) (by' := 8) Try.underlying103 (by kernel_rfl) rfl (by decide) hgd s x ho hs hx hv hb rfl hlen hB fun v' w' h1 h2 h3 => h v' w' (by
    show w'.ownsRow _ _ _ _ _ _
    rw [List.length_append, List.map_append]
    exact h1) h2 h3
/-- a row of words that was made since the heap had B blocks. -/
def UOwn (B : Nat) (w : World) (v : Value) (zs : List Nat) : Prop := w.ownsRow B 34 1 v zs.length (zs.map u32)
theorem UOwn.nil (B : Nat) (w : World) : UOwn B w (.slice none 0 0) [] := ⟨rfl, .inl ⟨rfl, rfl⟩⟩
theorem UOwn.slice {B : Nat} {w : World} {v : Value} {zs : List Nat} (h : UOwn B w v zs) : ∃ a c, v = .slice a zs.length c := by
  obtain ⟨h1, ⟨rfl, h0⟩ | ⟨g, cap, cur, rfl, _⟩⟩ := h
  · exact ⟨none, 0, by rw [h0]⟩
  · exact ⟨_, _, rfl⟩
theorem UOwn.ext {B : Nat} {w w' : World} {v : Value} {zs : List Nat} (h : UOwn B w v zs) (e : Ext w w') : UOwn B w' v zs := by
  obtain ⟨h1, h | ⟨g, cap, cur, hv, hb, hg, hc⟩⟩ := h
  · exact ⟨h1, .inl h⟩
  · exact ⟨h1, .inr ⟨g, cap, cur, hv, hb, (e.block g (lt_of hg)).trans hg, hc⟩⟩
theorem UOwn.row {B : Nat} {w : World} {v : Value} {zs : List Nat} (h : UOwn B w v zs) : URow w v zs := by
  obtain ⟨h1, ⟨rfl, h0⟩ | ⟨g, cap, cur, rfl, hb, hg, hc, hm, hs, ht⟩⟩ := h
  · exact .inl ⟨List.eq_nil_of_length_eq_zero h0, _, 0, rfl⟩
  · by_cases h0 : zs = []
    · subst h0; exact .inl ⟨rfl, _, _, rfl⟩
    · refine .inr ⟨g, 0, cap, rfl, h0, hc, fun j u hj => ?_⟩
      rw [Nat.zero_add, cell_of hg j]
      rw [← ht, List.getElem?_take] at hj
      split at hj
      · simpa using hj
      · cases hj
theorem UOwn.grown {w W W' : World} {v : Value} {zs : List Nat} (hE : Ext w W) (h : UOwn w.heap.size W v zs) (hg : W.grownBy W' v.ownBlock) : Ext w W' :=
  RowKit.Below.grown hE hg hE.size (fun k hk => ((World.ownsRow.lt h) k hk).1)
theorem wpList_append_word {ops : Array Oper} {rest : List Oper} {o : Oper} {a : Act} {Q : Exit → Act → World → Prop} (hgd : o.guard = none) (s x : Operand) (ho : o.op = .call { callee := .builtin .append, args := #[s, x], argTypes := #[23, 23] })
    {B : Nat} {w : World} {v : Value} {zs : List Nat} {d b : Nat} (hs : a.eval s = v) (hx : a.eval x = .slice (some ⟨b, 0, none⟩) 1 1) (hv : UOwn B w v zs) (hb : w.cell? ⟨b, 0, none⟩ = some (.int .u32 (d : Nat))) (hlen : zs.length ≤ 20000) (hB : B ≤ w.heap.size)
    (h : ∀ v' w', UOwn B w' v' (zs ++ [d]) → w.grownBy w' v.ownBlock → (v'.ownBlock = v.ownBlock ∨ v'.ownBlock = some w.heap.size) → wpList Try.prog ops Q rest (a.put o.dst v') w') : wpList Try.prog ops Q (o :: rest) a w :=
  wpList_append_one (zv := .int .u32 0) (by' := 4) Try.underlying23 (by kernel_rfl) rfl (by decide) hgd s x ho hs hx hv hb rfl hlen hB fun v' w' h1 h2 h3 => h v' w' (by
    show w'.ownsRow _ _ _ _ _ _
    rw [List.length_append, List.map_append]
    exact h1) h2 h3
theorem byts_snoc {zs : List Nat} {d : Nat} (h : Byts zs) (hd : d < bby) : Byts (zs ++ [d]) := fun y hy => by
  rcases List.mem_append.1 hy with h1 | h1
  · exact h y h1
  · rw [List.mem_singleton.1 h1]; exact hd
theorem bval_snoc (zs : List Nat) (d : Nat) : bval (zs ++ [d]) = bval zs + bby ^ zs.length * d := by
  rw [bval_append]; simp [bval]
/-- one byte of a word. -/
theorem bytes_step {zs : List Nat} {y V : Nat} (h : bval zs + bby ^ zs.length * y = V) : bval (zs ++ [y % bby]) + bby ^ (zs ++ [y % bby]).length * (y / bby) = V := by
  rw [bval_snoc, List.length_append, List.length_singleton, Nat.pow_succ, Nat.mul_assoc, Nat.add_assoc, ← Nat.mul_add, Nat.mod_add_div]
  exact h
theorem beta_bby (k : Nat) : beta ^ k = bby ^ (4 * k) := by rw [Nat.pow_mul]; rfl
/-- the state of bytes' outer loop. -/
def BytSt (w : World) (xs : List Nat) (v i : Value) (W : World) : Prop :=
  ∃ (zs : List Nat) (ii : Nat), i = .int .i64 (ii : Nat) ∧ IOwn w.heap.size W v zs ∧ Ext w W ∧ Hid (ii ≤ xs.length ∧ zs.length = 4 * ii ∧ Byts zs ∧ bval zs = nval (xs.take ii))
/-- the state of its inner loop. -/
def BytIn (w : World) (ii V : Nat) (v y k : Value) (W : World) : Prop :=
  ∃ (zs : List Nat) (kk yy : Nat), y = .int .u32 (yy : Nat) ∧ k = .int .i64 (kk : Nat) ∧ IOwn w.heap.size W v zs ∧ Ext w W ∧
    Hid (kk ≤ 4 ∧ zs.length = 4 * ii + kk ∧ Byts zs ∧ bval zs + bby ^ zs.length * yy = V ∧ yy < bby ^ (4 - kk))
/-- a row of bytes is handed back, whose number it is. -/
def BNum (n : Nat) (w : World) (e : Ending) (w' : World) : Prop := ∃ v bs, e = .returned v ∧ IRow w' v bs ∧ BNorm bs ∧ bval bs = n ∧ Ext w w'
theorem btrim_num (w : World) (v : Value) (xs : List Nat) (h : IRow w v xs) (hw : Byts xs) (hl : xs.length ≤ 20000) : Calls Try.prog 97 #[v] w (BNum (bval xs) w) := by
  obtain ⟨a, c, rfl⟩ := h.slice
  refine (btrim_any w a c xs h hl).mono ?_
  rintro e w1 ⟨k, rfl, h1, h2, h3, h4⟩
  obtain ⟨h5, h6⟩ := b_trim_norm hw h1 h2 h3
  exact ⟨_, xs.take k, rfl, (h.take k h1).ext h4, h5, h6, h4⟩
set_option maxRecDepth 100000 in
set_option maxHeartbeats 4000000 in
theorem bytes_any (w : World) (p : Value) (xs : List Nat) (h : URow w p xs) (hw : Words xs) (hl : xs.length ≤ 2000) : Calls Try.prog 78 #[p] w (BNum (nval xs) w) := by
  obtain ⟨a, c, rfl⟩ := h.slice
  have HP := Lib.hid h
  have HW := Lib.hid (And.intro hw hl)
  clear h hw hl
  go_enter Try.func78, Try.ntmps78
  go_wp2_with fail
  go_loopw [3, 4] (fun v i W => BytSt w xs v i W) (fun _ i _ => xs.length - (intOf i).toNat)
  case atStart => exact ⟨[], 0, rfl, IOwn.nil _ _, Ext.refl _, Lib.hid ⟨Nat.zero_le _, rfl, (fun d hd => by cases hd), by simp [bval, nval]⟩⟩
  case round =>
    obtain ⟨zs, ii, rfl, hO, hE, HH⟩ := hrel
    by_cases hi : ii < xs.length
    · have HI := Lib.hid hi
      rcases HP.out with ⟨h, _⟩ | ⟨a', o, c', hv, _, h2, h3⟩
      · rw [h] at hi; exact absurd hi (Nat.not_lt_zero _)
      · obtain ⟨rfl, rfl⟩ : a = some ⟨a', o, none⟩ ∧ c = c' := by cases hv; exact ⟨rfl, rfl⟩
        have cx := urow_cell (rangeAt_ext' h3 hE) ii hi
        have bx := words_getD HW.out.1 ii
        obtain ⟨x, hx⟩ : ∃ x, xs.getD ii 0 = x := ⟨_, rfl⟩
        have HXX := Lib.hid hx
        rw [hx] at cx bx
        have HBX := Lib.hid bx
        have HO := Lib.hid hO
        have HE := Lib.hid hE
        have hii : ii < 2000 := Nat.lt_of_lt_of_le HI.out HW.out.2
        clear hv h2 h3 hx bx hO hE
        go_wp2_with fail
        clear cx
        go_loopw [3, 5, 6] (fun v y k W => BytIn w ii (nval (xs.take ii) + beta ^ ii * x) v y k W) (fun _ _ k _ => 4 - (intOf k).toNat)
        case atStart => exact ⟨zs, 0, x, rfl, rfl, HO.out, HE.out, Lib.hid ⟨Nat.zero_le _, HH.out.2.1, HH.out.2.2.1, by rw [HH.out.2.2.2, HH.out.2.1, ← beta_bby], HBX.out⟩⟩
        case round =>
          obtain ⟨es, kk, y, rfl, rfl, hO2, hE2, HJ⟩ := hrel
          by_cases hk : kk < 4
          · have hy : y < 4294967296 := Nat.lt_of_lt_of_le HJ.out.2.2.2.2 (Nat.le_trans (Nat.pow_le_pow_right bby_pos (show 4 - kk ≤ 4 by omega)) (by decide))
            obtain ⟨va, vc, hv⟩ := hO2.slice
            subst hv
            have hA := (Ext.refl wr).alloc (.cells #[.int .i64 ((y : Int) % 256)] 3)
            have HO3 := Lib.hid (hO2.ext hA)
            have HE3 := Lib.hid (hE2.trans hA)
            have HC := Lib.hid (show (wr.alloc (.cells #[.int .i64 ((y : Int) % 256)] 3)).cell? ⟨wr.heap.size, 0, none⟩ = some (.int .i64 ((y % bby : Nat) : Int)) by
              rw [show ((y % bby : Nat) : Int) = (y : Int) % 256 by show ((y % 256 : Nat) : Int) = _; omega]
              exact cell_of (alloc_at wr (.cells #[.int .i64 ((y : Int) % 256)] 3) _ rfl) 0)
            have HLEN := Lib.hid (show es.length ≤ 20000 by have := HJ.out.2.1; have := HJ.out.1; omega)
            clear hO2 hE2 hA
            go_wp2_with (at_builtin; refine wpList_append_int (B := w.heap.size) (zs := es) (d := y % bby) (b := wr.heap.size) rfl (.tmp 21) (.tmp 25) rfl rfl rfl HO3.out HC.out HLEN.out HE3.out.size ?_)
            intro v4 w4 ho4 hg4 _
            have HE4 := Lib.hid (HO3.out.grown HE3.out hg4)
            have HO4 := Lib.hid ho4
            have HK := Lib.hid hk
            clear ho4 hg4 hk
            have e1 : (y : Int) / 256 = ((y / bby : Nat) : Int) := by show _ = ((y / 256 : Nat) : Int); omega
            have HEE := Lib.hid e1
            clear e1
            go_wp2
            go_roundw
            case rel =>
              refine ⟨es ++ [y % bby], kk + 1, y / bby, by first | rfl | (rw [HEE.out]), by go_num, HO4.out, HE4.out, Lib.hid ⟨HK.out, ?_, byts_snoc HJ.out.2.2.1 (Nat.mod_lt _ bby_pos), bytes_step HJ.out.2.2.2.1, ?_⟩⟩
              · rw [List.length_append, HJ.out.2.1]; rfl
              · have := HJ.out.2.2.2.2
                have hk := HK.out
                rw [show 4 - kk = (4 - (kk + 1)) + 1 by omega, Nat.pow_succ] at this
                exact Nat.div_lt_of_lt_mul (by rw [Nat.mul_comm]; exact this)
            case measure => exact meas_s HK.out
          · have hke : kk = 4 := Nat.le_antisymm HJ.out.1 (Nat.le_of_not_lt hk)
            subst hke
            have hy0 : y = 0 := by have := HJ.out.2.2.2.2; simpa using this
            have HEND := Lib.hid (show bval es = nval (xs.take (ii + 1)) by
              have := HJ.out.2.2.2.1
              rw [hy0, Nat.mul_zero, Nat.add_zero] at this
              rw [this, nval_take xs ii HI.out, HXX.out])
            have HO2 := Lib.hid hO2
            have HE2 := Lib.hid hE2
            clear hO2 hE2 hk hy0
            go_wp2
            go_roundw
            case rel => exact ⟨es, ii + 1, by go_num, HO2.out, HE2.out, Lib.hid ⟨HI.out, by rw [HJ.out.2.1]; omega, HJ.out.2.2.1, HEND.out⟩⟩
            case measure => exact meas_s HI.out
    · have hke : ii = xs.length := Nat.le_antisymm HH.out.1 (Nat.le_of_not_lt hi)
      have HT := Lib.hid (btrim_num wr _ zs hO.row HH.out.2.2.1 (by rw [HH.out.2.1, hke]; have := HW.out.2; omega))
      rw [HH.out.2.2.2, hke, List.take_length] at HT
      obtain ⟨va, vc, hv⟩ := hO.slice
      subst hv
      have HE := Lib.hid hE
      clear hO hE
      go_wp2_with fail
      refine HT.out.mono ?_
      rintro e w3 ⟨v, bs, rfl, h1, h2, h3, h4⟩
      have HB := Lib.hid (And.intro h1 (And.intro h2 h3))
      clear h1 h2 h3
      go_wp2
      go_ret
      exact ⟨_, bs, rfl, HB.out.1, HB.out.2.1, HB.out.2.2, HE.out.trans h4⟩
end Go.Proofs.Ytejknkhahjgdnaa
namespace Go.Proofs.Ytejknkhahjgdnaa
open Go Go.RowKit

theorem norm_of_low {zs : List Nat} (h : Words zs) (h1 : zs = [] ∨ beta ^ (zs.length - 1) ≤ nval zs) : Norm zs := by
  refine ⟨h, ?_⟩
  rcases h1 with h1 | h1
  · exact .inl h1
  · by_cases h0 : zs = []
    · exact .inl h0
    · right
      intro e
      have hl := List.length_pos_iff.2 h0
      have e2 := nval_take zs (zs.length - 1) (by omega)
      rw [e, Nat.mul_zero, Nat.add_zero, show zs.length - 1 + 1 = zs.length by omega, List.take_length] at e2
      have e3 := nval_lt (words_take h (zs.length - 1))
      rw [List.length_take, Nat.min_eq_left (by omega)] at e3
      omega
theorem words4 {bs : List Nat} (k : Nat) : bval (bs.take (4 * (k + 1))) = bval (bs.take (4 * k)) + beta ^ k * (bs.getD (4 * k) 0 + bs.getD (4 * k + 1) 0 * 256 + bs.getD (4 * k + 2) 0 * 65536 + bs.getD (4 * k + 3) 0 * 16777216) := by
  rw [show 4 * (k + 1) = 4 * k + 1 + 1 + 1 + 1 by omega, bval_take', bval_take', bval_take', bval_take', beta_bby]
  have h0 := Nat.pow_succ (n := bby) (m := 4 * k)
  have h1 := Nat.pow_succ (n := bby) (m := 4 * k + 1)
  have h2 := Nat.pow_succ (n := bby) (m := 4 * k + 1 + 1)
  simp only [show 4 * k + 1 + 1 = 4 * k + 2 by omega] at *
  rw [h2, h1, h0]
  generalize bs.getD (4 * k) 0 = d0
  generalize bs.getD (4 * k + 1) 0 = d1
  generalize bs.getD (4 * k + 2) 0 = d2
  generalize bs.getD (4 * k + 3) 0 = d3
  generalize bby ^ (4 * k) = P
  have e1 : P * bby * d1 = P * (d1 * 256) := by rw [Nat.mul_assoc, Nat.mul_comm bby]; rfl
  have e2 : P * bby * bby * d2 = P * (d2 * 65536) := by rw [Nat.mul_assoc, Nat.mul_assoc, ← Nat.mul_assoc bby, Nat.mul_comm _ d2]; rfl
  have e3 : P * bby * bby * bby * d3 = P * (d3 * 16777216) := by rw [Nat.mul_assoc, Nat.mul_assoc, Nat.mul_assoc, ← Nat.mul_assoc bby, ← Nat.mul_assoc (bby * bby), Nat.mul_comm _ d3]; rfl
  rw [e1, e2, e3, Nat.mul_add, Nat.mul_add, Nat.mul_add]
  omega
theorem words_snoc {zs : List Nat} {d : Nat} (h : Words zs) (hd : d < beta) : Words (zs ++ [d]) := fun y hy => by
  rcases List.mem_append.1 hy with h1 | h1
  · exact h y h1
  · rw [List.mem_singleton.1 h1]; exact hd
theorem nval_snoc (zs : List Nat) (d : Nat) : nval (zs ++ [d]) = nval zs + beta ^ zs.length * d := by
  rw [nval_append]; simp [nval]
theorem words_end {zs bs : List Nat} {ii : Nat} (hw : Words zs) (hb : BNorm bs) (h1 : zs.length = ii) (h2 : 4 * ii < bs.length + 4) (h3 : bs.length ≤ 4 * ii) (h4 : nval zs = bval (bs.take (4 * ii))) : Norm zs ∧ nval zs = bval bs := by
  rw [List.take_of_length_le h3] at h4
  refine ⟨norm_of_low hw ?_, h4⟩
  by_cases h0 : zs = []
  · exact .inl h0
  · right
    have hl := List.length_pos_iff.2 h0
    have a1 := b_norm_low hb (by intro e; rw [e] at h2; simp at h2; omega)
    rw [h4, beta_bby]
    exact Nat.le_trans (Nat.pow_le_pow_right bby_pos (by omega)) a1
/-- the state of words' loop. -/
def WrdSt (w : World) (bs : List Nat) (v i : Value) (W : World) : Prop :=
  ∃ (zs : List Nat) (ii : Nat), i = .int .i64 ((4 * ii : Nat) : Int) ∧ UOwn w.heap.size W v zs ∧ Ext w W ∧ Hid (4 * ii < bs.length + 4 ∧ zs.length = ii ∧ Words zs ∧ nval zs = bval (bs.take (4 * ii)))
set_option maxRecDepth 100000 in
set_option maxHeartbeats 4000000 in
theorem words_any (w : World) (p : Value) (xs : List Nat) (h : IRow w p xs) (hw : Byts xs) (hl : xs.length ≤ 5000) : Calls Try.prog 98 #[p] w (Num (bval xs) w) := by
  have HT := Lib.hid (btrim_num w p xs h hw (by omega))
  clear h
  have HL := Lib.hid hl
  clear hl
  go_enter Try.func98, Try.ntmps98
  go_wp2_with fail
  refine HT.out.mono ?_
  rintro e w1 ⟨v, bs, rfl, h1, h2, h3, h4⟩
  obtain ⟨a, c, rfl⟩ := h1.slice
  have HB := Lib.hid (And.intro h1 (And.intro h2 h3))
  have HE1 := Lib.hid h4
  have HLB := Lib.hid (show bs.length ≤ 5000 by
    rcases Nat.lt_or_ge 5000 bs.length with h | h
    · exfalso
      have a1 := b_norm_low h2 (by intro e; rw [e] at h; simp at h)
      have a2 := bval_lt hw
      have a3 : bby ^ xs.length ≤ bby ^ (bs.length - 1) := Nat.pow_le_pow_right bby_pos (by have := HL.out; omega)
      omega
    · exact h)
  clear h1 h2 h3 h4
  go_wp2_with fail
  go_loopw [3, 4] (fun v i W => WrdSt w1 bs v i W) (fun _ i _ => bs.length + 4 - (intOf i).toNat)
  case atStart => exact ⟨[], 0, rfl, UOwn.nil _ _, Ext.refl _, Lib.hid ⟨by omega, rfl, (fun d hd => by cases hd), by simp [bval, nval]⟩⟩
  case round =>
    obtain ⟨zs, ii, rfl, hO, hE, HH⟩ := hrel
    by_cases hi : 4 * ii < bs.length
    · have HI := Lib.hid hi
      have HO := Lib.hid hO
      have HE := Lib.hid hE
      have HA := Lib.hid (fun j => at07_any wr _ bs j (HB.out.1.ext hE) (Nat.le_trans HLB.out (by decide)))
      have hii : 4 * ii ≤ 5000 := by have := HLB.out; omega
      obtain ⟨va, vc, hv⟩ := hO.slice
      subst hv
      obtain ⟨d0, hd0⟩ : ∃ d, bs.getD (4 * ii) 0 = d := ⟨_, rfl⟩
      obtain ⟨d1, hd1⟩ : ∃ d, bs.getD (4 * ii + 1) 0 = d := ⟨_, rfl⟩
      obtain ⟨d2, hd2⟩ : ∃ d, bs.getD (4 * ii + 2) 0 = d := ⟨_, rfl⟩
      obtain ⟨d3, hd3⟩ : ∃ d, bs.getD (4 * ii + 3) 0 = d := ⟨_, rfl⟩
      have b0 : d0 < 256 := by rw [← hd0]; exact b_words_getD HB.out.2.1.1 _
      have b1 : d1 < 256 := by rw [← hd1]; exact b_words_getD HB.out.2.1.1 _
      have b2 : d2 < 256 := by rw [← hd2]; exact b_words_getD HB.out.2.1.1 _
      have b3 : d3 < 256 := by rw [← hd3]; exact b_words_getD HB.out.2.1.1 _
      have A0 := Lib.hid (HA.out (4 * ii))
      have A1 := Lib.hid (HA.out (4 * ii + 1))
      have A2 := Lib.hid (HA.out (4 * ii + 2))
      have A3 := Lib.hid (HA.out (4 * ii + 3))
      have HW4 := Lib.hid (words4 (bs := bs) ii)
      rw [hd0] at A0
      rw [hd1] at A1
      rw [hd2] at A2
      rw [hd3] at A3
      rw [hd0, hd1, hd2, hd3] at HW4
      clear hO hE hd0 hd1 hd2 hd3
      go_wp2_with fail
      refine A0.out.mono ?_
      rintro e w2 ⟨rfl, rfl⟩
      go_wp2_with fail
      refine A1.out.mono ?_
      rintro e w2 ⟨rfl, rfl⟩
      go_wp2_with fail
      refine A2.out.mono ?_
      rintro e w2 ⟨rfl, rfl⟩
      go_wp2_with fail
      refine A3.out.mono ?_
      rintro e w2 ⟨rfl, rfl⟩
      have hA := (Ext.refl wr).alloc (.cells #[.int .u32 ((d0 : Int) + (d1 : Int) * 256 + (d2 : Int) * 65536 + (d3 : Int) * 16777216)] 34)
      have HO3 := Lib.hid (HO.out.ext hA)
      have HE3 := Lib.hid (HE.out.trans hA)
      have HC := Lib.hid (show (wr.alloc (.cells #[.int .u32 ((d0 : Int) + (d1 : Int) * 256 + (d2 : Int) * 65536 + (d3 : Int) * 16777216)] 34)).cell? ⟨wr.heap.size, 0, none⟩ = some (.int .u32 ((d0 + d1 * 256 + d2 * 65536 + d3 * 16777216 : Nat) : Int)) from
        cell_of (alloc_at wr (.cells #[.int .u32 ((d0 : Int) + (d1 : Int) * 256 + (d2 : Int) * 65536 + (d3 : Int) * 16777216)] 34) _ rfl) 0)
      have HLEN := Lib.hid (show zs.length ≤ 20000 by have := HH.out.2.1; omega)
      have HD := Lib.hid (show d0 + d1 * 256 + d2 * 65536 + d3 * 16777216 < beta by show _ < 4294967296; omega)
      clear hA
      go_wp2_with (at_builtin; refine wpList_append_word (B := w1.heap.size) (zs := zs) (d := d0 + d1 * 256 + d2 * 65536 + d3 * 16777216) (b := wr.heap.size) rfl (.tmp 13) (.tmp 39) rfl rfl rfl HO3.out HC.out HLEN.out HE3.out.size ?_)
      intro v4 w4 ho4 hg4 _
      have HE4 := Lib.hid (HO3.out.grown HE3.out hg4)
      have HO4 := Lib.hid ho4
      clear ho4 hg4 hi b0 b1 b2 b3
      go_wp2
      go_roundw
      case rel =>
        refine ⟨zs ++ [d0 + d1 * 256 + d2 * 65536 + d3 * 16777216], ii + 1, by first | rfl | (congr 1; omega), HO4.out, HE4.out, Lib.hid ⟨by have := HI.out; omega, by rw [List.length_append, HH.out.2.1]; rfl, words_snoc HH.out.2.2.1 HD.out, ?_⟩⟩
        rw [nval_snoc, HW4.out, HH.out.2.2.2, HH.out.2.1]
      case measure => simp [intOf]; have := HI.out; omega
    · obtain ⟨hN, hV⟩ := words_end HH.out.2.2.1 HB.out.2.1 HH.out.2.1 HH.out.1 (Nat.le_of_not_lt hi) HH.out.2.2.2
      have HN := Lib.hid (And.intro hN (hV.trans HB.out.2.2))
      have HO := Lib.hid hO
      have HE := Lib.hid (HE1.out.trans hE)
      obtain ⟨va, vc, hv⟩ := hO.slice
      subst hv
      have hi' : ¬ 4 * (ii : Int) < bs.length := by omega
      clear hO hE hi hN hV
      go_wp2
      go_ret
      exact ⟨_, rfl, ⟨zs, HO.out.row, HN.out.1, HN.out.2⟩, HE.out⟩
/-- a row of bytes lies in memory, whose number it is. -/
def BIs (w : World) (v : Value) (n : Nat) : Prop := ∃ bs, IRow w v bs ∧ BNorm bs ∧ bval bs = n
theorem BIs.ext {w w' : World} {v : Value} {n : Nat} (h : BIs w v n) (e : Ext w w') : BIs w' v n := by
  obtain ⟨bs, h1, h2⟩ := h; exact ⟨bs, h1.ext e, h2⟩
/-- how long the greatest rows of bytes are. -/
def bK : Nat := 5000
theorem bis_len {bs : List Nat} {n K : Nat} (h : BNorm bs) (hv : bval bs = n) (hn : n < bby ^ K) : bs.length ≤ K := (b_norm_len h K).2 (by rw [hv]; exact hn)
theorem beta_bby_lt {n K : Nat} (h : n < bby ^ (4 * K)) : n < beta ^ K := by rw [beta_bby]; exact h
theorem bis_lenK {bs : List Nat} {n : Nat} (h : BNorm bs) (hv : bval bs = n) (hn : n < bby ^ bK) : bs.length ≤ 5000 := bis_len (K := bK) h hv hn
set_option maxHeartbeats 1000000 in
theorem fits07_any (w : World) (v : Value) (n : Nat) (h : BIs w v n) (hn : n < bby ^ bK) : Calls Try.prog 82 #[v] w (Fits n w) := by
  obtain ⟨bs, h1, h2, h3⟩ := h
  have HT := Lib.hid (words_any w v bs h1 h2.1 (bis_lenK h2 h3 hn))
  rw [h3] at HT
  clear h1 h2 h3 hn
  go_enter Try.func82, Try.ntmps82
  go_wp2_with fail
  refine HT.out.mono ?_
  rintro e w1 ⟨v, rfl, ⟨ys, h1, h2, h3⟩, h4⟩
  obtain ⟨b, d, rfl⟩ := h1.slice
  have HL := Lib.hid (norm_len h2 128)
  have H1 := Lib.hid h1
  have H2 := Lib.hid h2
  have H3 := Lib.hid h3
  clear h1 h2 h3
  by_cases hk : ys.length ≤ 128
  · have hk' : ¬ (128 : Int) < ys.length := by omega
    have HK := Lib.hid hk
    clear hk
    go_wp2
    go_ret2
    have h5 : n < beta ^ 128 := by rw [← H3.out]; exact HL.out.1 HK.out
    unfold Fits fitE fitN
    rw [if_pos h5, if_pos h5]
    exact ⟨_, rfl, ⟨ys, H1.out, H2.out, H3.out⟩, h4⟩
  · have hk' : (128 : Int) < ys.length := by omega
    have HK := Lib.hid hk
    clear hk
    go_wp2
    go_ret2
    have h5 : ¬ n < beta ^ 128 := by rw [← H3.out]; exact fun h => HK.out (HL.out.2 h)
    unfold Fits fitE fitN
    rw [if_neg h5, if_neg h5]
    exact ⟨_, rfl, num_nil _ _ _, h4⟩
end Go.Proofs.Ytejknkhahjgdnaa
namespace Go.Proofs.Ytejknkhahjgdnaa
open Go Go.RowKit

theorem badd_step {zs xs ys : List Nat} {k c : Nat} (hx : Byts xs) (hy : Byts ys) (hc : c ≤ 1) (hl : zs.length = k) (h : bval zs + bby ^ k * c = bval (xs.take k) + bval (ys.take k)) :
    let s := xs.getD k 0 + ys.getD k 0 + c
    s / bby ≤ 1 ∧ s < 512 ∧ bval (zs ++ [s % bby]) + bby ^ (k + 1) * (s / bby) = bval (xs.take (k + 1)) + bval (ys.take (k + 1)) := by
  intro s
  have h1 : xs.getD k 0 < 256 := b_words_getD hx k
  have h2 : ys.getD k 0 < 256 := b_words_getD hy k
  have hs : s < 512 := by show xs.getD k 0 + ys.getD k 0 + c < _; omega
  refine ⟨?_, hs, ?_⟩
  · show s / 256 ≤ 1; omega
  · rw [bval_snoc, hl, bval_take' xs k, bval_take' ys k, Nat.pow_succ, Nat.mul_assoc, Nat.add_assoc, ← Nat.mul_add, Nat.mod_add_div]
    show bval zs + bby ^ k * (xs.getD k 0 + ys.getD k 0 + c) = _
    rw [Nat.mul_add, Nat.mul_add]
    omega
theorem badd_over {zs xs ys : List Nat} {k c : Nat} (hx : Byts xs) (hy : Byts ys) (h : bval zs + bby ^ k * c = bval (xs.take k) + bval (ys.take k)) (hc : 0 < c) : k ≤ max xs.length ys.length := by
  rcases Nat.lt_or_ge (max xs.length ys.length) k with h0 | h0
  · exfalso
    rw [bval_take_past xs k (by omega), bval_take_past ys k (by omega)] at h
    have h1 := Nat.lt_of_lt_of_le (bval_lt hx) (Nat.pow_le_pow_right bby_pos (show xs.length ≤ k - 1 by omega))
    have h2 := Nat.lt_of_lt_of_le (bval_lt hy) (Nat.pow_le_pow_right bby_pos (show ys.length ≤ k - 1 by omega))
    have h3 : bby ^ k = bby ^ (k - 1) * bby := by rw [← Nat.pow_succ]; congr 1; omega
    have h4 : bby ^ (k - 1) * 2 ≤ bby ^ k := by rw [h3]; exact Nat.mul_le_mul_left _ (by decide)
    have := Nat.mul_le_mul_left (bby ^ k) hc
    omega
  · exact h0
/-- the state of the sum's loop. -/
def BAddSt (w : World) (xs ys : List Nat) (v c i : Value) (W : World) : Prop :=
  ∃ (zs : List Nat) (kk cc : Nat), c = .int .i64 (cc : Nat) ∧ i = .int .i64 (kk : Nat) ∧ IOwn w.heap.size W v zs ∧ Ext w W ∧
    Hid (kk ≤ max xs.length ys.length + 1 ∧ zs.length = kk ∧ cc ≤ 1 ∧ Byts zs ∧ bval zs + bby ^ kk * cc = bval (xs.take kk) + bval (ys.take kk))
theorem meas_i {k n : Nat} (h : k < n) : n - (intOf (.int .i64 ((k : Int) + 1))).toNat < n - (intOf (.int .i64 (k : Int))).toNat := by
  show n - (k + 1) < n - k
  omega
set_option maxRecDepth 100000 in
set_option maxHeartbeats 4000000 in
theorem add07_any (w : World) (p q : Value) (xs ys : List Nat) (hp : IRow w p xs) (hq : IRow w q ys) (hx : Byts xs) (hy : Byts ys) (lx : xs.length ≤ 5000) (ly : ys.length ≤ 5000) :
    Calls Try.prog 81 #[p, q] w (BNum (bval xs + bval ys) w) := by
  obtain ⟨a, c, rfl⟩ := hp.slice
  obtain ⟨b, d, rfl⟩ := hq.slice
  have HP := Lib.hid hp
  have HQ0 := Lib.hid hq
  have HX := Lib.hid (And.intro hx (And.intro hy (And.intro lx ly)))
  clear hp hq hx hy lx ly
  go_enter Try.func81, Try.ntmps81
  go_wp2_with fail
  go_loopw [5, 6, 7] (fun v c i W => BAddSt w xs ys v c i W) (fun _ _ i _ => max xs.length ys.length + 1 - (intOf i).toNat)
  case atStart => exact ⟨[], 0, 0, rfl, rfl, IOwn.nil _ _, Ext.refl _, Lib.hid ⟨Nat.zero_le _, rfl, Nat.zero_le _, (fun d hd => by cases hd), by simp [bval]⟩⟩
  case round =>
    obtain ⟨zs, kk, cc, rfl, rfl, hO, hE, HH⟩ := hrel
    obtain ⟨va, vc, hv⟩ := hO.slice
    subst hv
    have hcc := HH.out.2.2.1
    by_cases hgo : kk < xs.length ∨ kk < ys.length ∨ 0 < cc
    · have HK := Lib.hid (show kk ≤ max xs.length ys.length by
        rcases hgo with h | h | h
        · omega
        · omega
        · exact badd_over HX.out.1 HX.out.2.1 HH.out.2.2.2.2 h)
      have hkk : kk ≤ 5000 := by have := HK.out; have := HX.out.2.2; omega
      have HS := Lib.hid (badd_step HX.out.1 HX.out.2.1 hcc HH.out.2.1 HH.out.2.2.2.2)
      have A0 := Lib.hid (at07_any wr _ xs kk (HP.out.ext hE) (Nat.le_trans HX.out.2.2.1 (by decide)))
      have A1 := Lib.hid (at07_any wr _ ys kk (HQ0.out.ext hE) (Nat.le_trans HX.out.2.2.2 (by decide)))
      have bx : xs.getD kk 0 < 256 := b_words_getD HX.out.1 kk
      have by' : ys.getD kk 0 < 256 := b_words_getD HX.out.2.1 kk
      obtain ⟨x, hx⟩ : ∃ x, xs.getD kk 0 = x := ⟨_, rfl⟩
      obtain ⟨y, hy⟩ : ∃ y, ys.getD kk 0 = y := ⟨_, rfl⟩
      rw [hx] at bx A0 HS
      rw [hy] at by' A1 HS
      have hA := (Ext.refl wr).alloc (.cells #[.int .i64 (((x : Int) + (y : Int) + (cc : Int)) % 256)] 3)
      have HO3 := Lib.hid (hO.ext hA)
      have HE3 := Lib.hid (hE.trans hA)
      have HC := Lib.hid (show (wr.alloc (.cells #[.int .i64 (((x : Int) + (y : Int) + (cc : Int)) % 256)] 3)).cell? ⟨wr.heap.size, 0, none⟩ = some (.int .i64 (((x + y + cc) % bby : Nat) : Int)) from
        cell_of (alloc_at wr (.cells #[.int .i64 (((x : Int) + (y : Int) + (cc : Int)) % 256)] 3) _ rfl) 0)
      have HLEN := Lib.hid (show zs.length ≤ 20000 by have := HH.out.2.1; omega)
      have HQ := Lib.hid (show ((x : Int) + (y : Int) + (cc : Int)) / 256 = (((x + y + cc) / bby : Nat) : Int) from rfl)
      clear hx hy hA
      by_cases g1 : kk < xs.length
      · clear hgo
        clear hE hO
        go_wp2_with fail
        refine A0.out.mono ?_
        rintro e w2 ⟨rfl, rfl⟩
        go_wp2_with fail
        refine A1.out.mono ?_
        rintro e w2 ⟨rfl, rfl⟩
        go_wp2_with (at_builtin; refine wpList_append_int (B := w.heap.size) (zs := zs) (d := (x + y + cc) % bby) (b := wr.heap.size) rfl (.tmp 34) (.tmp 37) rfl rfl rfl HO3.out HC.out HLEN.out HE3.out.size ?_)
        intro v4 w4 ho4 hg4 _
        have HE4 := Lib.hid (HO3.out.grown HE3.out hg4)
        have HO4 := Lib.hid ho4
        clear ho4 hg4
        go_wp2
        go_roundw
        case rel =>
          refine ⟨zs ++ [(x + y + cc) % bby], kk + 1, (x + y + cc) / bby, ?_, by go_num, HO4.out, HE4.out, Lib.hid ⟨Nat.succ_le_succ HK.out, by rw [List.length_append, HH.out.2.1]; rfl, HS.out.1, byts_snoc HH.out.2.2.2.1 (Nat.mod_lt _ bby_pos), HS.out.2.2⟩⟩
          rw [← HQ.out]
        case measure => exact meas_i (Nat.lt_succ_of_le HK.out)
      · by_cases g2 : kk < ys.length
        · clear hgo
          clear hE hO
          go_wp2_with fail
          refine A0.out.mono ?_
          rintro e w2 ⟨rfl, rfl⟩
          go_wp2_with fail
          refine A1.out.mono ?_
          rintro e w2 ⟨rfl, rfl⟩
          go_wp2_with (at_builtin; refine wpList_append_int (B := w.heap.size) (zs := zs) (d := (x + y + cc) % bby) (b := wr.heap.size) rfl (.tmp 34) (.tmp 37) rfl rfl rfl HO3.out HC.out HLEN.out HE3.out.size ?_)
          intro v4 w4 ho4 hg4 _
          have HE4 := Lib.hid (HO3.out.grown HE3.out hg4)
          have HO4 := Lib.hid ho4
          clear ho4 hg4
          go_wp2
          go_roundw
          case rel =>
            refine ⟨zs ++ [(x + y + cc) % bby], kk + 1, (x + y + cc) / bby, ?_, by go_num, HO4.out, HE4.out, Lib.hid ⟨Nat.succ_le_succ HK.out, by rw [List.length_append, HH.out.2.1]; rfl, HS.out.1, byts_snoc HH.out.2.2.2.1 (Nat.mod_lt _ bby_pos), HS.out.2.2⟩⟩
            rw [← HQ.out]
          case measure => exact meas_i (Nat.lt_succ_of_le HK.out)
        · have g3 : 0 < (cc : Int) := by omega
          clear hgo
          clear hE hO
          go_wp2_with fail
          refine A0.out.mono ?_
          rintro e w2 ⟨rfl, rfl⟩
          go_wp2_with fail
          refine A1.out.mono ?_
          rintro e w2 ⟨rfl, rfl⟩
          go_wp2_with (at_builtin; refine wpList_append_int (B := w.heap.size) (zs := zs) (d := (x + y + cc) % bby) (b := wr.heap.size) rfl (.tmp 34) (.tmp 37) rfl rfl rfl HO3.out HC.out HLEN.out HE3.out.size ?_)
          intro v4 w4 ho4 hg4 _
          have HE4 := Lib.hid (HO3.out.grown HE3.out hg4)
          have HO4 := Lib.hid ho4
          clear ho4 hg4
          go_wp2
          go_roundw
          case rel =>
            refine ⟨zs ++ [(x + y + cc) % bby], kk + 1, (x + y + cc) / bby, ?_, by go_num, HO4.out, HE4.out, Lib.hid ⟨Nat.succ_le_succ HK.out, by rw [List.length_append, HH.out.2.1]; rfl, HS.out.1, byts_snoc HH.out.2.2.2.1 (Nat.mod_lt _ bby_pos), HS.out.2.2⟩⟩
            rw [← HQ.out]
          case measure => exact meas_i (Nat.lt_succ_of_le HK.out)
    · have g1 : ¬ kk < xs.length := fun h => hgo (.inl h)
      have g2 : ¬ kk < ys.length := fun h => hgo (.inr (.inl h))
      have g3 : cc = 0 := by omega
      subst g3
      have hsum := HH.out.2.2.2.2
      rw [Nat.mul_zero, Nat.add_zero, bval_take_past xs kk (by omega), bval_take_past ys kk (by omega)] at hsum
      have HT := Lib.hid (btrim_num wr _ zs hO.row HH.out.2.2.2.1 (by have := HH.out.1; have := HH.out.2.1; have := HX.out.2.2; omega))
      rw [hsum] at HT
      have HE := Lib.hid hE
      clear hgo hO hE hsum hcc
      go_wp2_with fail
      refine HT.out.mono ?_
      rintro e w3 ⟨v, bs, rfl, h1, h2, h3, h4⟩
      have HB := Lib.hid (And.intro h1 (And.intro h2 h3))
      clear h1 h2 h3
      go_wp2
      go_ret
      exact ⟨_, bs, rfl, HB.out.1, HB.out.2.1, HB.out.2.2, HE.out.trans h4⟩
/-- integers in a block of one's own. -/
def IBlk (w : World) (g : Nat) (ds : List Nat) : Prop := w.heap[g]? = some (.cells (ds.map i64).toArray 3 (0, 0))
theorem IBlk.row {w : World} {g : Nat} {ds : List Nat} (h : IBlk w g ds) (c : Nat) (hc : ds.length ≤ c) : IRow w (.slice (some ⟨g, 0, none⟩) ds.length c) ds := by
  by_cases h0 : ds = []
  · subst h0; exact .inl ⟨rfl, _, _, rfl⟩
  · refine .inr ⟨g, 0, c, rfl, h0, hc, fun q u hq => ?_⟩
    rw [Nat.zero_add, cell_of h q]
    simpa using hq
theorem IBlk.cell {w : World} {g : Nat} {ds : List Nat} (h : IBlk w g ds) (k : Nat) (hk : k < ds.length) : w.cell? ⟨g, k, none⟩ = some (.int .i64 (ds.getD k 0 : Nat)) ∧ w.frozen? ⟨g, k, none⟩ = false := by
  refine ⟨?_, frozen_of h k⟩
  rw [cell_of h k]
  simp [hk, i64, List.getD_eq_getElem?_getD]
theorem IBlk.set {w : World} {g : Nat} {ds : List Nat} (h : IBlk w g ds) (k d : Nat) : IBlk (w.setCell ⟨g, k, none⟩ (.int .i64 (d : Nat))) g (ds.set k d) := by
  unfold IBlk at *
  simp only [World.setCell, Array.getElem?_modify, h]
  simp [i64, List.map_set]
theorem i64_make (w : World) (n : Nat) (hn : n ≤ 20000) : (Instr.makeSlice 103 (.int .i64 (n : Nat)) (.int .i64 (n : Nat))).run Try.prog w = .ok (.slice (some ⟨w.heap.size, 0, none⟩) n n) (w.alloc (.cells ((List.replicate n 0).map i64).toArray 3)) := by
  have h : (Try.prog.info? 3).map (fun i => (i.zero, i.size, i.bytes)) = some (some (.int .i64 0), 1, 8) := by kernel_rfl
  cases hi : Try.prog.info? 3 with
  | none => rw [hi] at h; cases h
  | some i =>
    rw [hi] at h
    simp only [Option.map_some, Option.some.injEq, Prod.mk.injEq] at h
    have := run_make (P := Try.prog) w 103 3 i _ Try.underlying103 hi h.1 .i64 .i64 (n : Nat) (n : Nat) (by omega) (Int.le_refl _) (by rw [h.2.2]; omega) (by omega)
    have e : madeCells (Value.int .i64 0).cells ((n : Int).toNat * 1) = ((List.replicate n 0).map i64).toArray := by
      simp only [madeCells, Value.cells]
      apply Array.ext
      · simp
      · intro i h1 h2
        simp [Nat.mod_one, i64]
    rw [this, h.2.1, e]
    rfl
theorem Ext.drewN (w : World) (n : Nat) : Ext w (w.drewN n) := by
  have h := Below.refl w.heap.size w
  exact ⟨h.os, h.tape, h.output, h.size, h.block⟩
theorem IBlk.drewN {w : World} {g : Nat} {ds : List Nat} (h : IBlk w g ds) (n : Nat) : IBlk (w.drewN n) g ds := h
/-- the round of a product of bytes. -/
theorem bmul_step {ds ys : List Nat} {i k c x V : Nat} (hk : i + k < ds.length) (hd : Byts ds) (hy : Byts ys) (hx : x < bby) (hc : c < bby)
    (h : bval ds + bby ^ (i + k) * c = V + x * bval (ys.take k) * bby ^ i) :
    let s := ds.getD (i + k) 0 + x * ys.getD k 0 + c
    s < 65536 ∧ s / bby < bby ∧ bval (ds.set (i + k) (s % bby)) + bby ^ (i + k + 1) * (s / bby) = V + x * bval (ys.take (k + 1)) * bby ^ i := by
  intro s
  have := b_mul_step hk hd hy hx hc h
  have e : c + ds.getD (i + k) 0 + x * ys.getD k 0 = s := by show _ = ds.getD (i + k) 0 + x * ys.getD k 0 + c; omega
  simp only [e] at this
  exact this
/-- past the other number nothing is carried. -/
theorem bmul_over {ds xs ys : List Nat} {i k c V : Nat} (hx : Byts xs) (hy : Byts ys) (hi : i < xs.length) (hV : V = bval (xs.take i) * bval ys) (hk : ys.length ≤ k)
    (h : bval ds + bby ^ (i + k) * c = V + xs.getD i 0 * bval (ys.take k) * bby ^ i) : (k ≤ ys.length ∨ c = 0) ∧ (c = 0 → bval ds = bval (xs.take (i + 1)) * bval ys) := by
  rw [bval_take_past ys _ hk] at h
  have e : V + xs.getD i 0 * bval ys * bby ^ i = bval (xs.take (i + 1)) * bval ys := by
    rw [hV, bval_take xs i hi, Nat.add_mul]
    congr 1
    simp only [Nat.mul_comm, Nat.mul_assoc]
  rw [e] at h
  have h1 := bval_lt (b_words_take hx (i + 1))
  have h2 := bval_lt hy
  rw [List.length_take, Nat.min_eq_left (by omega)] at h1
  refine ⟨?_, fun hc => by rw [hc, Nat.mul_zero, Nat.add_zero] at h; exact h⟩
  rcases Nat.lt_or_ge ys.length k with hk2 | hk2
  · right
    have h3 : bval (xs.take (i + 1)) * bval ys < bby ^ (i + k) := by
      refine Nat.lt_of_lt_of_le (Nat.mul_lt_mul_of_lt_of_le h1 (Nat.le_of_lt h2) (Nat.pow_pos bby_pos)) ?_
      rw [← Nat.pow_add]
      exact Nat.pow_le_pow_right bby_pos (by omega)
    generalize bby ^ (i + k) = P at *
    rcases Nat.eq_zero_or_pos c with hc | hc
    · exact hc
    · exfalso
      have h4 : P * 1 ≤ P * c := Nat.mul_le_mul_left P hc
      omega
  · exact .inl hk2
/-- the state of the product's outer loop. -/
def BMulSt (w : World) (g size : Nat) (xs ys : List Nat) (i : Value) (W : World) : Prop :=
  ∃ (ds : List Nat) (ii : Nat), i = .int .i64 (ii : Nat) ∧ IBlk W g ds ∧ Ext w W ∧ Hid (ii ≤ xs.length ∧ ds.length = size ∧ Byts ds ∧ bval ds = bval (xs.take ii) * bval ys)
/-- the state of its inner loop. -/
def BMulIn (w : World) (g size : Nat) (ii V x : Nat) (ys : List Nat) (c k : Value) (W : World) : Prop :=
  ∃ (ds : List Nat) (kk cc : Nat), c = .int .i64 (cc : Nat) ∧ k = .int .i64 (kk : Nat) ∧ IBlk W g ds ∧ Ext w W ∧
    Hid (kk ≤ ys.length + 1 ∧ ds.length = size ∧ cc < bby ∧ Byts ds ∧ bval ds + bby ^ (ii + kk) * cc = V + x * bval (ys.take kk) * bby ^ ii)
theorem bmul_bound {x y : Nat} (hx : x < 256) (hy : y < 256) : (x : Int) * (y : Int) ≤ 65025 ∧ 0 ≤ (x : Int) * (y : Int) := by
  have h : x * y ≤ 255 * 255 := Nat.mul_le_mul (by omega) (by omega)
  have e : (x : Int) * (y : Int) = ((x * y : Nat) : Int) := by simp
  rw [e]
  omega
theorem bmul_close {w W : World} {g size ii V x y kk cc e : Nat} {es ys : List Nat} (hU : IBlk W g es) (hE : Ext w W) (hg : w.heap.size ≤ g)
    (HJ : Hid (kk ≤ ys.length + 1 ∧ es.length = size ∧ cc < bby ∧ Byts es ∧ bval es + bby ^ (ii + kk) * cc = V + x * bval (ys.take kk) * bby ^ ii)) (hk : kk ≤ ys.length)
    (hst : e + x * y + cc < 65536 ∧ (e + x * y + cc) / bby < bby ∧ bval (es.set (ii + kk) ((e + x * y + cc) % bby)) + bby ^ (ii + kk + 1) * ((e + x * y + cc) / bby) = V + x * bval (ys.take (kk + 1)) * bby ^ ii) :
    BMulIn w g size ii V x ys (.int .i64 (((e : Int) + (x : Int) * (y : Int) + (cc : Int)) / 256)) (.int .i64 ((kk : Int) + 1)) (W.setCell ⟨g, ii + kk, none⟩ (.int .i64 (((e : Int) + (x : Int) * (y : Int) + (cc : Int)) % 256))) ∧
      ys.length + 1 - (intOf (.int .i64 ((kk : Int) + 1))).toNat < ys.length + 1 - (intOf (.int .i64 (kk : Int))).toNat := by
  obtain ⟨h1, h2, h3, h4, h5⟩ := HJ.out
  have e1 : ((e : Int) + (x : Int) * (y : Int) + (cc : Int)) % 256 = (((e + x * y + cc) % bby : Nat) : Int) := rfl
  have e2 : ((e : Int) + (x : Int) * (y : Int) + (cc : Int)) / 256 = (((e + x * y + cc) / bby : Nat) : Int) := rfl
  rw [e1, e2]
  refine ⟨⟨es.set (ii + kk) ((e + x * y + cc) % bby), kk + 1, (e + x * y + cc) / bby, rfl, rfl, hU.set _ _, Below.setCell (B := w.heap.size) hE hg _, Lib.hid ⟨Nat.succ_le_succ hk, by rw [List.length_set]; exact h2, hst.2.1, b_words_set h4 (Nat.mod_lt _ bby_pos), hst.2.2⟩⟩, meas_i (Nat.lt_succ_of_le hk)⟩
end Go.Proofs.Ytejknkhahjgdnaa
namespace Go.Proofs.Ytejknkhahjgdnaa
open Go Go.RowKit

/-- numbers in memory. -/
def Nums (w : World) (l : List (Value × Nat)) : Prop := ∀ x ∈ l, NumIs w x.1 x.2
theorem Nums.add {w w' : World} {l : List (Value × Nat)} {v : Value} {n : Nat} (h : Nums w l) (hv : NumIs w' v n) (hE : Ext w w') : Nums w' ((v, n) :: l) := fun x hx => by
  rcases List.mem_cons.1 hx with rfl | hx
  · exact hv
  · exact (h x hx).ext hE
theorem Nums.ext {w w' : World} {l : List (Value × Nat)} (h : Nums w l) (hE : Ext w w') : Nums w' l := fun x hx => (h x hx).ext hE
theorem ring_bounds {a b c : Nat} (ha : a < beta ^ 40) (hb : b < beta ^ 40) (hc : c < beta ^ 40) :
    a + b < beta ^ 128 ∧ b + c < beta ^ 128 ∧ a * b < beta ^ 128 ∧ b * c < beta ^ 128 ∧ a * c < beta ^ 128 ∧ a + b + c < beta ^ 128 ∧ a * (b + c) < beta ^ 128 ∧ a * b * c < beta ^ 128 := by
  obtain ⟨B, hB⟩ : ∃ B, B = beta ^ 40 := ⟨_, rfl⟩
  have h1 : 3 * beta ^ 40 ≤ beta ^ 128 := by decide +kernel
  have h2 : 2 * (beta ^ 40 * beta ^ 40) ≤ beta ^ 128 := by decide +kernel
  have h3 : beta ^ 40 * beta ^ 40 * beta ^ 40 ≤ beta ^ 128 := by decide +kernel
  rw [← hB] at ha hb hc h1 h2 h3
  have hab : a * b < B * B := Nat.mul_lt_mul'' ha hb
  have hac : a * c < B * B := Nat.mul_lt_mul'' ha hc
  have hbc : b * c < B * B := Nat.mul_lt_mul'' hb hc
  have habc : a * b * c < B * B * B := Nat.mul_lt_mul'' hab hc
  generalize beta ^ 128 = M at *
  rw [Nat.mul_add]
  refine ⟨?_, ?_, ?_, ?_, ?_, ?_, ?_, ?_⟩ <;> omega
theorem small_num {xs : List Nat} (h : Norm xs) (hl : xs.length ≤ 40) : nval xs < beta ^ 40 := (norm_len h 40).1 hl
theorem lt128 {n : Nat} (h : n < beta ^ 40) : n < beta ^ 128 := Nat.lt_of_lt_of_le h (by decide +kernel)
theorem lt256 {n : Nat} (h : n < beta ^ 128) : n < beta ^ 256 := Nat.lt_of_lt_of_le h (by decide +kernel)
theorem fit_at {n m : Nat} (h : m < beta ^ 128) (e : n = m) : fitE n = 0 ∧ fitN n = m := by subst e; exact fit_of h
end Go.Proofs.Ytejknkhahjgdnaa
namespace Go.Proofs.Ytejknkhahjgdnaa
open Go Go.RowKit

set_option maxHeartbeats 1000000 in
theorem may07_any (w : World) (p : Value) (xs : List Nat) (h : URow w p xs) : Calls Try.prog 77 #[p] w (Ret (.bool (mayN xs)) w) := by
  obtain ⟨a, c, rfl⟩ := h.slice
  by_cases hl : xs.length ≤ 128
  · by_cases h0 : xs.length = 0
    · have hx : xs = [] := List.length_eq_zero_iff.1 h0
      subst hx
      rw [show mayN [] = true by decide, show ([] : List Nat).length = 0 from rfl]
      clear h hl h0
      go_enter Try.func77, Try.ntmps77
      go_wp2
      go_ret
      exact Ret.mk (Ext.refl _)
    · rcases h with ⟨h, _⟩ | ⟨b, o, c', hv, _, h2, h3⟩
      · rw [h] at h0; exact absurd rfl h0
      · obtain ⟨rfl, rfl⟩ : a = some ⟨b, o, none⟩ ∧ c = c' := by cases hv; exact ⟨rfl, rfl⟩
        obtain ⟨m, hm⟩ : ∃ m, xs.length = m + 1 := ⟨xs.length - 1, by omega⟩
        have hc := urow_cell h3 m (by omega)
        have hmay : mayN xs = !decide (xs.getD m 0 = 0) := by
          unfold mayN
          rw [decide_eq_true hl, Bool.true_and, show xs.length - 1 = m by omega]
          have hne : xs ≠ [] := by intro e; rw [e] at h0; exact h0 rfl
          by_cases hz : xs.getD m 0 = 0
          · rw [decide_eq_true hz, decide_eq_false (by rintro (h | h); exact hne h; exact h hz)]; rfl
          · rw [decide_eq_false hz, decide_eq_true (Or.inr hz)]; rfl
        rw [hmay]
        rw [show m = xs.length - 1 by omega] at *
        generalize xs.getD (xs.length - 1) 0 = d at *
        have hcap : xs.length ≤ c := h2
        have hpos : 0 < xs.length := by omega
        have hl1 : (xs.length : Int) ≤ 128 := by omega
        have h01 : ¬ (xs.length : Int) = 0 := by omega
        have htn : ((xs.length : Int) - 1).toNat = xs.length - 1 := by omega
        have hlt : xs.length - 1 < xs.length := by omega
        clear hv h2 h3 hmay h0 hl hm
        have hund : undef = Value.tuple #[] := rfl
        by_cases hz : d = 0
        · subst hz
          go_enter Try.func77, Try.ntmps77
          go_wp2
          go_ret
          exact ⟨ret_bool (by rw [show ((xs.length : Int) == 0) = false by simpa using h01]; rfl), Ext.refl _⟩
        · rw [decide_eq_false hz]
          have hz' : ¬ (d : Int) = 0 := by omega
          have hz2 : ((d : Int) == 0) = false := by simpa using hz
          clear hz
          go_enter Try.func77, Try.ntmps77
          go_wp2
          go_ret
          exact ⟨ret_bool (by rw [show ((d : Int) != 0) = true by simpa using hz', Bool.or_true]; rfl), Ext.refl _⟩
  · have e : mayN xs = false := by unfold mayN; simp [hl]
    rw [e]
    have hl' : ¬ (xs.length : Int) ≤ 128 := by omega
    clear h e hl
    go_enter Try.func77, Try.ntmps77
    go_wp2
    go_ret
    exact Ret.mk (Ext.refl _)
theorem bytes_num (w : World) (p : Value) (n : Nat) (h : NumIs w p n) (hn : n < beta ^ 256) : Calls Try.prog 78 #[p] w (BNum n w) := by
  obtain ⟨xs, h1, h2, h3⟩ := h
  have := bytes_any w p xs h1 h2.1 (Nat.le_trans ((norm_len h2 256).2 (by rw [h3]; exact hn)) (by decide))
  rwa [h3] at this
theorem add07_num (w : World) (p q : Value) (a b : Nat) (hp : BIs w p a) (hq : BIs w q b) (ha : a < bby ^ bK) (hb : b < bby ^ bK) : Calls Try.prog 81 #[p, q] w (BNum (a + b) w) := by
  obtain ⟨xs, h1, h2, h3⟩ := hp
  obtain ⟨ys, g1, g2, g3⟩ := hq
  have := add07_any w p q xs ys h1 g1 h2.1 g2.1 (bis_lenK h2 h3 ha) (bis_lenK g2 g3 hb)
  rwa [h3, g3] at this
theorem may_num {xs : List Nat} (hw : Words xs) (h : mayN xs = true) : Norm xs ∧ nval xs < beta ^ 128 := by
  obtain ⟨h1, h2⟩ := (mayN_norm hw).1 h
  exact ⟨h1, (norm_len h1 128).1 h2⟩
theorem lt_bby {n k : Nat} (h : n < beta ^ k) (hk : 4 * k ≤ 5000) : n < bby ^ bK := by
  rw [beta_bby] at h
  exact Nat.lt_of_lt_of_le h (Nat.pow_le_pow_right bby_pos (show 4 * k ≤ bK from hk))
theorem one_is (w : World) : BIs (w.alloc (.cells #[.int .i64 1] 3)) (.slice (some ⟨w.heap.size, 0, none⟩) 1 1) 1 :=
  ⟨[1], .inr ⟨w.heap.size, 0, 1, rfl, by simp, by simp, fun q u hq => by
    rw [Nat.zero_add, cell_of (alloc_at w _ _ rfl) q]
    simpa [i64] using hq⟩, ⟨fun d hd => by simp at hd; subst hd; decide, by right; decide⟩, by decide⟩
set_option maxHeartbeats 2000000 in
theorem fib07_any (w : World) (i : Int) : Calls Try.prog 60 #[.int .i64 i] w (Fibs i w) := by
  by_cases hi : 0 ≤ i ∧ i ≤ 200
  · have HE := Lib.hid (show FibE i = 0 ∧ FibV i = fibN i.toNat by unfold FibE FibV; rw [if_pos hi, if_pos hi]; exact ⟨rfl, rfl⟩)
    obtain ⟨hi0, hi1⟩ := hi
    obtain ⟨N, rfl⟩ := Int.eq_ofNat_of_zero_le hi0
    rw [Int.toNat_natCast] at HE
    have HN := Lib.hid (show N ≤ 200 by omega)
    have h1 := Lib.hid (one_is w)
    have hA := Lib.hid ((Ext.refl w).alloc (.cells #[.int .i64 1] 3))
    go_enter Try.func60, Try.ntmps60
    go_wp2_with fail
    go_loopw [4, 5, 6] (fun a b i W => ∃ k : Nat, i = .int .i64 (k : Nat) ∧ Hid (k ≤ N ∧ BIs W a (fibN k) ∧ BIs W b (fibN (k + 1)) ∧ Ext w W)) (fun _ _ i _ => N - (intOf i).toNat)
    case atStart => exact ⟨0, rfl, Lib.hid ⟨Nat.zero_le _, ⟨[], .inl ⟨rfl, _, _, rfl⟩, ⟨(fun d hd => by cases hd), .inl rfl⟩, rfl⟩, h1.out, hA.out⟩⟩
    case round =>
      obtain ⟨k, rfl, HH⟩ := hrel
      by_cases hk : k < N
      · have hkn : k < 200 := Nat.lt_of_lt_of_le hk HN.out
        have HK := Lib.hid hk
        have HC := Lib.hid (add07_num wr u4 u5 (fibN k) (fibN (k + 1)) HH.out.2.1 HH.out.2.2.1 (lt_bby (fibN_lt (by omega)) (by decide)) (lt_bby (fibN_lt (by omega)) (by decide)))
        go_wp2_with fail
        refine HC.out.mono ?_
        rintro e w2 ⟨v, bs, rfl, g1, g2, g3, h2⟩
        have HB := Lib.hid (show BIs w2 v (fibN (k + 1 + 1)) from ⟨bs, g1, g2, g3⟩)
        have HX := Lib.hid h2
        clear g1 g2 g3 h2
        go_wp2
        go_roundw
        case rel => exact ⟨k + 1, by go_num, Lib.hid ⟨HK.out, HH.out.2.2.1.ext HX.out, HB.out, HH.out.2.2.2.trans HX.out⟩⟩
        case measure => exact meas_i HK.out
      · have hke : k = N := Nat.le_antisymm HH.out.1 (Nat.le_of_not_lt hk)
        subst hke
        have HC := Lib.hid (fits07_any wr u4 (fibN k) HH.out.2.1 (lt_bby (fibN_lt (Nat.le_trans HN.out (by decide))) (by decide)))
        have hf := fit_of (Nat.lt_of_lt_of_le (fibN_lt (n := k) (Nat.le_trans HN.out (by decide))) (Nat.pow_le_pow_right beta_pos (show 7 ≤ 128 by decide)))
        unfold Fits at HC
        rw [hf.1, hf.2] at HC
        clear hf
        go_wp2_with fail
        refine HC.out.mono ?_
        rintro e w2 ⟨v, rfl, hv, h2⟩
        have HV := Lib.hid (And.intro hv h2)
        clear hv h2
        go_wp2
        go_ret2
        unfold Fibs
        rw [HE.out.1, HE.out.2]
        exact ⟨_, rfl, HV.out.1, HH.out.2.2.2.trans HV.out.2⟩
  · have HE := Lib.hid (show FibE i = 2 ∧ FibV i = 0 by unfold FibE FibV; rw [if_neg hi, if_neg hi]; exact ⟨rfl, rfl⟩)
    by_cases e0 : i < 0
    · clear hi
      go_enter Try.func60, Try.ntmps60
      go_wp2
      go_ret2
      unfold Fibs
      rw [HE.out.1, HE.out.2]
      exact ⟨_, rfl, num_nil _ _ _, Ext.refl _⟩
    · have e1 : 200 < i := by omega
      clear hi
      go_enter Try.func60, Try.ntmps60
      go_wp2
      go_ret2
      unfold Fibs
      rw [HE.out.1, HE.out.2]
      exact ⟨_, rfl, num_nil _ _ _, Ext.refl _⟩
end Go.Proofs.Ytejknkhahjgdnaa
namespace Go.Proofs.Ytejknkhahjgdnaa
open Go Go.RowKit

theorem pow_fits {n k e : Nat} (hk : k ≤ e) (h : ¬ n ^ k < beta ^ 128) : fitE (n ^ k) = fitE (n ^ e) ∧ fitN (n ^ k) = fitN (n ^ e) := by
  have h2 := pow_big hk h
  unfold fitE fitN
  rw [if_neg h, if_neg h2, if_neg h, if_neg h2]
  exact ⟨rfl, rfl⟩
theorem pow_next {n k : Nat} (hn : n < beta ^ 128) (hk : n ^ k < beta ^ 128) : n ^ (k + 1) < beta ^ 256 := by
  rw [Nat.pow_succ, show (256 : Nat) = 128 + 128 from rfl, Nat.pow_add]
  exact Nat.mul_lt_mul_of_lt_of_le hk (Nat.le_of_lt hn) (Nat.pow_pos beta_pos)
theorem len4 {bs : List Nat} (h : BNorm bs) (K : Nat) : bs.length ≤ 4 * K ↔ bval bs < beta ^ K := by
  rw [beta_bby]; exact b_norm_len h (4 * K)
theorem len512 {bs : List Nat} (h : BNorm bs) : bs.length ≤ 512 ↔ bval bs < beta ^ 128 := len4 h 128
/-- the state of From's loop. -/
structure FromH (n : Nat) (zs : List Nat) (y : Nat) : Prop where
  words : Words zs
  sum : nval zs + beta ^ zs.length * y = n
  norm : y = 0 → Norm zs
  len : zs.length ≤ 2
  lt : y < beta ^ (2 - zs.length)
theorem FromH.step {n y : Nat} {zs : List Nat} (h : FromH n zs y) (h0 : 0 < y) : FromH n (zs ++ [y % beta]) (y / beta) := by
  have hlen : zs.length < 2 := by
    rcases Nat.lt_or_ge zs.length 2 with h1 | h1
    · exact h1
    · have := h.lt
      rw [show 2 - zs.length = 0 by omega, Nat.pow_zero] at this
      omega
  refine ⟨words_snoc h.words (Nat.mod_lt _ beta_pos), ?_, fun hy => ⟨words_snoc h.words (Nat.mod_lt _ beta_pos), .inr ?_⟩, by rw [List.length_append, List.length_singleton]; exact hlen, ?_⟩
  · rw [nval_snoc, List.length_append, List.length_singleton, Nat.pow_succ, Nat.mul_assoc, Nat.add_assoc, ← Nat.mul_add, Nat.mod_add_div]
    exact h.sum
  · have hlt : y < beta := by
      rcases Nat.lt_or_ge y beta with h1 | h1
      · exact h1
      · have := Nat.div_pos h1 beta_pos; omega
    rw [Nat.mod_eq_of_lt hlt]
    simp
    omega
  · have := h.lt
    rw [List.length_append, List.length_singleton]
    rw [show 2 - zs.length = (2 - (zs.length + 1)) + 1 by omega, Nat.pow_succ] at this
    exact Nat.div_lt_of_lt_mul (by rw [Nat.mul_comm]; exact this)
set_option maxHeartbeats 1000000 in
theorem from07_any (w : World) (n : Nat) (hn : n < 18446744073709551616) : Calls Try.prog 31 #[.int .u64 (n : Nat)] w (Num n w) := by
  have HN := Lib.hid hn
  clear hn
  go_enter Try.func31, Try.ntmps31
  go_wp2_with fail
  go_loopw [0, 3] (fun y v W => ∃ (zs : List Nat) (yy : Nat), y = .int .u64 (yy : Nat) ∧ UOwn w.heap.size W v zs ∧ Ext w W ∧ Hid (FromH n zs yy)) (fun y _ _ => (intOf y).toNat)
  case atStart => exact ⟨[], n, rfl, UOwn.nil _ _, Ext.refl _, Lib.hid ⟨(fun d hd => by cases hd), by simp [nval], fun _ => ⟨(fun d hd => by cases hd), .inl rfl⟩, by simp, HN.out⟩⟩
  case round =>
    obtain ⟨zs, y, rfl, hO, hE, HH⟩ := hrel
    have hy : y < 18446744073709551616 := Nat.lt_of_lt_of_le HH.out.lt (Nat.le_trans (Nat.pow_le_pow_right beta_pos (show 2 - zs.length ≤ 2 by omega)) (by decide))
    obtain ⟨va, vc, hv⟩ := hO.slice
    subst hv
    by_cases h0 : 0 < y
    · have h0' : 0 < (y : Int) := by omega
      have hA := (Ext.refl wr).alloc (.cells #[.int .u32 ((y : Int) % 4294967296)] 34)
      have HO3 := Lib.hid (hO.ext hA)
      have HE3 := Lib.hid (hE.trans hA)
      have HC := Lib.hid (show (wr.alloc (.cells #[.int .u32 ((y : Int) % 4294967296)] 34)).cell? ⟨wr.heap.size, 0, none⟩ = some (.int .u32 ((y % beta : Nat) : Int)) by
        rw [cast_mod]
        exact cell_of (alloc_at wr (.cells #[.int .u32 ((y : Int) % 4294967296)] 34) _ rfl) 0)
      have HLEN := Lib.hid (show zs.length ≤ 20000 by have := HH.out.len; omega)
      have HST := Lib.hid (HH.out.step h0)
      have HQ := Lib.hid (cast_div y)
      have H0 := Lib.hid h0
      clear hO hE hA h0
      go_wp2_with (at_builtin; refine wpList_append_word (B := w.heap.size) (zs := zs) (d := y % beta) (b := wr.heap.size) rfl (.tmp 6) (.tmp 10) rfl rfl rfl HO3.out HC.out HLEN.out HE3.out.size ?_)
      intro v4 w4 ho4 hg4 _
      have HE4 := Lib.hid (HO3.out.grown HE3.out hg4)
      have HO4 := Lib.hid ho4
      clear ho4 hg4
      go_wp2
      go_roundw
      case rel => exact ⟨zs ++ [y % beta], y / beta, by rw [HQ.out], HO4.out, HE4.out, HST.out⟩
      case measure =>
        simp [intOf]
        have := H0.out
        omega
    · have hy0 : y = 0 := Nat.eq_zero_of_not_pos h0
      subst hy0
      have HR := Lib.hid hO.row
      have HE := Lib.hid hE
      have HV := Lib.hid (show nval zs = n by have := HH.out.sum; rw [Nat.mul_zero, Nat.add_zero] at this; exact this)
      clear hO hE h0 hy
      go_wp2
      go_ret
      exact ⟨_, rfl, ⟨zs, HR.out, HH.out.norm rfl, HV.out⟩, HE.out⟩
theorem append_words {w : World} (ty : TypeId) {u : Value} {xs : List Nat} (hu : URow w u xs) (hl : xs.length ≤ 10000) :
    ∃ v' w', (Builtin.append_ #[23, 23] ty #[.slice none 0 0, u]).run Try.prog w = .ok v' w' ∧ UOwn w.heap.size w' v' xs ∧ Ext w w' := by
  have hI : (Try.prog.info? 34).map (fun i => (i.zero, i.size, i.bytes)) = some (some (.int .u32 0), 1, 4) := by kernel_rfl
  have hml : (10000 : Nat) ≤ maxLen := by decide
  cases hi : Try.prog.info? 34 with
  | none => rw [hi] at hI; cases hI
  | some i =>
    rw [hi] at hI
    simp only [Option.map_some, Option.some.injEq, Prod.mk.injEq] at hI
    rcases hu with ⟨rfl, a, c, rfl⟩ | ⟨b, o, c, rfl, _, hc, hr⟩
    · have hsrc : Src Try.prog i.size 23 (.slice a 0 c) 0 [] w := by
        cases a with
        | none => exact Src.ofNil w Try.underlying23 c
        | some a => exact Src.ofSlice w Try.underlying23 a 0 c [] (by simp) (by simp) (by simp)
      exact ⟨_, w, run_append_nothing w _ _ ty _ i Try.underlying23 hi none 0 0 (Nat.le_refl _) _ hsrc, UOwn.nil _ _, Ext.refl _⟩
    · obtain ⟨v', w', hrun, hown, hg, _, _⟩ := run_append_own_at (P := Try.prog) w w.heap.size _ ty _ i _ 1 4 Try.underlying23 hi hI.1 hI.2.1 hI.2.2 rfl (by omega) (.slice none 0 0) 0 [] (UOwn.nil _ w) ⟨b, o, none⟩ xs.length c (xs.map u32) (by simp)
        (fun j u hj => by rw [Addr.add_mid]; exact hr j u hj) (fun u hu => by obtain ⟨d, _, rfl⟩ := List.mem_map.1 hu; rfl) (by omega) (by omega) (Nat.le_refl _)
      refine ⟨v', w', hrun, ?_, RowKit.Below.grown (Ext.refl w) hg (Nat.le_refl _) (fun k hk => by cases hk)⟩
      show w'.ownsRow _ _ _ _ _ _
      simpa using hown
/-- a row of words is handed back. -/
def Row (xs : List Nat) (w : World) (e : Ending) (w' : World) : Prop := ∃ v, e = .returned v ∧ URow w' v xs ∧ Ext w w'
theorem wpList_append_words {ops : Array Oper} {rest : List Oper} {o : Oper} {a : Act} {Q : Exit → Act → World → Prop} (hgd : o.guard = none) (s x : Operand) (ho : o.op = .call { callee := .builtin .append, args := #[s, x], argTypes := #[23, 23] })
    {w : World} {u : Value} {xs : List Nat} (hs : a.eval s = .slice none 0 0) (hx : a.eval x = u) (hu : URow w u xs) (hl : xs.length ≤ 10000)
    (h : ∀ v' w', UOwn w.heap.size w' v' xs → Ext w w' → wpList Try.prog ops Q rest (a.put o.dst v') w') : wpList Try.prog ops Q (o :: rest) a w := by
  refine wpList_plain hgd fun K hK => ?_
  obtain ⟨v', w', hr, h2, h3⟩ := append_words o.type hu hl
  unfold Oper.wp execOp
  simp only [ho, resolve, invoke, builtin, Sem.run_bind, Sem.run_pure, Result.andThen_ok, List.map_toArray, List.map_cons, List.map_nil, hs, hx, hr]
  exact hK _ _ (h v' w' h2 h3)
end Go.Proofs.Ytejknkhahjgdnaa
