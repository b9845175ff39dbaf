/- joineryref34: Most, May; joinerylaw34: least, alive. -/
import Derived.Test.YtejknkhahjgdnaaBound7
namespace Go.Proofs.Ytejknkhahjgdnaa
open Go Go.RowKit

set_option maxRecDepth 100000 in
set_option maxHeartbeats 4000000 in
theorem most34_any (w : World) (s n M : Int) (hM : M = 1099511627776) : Calls Try.prog 9 #[.int .u8 s, .int .i64 n] w (Mosts s n w) := by
  have HK := Lib.hid (height34_any w s 0 M hM)
  have hund : undef = Value.tuple #[] := rfl
  rw [okH_zero] at HK
  by_cases hs : 1 ≤ s ∧ s ≤ 4
  · rw [decide_eq_true hs.1, decide_eq_true hs.2] at HK
    by_cases h0 : n < 0
    · have HX := Lib.hid (show ¬ (1 ≤ s ∧ s ≤ 4 ∧ 0 ≤ n ∧ n ≤ 1099511627776) by omega)
      clear hs
      go_enter Try.func9, Try.ntmps9
      rw [← hM]
      clear hM
      go_wp2_with fail
      refine HK.out.mono ?_
      rintro e w1 ⟨rfl, rfl⟩
      go_wp2
      go_ret2
      exact .inl ⟨HX.out, Ret.mk (Ext.refl _)⟩
    · by_cases h1 : M < n
      · have HX := Lib.hid (show ¬ (1 ≤ s ∧ s ≤ 4 ∧ 0 ≤ n ∧ n ≤ 1099511627776) by omega)
        clear hs
        go_enter Try.func9, Try.ntmps9
        rw [← hM]
        clear hM
        go_wp2_with fail
        refine HK.out.mono ?_
        rintro e w1 ⟨rfl, rfl⟩
        go_wp2
        go_ret2
        exact .inl ⟨HX.out, Ret.mk (Ext.refl _)⟩
      · by_cases h4 : s = 4
        · subst h4
          have HN := Lib.hid (show 0 ≤ n ∧ (n ≤ 1099511627776) by omega)
          clear hs
          go_enter Try.func9, Try.ntmps9
          rw [← hM]
          clear hM
          go_wp2_with fail
          refine HK.out.mono ?_
          rintro e w1 ⟨rfl, rfl⟩
          go_wp2
          go_ret2
          exact .inr (.inl ⟨rfl, HN.out.1, HN.out.2, Ret.mk (Ext.refl _)⟩)
        · obtain ⟨n, rfl⟩ := Int.eq_ofNat_of_zero_le (Int.not_lt.1 h0)
          have HN := Lib.hid (show ((n : Int) ≤ 1099511627776) ∧ n ≤ 4611686018427387904 by omega)
          have HS := Lib.hid (show 1 ≤ s ∧ s ≤ 3 by omega)
          have h4' : (s == 4) = false := by simpa using h4
          clear h0 hs
          go_enter Try.func9, Try.ntmps9
          rw [← hM]
          clear hM
          go_wp2_with fail
          refine HK.out.mono ?_
          rintro e w1 ⟨rfl, rfl⟩
          go_wp2_with fail
          clear h1 h4 h4'
          go_loopw [6] (fun i W => ∃ h : Nat, i = .int .i64 (h : Nat) ∧ Hid (h ≤ 100 ∧ (∀ j, 1 ≤ j → j ≤ h → leastN s.toNat j ≤ n) ∧ Ext w W)) (fun i _ => 101 - (intOf i).toNat)
          case atStart => exact ⟨0, rfl, Lib.hid ⟨Nat.zero_le _, (fun j h1 h2 => by omega), Ext.refl _⟩⟩
          case round =>
            obtain ⟨h, rfl, HH⟩ := hrel
            have hh : h ≤ 100 := HH.out.1
            by_cases k0 : h < 100
            · have hok : okH s ((h : Int) + 1) = true := by
                have := HS.out
                unfold okH; rw [if_neg (by omega)]; simp; omega
              have HWI := Lib.hid (within34_any wr s ((h : Int) + 1) n hok HN.out.2)
              rw [(lst_ok hok).2, show ((h : Int) + 1).toNat = h + 1 by omega] at HWI
              have K0 := Lib.hid k0
              clear hok
              by_cases k : leastN s.toNat (h + 1) ≤ n
              · have HW2 := Lib.hid k
                rw [decide_eq_true k] at HWI
                clear k
                go_wp2_with fail
                refine HWI.out.mono ?_
                rintro e w2 ⟨rfl, h2⟩
                have H2 := Lib.hid h2
                clear h2
                go_wp2
                go_roundw
                case rel => exact ⟨h + 1, by go_num, Lib.hid ⟨K0.out, (fun j h1 h2 => by
                  rcases Nat.eq_or_lt_of_le h2 with e | e
                  · rw [e]; exact HW2.out
                  · exact HH.out.2.1 j h1 (Nat.le_of_lt_succ e)), HH.out.2.2.trans H2.out⟩⟩
                case measure => exact meas_s (Nat.lt_of_lt_of_le K0.out (by decide))
              · have HW2 := Lib.hid (Nat.lt_of_not_le k)
                rw [decide_eq_false k] at HWI
                clear k
                go_wp2_with fail
                refine HWI.out.mono ?_
                rintro e w2 ⟨rfl, h2⟩
                have H2 := Lib.hid h2
                clear h2
                go_wp2
                go_ret2
                exact .inr (.inr ⟨HS.out.1, HS.out.2, by omega, HN.out.1, h, ⟨HH.out.1, HH.out.2.1, .inr HW2.out⟩, Ret.mk (HH.out.2.2.trans H2.out)⟩)
            · have K0 := Lib.hid (show h = 100 by omega)
              go_wp2
              go_ret2
              exact .inr (.inr ⟨HS.out.1, HS.out.2, by omega, HN.out.1, h, ⟨HH.out.1, HH.out.2.1, .inl K0.out⟩, Ret.mk HH.out.2.2⟩)
  · have hf : (decide (1 ≤ s) && decide (s ≤ 4)) = false := by
      rw [Bool.and_eq_false_iff]
      simp only [decide_eq_false_iff_not]
      omega
    rw [hf] at HK
    have HX := Lib.hid (show ¬ (1 ≤ s ∧ s ≤ 4 ∧ 0 ≤ n ∧ n ≤ 1099511627776) by omega)
    clear hs hf
    go_enter Try.func9, Try.ntmps9
    rw [← hM]
    clear hM
    go_wp2_with fail
    refine HK.out.mono ?_
    rintro e w1 ⟨rfl, rfl⟩
    go_wp2
    go_ret2
    exact .inl ⟨HX.out, Ret.mk (Ext.refl _)⟩
set_option maxRecDepth 100000 in
set_option maxHeartbeats 4000000 in
theorem may34_any (w : World) (s h n M : Int) (hM : M = 1099511627776) : Calls Try.prog 11 #[.int .u8 s, .int .i64 h, .int .i64 n] w (Ret (.bool (mayB s h n)) w) := by
  have HK := Lib.hid (height34_any w s h M hM)
  have hund : undef = Value.tuple #[] := rfl
  cases k : okH s h with
  | false =>
    rw [k] at HK
    have e : mayB s h n = false := by unfold mayB withinB; rw [k]; simp
    rw [e]
    clear e k
    go_enter Try.func11, Try.ntmps11
    rw [← hM]
    clear hM
    go_wp2_with fail
    refine HK.out.mono ?_
    rintro e w1 ⟨rfl, rfl⟩
    go_wp2
    go_ret
    exact Ret.mk (Ext.refl _)
  | true =>
    rw [k] at HK
    by_cases h0 : 0 ≤ n
    · by_cases h1 : n ≤ M
      · obtain ⟨n, rfl⟩ := Int.eq_ofNat_of_zero_le h0
        have HW := Lib.hid (within34_any w s h n k (by omega))
        have e : mayB s h n = (decide (LstN s h ≤ n) && (decide (40 < h) || decide ((n : Int) < 2 ^ h.toNat))) := by unfold mayB withinB; rw [k, decide_eq_true h0, decide_eq_true (p := (n : Int) ≤ 1099511627776) (by omega), Int.toNat_natCast, Bool.true_and]; rfl
        rw [e]
        have hok : 0 ≤ h := by
          unfold okH at k
          simp only [Bool.and_eq_true, decide_eq_true_eq] at k
          exact k.1
        cases kk : decide (LstN s h ≤ n) with
        | false =>
          rw [kk] at HW
          clear e kk k
          rw [Bool.false_and]
          go_enter Try.func11, Try.ntmps11
          rw [← hM]
          clear hM
          go_wp2_with fail
          refine HK.out.mono ?_
          rintro e w1 ⟨rfl, rfl⟩
          go_wp2_with fail
          refine HW.out.mono ?_
          rintro e w1 ⟨rfl, h1⟩
          go_wp2
          go_ret
          exact Ret.mk h1
        | true =>
          rw [kk] at HW
          rw [Bool.true_and]
          clear e kk k
          by_cases h40 : 40 < h
          · rw [decide_eq_true h40, Bool.true_or]
            go_enter Try.func11, Try.ntmps11
            rw [← hM]
            clear hM
            go_wp2_with fail
            refine HK.out.mono ?_
            rintro e w1 ⟨rfl, rfl⟩
            go_wp2_with fail
            refine HW.out.mono ?_
            rintro e w1 ⟨rfl, h1⟩
            go_wp2
            go_ret
            exact Ret.mk h1
          · obtain ⟨h, rfl⟩ := Int.eq_ofNat_of_zero_le hok
            rw [decide_eq_false h40, Bool.false_or, Int.toNat_natCast]
            have HP := Lib.hid (pow_64 (h := h) (by omega))
            go_enter Try.func11, Try.ntmps11
            rw [← hM]
            clear hM
            go_wp2_with fail
            refine HK.out.mono ?_
            rintro e w1 ⟨rfl, rfl⟩
            go_wp2_with fail
            refine HW.out.mono ?_
            rintro e w1 ⟨rfl, h1⟩
            go_wp2
            go_ret
            exact ⟨ret_bool (by rw [HP.out, decide_eq_false (by omega), Bool.false_or]), h1⟩
      · have e : mayB s h n = false := by unfold mayB; rw [decide_eq_false (p := n ≤ 1099511627776) (by omega)]; simp
        rw [e]
        clear e k
        go_enter Try.func11, Try.ntmps11
        rw [← hM]
        clear hM
        go_wp2_with fail
        refine HK.out.mono ?_
        rintro e w1 ⟨rfl, rfl⟩
        go_wp2
        go_ret
        exact Ret.mk (Ext.refl _)
    · have e : mayB s h n = false := by unfold mayB; rw [decide_eq_false h0]; rfl
      rw [e]
      clear e k
      go_enter Try.func11, Try.ntmps11
      rw [← hM]
      clear hM
      go_wp2_with fail
      refine HK.out.mono ?_
      rintro e w1 ⟨rfl, rfl⟩
      go_wp2
      go_ret
      exact Ret.mk (Ext.refl _)
end Go.Proofs.Ytejknkhahjgdnaa
