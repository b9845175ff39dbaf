/- joineryref07.Cmp. -/
import Derived.Test.YtejknkhahjgdnaaByte5
namespace Go.Proofs.Ytejknkhahjgdnaa
open Go Go.RowKit

theorem bval_above {xs ys : List Nat} {m : Nat} (h : ∀ j, m ≤ j → xs.getD j 0 = ys.getD j 0) (k : Nat) : bval (xs.take (m + k)) + bval (ys.take m) = bval (ys.take (m + k)) + bval (xs.take m) := by
  induction k with
  | zero => rw [Nat.add_zero, Nat.add_comm]
  | succ k ih =>
    rw [← Nat.add_assoc, bval_take', bval_take', h (m + k) (by omega)]
    omega
theorem bval_above' {xs ys : List Nat} {m : Nat} (h : ∀ j, m ≤ j → xs.getD j 0 = ys.getD j 0) : bval xs + bval (ys.take m) = bval ys + bval (xs.take m) := by
  have := bval_above h (max xs.length ys.length)
  rwa [bval_take_past xs (m + max xs.length ys.length) (by omega), bval_take_past ys (m + max xs.length ys.length) (by omega)] at this
theorem bval_first {xs ys : List Nat} {m : Nat} (hx : Byts xs) (h : ∀ j, m + 1 ≤ j → xs.getD j 0 = ys.getD j 0) (hlt : xs.getD m 0 < ys.getD m 0) : bval xs < bval ys := by
  have h1 := bval_above' h
  rw [bval_take', bval_take'] at h1
  have h2 : bval (xs.take m) < bby ^ m := Nat.lt_of_lt_of_le (bval_lt (b_words_take hx m)) (Nat.pow_le_pow_right bby_pos (by rw [List.length_take]; omega))
  have h3 : bby ^ m * xs.getD m 0 + bby ^ m ≤ bby ^ m * ys.getD m 0 := by
    rw [← Nat.mul_succ]; exact Nat.mul_le_mul_left _ hlt
  omega
theorem cmpV_lt {a b : Nat} (h : a < b) : cmpV a b = -1 := if_pos h
theorem cmpV_gt {a b : Nat} (h : b < a) : cmpV a b = 1 := by unfold cmpV; rw [if_neg (by omega), if_pos h]
theorem cmpV_eq {a b : Nat} (h : a = b) : cmpV a b = 0 := by unfold cmpV; rw [if_neg (by omega), if_neg (by omega)]
set_option maxRecDepth 100000 in
set_option maxHeartbeats 4000000 in
theorem cmp07_any (w : World) (p q : Value) (xs ys : List Nat) (hp : URow w p xs) (hq : URow w q ys) (hx : Words xs) (hy : Words ys) : Calls Try.prog 58 #[p, q] w (Ret (.int .i64 (CmpR xs ys)) w) := by
  have HM1 := Lib.hid (may07_any w p xs hp)
  have HM2 := Lib.hid (fun W (h : Ext w W) => may07_any W q ys (hq.ext h))
  have HP := Lib.hid hp
  have HQ := Lib.hid hq
  obtain ⟨R, hR⟩ : ∃ R, CmpR xs ys = R := ⟨_, rfl⟩
  rw [hR]
  cases m1 : mayN xs with
  | false =>
    have HE := Lib.hid (show R = 0 by rw [← hR]; unfold CmpR; rw [m1]; rfl)
    rw [m1] at HM1
    clear hp hq hx hy m1 hR
    go_enter Try.func58, Try.ntmps58
    go_wp2_with fail
    refine HM1.out.mono ?_
    rintro e w1 ⟨rfl, h1⟩
    go_wp2
    go_ret
    exact ⟨ret_int HE.out.symm, h1⟩
  | true =>
    cases m2 : mayN ys with
    | false =>
      have HE := Lib.hid (show R = 0 by rw [← hR]; unfold CmpR; rw [m1, m2]; rfl)
      rw [m1] at HM1
      rw [m2] at HM2
      clear hp hq hx hy m1 m2 hR
      go_enter Try.func58, Try.ntmps58
      go_wp2_with fail
      refine HM1.out.mono ?_
      rintro e w1 ⟨rfl, h1⟩
      go_wp2_with fail
      refine (HM2.out w1 h1).mono ?_
      rintro e w2 ⟨rfl, h2⟩
      go_wp2
      go_ret
      exact ⟨ret_int HE.out.symm, h1.trans h2⟩
    | true =>
      have HE := Lib.hid (show cmpV (nval xs) (nval ys) = R by rw [← hR]; unfold CmpR; rw [m1, m2]; rfl)
      have HN := Lib.hid (And.intro (may_num hx m1) (may_num hy m2))
      rw [m1] at HM1
      rw [m2] at HM2
      clear hp hq hx hy m1 m2 hR
      go_enter Try.func58, Try.ntmps58
      go_wp2_with fail
      refine HM1.out.mono ?_
      rintro e w1 ⟨rfl, h1⟩
      go_wp2_with fail
      refine (HM2.out w1 h1).mono ?_
      rintro e w2 ⟨rfl, h2⟩
      have h02 := h1.trans h2
      clear h1 h2
      go_wp2_with fail
      refine (bytes_num w2 p (nval xs) ⟨xs, HP.out.ext h02, HN.out.1.1, rfl⟩ (lt256 HN.out.1.2)).mono ?_
      rintro e w3 ⟨v3, bs, rfl, g1, g2, g3, h3⟩
      go_wp2_with fail
      refine (bytes_num w3 q (nval ys) ⟨ys, HQ.out.ext (h02.trans h3), HN.out.2.1, rfl⟩ (lt256 HN.out.2.2)).mono ?_
      rintro e w2 ⟨v4, cs, rfl, k1, k2, k3, h4⟩
      have HX2 := Lib.hid ((h02.trans h3).trans h4)
      have HB := Lib.hid (And.intro (g1.ext h4) (And.intro g2 g3))
      have HC := Lib.hid (And.intro k1 (And.intro k2 k3))
      have HL := Lib.hid (show bs.length ≤ 512 ∧ cs.length ≤ 512 from ⟨(len512 g2).2 (by rw [g3]; exact HN.out.1.2), (len512 k2).2 (by rw [k3]; exact HN.out.2.2)⟩)
      obtain ⟨ba, bc, rfl⟩ := g1.slice
      obtain ⟨ca, cc, rfl⟩ := k1.slice
      clear g1 g2 g3 k1 k2 k3 h02 h3 h4 HM1 HM2 HP HQ
      have l1 : (bs.length : Int) ≤ 512 := by have := HL.out.1; omega
      have l2 : (cs.length : Int) ≤ 512 := by have := HL.out.2; omega
      by_cases hlt : bs.length < cs.length
      · have HMX := Lib.hid (show max bs.length cs.length = cs.length by omega)
        go_wp2_with fail
        clear hlt l1 l2
        go_loopw [7] (fun i W => Ext w2 W ∧ ∃ m : Nat, i = .int .i64 ((m : Int) - 1) ∧ Hid (m ≤ max bs.length cs.length ∧ ∀ j, m ≤ j → bs.getD j 0 = cs.getD j 0)) (fun i _ => (intOf i + 1).toNat)
        case atStart => exact ⟨Ext.refl _, max bs.length cs.length, by rw [HMX.out], Lib.hid ⟨Nat.le_refl _, fun j hj => by rw [getD_past bs j (by omega), getD_past cs j (by omega)]⟩⟩
        case round =>
          obtain ⟨hE, m, rfl, HH⟩ := hrel
          by_cases h0 : m = 0
          · subst h0
            have HV := Lib.hid (cmpV_eq (a := bval bs) (b := bval cs) (by have := bval_above' HH.out.2; rw [List.take_zero, List.take_zero] at this; exact Nat.add_right_cancel this))
            have HX := Lib.hid (HX2.out.trans hE)
            clear hE
            go_wp2
            go_ret
            exact ⟨ret_int (by rw [← HE.out, ← HB.out.2.2, ← HC.out.2.2, HV.out]), HX.out⟩
          · obtain ⟨j, rfl⟩ : ∃ j, m = j + 1 := ⟨m - 1, by omega⟩
            rw [show ((j + 1 : Nat) : Int) - 1 = (j : Int) by omega]
            have HJ := Lib.hid HH.out
            have A0 := Lib.hid (at07_any wr _ bs j (HB.out.1.ext hE) (Nat.le_trans HL.out.1 (by decide)))
            have A1 := Lib.hid (at07_any wr _ cs j (HC.out.1.ext hE) (Nat.le_trans HL.out.2 (by decide)))
            have hj : j ≤ 2000 := by have := HH.out.1; have := HL.out; omega
            have F1 := Lib.hid (fun h => bval_first (xs := bs) (ys := cs) (m := j) HB.out.2.1.1 HH.out.2 h)
            have F2 := Lib.hid (fun h => bval_first (xs := cs) (ys := bs) (m := j) HC.out.2.1.1 (fun i hi => (HH.out.2 i hi).symm) h)
            have F3 := Lib.hid (show bs.getD j 0 = cs.getD j 0 → ∀ i, j ≤ i → bs.getD i 0 = cs.getD i 0 from fun e i hi => by
              rcases Nat.eq_or_lt_of_le hi with h | h
              · rw [← h]; exact e
              · exact HH.out.2 i h)
            have HX := Lib.hid (HX2.out.trans hE)
            have HEX := Lib.hid hE
            generalize bs.getD j 0 = x at A0 F1 F2 F3
            generalize cs.getD j 0 = y at A1 F1 F2 F3
            clear h0 hE
            rcases Nat.lt_trichotomy x y with h | h | h
            · have HV := Lib.hid (cmpV_lt (F1.out h))
              go_wp2_with fail
              refine A0.out.mono ?_
              rintro e w3 ⟨rfl, rfl⟩
              go_wp2_with fail
              refine A1.out.mono ?_
              rintro e w3 ⟨rfl, rfl⟩
              go_wp2
              go_ret
              exact ⟨ret_int (by rw [← HE.out, ← HB.out.2.2, ← HC.out.2.2, HV.out]), HX.out⟩
            · subst h
              go_wp2_with fail
              refine A0.out.mono ?_
              rintro e w3 ⟨rfl, rfl⟩
              go_wp2_with fail
              refine A1.out.mono ?_
              rintro e w3 ⟨rfl, rfl⟩
              go_wp2_with fail
              refine A0.out.mono ?_
              rintro e w3 ⟨rfl, rfl⟩
              go_wp2_with fail
              refine A1.out.mono ?_
              rintro e w3 ⟨rfl, rfl⟩
              go_wp2
              go_roundw
              case rel => exact ⟨HEX.out, j, by first | rfl | go_num, Lib.hid ⟨Nat.le_of_succ_le HJ.out.1, F3.out trivial⟩⟩
              case measure => simp [intOf]
            · have HV := Lib.hid (cmpV_gt (F2.out h))
              have h1 : ¬ x < y := by omega
              go_wp2_with fail
              refine A0.out.mono ?_
              rintro e w3 ⟨rfl, rfl⟩
              go_wp2_with fail
              refine A1.out.mono ?_
              rintro e w3 ⟨rfl, rfl⟩
              go_wp2_with fail
              refine A0.out.mono ?_
              rintro e w3 ⟨rfl, rfl⟩
              go_wp2_with fail
              refine A1.out.mono ?_
              rintro e w3 ⟨rfl, rfl⟩
              go_wp2
              go_ret
              exact ⟨ret_int (by rw [← HE.out, ← HB.out.2.2, ← HC.out.2.2, HV.out]), HX.out⟩
      · have HMX := Lib.hid (show max bs.length cs.length = bs.length by omega)
        go_wp2_with fail
        clear hlt l1 l2
        go_loopw [7] (fun i W => Ext w2 W ∧ ∃ m : Nat, i = .int .i64 ((m : Int) - 1) ∧ Hid (m ≤ max bs.length cs.length ∧ ∀ j, m ≤ j → bs.getD j 0 = cs.getD j 0)) (fun i _ => (intOf i + 1).toNat)
        case atStart => exact ⟨Ext.refl _, max bs.length cs.length, by rw [HMX.out], Lib.hid ⟨Nat.le_refl _, fun j hj => by rw [getD_past bs j (by omega), getD_past cs j (by omega)]⟩⟩
        case round =>
          obtain ⟨hE, m, rfl, HH⟩ := hrel
          by_cases h0 : m = 0
          · subst h0
            have HV := Lib.hid (cmpV_eq (a := bval bs) (b := bval cs) (by have := bval_above' HH.out.2; rw [List.take_zero, List.take_zero] at this; exact Nat.add_right_cancel this))
            have HX := Lib.hid (HX2.out.trans hE)
            clear hE
            go_wp2
            go_ret
            exact ⟨ret_int (by rw [← HE.out, ← HB.out.2.2, ← HC.out.2.2, HV.out]), HX.out⟩
          · obtain ⟨j, rfl⟩ : ∃ j, m = j + 1 := ⟨m - 1, by omega⟩
            rw [show ((j + 1 : Nat) : Int) - 1 = (j : Int) by omega]
            have HJ := Lib.hid HH.out
            have A0 := Lib.hid (at07_any wr _ bs j (HB.out.1.ext hE) (Nat.le_trans HL.out.1 (by decide)))
            have A1 := Lib.hid (at07_any wr _ cs j (HC.out.1.ext hE) (Nat.le_trans HL.out.2 (by decide)))
            have hj : j ≤ 2000 := by have := HH.out.1; have := HL.out; omega
            have F1 := Lib.hid (fun h => bval_first (xs := bs) (ys := cs) (m := j) HB.out.2.1.1 HH.out.2 h)
            have F2 := Lib.hid (fun h => bval_first (xs := cs) (ys := bs) (m := j) HC.out.2.1.1 (fun i hi => (HH.out.2 i hi).symm) h)
            have F3 := Lib.hid (show bs.getD j 0 = cs.getD j 0 → ∀ i, j ≤ i → bs.getD i 0 = cs.getD i 0 from fun e i hi => by
              rcases Nat.eq_or_lt_of_le hi with h | h
              · rw [← h]; exact e
              · exact HH.out.2 i h)
            have HX := Lib.hid (HX2.out.trans hE)
            have HEX := Lib.hid hE
            generalize bs.getD j 0 = x at A0 F1 F2 F3
            generalize cs.getD j 0 = y at A1 F1 F2 F3
            clear h0 hE
            rcases Nat.lt_trichotomy x y with h | h | h
            · have HV := Lib.hid (cmpV_lt (F1.out h))
              go_wp2_with fail
              refine A0.out.mono ?_
              rintro e w3 ⟨rfl, rfl⟩
              go_wp2_with fail
              refine A1.out.mono ?_
              rintro e w3 ⟨rfl, rfl⟩
              go_wp2
              go_ret
              exact ⟨ret_int (by rw [← HE.out, ← HB.out.2.2, ← HC.out.2.2, HV.out]), HX.out⟩
            · subst h
              go_wp2_with fail
              refine A0.out.mono ?_
              rintro e w3 ⟨rfl, rfl⟩
              go_wp2_with fail
              refine A1.out.mono ?_
              rintro e w3 ⟨rfl, rfl⟩
              go_wp2_with fail
              refine A0.out.mono ?_
              rintro e w3 ⟨rfl, rfl⟩
              go_wp2_with fail
              refine A1.out.mono ?_
              rintro e w3 ⟨rfl, rfl⟩
              go_wp2
              go_roundw
              case rel => exact ⟨HEX.out, j, by first | rfl | go_num, Lib.hid ⟨Nat.le_of_succ_le HJ.out.1, F3.out trivial⟩⟩
              case measure => simp [intOf]
            · have HV := Lib.hid (cmpV_gt (F2.out h))
              have h1 : ¬ x < y := by omega
              go_wp2_with fail
              refine A0.out.mono ?_
              rintro e w3 ⟨rfl, rfl⟩
              go_wp2_with fail
              refine A1.out.mono ?_
              rintro e w3 ⟨rfl, rfl⟩
              go_wp2_with fail
              refine A0.out.mono ?_
              rintro e w3 ⟨rfl, rfl⟩
              go_wp2_with fail
              refine A1.out.mono ?_
              rintro e w3 ⟨rfl, rfl⟩
              go_wp2
              go_ret
              exact ⟨ret_int (by rw [← HE.out, ← HB.out.2.2, ← HC.out.2.2, HV.out]), HX.out⟩
end Go.Proofs.Ytejknkhahjgdnaa
