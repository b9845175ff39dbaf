/- joineryref07.Cmp. Numbers in ten-digits (plain). joineryref07.Text. joineryref07.Text walked. joineryref34: Height, fib, less, Least, within, Most, May. joineryref34: Least, within, Most, May. joineryref34: Most, May; joinerylaw34: least, alive. joinerylaw34: least, alive, BoundTells. joinerylaw34.BoundTells. joinerylaw07.NatPowers. joinerylaw34.BoundRises. look.goes: the going over a tree, from left to right, or from right to left. -/
import Derived.Test.YtejknkhahjgdnaaM6
import Derived.Laws.BytesArg
import Derived.BigQuiet
namespace Go.Proofs.Ytejknkhahjgdnaa
open Go Go.RowKit

theorem bval_above {xs ys : List Nat} {m : Nat} (h : ∀ j, m ≤ j → xs.getD j 0 = ys.getD j 0) (k : Nat) : bval (xs.take (m + k)) + bval (ys.take m) = bval (ys.take (m + k)) + bval (xs.take m) := by
  induction k with
  | zero => rw [Nat.add_zero, Nat.add_comm]
  | succ k ih =>
    rw [← Nat.add_assoc, bval_take', bval_take', h (m + k) (by omega)]
    omega
theorem bval_above' {xs ys : List Nat} {m : Nat} (h : ∀ j, m ≤ j → xs.getD j 0 = ys.getD j 0) : bval xs + bval (ys.take m) = bval ys + bval (xs.take m) := by
  have := bval_above h (max xs.length ys.length)
  rwa [bval_take_past xs (m + max xs.length ys.length) (by omega), bval_take_past ys (m + max xs.length ys.length) (by omega)] at this
theorem bval_first {xs ys : List Nat} {m : Nat} (hx : Byts xs) (h : ∀ j, m + 1 ≤ j → xs.getD j 0 = ys.getD j 0) (hlt : xs.getD m 0 < ys.getD m 0) : bval xs < bval ys := by
  have h1 := bval_above' h
  rw [bval_take', bval_take'] at h1
  have h2 : bval (xs.take m) < bby ^ m := Nat.lt_of_lt_of_le (bval_lt (b_words_take hx m)) (Nat.pow_le_pow_right bby_pos (by rw [List.length_take]; omega))
  have h3 : bby ^ m * xs.getD m 0 + bby ^ m ≤ bby ^ m * ys.getD m 0 := by
    rw [← Nat.mul_succ]; exact Nat.mul_le_mul_left _ hlt
  omega
theorem cmpV_lt {a b : Nat} (h : a < b) : cmpV a b = -1 := if_pos h
theorem cmpV_gt {a b : Nat} (h : b < a) : cmpV a b = 1 := by unfold cmpV; rw [if_neg (by omega), if_pos h]
theorem cmpV_eq {a b : Nat} (h : a = b) : cmpV a b = 0 := by unfold cmpV; rw [if_neg (by omega), if_neg (by omega)]
set_option maxRecDepth 100000 in
set_option maxHeartbeats 4000000 in
theorem cmp07_any (w : World) (p q : Value) (xs ys : List Nat) (hp : URow w p xs) (hq : URow w q ys) (hx : Words xs) (hy : Words ys) : Calls Try.prog 58 #[p, q] w (Ret (.int .i64 (CmpR xs ys)) w) := by
  have HM1 := Lib.hid (may07_any w p xs hp)
  have HM2 := Lib.hid (fun W (h : Ext w W) => may07_any W q ys (hq.ext h))
  have HP := Lib.hid hp
  have HQ := Lib.hid hq
  obtain ⟨R, hR⟩ : ∃ R, CmpR xs ys = R := ⟨_, rfl⟩
  rw [hR]
  cases m1 : mayN xs with
  | false =>
    have HE := Lib.hid (show R = 0 by rw [← hR]; unfold CmpR; rw [m1]; rfl)
    rw [m1] at HM1
    clear hp hq hx hy m1 hR
    go_enter Try.func58, Try.ntmps58
    go_wp2_with fail
    refine HM1.out.mono ?_
    rintro e w1 ⟨rfl, h1⟩
    go_wp2
    go_ret
    exact ⟨ret_int HE.out.symm, h1⟩
  | true =>
    cases m2 : mayN ys with
    | false =>
      have HE := Lib.hid (show R = 0 by rw [← hR]; unfold CmpR; rw [m1, m2]; rfl)
      rw [m1] at HM1
      rw [m2] at HM2
      clear hp hq hx hy m1 m2 hR
      go_enter Try.func58, Try.ntmps58
      go_wp2_with fail
      refine HM1.out.mono ?_
      rintro e w1 ⟨rfl, h1⟩
      go_wp2_with fail
      refine (HM2.out w1 h1).mono ?_
      rintro e w2 ⟨rfl, h2⟩
      go_wp2
      go_ret
      exact ⟨ret_int HE.out.symm, h1.trans h2⟩
    | true =>
      have HE := Lib.hid (show cmpV (nval xs) (nval ys) = R by rw [← hR]; unfold CmpR; rw [m1, m2]; rfl)
      have HN := Lib.hid (And.intro (may_num hx m1) (may_num hy m2))
      rw [m1] at HM1
      rw [m2] at HM2
      clear hp hq hx hy m1 m2 hR
      go_enter Try.func58, Try.ntmps58
      go_wp2_with fail
      refine HM1.out.mono ?_
      rintro e w1 ⟨rfl, h1⟩
      go_wp2_with fail
      refine (HM2.out w1 h1).mono ?_
      rintro e w2 ⟨rfl, h2⟩
      have h02 := h1.trans h2
      clear h1 h2
      go_wp2_with fail
      refine (bytes_num w2 p (nval xs) ⟨xs, HP.out.ext h02, HN.out.1.1, rfl⟩ (lt256 HN.out.1.2)).mono ?_
      rintro e w3 ⟨v3, bs, rfl, g1, g2, g3, h3⟩
      go_wp2_with fail
      refine (bytes_num w3 q (nval ys) ⟨ys, HQ.out.ext (h02.trans h3), HN.out.2.1, rfl⟩ (lt256 HN.out.2.2)).mono ?_
      rintro e w2 ⟨v4, cs, rfl, k1, k2, k3, h4⟩
      have HX2 := Lib.hid ((h02.trans h3).trans h4)
      have HB := Lib.hid (And.intro (g1.ext h4) (And.intro g2 g3))
      have HC := Lib.hid (And.intro k1 (And.intro k2 k3))
      have HL := Lib.hid (show bs.length ≤ 512 ∧ cs.length ≤ 512 from ⟨(len512 g2).2 (by rw [g3]; exact HN.out.1.2), (len512 k2).2 (by rw [k3]; exact HN.out.2.2)⟩)
      obtain ⟨ba, bc, rfl⟩ := g1.slice
      obtain ⟨ca, cc, rfl⟩ := k1.slice
      clear g1 g2 g3 k1 k2 k3 h02 h3 h4 HM1 HM2 HP HQ
      have l1 : (bs.length : Int) ≤ 512 := by have := HL.out.1; omega
      have l2 : (cs.length : Int) ≤ 512 := by have := HL.out.2; omega
      by_cases hlt : bs.length < cs.length
      · have HMX := Lib.hid (show max bs.length cs.length = cs.length by omega)
        go_wp2_with fail
        clear hlt l1 l2
        go_loopw [7] (fun i W => Ext w2 W ∧ ∃ m : Nat, i = .int .i64 ((m : Int) - 1) ∧ Hid (m ≤ max bs.length cs.length ∧ ∀ j, m ≤ j → bs.getD j 0 = cs.getD j 0)) (fun i _ => (intOf i + 1).toNat)
        case atStart => exact ⟨Ext.refl _, max bs.length cs.length, by rw [HMX.out], Lib.hid ⟨Nat.le_refl _, fun j hj => by rw [getD_past bs j (by omega), getD_past cs j (by omega)]⟩⟩
        case round =>
          obtain ⟨hE, m, rfl, HH⟩ := hrel
          by_cases h0 : m = 0
          · subst h0
            have HV := Lib.hid (cmpV_eq (a := bval bs) (b := bval cs) (by have := bval_above' HH.out.2; rw [List.take_zero, List.take_zero] at this; exact Nat.add_right_cancel this))
            have HX := Lib.hid (HX2.out.trans hE)
            clear hE
            go_wp2
            go_ret
            exact ⟨ret_int (by rw [← HE.out, ← HB.out.2.2, ← HC.out.2.2, HV.out]), HX.out⟩
          · obtain ⟨j, rfl⟩ : ∃ j, m = j + 1 := ⟨m - 1, by omega⟩
            rw [show ((j + 1 : Nat) : Int) - 1 = (j : Int) by omega]
            have HJ := Lib.hid HH.out
            have A0 := Lib.hid (at07_any wr _ bs j (HB.out.1.ext hE) (Nat.le_trans HL.out.1 (by decide)))
            have A1 := Lib.hid (at07_any wr _ cs j (HC.out.1.ext hE) (Nat.le_trans HL.out.2 (by decide)))
            have hj : j ≤ 2000 := by have := HH.out.1; have := HL.out; omega
            have F1 := Lib.hid (fun h => bval_first (xs := bs) (ys := cs) (m := j) HB.out.2.1.1 HH.out.2 h)
            have F2 := Lib.hid (fun h => bval_first (xs := cs) (ys := bs) (m := j) HC.out.2.1.1 (fun i hi => (HH.out.2 i hi).symm) h)
            have F3 := Lib.hid (show bs.getD j 0 = cs.getD j 0 → ∀ i, j ≤ i → bs.getD i 0 = cs.getD i 0 from fun e i hi => by
              rcases Nat.eq_or_lt_of_le hi with h | h
              · rw [← h]; exact e
              · exact HH.out.2 i h)
            have HX := Lib.hid (HX2.out.trans hE)
            have HEX := Lib.hid hE
            generalize bs.getD j 0 = x at A0 F1 F2 F3
            generalize cs.getD j 0 = y at A1 F1 F2 F3
            clear h0 hE
            rcases Nat.lt_trichotomy x y with h | h | h
            · have HV := Lib.hid (cmpV_lt (F1.out h))
              go_wp2_with fail
              refine A0.out.mono ?_
              rintro e w3 ⟨rfl, rfl⟩
              go_wp2_with fail
              refine A1.out.mono ?_
              rintro e w3 ⟨rfl, rfl⟩
              go_wp2
              go_ret
              exact ⟨ret_int (by rw [← HE.out, ← HB.out.2.2, ← HC.out.2.2, HV.out]), HX.out⟩
            · subst h
              go_wp2_with fail
              refine A0.out.mono ?_
              rintro e w3 ⟨rfl, rfl⟩
              go_wp2_with fail
              refine A1.out.mono ?_
              rintro e w3 ⟨rfl, rfl⟩
              go_wp2_with fail
              refine A0.out.mono ?_
              rintro e w3 ⟨rfl, rfl⟩
              go_wp2_with fail
              refine A1.out.mono ?_
              rintro e w3 ⟨rfl, rfl⟩
              go_wp2
              go_roundw
              case rel => exact ⟨HEX.out, j, by first | rfl | go_num, Lib.hid ⟨Nat.le_of_succ_le HJ.out.1, F3.out trivial⟩⟩
              case measure => simp [intOf]
            · have HV := Lib.hid (cmpV_gt (F2.out h))
              have h1 : ¬ x < y := by omega
              go_wp2_with fail
              refine A0.out.mono ?_
              rintro e w3 ⟨rfl, rfl⟩
              go_wp2_with fail
              refine A1.out.mono ?_
              rintro e w3 ⟨rfl, rfl⟩
              go_wp2_with fail
              refine A0.out.mono ?_
              rintro e w3 ⟨rfl, rfl⟩
              go_wp2_with fail
              refine A1.out.mono ?_
              rintro e w3 ⟨rfl, rfl⟩
              go_wp2
              go_ret
              exact ⟨ret_int (by rw [← HE.out, ← HB.out.2.2, ← HC.out.2.2, HV.out]), HX.out⟩
      · have HMX := Lib.hid (show max bs.length cs.length = bs.length by omega)
        go_wp2_with fail
        clear hlt l1 l2
        go_loopw [7] (fun i W => Ext w2 W ∧ ∃ m : Nat, i = .int .i64 ((m : Int) - 1) ∧ Hid (m ≤ max bs.length cs.length ∧ ∀ j, m ≤ j → bs.getD j 0 = cs.getD j 0)) (fun i _ => (intOf i + 1).toNat)
        case atStart => exact ⟨Ext.refl _, max bs.length cs.length, by rw [HMX.out], Lib.hid ⟨Nat.le_refl _, fun j hj => by rw [getD_past bs j (by omega), getD_past cs j (by omega)]⟩⟩
        case round =>
          obtain ⟨hE, m, rfl, HH⟩ := hrel
          by_cases h0 : m = 0
          · subst h0
            have HV := Lib.hid (cmpV_eq (a := bval bs) (b := bval cs) (by have := bval_above' HH.out.2; rw [List.take_zero, List.take_zero] at this; exact Nat.add_right_cancel this))
            have HX := Lib.hid (HX2.out.trans hE)
            clear hE
            go_wp2
            go_ret
            exact ⟨ret_int (by rw [← HE.out, ← HB.out.2.2, ← HC.out.2.2, HV.out]), HX.out⟩
          · obtain ⟨j, rfl⟩ : ∃ j, m = j + 1 := ⟨m - 1, by omega⟩
            rw [show ((j + 1 : Nat) : Int) - 1 = (j : Int) by omega]
            have HJ := Lib.hid HH.out
            have A0 := Lib.hid (at07_any wr _ bs j (HB.out.1.ext hE) (Nat.le_trans HL.out.1 (by decide)))
            have A1 := Lib.hid (at07_any wr _ cs j (HC.out.1.ext hE) (Nat.le_trans HL.out.2 (by decide)))
            have hj : j ≤ 2000 := by have := HH.out.1; have := HL.out; omega
            have F1 := Lib.hid (fun h => bval_first (xs := bs) (ys := cs) (m := j) HB.out.2.1.1 HH.out.2 h)
            have F2 := Lib.hid (fun h => bval_first (xs := cs) (ys := bs) (m := j) HC.out.2.1.1 (fun i hi => (HH.out.2 i hi).symm) h)
            have F3 := Lib.hid (show bs.getD j 0 = cs.getD j 0 → ∀ i, j ≤ i → bs.getD i 0 = cs.getD i 0 from fun e i hi => by
              rcases Nat.eq_or_lt_of_le hi with h | h
              · rw [← h]; exact e
              · exact HH.out.2 i h)
            have HX := Lib.hid (HX2.out.trans hE)
            have HEX := Lib.hid hE
            generalize bs.getD j 0 = x at A0 F1 F2 F3
            generalize cs.getD j 0 = y at A1 F1 F2 F3
            clear h0 hE
            rcases Nat.lt_trichotomy x y with h | h | h
            · have HV := Lib.hid (cmpV_lt (F1.out h))
              go_wp2_with fail
              refine A0.out.mono ?_
              rintro e w3 ⟨rfl, rfl⟩
              go_wp2_with fail
              refine A1.out.mono ?_
              rintro e w3 ⟨rfl, rfl⟩
              go_wp2
              go_ret
              exact ⟨ret_int (by rw [← HE.out, ← HB.out.2.2, ← HC.out.2.2, HV.out]), HX.out⟩
            · subst h
              go_wp2_with fail
              refine A0.out.mono ?_
              rintro e w3 ⟨rfl, rfl⟩
              go_wp2_with fail
              refine A1.out.mono ?_
              rintro e w3 ⟨rfl, rfl⟩
              go_wp2_with fail
              refine A0.out.mono ?_
              rintro e w3 ⟨rfl, rfl⟩
              go_wp2_with fail
              refine A1.out.mono ?_
              rintro e w3 ⟨rfl, rfl⟩
              go_wp2
              go_roundw
              case rel => exact ⟨HEX.out, j, by first | rfl | go_num, Lib.hid ⟨Nat.le_of_succ_le HJ.out.1, F3.out trivial⟩⟩
              case measure => simp [intOf]
            · have HV := Lib.hid (cmpV_gt (F2.out h))
              have h1 : ¬ x < y := by omega
              go_wp2_with fail
              refine A0.out.mono ?_
              rintro e w3 ⟨rfl, rfl⟩
              go_wp2_with fail
              refine A1.out.mono ?_
              rintro e w3 ⟨rfl, rfl⟩
              go_wp2_with fail
              refine A0.out.mono ?_
              rintro e w3 ⟨rfl, rfl⟩
              go_wp2_with fail
              refine A1.out.mono ?_
              rintro e w3 ⟨rfl, rfl⟩
              go_wp2
              go_ret
              exact ⟨ret_int (by rw [← HE.out, ← HB.out.2.2, ← HC.out.2.2, HV.out]), HX.out⟩
end Go.Proofs.Ytejknkhahjgdnaa
namespace Go.Proofs.Ytejknkhahjgdnaa

/-- the base. -/
def ten : Nat := 10
theorem ten_pos : 0 < ten := by decide
def tval : List Nat → Nat
  | [] => 0
  | d :: ds => d + ten * tval ds
/-- all words are less than the base. -/
def Tens (xs : List Nat) : Prop := ∀ d ∈ xs, d < ten
/-- a number as it should be: no nought at its end. -/
def TNorm (xs : List Nat) : Prop := Tens xs ∧ (xs = [] ∨ xs.getD (xs.length - 1) 0 ≠ 0)
theorem tval_append : ∀ (xs ys : List Nat), tval (xs ++ ys) = tval xs + ten ^ xs.length * tval ys
  | [], ys => by simp [tval]
  | x :: xs, ys => by
    rw [List.cons_append, tval, tval, tval_append xs ys, List.length_cons, Nat.pow_succ, Nat.mul_add, Nat.mul_comm (ten ^ xs.length) ten, Nat.mul_assoc, Nat.add_assoc]
theorem tval_lt : ∀ {xs : List Nat}, Tens xs → tval xs < ten ^ xs.length
  | [], _ => by simp [tval]
  | x :: xs, h => by
    have h1 := tval_lt (xs := xs) (fun d hd => h d (List.mem_cons_of_mem _ hd))
    have h2 := h x (List.mem_cons_self ..)
    rw [tval, List.length_cons, Nat.pow_succ]
    have h3 : ten * (tval xs + 1) ≤ ten * ten ^ xs.length := Nat.mul_le_mul_left _ h1
    rw [Nat.mul_comm (ten ^ xs.length), Nat.mul_add] at *
    omega
theorem tval_zero : ∀ {xs : List Nat}, (∀ d ∈ xs, d = 0) → tval xs = 0
  | [], _ => rfl
  | x :: xs, h => by rw [tval, h x (List.mem_cons_self ..), tval_zero (fun d hd => h d (List.mem_cons_of_mem _ hd))]; rfl
theorem t_words_tail {x : Nat} {xs : List Nat} (h : Tens (x :: xs)) : Tens xs := fun d hd => h d (List.mem_cons_of_mem _ hd)
theorem t_norm_tail {x : Nat} {xs : List Nat} (h : TNorm (x :: xs)) : TNorm xs := by
  refine ⟨t_words_tail h.1, ?_⟩
  cases xs with
  | nil => exact .inl rfl
  | cons y ys =>
    rcases h.2 with h | h
    · cases h
    · right
      simpa using h
theorem t_norm_zero {xs : List Nat} (h : TNorm xs) (h0 : tval xs = 0) : xs = [] := by
  induction xs with
  | nil => rfl
  | cons x xs ih =>
    exfalso
    rw [tval] at h0
    have hb := ten_pos
    have hx : x = 0 := by omega
    have h1 : tval xs = 0 := by
      rcases Nat.eq_zero_or_pos (tval xs) with h | h
      · exact h
      · have := Nat.mul_le_mul_left ten h
        omega
    have h2 := ih (t_norm_tail h) h1
    subst h2
    rcases h.2 with h | h
    · cases h
    · simp [hx] at h
theorem t_norm_inj : ∀ {xs ys : List Nat}, TNorm xs → TNorm ys → tval xs = tval ys → xs = ys
  | [], ys, _, hy, e => (t_norm_zero hy e.symm).symm
  | x :: xs, [], hx, _, e => t_norm_zero hx e
  | x :: xs, y :: ys, hx, hy, e => by
    have h1 := hx.1 x (List.mem_cons_self ..)
    have h2 := hy.1 y (List.mem_cons_self ..)
    rw [tval, tval] at e
    have e1 : x = y := by
      have := congrArg (· % ten) e
      simpa [Nat.add_mul_mod_self_left, Nat.mod_eq_of_lt h1, Nat.mod_eq_of_lt h2] using this
    subst e1
    have e2 : tval xs = tval ys := Nat.eq_of_mul_eq_mul_left ten_pos (by omega)
    rw [t_norm_inj (t_norm_tail hx) (t_norm_tail hy) e2]
theorem t_norm_low : ∀ {xs : List Nat}, TNorm xs → xs ≠ [] → ten ^ (xs.length - 1) ≤ tval xs
  | [], _, h => absurd rfl h
  | [x], h, _ => by
    rcases h.2 with h | h
    · cases h
    · simp [tval] at h ⊢; omega
  | x :: y :: ys, h, _ => by
    have h1 := t_norm_low (t_norm_tail h) (by simp)
    rw [tval]
    simp only [List.length_cons, Nat.add_sub_cancel] at h1 ⊢
    rw [Nat.pow_succ, Nat.mul_comm]
    exact Nat.le_trans (Nat.mul_le_mul_left ten h1) (Nat.le_add_left _ _)
/-- how long a number is. -/
theorem t_norm_len {xs : List Nat} (h : TNorm xs) (k : Nat) : xs.length ≤ k ↔ tval xs < ten ^ k := by
  constructor
  · intro hk
    exact Nat.lt_of_lt_of_le (tval_lt h.1) (Nat.pow_le_pow_right ten_pos hk)
  · intro hk
    rcases Nat.lt_or_ge k xs.length with h1 | h1
    · exfalso
      have h2 := t_norm_low h (by intro e; subst e; simp at h1)
      have h3 : ten ^ k ≤ ten ^ (xs.length - 1) := Nat.pow_le_pow_right ten_pos (by omega)
      omega
    · exact h1
theorem tval_take (xs : List Nat) (k : Nat) (hk : k < xs.length) : tval (xs.take (k + 1)) = tval (xs.take k) + ten ^ k * xs.getD k 0 := by
  have hz : xs[k]? = some (xs.getD k 0) := by rw [List.getD_eq_getElem?_getD, List.getElem?_eq_getElem hk]; rfl
  rw [List.take_add_one, hz, tval_append, List.length_take, Nat.min_eq_left (Nat.le_of_lt hk)]
  simp [tval]
theorem tval_take_past (xs : List Nat) (k : Nat) (hk : xs.length ≤ k) : tval (xs.take k) = tval xs := by rw [List.take_of_length_le hk]
/-- the same, past the end as well. -/
theorem tval_take' (xs : List Nat) (k : Nat) : tval (xs.take (k + 1)) = tval (xs.take k) + ten ^ k * xs.getD k 0 := by
  rcases Nat.lt_or_ge k xs.length with h | h
  · exact tval_take xs k h
  · rw [tval_take_past xs k h, tval_take_past xs (k + 1) (by omega), getD_past xs k h, Nat.mul_zero, Nat.add_zero]
theorem tval_set : ∀ (xs : List Nat) (k d : Nat), k < xs.length → tval (xs.set k d) + ten ^ k * xs.getD k 0 = tval xs + ten ^ k * d
  | [], k, _, h => by simp at h
  | x :: xs, 0, d, _ => by simp [tval]; omega
  | x :: xs, k + 1, d, h => by
    have ih := tval_set xs k d (by simpa using h)
    rw [List.set_cons_succ, tval, tval, List.getD_cons_succ, Nat.pow_succ, Nat.mul_comm (ten ^ k) ten, Nat.mul_assoc, Nat.mul_assoc]
    have := congrArg (ten * ·) ih
    simp only [Nat.mul_add] at this
    omega
theorem t_words_set {xs : List Nat} {k d : Nat} (h : Tens xs) (hd : d < ten) : Tens (xs.set k d) := fun y hy => by
  rcases List.mem_or_eq_of_mem_set hy with h1 | h1
  · exact h y h1
  · rw [h1]; exact hd
theorem t_words_getD {xs : List Nat} (h : Tens xs) (k : Nat) : xs.getD k 0 < ten := by
  rcases Nat.lt_or_ge k xs.length with hk | hk
  · rw [List.getD_eq_getElem?_getD, List.getElem?_eq_getElem hk]; exact h _ (List.getElem_mem hk)
  · rw [getD_past xs k hk]; exact ten_pos
theorem t_words_take {xs : List Nat} (h : Tens xs) (k : Nat) : Tens (xs.take k) := fun d hd => h d (List.mem_of_mem_take hd)
/-- what trim leaves. -/
theorem t_trim_norm {xs : List Nat} (h : Tens xs) {k : Nat} (hk : k ≤ xs.length) (h0 : ∀ j, k ≤ j → xs.getD j 0 = 0) (h1 : k = 0 ∨ xs.getD (k - 1) 0 ≠ 0) : TNorm (xs.take k) ∧ tval (xs.take k) = tval xs := by
  refine ⟨⟨t_words_take h k, ?_⟩, ?_⟩
  · rcases h1 with h1 | h1
    · left; rw [h1]; rfl
    · by_cases hk0 : k = 0
      · left; rw [hk0]; rfl
      · right
        rw [List.length_take, Nat.min_eq_left hk, List.getD_eq_getElem?_getD, List.getElem?_take, if_pos (by omega), ← List.getD_eq_getElem?_getD]
        exact h1
  · have e : tval xs = tval (xs.take k ++ xs.drop k) := by rw [List.take_append_drop]
    rw [e, tval_append, tval_zero (xs := xs.drop k), Nat.mul_zero, Nat.add_zero]
    intro d hd
    obtain ⟨j, hj, e⟩ := List.getElem_of_mem hd
    have := h0 (k + j) (by omega)
    rw [List.getElem_drop] at e
    rw [← e]
    rw [List.getD_eq_getElem?_getD, List.getElem?_eq_getElem (by simp at hj; omega)] at this
    exact this
/-- digits without a nought at their end, but for the one digit. -/
def Dec (ds : List Nat) : Prop := Tens ds ∧ ds ≠ [] ∧ (ds.length = 1 ∨ ten ^ (ds.length - 1) ≤ tval ds)
theorem dec_decs : ∀ {ds : List Nat}, Dec ds → ds = decs (tval ds)
  | [], h => absurd rfl h.2.1
  | [d], h => by
    have hd : d < 10 := h.1 d (by simp)
    rw [decs_eq, show tval [d] = d by simp [tval], if_pos hd]
  | d :: e :: es, h => by
    have hd : d < 10 := h.1 d (by simp)
    have h3 : ten ^ (es.length + 1) ≤ d + ten * tval (e :: es) := by
      rcases h.2.2 with h | h
      · simp at h
      · simpa [tval] using h
    have hge : ten ^ es.length ≤ tval (e :: es) := by
      rcases Nat.lt_or_ge (tval (e :: es)) (ten ^ es.length) with h4 | h4
      · exfalso
        have h5 : ten * (tval (e :: es) + 1) ≤ ten * ten ^ es.length := Nat.mul_le_mul_left _ h4
        rw [Nat.mul_add] at h5
        rw [Nat.pow_succ, Nat.mul_comm (ten ^ es.length)] at h3
        have : ten = 10 := rfl
        omega
      · exact h4
    have hpos : 0 < tval (e :: es) := Nat.lt_of_lt_of_le (Nat.pow_pos ten_pos) hge
    have ih := dec_decs (ds := e :: es) ⟨t_words_tail h.1, by simp, .inr (by simpa using hge)⟩
    have e1 : tval (d :: e :: es) = d + 10 * tval (e :: es) := rfl
    rw [decs_eq, e1, if_neg (by omega), show (d + 10 * tval (e :: es)) % 10 = d by omega, show (d + 10 * tval (e :: es)) / 10 = tval (e :: es) by omega, ← ih]
end Go.Proofs.Ytejknkhahjgdnaa
namespace Go.Proofs.Ytejknkhahjgdnaa
open Go Go.RowKit

/-- what holds while a byte is added. -/
structure TxIn (T L0 : Nat) (es : List Nat) (kk cc : Nat) : Prop where
  tens : Tens es
  sum : tval (es.take kk) + ten ^ kk * (cc + 256 * tval (es.drop kk)) = T
  klen : kk ≤ es.length
  l0 : L0 ≤ es.length
  car : cc * 10 ^ (es.length - L0) ≤ 255
  top : es.length = L0 ∨ (kk = es.length ∧ (0 < cc ∨ ten ^ (es.length - 1) ≤ tval es))
  len3 : es.length ≤ L0 + 3
theorem TxIn.cc_le {T L0 kk cc : Nat} {es : List Nat} (h : TxIn T L0 es kk cc) : cc ≤ 255 := by
  have h1 := h.car
  have h2 : cc * 1 ≤ cc * 10 ^ (es.length - L0) := Nat.mul_le_mul_left _ (Nat.pow_pos (by decide))
  omega
theorem TxIn.len {T L0 cc kk : Nat} {es : List Nat} (h : TxIn T L0 es kk cc) (h0 : kk < es.length ∨ 0 < cc) : es.length ≤ L0 + 2 := by
  rcases h.top with h1 | ⟨h1, _⟩
  · omega
  · have h2 : 0 < cc := by omega
    rcases Nat.lt_or_ge (L0 + 2) es.length with h3 | h3
    · exfalso
      have h4 := h.car
      have h5 : 10 ^ 3 ≤ 10 ^ (es.length - L0) := Nat.pow_le_pow_right (by decide) (by omega)
      have h6 : 1 * 10 ^ (es.length - L0) ≤ cc * 10 ^ (es.length - L0) := Nat.mul_le_mul_right _ h2
      omega
    · exact h3
theorem drop_cons_getD {es : List Nat} {k : Nat} (h : k < es.length) : es.drop k = es.getD k 0 :: es.drop (k + 1) := by
  rw [List.drop_eq_getElem_cons h, List.getD_eq_getElem?_getD, List.getElem?_eq_getElem h]; rfl
theorem tx_sum {A P s R : Nat} : A + P * (s % 10) + P * 10 * (s / 10 + 256 * R) = A + P * (s + 256 * (10 * R)) := by
  rw [Nat.add_assoc, Nat.mul_assoc, ← Nat.mul_add]
  congr 2
  omega
theorem TxIn.stepA {T L0 kk cc : Nat} {es : List Nat} (h : TxIn T L0 es kk cc) (hk : kk < es.length) :
    TxIn T L0 (es.set kk ((es.getD kk 0 * 256 + cc) % 10)) (kk + 1) ((es.getD kk 0 * 256 + cc) / 10) := by
  have hd : es.getD kk 0 < 10 := t_words_getD h.tens kk
  have hc := h.cc_le
  have hL : es.length = L0 := by
    rcases h.top with h1 | h1
    · exact h1
    · omega
  have hs := h.sum
  generalize hv : es.getD kk 0 * 256 + cc = s
  refine ⟨t_words_set h.tens (Nat.mod_lt _ (by decide)), ?_, by rw [List.length_set]; exact hk, by rw [List.length_set]; exact h.l0, ?_, by rw [List.length_set]; exact .inl hL, by rw [List.length_set]; exact h.len3⟩
  · have e1 : (es.set kk (s % 10)).drop (kk + 1) = es.drop (kk + 1) := by
      rw [List.drop_set]; simp
    have e2 : (es.set kk (s % 10)).take kk = es.take kk := by
      rw [List.take_set]
      rw [List.set_eq_of_length_le (by rw [List.length_take]; omega)]
    have e3 : (es.set kk (s % 10)).getD kk 0 = s % 10 := by simp [List.getD_eq_getElem?_getD, hk]
    rw [tval_take', e1, e2, e3, Nat.pow_succ]
    rw [drop_cons_getD hk, tval] at hs
    rw [show ten = 10 from rfl] at *
    have e5 : s + 256 * (10 * tval (es.drop (kk + 1))) = cc + 256 * (es.getD kk 0 + 10 * tval (es.drop (kk + 1))) := by omega
    rw [tx_sum, e5]
    exact hs
  · rw [List.length_set, hL, Nat.sub_self, Nat.pow_zero]
    omega
theorem TxIn.stepB {T L0 cc : Nat} {es : List Nat} (h : TxIn T L0 es es.length cc) (hcc : 0 < cc) :
    TxIn T L0 (es ++ [cc % 10]) (es.length + 1) (cc / 10) := by
  have hs := h.sum
  have ht : tval (es ++ [cc % 10]) = tval es + ten ^ es.length * (cc % 10) := by rw [tval_append]; simp [tval]
  refine ⟨fun d hd => ?_, ?_, by simp, by have := h.l0; simp; omega, ?_, .inr ⟨by simp, ?_⟩, by have := h.len (.inr hcc); simp; omega⟩
  · rcases List.mem_append.1 hd with h1 | h1
    · exact h.tens d h1
    · rw [List.mem_singleton.1 h1]; exact Nat.mod_lt _ (by decide)
  · rw [List.take_of_length_le (by simp), List.drop_eq_nil_of_le (by simp), ht, Nat.pow_succ, show ten = 10 from rfl, tx_sum, ← hs, List.take_length, List.drop_length]
    simp [tval]
    rfl
  · rw [List.length_append, List.length_singleton]
    have h1 := h.car
    have h2 := h.l0
    rw [show es.length + 1 - L0 = (es.length - L0) + 1 by omega, Nat.pow_succ]
    have h3 : cc / 10 * (10 ^ (es.length - L0) * 10) ≤ cc * 10 ^ (es.length - L0) := by
      rw [Nat.mul_comm (10 ^ (es.length - L0)), ← Nat.mul_assoc]
      exact Nat.mul_le_mul_right _ (Nat.div_mul_le_self cc 10)
    omega
  · by_cases h0 : 0 < cc / 10
    · exact .inl h0
    · right
      rw [ht, List.length_append, List.length_singleton, Nat.add_sub_cancel]
      have : ten ^ es.length * 1 ≤ ten ^ es.length * (cc % 10) := Nat.mul_le_mul_left _ (by omega)
      omega
theorem TxIn.done {T L0 kk : Nat} {es : List Nat} (h : TxIn T L0 es kk 0) (hk : ¬ kk < es.length) (h1 : 1 ≤ L0) (hT : L0 = 1 ∨ ten ^ (L0 - 1) ≤ T) : tval es = T ∧ Dec es := by
  have hs := h.sum
  have hke : kk = es.length := Nat.le_antisymm h.klen (Nat.le_of_not_lt hk)
  rw [hke, List.take_length, List.drop_length] at hs
  have e : tval es = T := by simpa [tval] using hs
  have hl := h.l0
  refine ⟨e, h.tens, fun e => by rw [e] at hl; simp at hl; omega, ?_⟩
  rcases h.top with h2 | ⟨_, h2⟩
  · rw [h2, e]; exact hT
  · rcases h2 with h2 | h2
    · exact absurd h2 (Nat.lt_irrefl _)
    · exact .inr h2
/-- an element of a row of one's own. -/
theorem IOwn.at {B : Nat} {w : World} {v : Value} {zs : List Nat} (h : IOwn B w v zs) {k : Nat} (hk : k < zs.length) :
    ∃ g c, v = .slice (some ⟨g, 0, none⟩) zs.length c ∧ B ≤ g ∧ zs.length ≤ c ∧ w.cell? ⟨g, k, none⟩ = some (.int .i64 (zs.getD k 0 : Nat)) ∧ w.frozen? ⟨g, k, none⟩ = false ∧ ∀ d : Nat, IOwn B (w.setCell ⟨g, k, none⟩ (.int .i64 (d : Nat))) v (zs.set k d) := by
  obtain ⟨h1, ⟨rfl, h0⟩ | ⟨g, cap, cur, rfl, hb, hg, hc, hm, hs, ht⟩⟩ := h
  · omega
  · rw [Nat.mul_one] at hs ht
    have hcur : cur.toList[k]? = some (i64 (zs.getD k 0)) := by
      have e1 : (cur.toList.take zs.length)[k]? = cur.toList[k]? := by rw [List.getElem?_take, if_pos hk]
      rw [← e1, ht, List.getElem?_map, List.getD_eq_getElem?_getD, List.getElem?_eq_getElem hk]; rfl
    refine ⟨g, cap, rfl, hb, hc, ?_, frozen_of hg k, fun d => ?_⟩
    · rw [cell_of hg k]
      simpa [i64] using hcur
    · refine ⟨by simp, .inr ⟨g, cap, cur.setIfInBounds k (.int .i64 (d : Nat)), by rw [List.length_set], hb, ?_, by rw [List.length_set]; exact hc, hm, by simpa using hs, ?_⟩⟩
      · simp only [World.setCell, Array.getElem?_modify, hg]
        simp
      · rw [List.length_set, Nat.mul_one, Array.toList_setIfInBounds, List.take_set, ht, List.map_set]
        rfl
end Go.Proofs.Ytejknkhahjgdnaa
namespace Go.Proofs.Ytejknkhahjgdnaa
open Go Go.RowKit

/-- the state of the outer loop. -/
def TxtSt (w2 : World) (bs : List Nat) (v i : Value) (W : World) : Prop :=
  ∃ (ds : List Nat) (m : Nat), i = .int .i64 ((m : Int) - 1) ∧ IOwn w2.heap.size W v ds ∧ Ext w2 W ∧ Hid (m ≤ bs.length ∧ Dec ds ∧ tval ds = bval (bs.drop m) ∧ ds.length + 3 * m ≤ 1 + 3 * bs.length)
/-- the state of the inner loop. -/
def TxtIn (w2 : World) (T L0 : Nat) (v c k : Value) (W : World) : Prop :=
  ∃ (es : List Nat) (kk cc : Nat), c = .int .i64 (cc : Nat) ∧ k = .int .i64 (kk : Nat) ∧ IOwn w2.heap.size W v es ∧ Ext w2 W ∧ Hid (TxIn T L0 es kk cc)
def txm (L0 : Nat) (c k : Value) : Nat := (L0 - (intOf k).toNat) * 1000 + (intOf c).toNat
theorem txm_a {L0 kk cc c' : Nat} (h : kk < L0) (hc' : c' ≤ 255) : txm L0 (.int .i64 (c' : Nat)) (.int .i64 ((kk + 1 : Nat) : Int)) < txm L0 (.int .i64 (cc : Nat)) (.int .i64 (kk : Nat)) := by
  show (L0 - (kk + 1)) * 1000 + c' < (L0 - kk) * 1000 + cc
  omega
theorem txm_b {L0 kk cc c' : Nat} (h : L0 ≤ kk) (hc' : c' < cc) : txm L0 (.int .i64 (c' : Nat)) (.int .i64 ((kk + 1 : Nat) : Int)) < txm L0 (.int .i64 (cc : Nat)) (.int .i64 (kk : Nat)) := by
  show (L0 - (kk + 1)) * 1000 + c' < (L0 - kk) * 1000 + cc
  omega
/-- digits, the highest one first, as a text. -/
def strD (ds : List Nat) : ByteArray := strOfNums (ds.reverse.map (fun d => ((48 + d : Nat) : Int)))
theorem strD_snoc {ds : List Nat} {j : Nat} (h : j < ds.length) : strD (ds.drop (j + 1)) ++ strOfNums [((48 + ds.getD j 0 : Nat) : Int)] = strD (ds.drop j) := by
  rw [drop_cons_getD h]
  unfold strD strOfNums
  apply ByteArray.ext
  simp
end Go.Proofs.Ytejknkhahjgdnaa
namespace Go.Proofs.Ytejknkhahjgdnaa
open Go Go.RowKit

set_option maxRecDepth 100000 in
set_option maxHeartbeats 1000000 in
theorem height34_any (w : World) (s h M : Int) (hM : M = 1099511627776) : Calls Try.prog 12 #[.int .u8 s, .int .i64 h] w fun e w' => e = .returned (.bool (okH s h)) ∧ w = w' := by
  have hund : undef = Value.tuple #[] := rfl
  by_cases h4 : s = 4
  · subst h4
    have e : okH 4 h = (decide (0 ≤ h) && decide (h ≤ M)) := by unfold okH; rw [if_pos rfl, hM]
    rw [e]
    by_cases h0 : 0 ≤ h
    · rw [decide_eq_true h0]
      clear e
      go_enter Try.func12, Try.ntmps12
      rw [← hM]
      clear hM
      go_wp2
      go_ret
      exact ⟨rfl, rfl⟩
    · rw [decide_eq_false h0]
      clear e
      go_enter Try.func12, Try.ntmps12
      rw [← hM]
      clear hM
      go_wp2
      go_ret
      exact ⟨rfl, rfl⟩
  · have e : okH s h = (decide (1 ≤ s) && decide (s ≤ 3) && decide (0 ≤ h) && decide (h ≤ 100)) := by unfold okH; rw [if_neg h4]; cases decide (0 ≤ h) <;> cases decide (1 ≤ s) <;> cases decide (s ≤ 3) <;> rfl
    rw [e]
    by_cases h1 : 1 ≤ s
    · by_cases h3 : s ≤ 3
      · by_cases h0 : 0 ≤ h
        · rw [decide_eq_true h1, decide_eq_true h3, decide_eq_true h0]
          clear e
          go_enter Try.func12, Try.ntmps12
          rw [← hM]
          clear hM
          go_wp2
          go_ret
          exact ⟨rfl, rfl⟩
        · rw [decide_eq_true h1, decide_eq_true h3, decide_eq_false h0]
          clear e
          go_enter Try.func12, Try.ntmps12
          rw [← hM]
          clear hM
          go_wp2
          go_ret
          exact ⟨rfl, rfl⟩
      · rw [decide_eq_true h1, decide_eq_false h3]
        clear e
        go_enter Try.func12, Try.ntmps12
        rw [← hM]
        clear hM
        go_wp2
        go_ret
        exact ⟨rfl, rfl⟩
    · rw [decide_eq_false h1]
      clear e
      go_enter Try.func12, Try.ntmps12
      rw [← hM]
      clear hM
      go_wp2
      go_ret
      exact ⟨rfl, rfl⟩
theorem fib34_any (w : World) (k : Nat) (hk : k ≤ 200) : Calls Try.prog 30 #[.int .i64 (k : Nat)] w (Num (fibN k) w) := by
  have HF := Lib.hid (fib07_any w (k : Nat))
  have e1 : FibE ((k : Nat) : Int) = 0 := if_pos (by omega)
  have e2 : FibV ((k : Nat) : Int) = fibN k := by unfold FibV; rw [if_pos (by omega)]; rfl
  unfold Fibs at HF
  rw [e1, e2] at HF
  clear e1 e2
  go_enter Try.func30, Try.ntmps30
  go_wp2_with fail
  refine HF.out.mono ?_
  rintro e w1 ⟨f, rfl, n1, h1⟩
  have H1 := Lib.hid (And.intro n1 h1)
  clear n1 h1
  go_wp2
  go_ret
  exact ⟨_, rfl, H1.out.1, H1.out.2⟩
/-- a word of a row of one's own. -/
theorem UOwn.at {B : Nat} {w : World} {v : Value} {zs : List Nat} (h : UOwn B w v zs) {k : Nat} (hk : k < zs.length) :
    ∃ g c, v = .slice (some ⟨g, 0, none⟩) zs.length c ∧ B ≤ g ∧ zs.length ≤ c ∧ w.cell? ⟨g, k, none⟩ = some (.int .u32 (zs.getD k 0 : Nat)) ∧ w.frozen? ⟨g, k, none⟩ = false ∧ ∀ d : Nat, UOwn B (w.setCell ⟨g, k, none⟩ (.int .u32 (d : Nat))) v (zs.set k d) := by
  obtain ⟨h1, ⟨rfl, h0⟩ | ⟨g, cap, cur, rfl, hb, hg, hc, hm, hs, ht⟩⟩ := h
  · omega
  · rw [Nat.mul_one] at hs ht
    have hcur : cur.toList[k]? = some (u32 (zs.getD k 0)) := by
      have e1 : (cur.toList.take zs.length)[k]? = cur.toList[k]? := by rw [List.getElem?_take, if_pos hk]
      rw [← e1, ht, List.getElem?_map, List.getD_eq_getElem?_getD, List.getElem?_eq_getElem hk]; rfl
    refine ⟨g, cap, rfl, hb, hc, ?_, frozen_of hg k, fun d => ?_⟩
    · rw [cell_of hg k]
      simpa [u32] using hcur
    · refine ⟨by simp, .inr ⟨g, cap, cur.setIfInBounds k (.int .u32 (d : Nat)), by rw [List.length_set], hb, ?_, by rw [List.length_set]; exact hc, hm, by simpa using hs, ?_⟩⟩
      · simp only [World.setCell, Array.getElem?_modify, hg]
        simp
      · rw [List.length_set, Nat.mul_one, Array.toList_setIfInBounds, List.take_set, ht, List.map_set]
        rfl
/-- what holds while one is taken away. -/
def LessH (n : Nat) (ds : List Nat) (i k : Nat) : Prop := Words ds ∧ i ≤ ds.length ∧ k ≤ 1 ∧ nval ds + 1 = n + beta ^ i * k
theorem less_a {n i d : Nat} {ds : List Nat} (h : LessH n ds i 1) (hi : i < ds.length) (hd : ds.getD i 0 = d + 1) : LessH n (ds.set i d) (i + 1) 0 := by
  obtain ⟨h1, h2, h3, h4⟩ := h
  have hb := words_getD h1 i
  have := nval_set ds i d hi
  rw [hd] at this hb
  refine ⟨words_set h1 (by omega), by rw [List.length_set]; omega, by omega, ?_⟩
  rw [Nat.mul_add] at this
  omega
theorem less_b {n i : Nat} {ds : List Nat} (h : LessH n ds i 1) (hi : i < ds.length) (hd : ds.getD i 0 = 0) : LessH n (ds.set i 4294967295) (i + 1) 1 := by
  obtain ⟨h1, h2, h3, h4⟩ := h
  have := nval_set ds i 4294967295 hi
  rw [hd] at this
  refine ⟨words_set h1 (by decide), by rw [List.length_set]; omega, by omega, ?_⟩
  have e : beta ^ (i + 1) = beta ^ i * 4294967295 + beta ^ i := by rw [Nat.pow_succ, ← Nat.mul_succ]; rfl
  omega
theorem less_end {n i k : Nat} {ds : List Nat} (h : LessH n ds i k) (hn : 1 ≤ n) (hx : ¬ (i < ds.length ∧ 0 < k)) : nval ds = n - 1 := by
  obtain ⟨h1, h2, h3, h4⟩ := h
  rcases Nat.eq_zero_or_pos k with hk | hk
  · subst hk; omega
  · have : k = 1 := by omega
    subst this
    have hie : i = ds.length := by omega
    have := nval_lt h1
    rw [hie] at h4
    omega
set_option maxRecDepth 100000 in
set_option maxHeartbeats 4000000 in
theorem less_any (w : World) (p : Value) (n : Nat) (h : NumIs w p n) (h1 : 1 ≤ n) (hn : n < beta ^ 256) : Calls Try.prog 29 #[p, .int .u32 1] w (Num (n - 1) w) := by
  obtain ⟨xs, hu, hN, hv⟩ := h
  have hl : xs.length ≤ 256 := (norm_len hN 256).2 (by rw [hv]; exact hn)
  obtain ⟨a, c, rfl⟩ := hu.slice
  have HU := Lib.hid hu
  have HL := Lib.hid hl
  have HS := Lib.hid (show LessH n xs 0 1 from ⟨hN.1, Nat.zero_le _, Nat.le_refl _, by rw [hv]; rfl⟩)
  have HX := Lib.hid h1
  clear hu hl hN hv h1 hn
  go_enter Try.func29, Try.ntmps29
  go_wp2_with (at_builtin; refine wpList_append_words rfl (.const (.slice none 0 0)) (.tmp 7) rfl rfl rfl HU.out (Nat.le_trans HL.out (by decide)) ?_)
  intro v1 w1 ho hE
  obtain ⟨va, vc, rfl⟩ := ho.slice
  have HO := Lib.hid ho
  have HE := Lib.hid hE
  clear ho hE
  go_wp2_with fail
  go_loopw [1, 6] (fun k i W => ∃ (kk ii : Nat) (ds : List Nat), k = .int .u32 (kk : Nat) ∧ i = .int .i64 (ii : Nat) ∧ UOwn w.heap.size W (.slice va xs.length vc) ds ∧ Ext w W ∧ Hid (ds.length = xs.length ∧ LessH n ds ii kk)) (fun _ i _ => xs.length - (intOf i).toNat)
  case atStart => exact ⟨1, 0, xs, rfl, rfl, HO.out, HE.out, Lib.hid ⟨rfl, HS.out⟩⟩
  case round =>
    clear HO HE HS
    obtain ⟨k, i, ds, rfl, rfl, hO, hE, HH⟩ := hrel
    have hk1 := HH.out.2.2.2.1
    have hll : xs.length ≤ 256 := HL.out
    by_cases hgo : i < xs.length ∧ 0 < k
    · obtain ⟨hi, hk0⟩ := hgo
      obtain rfl : k = 1 := by omega
      obtain ⟨g, c2, hv, hg, hlc, cx, cf, hset⟩ := hO.at (k := i) (by rw [HH.out.1]; exact hi)
      rw [HH.out.1] at hv hlc
      obtain ⟨rfl, rfl⟩ : va = some ⟨g, 0, none⟩ ∧ vc = c2 := by cases hv; exact ⟨rfl, rfl⟩
      have HI := Lib.hid hi
      have HLN := Lib.hid HH.out.1
      rcases Nat.eq_zero_or_pos (ds.getD i 0) with hd | hd
      · have HB := Lib.hid (less_b HH.out.2 (by rw [HH.out.1]; exact hi) hd)
        rw [hd] at cx
        have HSET := Lib.hid (hset 4294967295)
        have HEX := Lib.hid (Below.setCell (B := w.heap.size) (p := ⟨g, i, none⟩) hE hg (.int .u32 ((4294967295 : Nat) : Int)))
        clear hv hd hO hE hset hg hk0 hk1
        go_wp2
        go_roundw
        case rel => exact ⟨1, i + 1, ds.set i 4294967295, rfl, by go_num, HSET.out, HEX.out, Lib.hid ⟨by rw [List.length_set]; exact HLN.out, HB.out⟩⟩
        case measure => exact meas_i HI.out
      · obtain ⟨d, hd1⟩ : ∃ d, ds.getD i 0 = d + 1 := ⟨ds.getD i 0 - 1, by omega⟩
        have HB := Lib.hid (less_a HH.out.2 (by rw [HH.out.1]; exact hi) hd1)
        have hb := words_getD HH.out.2.1 i
        rw [hd1] at cx hb
        have hb2 : d < 4294967295 := by unfold beta at hb; omega
        have HSET := Lib.hid (hset d)
        have HEX := Lib.hid (Below.setCell (B := w.heap.size) (p := ⟨g, i, none⟩) hE hg (.int .u32 ((d : Nat) : Int)))
        clear hv hd hd1 hb hO hE hset hg hk0 hk1
        go_wp2
        go_roundw
        case rel => exact ⟨0, i + 1, ds.set i d, rfl, by go_num, by first | exact HSET.out | skip, by first | exact HEX.out | skip, Lib.hid ⟨by rw [List.length_set]; exact HLN.out, HB.out⟩⟩
        case measure => exact meas_i HI.out
    · have HEND := Lib.hid (less_end HH.out.2 HX.out (by rw [HH.out.1]; exact hgo))
      have HR := Lib.hid hO.row
      have HE := Lib.hid hE
      have HD := Lib.hid (And.intro HH.out.1 HH.out.2.1)
      clear hO hE HU
      by_cases hi : i < xs.length
      · obtain rfl : k = 0 := by omega
        clear hgo HH hk1
        obtain ⟨wo, rfl⟩ : ∃ wo, wo = wr := ⟨_, rfl⟩
        go_wp2_with fail
        clear hi
        go_loopw [5] (fun v W => W = wo ∧ ∃ k : Nat, v = .slice va k vc ∧ Hid (k ≤ xs.length ∧ ∀ j, k ≤ j → ds.getD j 0 = 0)) (fun v _ => match v with | .slice _ k _ => k | _ => 0)
        case atStart => exact ⟨rfl, xs.length, rfl, Lib.hid ⟨Nat.le_refl _, fun j hj => getD_past ds j (by rw [HD.out.1]; exact hj)⟩⟩
        case round =>
          obtain ⟨rfl, m, rfl, HK⟩ := hrel
          by_cases h0 : m = 0
          · subst h0
            have HF := Lib.hid (trim_norm HD.out.2 (Nat.zero_le _) HK.out.2 (.inl rfl))
            go_wp2
            go_ret
            refine ⟨_, rfl, ⟨[], .inl ⟨rfl, _, _, rfl⟩, ⟨(fun d hd => by cases hd), .inl rfl⟩, ?_⟩, HE.out⟩
            rw [← HEND.out, ← HF.out.2]; rfl
          · obtain ⟨q, rfl⟩ : ∃ q, m = q + 1 := ⟨m - 1, by omega⟩
            clear h0
            have hm : q < ds.length := by rw [HD.out.1]; exact HK.out.1
            have hm2 : q < 256 := Nat.lt_of_lt_of_le HK.out.1 HL.out
            rcases HR.out with ⟨h, _⟩ | ⟨b, o, c', hv, _, h2, h3⟩
            · exact absurd h (by intro e; rw [e] at hm; exact absurd hm (Nat.not_lt_zero _))
            · rw [HD.out.1] at hv
              obtain ⟨rfl, rfl⟩ : va = some ⟨b, o, none⟩ ∧ vc = c' := by cases hv; exact ⟨rfl, rfl⟩
              have hc := urow_cell h3 q hm
              have hcap : q + 1 ≤ vc := by omega
              have HM := Lib.hid hm
              clear hv h2 h3 hm
              by_cases hz : ds.getD q 0 = 0
              · rw [hz] at hc
                have HZ := Lib.hid hz
                clear hz
                go_wp2
                go_roundw
                case rel => exact ⟨by first | rfl | trivial, q, rfl, Lib.hid ⟨Nat.le_of_succ_le HK.out.1, fun j hj => by
                  rcases Nat.eq_or_lt_of_le hj with e | e
                  · rw [← e]; exact HZ.out
                  · exact HK.out.2 j e⟩⟩
                case measure => exact Nat.lt_succ_self q
              · have HZ := Lib.hid hz
                obtain ⟨d, hd⟩ : ∃ d, ds.getD q 0 = d := ⟨_, rfl⟩
                rw [hd] at hc hz
                have hz' : ¬ (d : Int) = 0 := by omega
                have hz2 : ((d : Int) == 0) = false := by simpa using hz
                clear hz hd
                have HF := Lib.hid (trim_norm HD.out.2 (by rw [HD.out.1]; exact HK.out.1) HK.out.2 (.inr HZ.out))
                have HRR := Lib.hid (HR.out.take (q + 1) HM.out)
                go_wp2
                go_ret
                exact ⟨_, rfl, ⟨ds.take (q + 1), HRR.out, HF.out.1, by rw [HF.out.2, HEND.out]⟩, HE.out⟩
      · clear hgo HH hk1
        obtain ⟨wo, rfl⟩ : ∃ wo, wo = wr := ⟨_, rfl⟩
        go_wp2_with fail
        clear hi
        go_loopw [5] (fun v W => W = wo ∧ ∃ k : Nat, v = .slice va k vc ∧ Hid (k ≤ xs.length ∧ ∀ j, k ≤ j → ds.getD j 0 = 0)) (fun v _ => match v with | .slice _ k _ => k | _ => 0)
        case atStart => exact ⟨rfl, xs.length, rfl, Lib.hid ⟨Nat.le_refl _, fun j hj => getD_past ds j (by rw [HD.out.1]; exact hj)⟩⟩
        case round =>
          obtain ⟨rfl, m, rfl, HK⟩ := hrel
          by_cases h0 : m = 0
          · subst h0
            have HF := Lib.hid (trim_norm HD.out.2 (Nat.zero_le _) HK.out.2 (.inl rfl))
            go_wp2
            go_ret
            refine ⟨_, rfl, ⟨[], .inl ⟨rfl, _, _, rfl⟩, ⟨(fun d hd => by cases hd), .inl rfl⟩, ?_⟩, HE.out⟩
            rw [← HEND.out, ← HF.out.2]; rfl
          · obtain ⟨q, rfl⟩ : ∃ q, m = q + 1 := ⟨m - 1, by omega⟩
            clear h0
            have hm : q < ds.length := by rw [HD.out.1]; exact HK.out.1
            have hm2 : q < 256 := Nat.lt_of_lt_of_le HK.out.1 HL.out
            rcases HR.out with ⟨h, _⟩ | ⟨b, o, c', hv, _, h2, h3⟩
            · exact absurd h (by intro e; rw [e] at hm; exact absurd hm (Nat.not_lt_zero _))
            · rw [HD.out.1] at hv
              obtain ⟨rfl, rfl⟩ : va = some ⟨b, o, none⟩ ∧ vc = c' := by cases hv; exact ⟨rfl, rfl⟩
              have hc := urow_cell h3 q hm
              have hcap : q + 1 ≤ vc := by omega
              have HM := Lib.hid hm
              clear hv h2 h3 hm
              by_cases hz : ds.getD q 0 = 0
              · rw [hz] at hc
                have HZ := Lib.hid hz
                clear hz
                go_wp2
                go_roundw
                case rel => exact ⟨by first | rfl | trivial, q, rfl, Lib.hid ⟨Nat.le_of_succ_le HK.out.1, fun j hj => by
                  rcases Nat.eq_or_lt_of_le hj with e | e
                  · rw [← e]; exact HZ.out
                  · exact HK.out.2 j e⟩⟩
                case measure => exact Nat.lt_succ_self q
              · have HZ := Lib.hid hz
                obtain ⟨d, hd⟩ : ∃ d, ds.getD q 0 = d := ⟨_, rfl⟩
                rw [hd] at hc hz
                have hz' : ¬ (d : Int) = 0 := by omega
                have hz2 : ((d : Int) == 0) = false := by simpa using hz
                clear hz hd
                have HF := Lib.hid (trim_norm HD.out.2 (by rw [HD.out.1]; exact HK.out.1) HK.out.2 (.inr HZ.out))
                have HRR := Lib.hid (HR.out.take (q + 1) HM.out)
                go_wp2
                go_ret
                exact ⟨_, rfl, ⟨ds.take (q + 1), HRR.out, HF.out.1, by rw [HF.out.2, HEND.out]⟩, HE.out⟩
end Go.Proofs.Ytejknkhahjgdnaa
namespace Go.Proofs.Ytejknkhahjgdnaa
open Go Go.RowKit

set_option maxRecDepth 100000 in
set_option maxHeartbeats 1000000 in
theorem least34_1 (w : World) (k : Nat) (hk : k ≤ 100) : Calls Try.prog 15 #[.int .u8 1, .int .i64 (k : Nat)] w (Num (lstS 1 k) w) := by
  have HF := Lib.hid (fib34_any w (k + 2) (by omega))
  have HL := Lib.hid (fun w p h => less_any w p (fibN (k + 2)) h (fibN_pos (k + 1)) (Nat.lt_of_lt_of_le (fibN_lt (by omega)) (Nat.pow_le_pow_right beta_pos (by decide))))
  have hk' : (k : Int) ≤ 100 := by omega
  go_enter Try.func15, Try.ntmps15
  go_wp2_with fail
  refine HF.out.mono ?_
  rintro e w1 ⟨f, rfl, n1, h1⟩
  have H1 := Lib.hid (And.intro n1 h1)
  clear n1 h1
  go_wp2_with fail
  refine (HL.out w1 f H1.out.1).mono ?_
  rintro e w2 ⟨g, rfl, n2, h2⟩
  have H2 := Lib.hid (And.intro n2 h2)
  clear n2 h2
  go_wp2
  go_ret
  exact ⟨_, rfl, H2.out.1, H1.out.2.trans H2.out.2⟩
set_option maxRecDepth 100000 in
set_option maxHeartbeats 1000000 in
theorem least34_2 (w : World) (h : Nat) (hh : h ≤ 100) : Calls Try.prog 15 #[.int .u8 2, .int .i64 (h : Nat)] w (Num (lstS 2 h) w) := by
  obtain ⟨c, hc⟩ : ∃ c, c = (h + 1) / 2 := ⟨_, rfl⟩
  have hcl : c ≤ 51 := by omega
  have hcq : ((h : Int) + 1) / 2 = (c : Int) := by omega
  have HB := Lib.hid (lstS_lt2 (h := h) (by omega))
  by_cases hp : h % 2 = 1
  · have hr : (h : Int) % 2 = 1 := by omega
    obtain ⟨d, rfl⟩ : ∃ d, c = d + 1 := ⟨c - 1, by omega⟩
    have e : lstS 2 h = 3 * 2 ^ d - 2 := by unfold lstS; simp [hp, ← hc]
    rw [e] at HB ⊢
    have HU : IntKind.u64.wrap (IntKind.u64.wrap (3 * 2 ^ d) - 2) = ((3 * 2 ^ d - 2 : Nat) : Int) := u64_pow (a := 3) (d := d) (by omega) (by omega) (by have := Nat.pow_pos (n := d) (show 0 < 2 by decide); omega)
    have HC := Lib.hid (from07_any w _ HB.out)
    rw [← HU] at HC
    clear e hp hc HU
    go_enter Try.func15, Try.ntmps15
    go_wp2_with fail
    refine HC.out.mono ?_
    rintro e w2 ⟨g, rfl, n2, h2⟩
    have H2 := Lib.hid (And.intro n2 h2)
    clear n2 h2
    go_wp2
    go_ret
    exact ⟨_, rfl, H2.out.1, H2.out.2⟩
  · have hr : (h : Int) % 2 = 0 := by omega
    have e : lstS 2 h = 1 * 2 ^ (c + 1) - 2 := by
      have : lstS 2 h = 2 * 2 ^ c - 2 := by unfold lstS; simp [hp, ← hc]
      rw [this, Nat.pow_succ, Nat.one_mul, Nat.mul_comm]
    rw [e] at HB ⊢
    have HU : IntKind.u64.wrap (IntKind.u64.wrap (2 ^ (c + 1)) - 2) = ((1 * 2 ^ (c + 1) - 2 : Nat) : Int) := by
      have := u64_pow (a := 1) (d := c + 1) (by omega) (by omega) (by have := Nat.pow_pos (n := c) (show 0 < 2 by decide); rw [Nat.pow_succ]; omega)
      simpa using this
    have HC := Lib.hid (from07_any w _ HB.out)
    rw [← HU] at HC
    clear e hp hc HU
    go_enter Try.func15, Try.ntmps15
    go_wp2_with fail
    refine HC.out.mono ?_
    rintro e w2 ⟨g, rfl, n2, h2⟩
    have H2 := Lib.hid (And.intro n2 h2)
    clear n2 h2
    go_wp2
    go_ret
    exact ⟨_, rfl, H2.out.1, H2.out.2⟩
set_option maxRecDepth 100000 in
set_option maxHeartbeats 1000000 in
theorem least34_3 (w : World) (h : Nat) (hh : h ≤ 100) : Calls Try.prog 15 #[.int .u8 3, .int .i64 (h : Nat)] w (Num (lstS 3 h) w) := by
  have HW := Lib.hid (weight34_any w h (by omega))
  have e : lstS 3 h = wrow h - 1 := rfl
  have HB := lstS_lt3 (h := h) (by omega)
  rw [e] at HB ⊢
  have h1 := wrow_pos h
  have h2 := wrow_lt (k := h) (by omega)
  generalize wrow h = x at *
  have HU : (x : Int) - 1 = ((x - 1 : Nat) : Int) := by omega
  have HC := Lib.hid (fun w => from07_any w _ HB)
  rw [← HU] at HC
  clear e HU HB
  go_enter Try.func15, Try.ntmps15
  go_wp2_with fail
  refine HW.out.mono ?_
  rintro e w1 ⟨rfl, hE⟩
  go_wp2_with fail
  refine (HC.out w1).mono ?_
  rintro e w2 ⟨g, rfl, n2, h2⟩
  have H2 := Lib.hid (And.intro n2 h2)
  clear n2 h2
  go_wp2
  go_ret
  exact ⟨_, rfl, H2.out.1, hE.trans H2.out.2⟩
set_option maxRecDepth 100000 in
set_option maxHeartbeats 1000000 in
theorem least34_4 (w : World) (h : Nat) (hh : h ≤ 4611686018427387904) : Calls Try.prog 15 #[.int .u8 4, .int .i64 (h : Nat)] w (Num (lstS 4 h) w) := by
  have e : lstS 4 h = h := rfl
  rw [e]
  have HC := Lib.hid (from07_any w h (by omega))
  have h2 : (h : Int) ≤ 4611686018427387904 := by omega
  clear e hh
  go_enter Try.func15, Try.ntmps15
  go_wp2_with fail
  refine HC.out.mono ?_
  rintro e w2 ⟨g, rfl, n2, h2⟩
  have H2 := Lib.hid (And.intro n2 h2)
  clear n2 h2
  go_wp2
  go_ret
  exact ⟨_, rfl, H2.out.1, H2.out.2⟩
/-- joineryref34.Least, of a height that there is. -/
theorem least34_any (w : World) (s h : Int) (k : okH s h = true) : Calls Try.prog 15 #[.int .u8 s, .int .i64 h] w (Num (LstN s h) w) := by
  rw [(lst_ok k).2]
  unfold okH at k
  simp only [Bool.and_eq_true, decide_eq_true_eq] at k
  obtain ⟨h, rfl⟩ := Int.eq_ofNat_of_zero_le k.1
  have k2 := k.2
  by_cases h4 : s = 4
  · subst h4
    rw [if_pos rfl] at k2
    simp only [decide_eq_true_eq] at k2
    exact least34_4 w h (by omega)
  · rw [if_neg h4] at k2
    simp only [Bool.and_eq_true, decide_eq_true_eq] at k2
    have : s = 1 ∨ s = 2 ∨ s = 3 := by omega
    rcases this with rfl | rfl | rfl
    · exact least34_1 w h (by omega)
    · exact least34_2 w h (by omega)
    · exact least34_3 w h (by omega)
theorem cmp07_num (w : World) (p q : Value) (a b : Nat) (hp : NumIs w p a) (hq : NumIs w q b) (ha : a < beta ^ 128) (hb : b < beta ^ 128) : Calls Try.prog 58 #[p, q] w (Ret (.int .i64 (cmpV a b)) w) := by
  obtain ⟨xs, h1, h2, h3⟩ := hp
  obtain ⟨ys, g1, g2, g3⟩ := hq
  have h := cmp07_any w p q xs ys h1 g1 h2.1 g2.1
  unfold CmpR at h
  rw [may_of h2 h3 ha, may_of g2 g3 hb, h3, g3] at h
  exact h
set_option maxHeartbeats 1000000 in
theorem within34_any (w : World) (s h : Int) (n : Nat) (k : okH s h = true) (hn : n ≤ 4611686018427387904) : Calls Try.prog 27 #[.int .u8 s, .int .i64 h, .int .i64 (n : Nat)] w (Ret (.bool (decide (LstN s h ≤ n))) w) := by
  have HL := Lib.hid (least34_any w s h k)
  have HLT := Lib.hid (lstN_lt s h)
  rw [← cmp_le]
  generalize LstN s h = L at *
  have hn2 : (n : Int) ≤ 4611686018427387904 := by omega
  have HN := Lib.hid hn
  clear hn k
  go_enter Try.func27, Try.ntmps27
  go_wp2_with fail
  refine HL.out.mono ?_
  rintro e w1 ⟨v, rfl, n1, h1⟩
  have H1 := Lib.hid (And.intro n1 h1)
  clear n1 h1
  go_wp2_with fail
  refine (from07_any w1 n (Nat.lt_of_le_of_lt HN.out (by decide))).mono ?_
  rintro e w2 ⟨u, rfl, n2, h2⟩
  have H2 := Lib.hid (And.intro n2 h2)
  clear n2 h2
  go_wp2_with fail
  refine (cmp07_num w2 v u L n (H1.out.1.ext H2.out.2) H2.out.1 HLT.out (u64_beta (Nat.lt_of_le_of_lt HN.out (by decide)))).mono ?_
  rintro e w3 ⟨rfl, h3⟩
  go_wp2
  go_ret
  exact ⟨rfl, (H1.out.2.trans H2.out.2).trans h3⟩
theorem okH_zero (s : Int) : okH s 0 = (decide (1 ≤ s) && decide (s ≤ 4)) := by
  unfold okH
  by_cases h4 : s = 4
  · subst h4; rfl
  · rw [if_neg h4, show decide ((0 : Int) ≤ 0) = true from rfl, show decide ((0 : Int) ≤ 100) = true from rfl, Bool.true_and, Bool.and_true]
    congr 1
    rw [Bool.eq_iff_iff]
    simp only [decide_eq_true_eq]
    omega
end Go.Proofs.Ytejknkhahjgdnaa
namespace Go.Proofs.Ytejknkhahjgdnaa
open Go Go.RowKit

set_option maxRecDepth 100000 in
set_option maxHeartbeats 4000000 in
theorem most34_any (w : World) (s n M : Int) (hM : M = 1099511627776) : Calls Try.prog 9 #[.int .u8 s, .int .i64 n] w (Mosts s n w) := by
  have HK := Lib.hid (height34_any w s 0 M hM)
  have hund : undef = Value.tuple #[] := rfl
  rw [okH_zero] at HK
  by_cases hs : 1 ≤ s ∧ s ≤ 4
  · rw [decide_eq_true hs.1, decide_eq_true hs.2] at HK
    by_cases h0 : n < 0
    · have HX := Lib.hid (show ¬ (1 ≤ s ∧ s ≤ 4 ∧ 0 ≤ n ∧ n ≤ 1099511627776) by omega)
      clear hs
      go_enter Try.func9, Try.ntmps9
      rw [← hM]
      clear hM
      go_wp2_with fail
      refine HK.out.mono ?_
      rintro e w1 ⟨rfl, rfl⟩
      go_wp2
      go_ret2
      exact .inl ⟨HX.out, Ret.mk (Ext.refl _)⟩
    · by_cases h1 : M < n
      · have HX := Lib.hid (show ¬ (1 ≤ s ∧ s ≤ 4 ∧ 0 ≤ n ∧ n ≤ 1099511627776) by omega)
        clear hs
        go_enter Try.func9, Try.ntmps9
        rw [← hM]
        clear hM
        go_wp2_with fail
        refine HK.out.mono ?_
        rintro e w1 ⟨rfl, rfl⟩
        go_wp2
        go_ret2
        exact .inl ⟨HX.out, Ret.mk (Ext.refl _)⟩
      · by_cases h4 : s = 4
        · subst h4
          have HN := Lib.hid (show 0 ≤ n ∧ (n ≤ 1099511627776) by omega)
          clear hs
          go_enter Try.func9, Try.ntmps9
          rw [← hM]
          clear hM
          go_wp2_with fail
          refine HK.out.mono ?_
          rintro e w1 ⟨rfl, rfl⟩
          go_wp2
          go_ret2
          exact .inr (.inl ⟨rfl, HN.out.1, HN.out.2, Ret.mk (Ext.refl _)⟩)
        · obtain ⟨n, rfl⟩ := Int.eq_ofNat_of_zero_le (Int.not_lt.1 h0)
          have HN := Lib.hid (show ((n : Int) ≤ 1099511627776) ∧ n ≤ 4611686018427387904 by omega)
          have HS := Lib.hid (show 1 ≤ s ∧ s ≤ 3 by omega)
          have h4' : (s == 4) = false := by simpa using h4
          clear h0 hs
          go_enter Try.func9, Try.ntmps9
          rw [← hM]
          clear hM
          go_wp2_with fail
          refine HK.out.mono ?_
          rintro e w1 ⟨rfl, rfl⟩
          go_wp2_with fail
          clear h1 h4 h4'
          go_loopw [6] (fun i W => ∃ h : Nat, i = .int .i64 (h : Nat) ∧ Hid (h ≤ 100 ∧ (∀ j, 1 ≤ j → j ≤ h → lstS s.toNat j ≤ n) ∧ Ext w W)) (fun i _ => 101 - (intOf i).toNat)
          case atStart => exact ⟨0, rfl, Lib.hid ⟨Nat.zero_le _, (fun j h1 h2 => by omega), Ext.refl _⟩⟩
          case round =>
            obtain ⟨h, rfl, HH⟩ := hrel
            have hh : h ≤ 100 := HH.out.1
            by_cases k0 : h < 100
            · have hok : okH s ((h : Int) + 1) = true := by
                have := HS.out
                unfold okH; rw [if_neg (by omega)]; simp; omega
              have HWI := Lib.hid (within34_any wr s ((h : Int) + 1) n hok HN.out.2)
              rw [(lst_ok hok).2, show ((h : Int) + 1).toNat = h + 1 by omega] at HWI
              have K0 := Lib.hid k0
              clear hok
              by_cases k : lstS s.toNat (h + 1) ≤ n
              · have HW2 := Lib.hid k
                rw [decide_eq_true k] at HWI
                clear k
                go_wp2_with fail
                refine HWI.out.mono ?_
                rintro e w2 ⟨rfl, h2⟩
                have H2 := Lib.hid h2
                clear h2
                go_wp2
                go_roundw
                case rel => exact ⟨h + 1, by go_num, Lib.hid ⟨K0.out, (fun j h1 h2 => by
                  rcases Nat.eq_or_lt_of_le h2 with e | e
                  · rw [e]; exact HW2.out
                  · exact HH.out.2.1 j h1 (Nat.le_of_lt_succ e)), HH.out.2.2.trans H2.out⟩⟩
                case measure => exact meas_s (Nat.lt_of_lt_of_le K0.out (by decide))
              · have HW2 := Lib.hid (Nat.lt_of_not_le k)
                rw [decide_eq_false k] at HWI
                clear k
                go_wp2_with fail
                refine HWI.out.mono ?_
                rintro e w2 ⟨rfl, h2⟩
                have H2 := Lib.hid h2
                clear h2
                go_wp2
                go_ret2
                exact .inr (.inr ⟨HS.out.1, HS.out.2, by omega, HN.out.1, h, ⟨HH.out.1, HH.out.2.1, .inr HW2.out⟩, Ret.mk (HH.out.2.2.trans H2.out)⟩)
            · have K0 := Lib.hid (show h = 100 by omega)
              go_wp2
              go_ret2
              exact .inr (.inr ⟨HS.out.1, HS.out.2, by omega, HN.out.1, h, ⟨HH.out.1, HH.out.2.1, .inl K0.out⟩, Ret.mk HH.out.2.2⟩)
  · have hf : (decide (1 ≤ s) && decide (s ≤ 4)) = false := by
      rw [Bool.and_eq_false_iff]
      simp only [decide_eq_false_iff_not]
      omega
    rw [hf] at HK
    have HX := Lib.hid (show ¬ (1 ≤ s ∧ s ≤ 4 ∧ 0 ≤ n ∧ n ≤ 1099511627776) by omega)
    clear hs hf
    go_enter Try.func9, Try.ntmps9
    rw [← hM]
    clear hM
    go_wp2_with fail
    refine HK.out.mono ?_
    rintro e w1 ⟨rfl, rfl⟩
    go_wp2
    go_ret2
    exact .inl ⟨HX.out, Ret.mk (Ext.refl _)⟩
set_option maxRecDepth 100000 in
set_option maxHeartbeats 4000000 in
theorem may34_any (w : World) (s h n M : Int) (hM : M = 1099511627776) : Calls Try.prog 11 #[.int .u8 s, .int .i64 h, .int .i64 n] w (Ret (.bool (bmayB s h n)) w) := by
  have HK := Lib.hid (height34_any w s h M hM)
  have hund : undef = Value.tuple #[] := rfl
  cases k : okH s h with
  | false =>
    rw [k] at HK
    have e : bmayB s h n = false := by unfold bmayB bwithinB; rw [k]; simp
    rw [e]
    clear e k
    go_enter Try.func11, Try.ntmps11
    rw [← hM]
    clear hM
    go_wp2_with fail
    refine HK.out.mono ?_
    rintro e w1 ⟨rfl, rfl⟩
    go_wp2
    go_ret
    exact Ret.mk (Ext.refl _)
  | true =>
    rw [k] at HK
    by_cases h0 : 0 ≤ n
    · by_cases h1 : n ≤ M
      · obtain ⟨n, rfl⟩ := Int.eq_ofNat_of_zero_le h0
        have HW := Lib.hid (within34_any w s h n k (by omega))
        have e : bmayB s h n = (decide (LstN s h ≤ n) && (decide (40 < h) || decide ((n : Int) < 2 ^ h.toNat))) := by unfold bmayB bwithinB; rw [k, decide_eq_true h0, decide_eq_true (p := (n : Int) ≤ 1099511627776) (by omega), Int.toNat_natCast, Bool.true_and]; rfl
        rw [e]
        have hok : 0 ≤ h := by
          unfold okH at k
          simp only [Bool.and_eq_true, decide_eq_true_eq] at k
          exact k.1
        cases kk : decide (LstN s h ≤ n) with
        | false =>
          rw [kk] at HW
          clear e kk k
          rw [Bool.false_and]
          go_enter Try.func11, Try.ntmps11
          rw [← hM]
          clear hM
          go_wp2_with fail
          refine HK.out.mono ?_
          rintro e w1 ⟨rfl, rfl⟩
          go_wp2_with fail
          refine HW.out.mono ?_
          rintro e w1 ⟨rfl, h1⟩
          go_wp2
          go_ret
          exact Ret.mk h1
        | true =>
          rw [kk] at HW
          rw [Bool.true_and]
          clear e kk k
          by_cases h40 : 40 < h
          · rw [decide_eq_true h40, Bool.true_or]
            go_enter Try.func11, Try.ntmps11
            rw [← hM]
            clear hM
            go_wp2_with fail
            refine HK.out.mono ?_
            rintro e w1 ⟨rfl, rfl⟩
            go_wp2_with fail
            refine HW.out.mono ?_
            rintro e w1 ⟨rfl, h1⟩
            go_wp2
            go_ret
            exact Ret.mk h1
          · obtain ⟨h, rfl⟩ := Int.eq_ofNat_of_zero_le hok
            rw [decide_eq_false h40, Bool.false_or, Int.toNat_natCast]
            have HP := Lib.hid (pow_64 (h := h) (by omega))
            go_enter Try.func11, Try.ntmps11
            rw [← hM]
            clear hM
            go_wp2_with fail
            refine HK.out.mono ?_
            rintro e w1 ⟨rfl, rfl⟩
            go_wp2_with fail
            refine HW.out.mono ?_
            rintro e w1 ⟨rfl, h1⟩
            go_wp2
            go_ret
            exact ⟨ret_bool (by rw [HP.out, decide_eq_false (by omega), Bool.false_or]), h1⟩
      · have e : bmayB s h n = false := by unfold bmayB; rw [decide_eq_false (p := n ≤ 1099511627776) (by omega)]; simp
        rw [e]
        clear e k
        go_enter Try.func11, Try.ntmps11
        rw [← hM]
        clear hM
        go_wp2_with fail
        refine HK.out.mono ?_
        rintro e w1 ⟨rfl, rfl⟩
        go_wp2
        go_ret
        exact Ret.mk (Ext.refl _)
    · have e : bmayB s h n = false := by unfold bmayB; rw [decide_eq_false h0]; rfl
      rw [e]
      clear e k
      go_enter Try.func11, Try.ntmps11
      rw [← hM]
      clear hM
      go_wp2_with fail
      refine HK.out.mono ?_
      rintro e w1 ⟨rfl, rfl⟩
      go_wp2
      go_ret
      exact Ret.mk (Ext.refl _)
end Go.Proofs.Ytejknkhahjgdnaa
namespace Go.Proofs.Ytejknkhahjgdnaa
open Go Go.RowKit

def leastT (s h : Int) : ByteArray := if okH s h then textOf (LstN s h) else ⟨#[110, 111, 110, 101]⟩
set_option maxHeartbeats 1000000 in
theorem leastT_any (w : World) (s h : Int) : Calls Try.prog 28 #[.int .u8 s, .int .i64 h] w (Ret (.string (leastT s h)) w) := by
  have HL := Lib.hid (bleast_any w s h)
  have HLT := Lib.hid (lstN_lt s h)
  obtain ⟨T, hT⟩ : ∃ T, leastT s h = T := ⟨_, rfl⟩
  rw [hT]
  unfold leastT at hT
  cases k : okH s h with
  | false =>
    have e := lst_not k
    unfold Lst at HL
    rw [e.1] at HL
    rw [k] at hT
    have HT := Lib.hid hT
    clear e k hT
    go_enter Try.func28, Try.ntmps28
    go_wp2_with fail
    refine HL.out.mono ?_
    rintro e w1 ⟨v, rfl, n1, h1⟩
    clear n1
    go_wp2
    go_ret
    exact ⟨by rw [← HT.out]; rfl, h1⟩
  | true =>
    have e := lst_ok k
    unfold Lst at HL
    rw [e.1] at HL
    rw [k, if_pos rfl] at hT
    have HT := Lib.hid hT
    clear e k hT
    generalize LstN s h = L at *
    go_enter Try.func28, Try.ntmps28
    go_wp2_with fail
    refine HL.out.mono ?_
    rintro e w1 ⟨v, rfl, n1, h1⟩
    have H1 := Lib.hid (And.intro n1 h1)
    clear n1 h1
    go_wp2_with fail
    refine (natText_num w1 v L H1.out.1 HLT.out).mono ?_
    rintro e w2 ⟨rfl, h2⟩
    go_wp2
    go_ret
    exact ⟨by rw [← HT.out]; rfl, H1.out.2.trans h2⟩
theorem mosts_is {s n h : Nat} {w : World} {r : Ending} {w' : World} (hs : 1 ≤ s ∧ s ≤ 3) (hn : n ≤ 1099511627776) (k : Mosts s n w r w') (hm : IsMost s n h) : Ret (.tuple #[.int .i64 (h : Nat), .int .i64 0]) w r w' := by
  rcases k with ⟨k, _⟩ | ⟨k, _⟩ | ⟨_, _, _, _, h', k, hr⟩
  · exact absurd (show (1 : Int) ≤ s ∧ (s : Int) ≤ 4 ∧ (0 : Int) ≤ n ∧ (n : Int) ≤ 1099511627776 by omega) k
  · omega
  · rw [Int.toNat_natCast, Int.toNat_natCast] at k
    rw [hm.uniq k]; exact hr
theorem aliveM1 : IsMost 1 6 3 := by
  refine ⟨by decide, fun j h1 h2 => ?_, .inr (by decide +kernel)⟩
  have : ∀ j, j < 4 → lstS 1 j ≤ 6 := by decide +kernel
  exact this j (by omega)
theorem aliveM2 : IsMost 3 1000 17 := by
  refine ⟨by decide, fun j h1 h2 => ?_, .inr (by decide +kernel)⟩
  have : ∀ j, j < 18 → lstS 3 j ≤ 1000 := by decide +kernel
  exact this j (by omega)
theorem aliveT : leastT 1 4 = ⟨#[55]⟩ ∧ leastT 2 4 = ⟨#[54]⟩ ∧ leastT 2 3 = ⟨#[52]⟩ ∧ leastT 3 3 = ⟨#[52]⟩ ∧ leastT 4 9 = ⟨#[57]⟩ ∧ leastT 0 1 = ⟨#[110, 111, 110, 101]⟩ := by decide +kernel
theorem aliveY : bmayB 1 2 3 = true ∧ bmayB 1 2 4 = false := by decide +kernel
set_option maxRecDepth 100000 in
set_option maxHeartbeats 4000000 in
theorem alive34_any (w : World) : Calls Try.prog 13 #[] w (Ret (.bool true) w) := by
  have hM1 := Lib.hid (fun w => (most_any w 1 6).mono fun _ _ k => mosts_is (s := 1) (n := 6) (by decide) (by decide) k aliveM1)
  have hM2 := Lib.hid (fun w => (most_any w 3 1000).mono fun _ _ k => mosts_is (s := 3) (n := 1000) (by decide) (by decide) k aliveM2)
  have H := Lib.hid aliveT
  have HY := Lib.hid aliveY
  go_enter Try.func13, Try.ntmps13
  go_wp2_with fail
  refine (hM1.out w).mono ?_
  rintro e w1 ⟨rfl, h1⟩
  go_wp2_with fail
  refine (hM2.out w1).mono ?_
  rintro e w2 ⟨rfl, h2⟩
  go_wp2_with fail
  refine (leastT_any w2 1 4).mono ?_
  rw [H.out.1]
  rintro e w3 ⟨rfl, h3⟩
  go_wp2_with fail
  refine (leastT_any w3 2 4).mono ?_
  rw [H.out.2.1]
  rintro e w4 ⟨rfl, h4⟩
  go_wp2_with fail
  refine (leastT_any w4 2 3).mono ?_
  rw [H.out.2.2.1]
  rintro e w5 ⟨rfl, h5⟩
  go_wp2_with fail
  refine (leastT_any w5 3 3).mono ?_
  rw [H.out.2.2.2.1]
  rintro e w6 ⟨rfl, h6⟩
  go_wp2_with fail
  refine (leastT_any w6 4 9).mono ?_
  rw [H.out.2.2.2.2.1]
  rintro e w7 ⟨rfl, h7⟩
  go_wp2_with fail
  refine (leastT_any w7 0 1).mono ?_
  rw [H.out.2.2.2.2.2]
  rintro e w8 ⟨rfl, h8⟩
  go_wp2_with fail
  refine (mayN_any34 w8 1 2 3 _ rfl).mono ?_
  rw [HY.out.1]
  rintro e w9 ⟨rfl, h9⟩
  go_wp2_with fail
  refine (mayN_any34 w9 1 2 4 _ rfl).mono ?_
  rw [HY.out.2]
  rintro e w10 ⟨rfl, h10⟩
  go_wp2
  go_ret
  exact Ret.mk (((((((((h1.trans h2).trans h3).trans h4).trans h5).trans h6).trans h7).trans h8).trans h9).trans h10)
end Go.Proofs.Ytejknkhahjgdnaa
namespace Go.Proofs.Ytejknkhahjgdnaa
open Go Go.RowKit

/-- both Mosts hand back the same. -/
theorem mosts_same {s n : Int} {w : World} {r : Ending} {w' : World} (k : Mosts s n w r w') : ∃ m e : Int, r = .returned (.tuple #[.int .i64 m, .int .i64 e]) ∧ Ext w w' ∧ ∀ (u : World) (q : Ending) (u' : World), Mosts s n u q u' → q = .returned (.tuple #[.int .i64 m, .int .i64 e]) ∧ Ext u u' := by
  rcases k with ⟨k, rfl, h⟩ | ⟨k0, k1, k2, rfl, h⟩ | ⟨k1, k2, k3, k4, m, hm, rfl, h⟩
  · refine ⟨0, 2, rfl, h, fun u q u' j => ?_⟩
    rcases j with ⟨_, rfl, h⟩ | ⟨j0, j1, j2, _⟩ | ⟨j1, j2, j3, j4, _⟩
    · exact ⟨rfl, h⟩
    · exact absurd (show 1 ≤ s ∧ s ≤ 4 ∧ 0 ≤ n ∧ n ≤ 1099511627776 by omega) k
    · exact absurd (show 1 ≤ s ∧ s ≤ 4 ∧ 0 ≤ n ∧ n ≤ 1099511627776 by omega) k
  · refine ⟨n, 0, rfl, h, fun u q u' j => ?_⟩
    rcases j with ⟨j, _⟩ | ⟨_, _, _, rfl, h⟩ | ⟨j1, j2, _⟩
    · exact absurd (show 1 ≤ s ∧ s ≤ 4 ∧ 0 ≤ n ∧ n ≤ 1099511627776 by omega) j
    · exact ⟨rfl, h⟩
    · omega
  · refine ⟨m, 0, rfl, h, fun u q u' j => ?_⟩
    rcases j with ⟨j, _⟩ | ⟨j, _⟩ | ⟨_, _, _, _, m', hm', rfl, h⟩
    · exact absurd (show 1 ≤ s ∧ s ≤ 4 ∧ 0 ≤ n ∧ n ≤ 1099511627776 by omega) j
    · omega
    · rw [hm.uniq hm']; exact ⟨rfl, h⟩
theorem num_zero_slice {w : World} {v : Value} (h : NumIs w v 0) : ∃ a c, v = .slice a 0 c := by
  obtain ⟨xs, h1, h2, h3⟩ := h
  have := norm_zero h2 h3
  subst this
  exact h1.slice
set_option maxRecDepth 100000 in
set_option maxHeartbeats 4000000 in
theorem boundTells_walk (s h n : Int) (w : World) (_hs : (Lit.int .u8 s).wf = true) (_hh : (Lit.int .i64 h).wf = true) (_hn : (Lit.int .i64 n).wf = true) :
    Calls Try.prog 3 #[.int .u8 s, .int .i64 h, .int .i64 n] w (Ret (.bool true) w) := by
  have HL := Lib.hid (bleast_any w s h)
  have HY := Lib.hid (fun w => mayN_any34 w s h n _ rfl)
  have HZ := Lib.hid (fun w => may34_any w s h n _ rfl)
  have HH := Lib.hid (fun w => height34_any w s h _ rfl)
  have hund : undef = Value.tuple #[] := rfl
  generalize bmayB s h n = Y at *
  cases k : okH s h with
  | false =>
    have e := lst_not k
    unfold Lst at HL
    rw [e.1, e.2] at HL
    rw [k] at HH
    clear e k
    go_enter Try.func3, Try.ntmps3
    go_wp2_with fail
    refine HL.out.mono ?_
    rintro r w1 ⟨v, rfl, n1, h1⟩
    obtain ⟨a, c, rfl⟩ := num_zero_slice n1
    have HX := Lib.hid h1
    clear n1 h1
    go_wp2_with fail
    refine (most_any w1 s n).mono ?_
    rintro r w2 hm
    obtain ⟨m, e, rfl, h2, hq⟩ := mosts_same hm
    replace HX := Lib.hid (HX.out.trans h2)
    have HQ := Lib.hid hq
    clear hm h2 hq
    go_wp2_with fail
    refine (most34_any w2 s n _ rfl).mono ?_
    rintro r w3 hm
    obtain ⟨rfl, h3⟩ := HQ.out _ _ _ hm
    replace HX := Lib.hid (HX.out.trans h3)
    clear hm h3 HQ
    go_wp2_with fail
    refine (HY.out w3).mono ?_
    rintro r w4 ⟨rfl, h4⟩
    go_wp2_with fail
    refine (HZ.out w4).mono ?_
    rintro r w5 ⟨rfl, h5⟩
    replace HX := Lib.hid ((HX.out.trans h4).trans h5)
    clear h4 h5
    go_wp2_with fail
    refine (HH.out w5).mono ?_
    rintro r w6 ⟨rfl, rfl⟩
    go_wp2_with fail
    refine (alive34_any _).mono ?_
    rintro r w9 ⟨rfl, h9⟩
    go_wp2
    go_ret
    exact Ret.mk (HX.out.trans h9)
  | true =>
    have e := lst_ok k
    unfold Lst at HL
    rw [e.1] at HL
    have HR := Lib.hid (fun w => least34_any w s h k)
    have HLT := Lib.hid (lstN_lt s h)
    rw [k] at HH
    generalize LstN s h = L at *
    clear e k
    go_enter Try.func3, Try.ntmps3
    go_wp2_with fail
    refine HL.out.mono ?_
    rintro r w1 ⟨v, rfl, n1, h1⟩
    have HX := Lib.hid h1
    have HN := Lib.hid n1
    clear n1 h1
    go_wp2_with fail
    refine (most_any w1 s n).mono ?_
    rintro r w2 hm
    obtain ⟨m, e, rfl, h2, hq⟩ := mosts_same hm
    replace HX := Lib.hid (HX.out.trans h2)
    replace HN := Lib.hid (HN.out.ext h2)
    have HQ := Lib.hid hq
    clear hm h2 hq
    go_wp2_with fail
    refine (most34_any w2 s n _ rfl).mono ?_
    rintro r w3 hm
    obtain ⟨rfl, h3⟩ := HQ.out _ _ _ hm
    replace HX := Lib.hid (HX.out.trans h3)
    replace HN := Lib.hid (HN.out.ext h3)
    clear hm h3 HQ
    go_wp2_with fail
    refine (HY.out w3).mono ?_
    rintro r w4 ⟨rfl, h4⟩
    go_wp2_with fail
    refine (HZ.out w4).mono ?_
    rintro r w5 ⟨rfl, h5⟩
    replace HX := Lib.hid ((HX.out.trans h4).trans h5)
    replace HN := Lib.hid ((HN.out.ext h4).ext h5)
    clear h4 h5
    go_wp2_with fail
    refine (HH.out w5).mono ?_
    rintro r w6 ⟨rfl, rfl⟩
    go_wp2_with fail
    refine (HR.out w5).mono ?_
    rintro r w6 ⟨v6, rfl, n6, h6⟩
    replace HX := Lib.hid (HX.out.trans h6)
    replace HN := Lib.hid (And.intro (HN.out.ext h6) n6)
    clear n6 h6
    go_wp2_with fail
    refine (sameN_num w6 v v6 L HN.out.1 HN.out.2 (lt256 HLT.out)).mono ?_
    rintro r w7 ⟨rfl, h7⟩
    replace HX := Lib.hid (HX.out.trans h7)
    clear h7
    go_wp2_with fail
    refine (alive34_any _).mono ?_
    rintro r w9 ⟨rfl, h9⟩
    go_wp2
    go_ret
    exact Ret.mk (HX.out.trans h9)
end Go.Proofs.Ytejknkhahjgdnaa
namespace Go.Proofs.Ytejknkhahjgdnaa
open Go Go.RowKit

theorem pow_bounds {n d e : Nat} (hn : n < 65536) (hd : d < 100) (he : e < 100) : n ^ d < beta ^ 128 ∧ n ^ e < beta ^ 128 ∧ n ^ (d + e) < beta ^ 128 ∧ ∀ a, a < 18446744073709551616 → a + n ^ d < beta ^ 128 := by
  have h0 : ∀ k, k ≤ 200 → n ^ k ≤ 65536 ^ 200 := fun k hk => Nat.le_trans (Nat.pow_le_pow_left (Nat.le_of_lt hn) k) (Nat.pow_le_pow_right (by decide) hk)
  have h1 : 65536 ^ 200 + 18446744073709551616 < beta ^ 128 := by decide +kernel
  have a1 := h0 d (by omega)
  have a2 := h0 e (by omega)
  have a3 := h0 (d + e) (by omega)
  generalize 65536 ^ 200 = M at *
  generalize beta ^ 128 = B at *
  refine ⟨by omega, by omega, by omega, fun a ha => by omega⟩
theorem nat_of_u {k : IntKind} {z m : Int} (h : (Lit.int k z).wf = true) (h0 : k.min = 0) (h1 : k.max = m) : ∃ x : Nat, z = (x : Int) ∧ (x : Int) ≤ m := by
  simp only [Lit.wf, Bool.and_eq_true, decide_eq_true_eq] at h
  rw [h0, h1] at h
  exact ⟨z.toNat, by omega, by omega⟩
end Go.Proofs.Ytejknkhahjgdnaa
namespace Go.Proofs.Ytejknkhahjgdnaa
open Go Go.RowKit

/-- who is higher wants more. -/
theorem lstS_up {s h : Nat} (hs : 1 ≤ s ∧ s ≤ 4) : lstS s h < lstS s (h + 1) := by
  have : s = 1 ∨ s = 2 ∨ s = 3 ∨ s = 4 := by omega
  rcases this with rfl | rfl | rfl | rfl
  · show fibN (h + 2) - 1 < fibN (h + 3) - 1
    have h1 : fibN (h + 3) = fibN (h + 1) + fibN (h + 2) := rfl
    have h2 := fibN_pos h
    have h3 := fibN_pos (h + 1)
    have h4 : fibN (h + 1 + 1) = fibN (h + 2) := rfl
    omega
  · show (if h % 2 = 1 then 3 * 2 ^ ((h + 1) / 2 - 1) - 2 else 2 * 2 ^ ((h + 1) / 2) - 2) < (if (h + 1) % 2 = 1 then 3 * 2 ^ ((h + 1 + 1) / 2 - 1) - 2 else 2 * 2 ^ ((h + 1 + 1) / 2) - 2)
    rcases Nat.mod_two_eq_zero_or_one h with hp | hp
    · rw [if_neg (by omega), if_pos (by omega), show (h + 1 + 1) / 2 - 1 = (h + 1) / 2 by omega]
      have := Nat.pow_pos (n := (h + 1) / 2) (show 0 < 2 by decide)
      omega
    · rw [if_pos hp, if_neg (by omega), show (h + 1 + 1) / 2 = ((h + 1) / 2 - 1) + 1 by omega, Nat.pow_succ]
      have := Nat.pow_pos (n := (h + 1) / 2 - 1) (show 0 < 2 by decide)
      omega
  · show wrow h - 1 < wrow (h + 1) - 1
    have h1 := wrow_pos h
    have h2 : wrow (h + 1) = wrow h + (29 * wrow h + 70) / 71 := rfl
    omega
  · exact Nat.lt_succ_self h
theorem lstS_mono {s h k : Nat} (hs : 1 ≤ s ∧ s ≤ 4) (hk : h ≤ k) : lstS s h ≤ lstS s k := by
  induction hk with
  | refl => exact Nat.le_refl _
  | step _ ih => exact Nat.le_trans ih (Nat.le_of_lt (lstS_up hs))
/-- the height that a count tells. -/
def Top (s c m : Nat) : Prop := lstS s m ≤ c ∧ c < lstS s (m + 1) ∧ okH s m = true ∧ okH s (m + 1) = true
theorem Top.rises {s c m k : Nat} (hs : 1 ≤ s ∧ s ≤ 4) (a : Top s c m) (b : Top s (c + 1) k) : m ≤ k ∧ k ≤ m + 1 := by
  obtain ⟨a1, a2, -⟩ := a
  obtain ⟨b1, b2, -⟩ := b
  constructor
  · rcases Nat.lt_or_ge k m with h | h
    · have := lstS_mono hs (show k + 1 ≤ m from h); omega
    · exact h
  · rcases Nat.lt_or_ge (m + 1) k with h | h
    · have h1 := lstS_mono hs (show m + 1 + 1 ≤ k from h)
      have h2 := lstS_up (h := m + 1) hs
      omega
    · exact h
theorem least100 : 4294967297 < lstS 1 100 ∧ 4294967297 < lstS 2 100 ∧ 4294967297 < lstS 3 100 := by decide +kernel
theorem mosts_top {s c : Nat} {w : World} {r : Ending} {w' : World} (hs : 1 ≤ s ∧ s ≤ 4) (hc : c ≤ 4294967296) (k : Mosts s c w r w') : ∃ m : Nat, Top s c m ∧ Ret (.tuple #[.int .i64 (m : Nat), .int .i64 0]) w r w' := by
  rcases k with ⟨k, _⟩ | ⟨k, _, _, hr⟩ | ⟨k1, k2, _, _, m, hm, hr⟩
  · exact absurd (show (1 : Int) ≤ s ∧ (s : Int) ≤ 4 ∧ (0 : Int) ≤ c ∧ (c : Int) ≤ 1099511627776 by omega) k
  · obtain rfl : s = 4 := by omega
    refine ⟨c, ⟨Nat.le_refl c, Nat.lt_succ_self c, ?_, ?_⟩, hr⟩
    · unfold okH; simp; omega
    · unfold okH; simp; omega
  · rw [Int.toNat_natCast, Int.toNat_natCast] at hm
    obtain ⟨m1, m2, m3⟩ := hm
    have h100 : c < lstS s 100 := by
      have : s = 1 ∨ s = 2 ∨ s = 3 := by omega
      have := least100
      rcases ‹s = 1 ∨ s = 2 ∨ s = 3› with rfl | rfl | rfl <;> omega
    have hm100 : m < 100 := by
      rcases Nat.lt_or_ge m 100 with h | h
      · exact h
      · have : m = 100 := by omega
        subst this
        have := m2 100 (by omega) (by omega)
        omega
    refine ⟨m, ⟨?_, ?_, ?_, ?_⟩, hr⟩
    · rcases Nat.eq_zero_or_pos m with h | h
      · subst h
        have : s = 1 ∨ s = 2 ∨ s = 3 := by omega
        rcases this with rfl | rfl | rfl <;> exact Nat.zero_le _
      · exact m2 m h (Nat.le_refl m)
    · rcases m3 with h | h
      · omega
      · exact h
    · unfold okH; rw [if_neg (by omega)]; simp; omega
    · unfold okH; rw [if_neg (by omega)]; simp; omega
/-- Least, of a height that there is. -/
def LstK (L : Nat) (w : World) (r : Ending) (w' : World) : Prop := ∃ v, r = .returned (.tuple #[v, .int .i64 0]) ∧ NumIs w' v L ∧ Ext w w'
theorem least_ok (w : World) (s h : Nat) (k : okH s h = true) : Calls Try.prog 7 #[.int .u8 (s : Nat), .int .i64 (h : Nat)] w (LstK (lstS s h) w) := by
  refine (bleast_any w s h).mono ?_
  rintro e w1 ⟨v, rfl, h1, h2⟩
  rw [(lst_ok k).2, Int.toNat_natCast, Int.toNat_natCast] at h1
  rw [(lst_ok k).1]
  exact ⟨v, rfl, h1, h2⟩
theorem okH_small {s h : Nat} (hs : 1 ≤ s ∧ s ≤ 4) (hh : h ≤ 100) : okH s h = true := by
  unfold okH
  split
  · simp; omega
  · simp; omega
theorem lstN_big {s h : Nat} (k : okH s h = true) : lstS s h < beta ^ 128 := by
  have := lstN_lt s h
  rwa [(lst_ok k).2, Int.toNat_natCast, Int.toNat_natCast] at this
set_option maxRecDepth 100000 in
set_option maxHeartbeats 8000000 in
theorem boundRises_nat (x h c : Nat) (w : World) (hx : x < 256) (hh : h < 4294967296) (hc : c < 4294967296) :
    Calls Try.prog 4 #[.int .u8 (x : Nat), .int .u32 (h : Nat), .int .u32 (c : Nat)] w (Ret (.bool true) w) := by
  obtain ⟨S, hS⟩ : ∃ S, S = 1 + x % 4 := ⟨_, rfl⟩
  obtain ⟨K, hK⟩ : ∃ K, K = h % 100 := ⟨_, rfl⟩
  have HS := Lib.hid (show 1 ≤ S ∧ S ≤ 4 by omega)
  have hS2 : 1 + (x : Int) % 4 = (S : Int) := by omega
  have hK2 : (h : Int).tmod 100 = (K : Int) := by rw [Int.tmod_eq_emod_of_nonneg (by omega)]; omega
  have hK3 : K < 100 := by omega
  have hS3 : S ≤ 4 := HS.out.2
  have HO1 := Lib.hid (okH_small (h := K) HS.out (by omega))
  have HO2 := Lib.hid (okH_small (h := K + 1) HS.out (by omega))
  have HCB := Lib.hid (show c ≤ 4294967296 ∧ c + 1 ≤ 4294967296 by omega)
  have HC1 := Lib.hid (cmpV_lt (lstS_up (s := S) (h := K) HS.out))
  clear hS hK
  go_enter Try.func4, Try.ntmps4
  go_wp2_with fail
  refine (least_ok w S K HO1.out).mono ?_
  rintro r w1 ⟨a, rfl, n1, h1⟩
  have HX := Lib.hid h1
  have HA := Lib.hid n1
  clear n1 h1
  go_wp2_with fail
  refine (least_ok w1 S (K + 1) HO2.out).mono ?_
  rintro r w2 ⟨b, rfl, n2, h2⟩
  replace HX := Lib.hid (HX.out.trans h2)
  replace HA := Lib.hid (And.intro (HA.out.ext h2) n2)
  clear n2 h2
  go_wp2_with fail
  refine (most_any w2 S c).mono ?_
  rintro r w3 hm
  obtain ⟨m, tm, rfl, h3⟩ := mosts_top HS.out HCB.out.1 hm
  replace HX := Lib.hid (HX.out.trans h3)
  replace HA := Lib.hid (And.intro (HA.out.1.ext h3) (HA.out.2.ext h3))
  have HT := Lib.hid tm
  clear hm h3 tm
  go_wp2_with fail
  refine (most_any w3 S (c + 1 : Nat)).mono ?_
  rintro r w4 hm
  obtain ⟨m2, tm, rfl, h4⟩ := mosts_top HS.out HCB.out.2 hm
  replace HX := Lib.hid (HX.out.trans h4)
  replace HA := Lib.hid (And.intro (HA.out.1.ext h4) (HA.out.2.ext h4))
  have hr := HT.out.rises HS.out tm
  clear hm h4 tm
  obtain ⟨hr1, hr2⟩ := hr
  have HMB := Lib.hid (show m ≤ 1099511627777 by
    have := HT.out.2.2.1
    unfold okH at this
    simp only [Bool.and_eq_true, decide_eq_true_eq] at this
    have h2 := this.2
    split at h2 <;> simp at h2 <;> omega)
  have HL2 := Lib.hid (And.intro (lstN_big HO1.out) (lstN_big HO2.out))
  have hmb : m ≤ 1099511627777 := HMB.out
  go_wp2_with fail
  refine (natCmp_num w4 a b (lstS S K) (lstS S (K + 1)) HA.out.1 HA.out.2 HL2.out.1 HL2.out.2).mono ?_
  rw [HC1.out]
  rintro r w5 ⟨rfl, h5⟩
  replace HX := Lib.hid (HX.out.trans h5)
  clear h5 HA HL2
  go_wp2_with fail
  refine (least_ok w5 S m HT.out.2.2.1).mono ?_
  rintro r w6 ⟨p, rfl, n6, h6⟩
  replace HX := Lib.hid (HX.out.trans h6)
  have HA := Lib.hid n6
  clear n6 h6
  go_wp2_with fail
  refine (least_ok w6 S (m + 1) HT.out.2.2.2).mono ?_
  rintro r w7 ⟨q, rfl, n7, h7⟩
  replace HX := Lib.hid (HX.out.trans h7)
  replace HA := Lib.hid (And.intro (HA.out.ext h7) n7)
  clear n7 h7
  go_wp2_with fail
  refine (from_any w7 c (by omega)).mono ?_
  rintro r w8 ⟨u, rfl, n8, h8⟩
  replace HX := Lib.hid (HX.out.trans h8)
  replace HA := Lib.hid (And.intro (HA.out.1.ext h8) (And.intro (HA.out.2.ext h8) n8))
  clear n8 h8
  have HL2 := Lib.hid (And.intro (lstN_big HT.out.2.2.1) (lstN_big HT.out.2.2.2))
  have HCB2 := Lib.hid (u64_beta (n := c) (by omega))
  have HV1 := Lib.hid (show decide (cmpV (lstS S m) c ≤ 0) = true by rw [cmp_le]; exact decide_eq_true HT.out.1)
  have HV2 := Lib.hid (cmpV_gt HT.out.2.1)
  go_wp2_with fail
  refine (natCmp_num w8 p u (lstS S m) c HA.out.1 HA.out.2.2 HL2.out.1 HCB2.out).mono ?_
  rintro r w9 ⟨rfl, h9⟩
  replace HX := Lib.hid (HX.out.trans h9)
  replace HA := Lib.hid (And.intro (HA.out.1.ext h9) (And.intro (HA.out.2.1.ext h9) (HA.out.2.2.ext h9)))
  have hv1 : cmpV (lstS S m) c ≤ 0 := of_decide_eq_true HV1.out
  generalize cmpV (lstS S m) c = V1 at *
  clear h9
  go_wp2_with fail
  refine (natCmp_num w9 q u (lstS S (m + 1)) c HA.out.2.1 HA.out.2.2 HL2.out.2 HCB2.out).mono ?_
  rw [HV2.out]
  rintro r w10 ⟨rfl, h10⟩
  replace HX := Lib.hid (HX.out.trans h10)
  clear h10
  go_wp2_with fail
  refine (alive34_any _).mono ?_
  rintro r w11 ⟨rfl, h11⟩
  go_wp2
  go_ret
  exact Ret.mk (HX.out.trans h11)
theorem boundRises_walk (x h c : Int) (w : World) (hx : (Lit.int .u8 x).wf = true) (hh : (Lit.int .u32 h).wf = true) (hc : (Lit.int .u32 c).wf = true) :
    Calls Try.prog 4 #[.int .u8 x, .int .u32 h, .int .u32 c] w (Ret (.bool true) w) := by
  obtain ⟨x, rfl, x1⟩ := nat_of_u hx (m := 255) rfl rfl
  obtain ⟨h, rfl, h1⟩ := nat_of_u hh (m := 4294967295) rfl rfl
  obtain ⟨c, rfl, c1⟩ := nat_of_u hc (m := 4294967295) rfl rfl
  exact boundRises_nat x h c w (by omega) (by omega) (by omega)
end Go.Proofs.Ytejknkhahjgdnaa
namespace Go.Proofs.Ytejknkhahjgdnaa
open Go Go.RowKit Go.Shelf
attribute [local go_sem] Oper.semAt_some

/-- a tree's nodes, from left to right. -/
def Tr.inl : Tr → List Tr
  | .nil => []
  | .node b l k v g r => l.inl ++ .node b l k v g r :: r.inl
/-- from right to left. -/
def Tr.inr : Tr → List Tr
  | .nil => []
  | .node b l k v g r => r.inr ++ .node b l k v g r :: l.inr
theorem inr_rev : ∀ t : Tr, t.inr = t.inl.reverse
  | .nil => rfl
  | .node b l k v g r => by simp [Tr.inl, Tr.inr, inr_rev l, inr_rev r]
set_option maxRecDepth 100000 in
set_option maxHeartbeats 4000000 in
theorem lookOnL_in
  (M : Nat → Prop) (Px : Tr → Prop) (l N by_ bo ba bb : Nat) (J Jx : List Tr → World → Prop) (hy0 : ¬ M by_) (ho0 : ¬ M bo) (ha0 : ¬ M ba) (hb0 : ¬ M bb)
    (hY : ∀ m pre x W, Px x → J pre W → pre.length < N → YieldAt Fence.wide m Try.prog l #[.pointer x.ptr] W fun e W' =>
      (e = .returned (.bool true) ∧ J (pre ++ [x]) W' ∧ Keep M W W') ∨ (e = .returned (.bool false) ∧ Jx (pre ++ [x]) W'))
    (hJE : ∀ pre W W', J pre W → Ext W W' → J pre W')
    (T : Tr) :
    ∀ (n : Nat) (pre : List Tr) (W : World), InH W T → Off M T → (∀ x ∈ T.inl, Px x) → J pre W → pre.length + (T.inl).length ≤ N →
      Boxed W by_ 76 (.func (.yield l) #[] #[]) → Boxed W bo 76 (.func (.func 86) #[] #[.pointer (some ⟨bo, 0, none⟩), .pointer (some ⟨ba, 0, none⟩), .pointer (some ⟨by_, 0, none⟩), .pointer (some ⟨bb, 0, none⟩)]) →
      Boxed W ba 92 (.func (.func 43) #[] #[]) → Boxed W bb 92 (.func (.func 44) #[] #[]) →
      CallsIn Fence.wide n Try.prog 86 #[.pointer T.ptr, .pointer (some ⟨bo, 0, none⟩), .pointer (some ⟨ba, 0, none⟩), .pointer (some ⟨by_, 0, none⟩), .pointer (some ⟨bb, 0, none⟩)] W fun e W' =>
        (e = .returned (.bool true) ∧ J (pre ++ T.inl) W' ∧ Keep M W W') ∨ (e = .returned (.bool false) ∧ ∃ q, q <+: T.inl ∧ Jx (pre ++ q) W') := by
  have hfn : ∀ f, Fence.wide.fn f := fun _ => trivial
  induction T with
  | nil =>
    intro n pre W _ _ _ hJ _ _ _ _ _
    rw [Tr.ptr_nil]
    refine callsIn_of_wp Try.func86 rfl trivial ?_ rfl
    simp only [Try.ntmps86, List.size_toArray, List.length_cons, List.length_nil, Nat.reduceAdd, Nat.reduceSub, Array.replicate_succ, Array.replicate_zero, List.push_toArray, List.append_toArray, List.nil_append, List.cons_append]
    gi_wp2_with fail
    refine wpIn_region_G (fun j => !(List.contains (α := Nat) [7, 11, 18] j)) (by kernel_rfl) ?_
    refine batchG hfn (fuel := 16) [0, 1, 2, 3, 4, 5] (by kernel_rfl) rfl ?_
    repeat (go_big_quiet_step ((fail)))
    refine wpQuiet_nil ?_
    refine wpAnyG_skip hfn (j := 6) (by kernel_rfl) rfl rfl ?_
    simp only [Act.put, List.setIfInBounds_toArray, List.set_cons_zero, List.set_cons_succ]
    refine wpAnyG_skip hfn (j := 7) (by kernel_rfl) rfl rfl ?_
    simp only [Act.put, List.setIfInBounds_toArray, List.set_cons_zero, List.set_cons_succ]
    refine batchG hfn (fuel := 11) [8, 9, 10] (by kernel_rfl) rfl ?_
    repeat (go_big_quiet_step ((fail)))
    refine wpQuiet_nil ?_
    refine wpAnyG_skip hfn (j := 11) (by kernel_rfl) rfl rfl ?_
    simp only [Act.put, List.setIfInBounds_toArray, List.set_cons_zero, List.set_cons_succ]
    refine batchG hfn (fuel := 5) [12, 13, 14, 15, 16] (by kernel_rfl) rfl ?_
    repeat (go_big_quiet_step ((fail)))
    refine wpQuiet_nil ?_
    refine wpAnyG_skip hfn (j := 17) (by kernel_rfl) rfl rfl ?_
    simp only [Act.put, List.setIfInBounds_toArray, List.set_cons_zero, List.set_cons_succ]
    refine wpAnyG_skip hfn (j := 18) (by kernel_rfl) rfl rfl ?_
    simp only [Act.put, List.setIfInBounds_toArray, List.set_cons_zero, List.set_cons_succ]
    refine batchG hfn (fuel := 0) [19, 20, 21] (by kernel_rfl) rfl ?_
    repeat (go_big_quiet_step ((fail)))
    refine wpQuiet_nil ?_
    refine wpAnyG_done (by kernel_rfl) ?_
    refine calmQ_normal ?_
    gi_wp2
    go_ret
    exact .inl ⟨rfl, by simpa [Tr.inl] using hJE _ _ _ hJ (Ext.drew W), Keep.drew W⟩
  | node b tl k v g tr ihl ihr =>
    intro n pre W ht ho hP hJ hN hy hbo hba hbb
    simp only [Tr.inl, List.length_cons, List.length_append] at hN
    have Hl := Lib.hid ihl
    have Hr := Lib.hid ihr
    have HY := Lib.hid hY
    clear ihl ihr hY
    have HP := Lib.hid hP
    clear hP
    have hco := cell_all hbo.cell
    have hca := cell_all hba.cell
    have hx0 := Ext.drew W
    rw [Tr.ptr_node]
    refine callsIn_of_wp Try.func86 rfl trivial ?_ rfl
    simp only [Try.ntmps86, List.size_toArray, List.length_cons, List.length_nil, Nat.reduceAdd, Nat.reduceSub, Array.replicate_succ, Array.replicate_zero, List.push_toArray, List.append_toArray, List.nil_append, List.cons_append]
    gi_wp2_with fail
    refine wpIn_region_G (fun j => !(List.contains (α := Nat) [7, 11, 18] j)) (by kernel_rfl) ?_
    refine batchG hfn (fuel := 16) [0, 1, 2, 3, 4, 5] (by kernel_rfl) rfl ?_
    repeat (go_big_quiet_step ((fail)))
    refine wpQuiet_nil ?_
    clear hco hca hx0
    refine wpAnyG_one (j := 6) (by kernel_rfl) rfl ?_
    gi_wp2_with fail
    rw [← Tr.ptr_node b tl k v g tr]
    have ht0 := ht.ext (Ext.drew W)
    refine ⟨wide_room _, (callsIn_wide.2 (left_any _ _ ht0)).mono ?_⟩
    rintro e W1 ⟨rfl, h1⟩
    have hk1 : Keep M W W1 := (Keep.drew W).trans (Keep.ext h1)
    have ht1 := ht0.ext h1
    have hJ1 := hJE _ _ _ (hJE _ _ _ hJ (Ext.drew W)) h1
    have hy1 := hk1.boxed hy0 hy
    have hbo1 := hk1.boxed ho0 hbo
    have hba1 := hk1.boxed ha0 hba
    have hbb1 := hk1.boxed hb0 hbb
    clear ht ht0 hJ hy hbo hba hbb
    gi_wp2_with fail
    refine onePost_ext (h1) ?_
    refine wpAnyG_one (j := 7) (by kernel_rfl) rfl ?_
    gi_wp2_with fail
    simp only [Tr.left_node]
    refine ⟨wide_room _, (Hl.out (n - 1) _ W1 ht1.2.1 ho.2.1 (fun x hx => HP.out x (List.mem_append_left _ hx)) hJ1 (by omega) hy1 hbo1 hba1 hbb1).mono ?_⟩
    rintro e W2 (⟨rfl, hJ2, hk2⟩ | ⟨rfl, q, hq, hJx2⟩)
    · have hk02 := hk1.trans hk2
      have ht2 := InH.keep hk2 ho ht1
      have hy2 := hk2.boxed hy0 hy1
      have hbo2 := hk2.boxed ho0 hbo1
      have hba2 := hk2.boxed ha0 hba1
      have hbb2 := hk2.boxed hb0 hbb1
      clear ht1 hJ1 hy1 hbo1 hba1 hbb1 hk1 hk2
      have hcy := cell_all hy2.cell
      have hx2 := Ext.refl W2
      obtain ⟨fn, tmps, assign, body, hy3, hR⟩ := HY.out n (pre ++ tl.inl) (.node b tl k v g tr) W2 (HP.out _ (List.mem_append_right _ (List.mem_cons_self ..))) hJ2 (by rw [List.length_append]; omega)
      have HR := Lib.hid hR
      clear hR
      rw [Tr.ptr_node] at hy3
      gi_wp2_with fail
      refine onePost_any (by kernel_rfl) ?_
      refine batchG hfn (fuel := 11) [8, 9, 10] (by kernel_rfl) rfl ?_
      repeat (go_big_quiet_step ((fail)))
      refine wpQuiet_nil ?_
      rw [Tr.ptr_node]
      refine wpAnyG_one (j := 11) (by kernel_rfl) rfl ?_
      gi_wp2_with fail
      clear hcy hx2 hy3
      refine ⟨wide_room _, (RoundIn.any HR.out).mono ?_⟩
      rintro e W3 (⟨rfl, hJ3, hk3⟩ | ⟨rfl, hJx3⟩)
      · have hk03 := hk02.trans hk3
        have ht3 := InH.keep hk3 ho ht2
        have hy3 := hk3.boxed hy0 hy2
        have hbo3 := hk3.boxed ho0 hbo2
        have hba3 := hk3.boxed ha0 hba2
        have hbb3 := hk3.boxed hb0 hbb2
        clear ht2 hJ2 hy2 hbo2 hba2 hbb2 hk02 hk3
        have hco := cell_all hbo3.cell
        have hcb := cell_all hbb3.cell
        have hx3 := Ext.refl W3
        gi_wp2_with fail
        refine onePost_any (by kernel_rfl) ?_
        refine batchG hfn (fuel := 5) [12, 13, 14, 15, 16] (by kernel_rfl) rfl ?_
        repeat (go_big_quiet_step ((fail)))
        refine wpQuiet_nil ?_
        clear hco hcb hx3
        refine wpAnyG_one (j := 17) (by kernel_rfl) rfl ?_
        gi_wp2_with fail
        rw [← Tr.ptr_node b tl k v g tr]
        refine ⟨wide_room _, (callsIn_wide.2 (right_any _ _ ht3)).mono ?_⟩
        rintro e W4 ⟨rfl, h4⟩
        have hk4 : Keep M W3 W4 := Keep.ext h4
        have hk04 := hk03.trans hk4
        have ht4 := ht3.ext h4
        have hJ4 := hJE _ _ _ hJ3 h4
        have hy4 := hk4.boxed hy0 hy3
        have hbo4 := hk4.boxed ho0 hbo3
        have hba4 := hk4.boxed ha0 hba3
        have hbb4 := hk4.boxed hb0 hbb3
        clear ht3 hJ3 hy3 hbo3 hba3 hbb3 hk03 hk4
        gi_wp2_with fail
        refine onePost_ext (h4) ?_
        refine wpAnyG_one (j := 18) (by kernel_rfl) rfl ?_
        gi_wp2_with fail
        simp only [Tr.right_node]
        refine ⟨wide_room _, (Hr.out (n - 1) _ W4 ht4.2.2 ho.2.2 (fun x hx => HP.out x (List.mem_append_right _ (List.mem_cons_of_mem _ hx))) hJ4 (by simp only [List.length_append, List.length_cons, List.length_nil]; omega) hy4 hbo4 hba4 hbb4).mono ?_⟩
        rintro e W5 (⟨rfl, hJ5, hk5⟩ | ⟨rfl, q, hq, hJx5⟩)
        · gi_wp2_with fail
          refine onePost_any (by kernel_rfl) ?_
          refine batchG hfn (fuel := 0) [19, 20, 21] (by kernel_rfl) rfl ?_
          repeat (go_big_quiet_step ((fail)))
          refine wpQuiet_nil ?_
          refine wpAnyG_done (by kernel_rfl) ?_
          refine calmQ_normal ?_
          gi_wp2
          go_ret
          exact .inl ⟨rfl, by simpa [Tr.inl, List.append_assoc] using hJ5, hk04.trans hk5⟩
        · gi_wp2_with fail
          refine onePost_any (by kernel_rfl) ?_
          refine batchG hfn (fuel := 0) [19, 20, 21] (by kernel_rfl) rfl ?_
          repeat (go_big_quiet_step ((fail)))
          refine wpQuiet_nil ?_
          refine wpAnyG_done (by kernel_rfl) ?_
          refine calmQ_normal ?_
          gi_wp2
          go_ret
          obtain ⟨r', hr'⟩ := hq
          exact .inr ⟨rfl, tl.inl ++ .node b tl k v g tr :: q, ⟨r', by simp [Tr.inl, ← hr']⟩, by simpa [List.append_assoc] using hJx5⟩
      · gi_wp2_with fail
        refine onePost_any (by kernel_rfl) ?_
        refine batchG hfn (fuel := 5) [12, 13, 14, 15, 16] (by kernel_rfl) rfl ?_
        repeat (go_big_quiet_step ((fail)))
        refine wpQuiet_nil ?_
        refine wpAnyG_skip hfn (j := 17) (by kernel_rfl) rfl rfl ?_
        simp only [Act.put, List.setIfInBounds_toArray, List.set_cons_zero, List.set_cons_succ]
        refine wpAnyG_skip hfn (j := 18) (by kernel_rfl) rfl rfl ?_
        simp only [Act.put, List.setIfInBounds_toArray, List.set_cons_zero, List.set_cons_succ]
        refine batchG hfn (fuel := 0) [19, 20, 21] (by kernel_rfl) rfl ?_
        repeat (go_big_quiet_step ((fail)))
        refine wpQuiet_nil ?_
        refine wpAnyG_done (by kernel_rfl) ?_
        refine calmQ_normal ?_
        gi_wp2
        go_ret
        exact .inr ⟨rfl, tl.inl ++ [.node b tl k v g tr], ⟨tr.inl, by simp [Tr.inl]⟩, by simpa [List.append_assoc] using hJx3⟩
    · gi_wp2_with fail
      refine onePost_any (by kernel_rfl) ?_
      refine batchG hfn (fuel := 11) [8, 9, 10] (by kernel_rfl) rfl ?_
      repeat (go_big_quiet_step ((fail)))
      refine wpQuiet_nil ?_
      refine wpAnyG_skip hfn (j := 11) (by kernel_rfl) rfl rfl ?_
      simp only [Act.put, List.setIfInBounds_toArray, List.set_cons_zero, List.set_cons_succ]
      refine batchG hfn (fuel := 5) [12, 13, 14, 15, 16] (by kernel_rfl) rfl ?_
      repeat (go_big_quiet_step ((fail)))
      refine wpQuiet_nil ?_
      refine wpAnyG_skip hfn (j := 17) (by kernel_rfl) rfl rfl ?_
      simp only [Act.put, List.setIfInBounds_toArray, List.set_cons_zero, List.set_cons_succ]
      refine wpAnyG_skip hfn (j := 18) (by kernel_rfl) rfl rfl ?_
      simp only [Act.put, List.setIfInBounds_toArray, List.set_cons_zero, List.set_cons_succ]
      refine batchG hfn (fuel := 0) [19, 20, 21] (by kernel_rfl) rfl ?_
      repeat (go_big_quiet_step ((fail)))
      refine wpQuiet_nil ?_
      refine wpAnyG_done (by kernel_rfl) ?_
      refine calmQ_normal ?_
      gi_wp2
      go_ret
      obtain ⟨r', hr'⟩ := hq
      exact .inr ⟨rfl, q, ⟨r' ++ .node b tl k v g tr :: tr.inl, by simp [Tr.inl, ← hr']⟩, hJx2⟩
set_option maxRecDepth 100000 in
set_option maxHeartbeats 4000000 in
theorem lookOnR_in
  (M : Nat → Prop) (Px : Tr → Prop) (l N by_ bo ba bb : Nat) (J Jx : List Tr → World → Prop) (hy0 : ¬ M by_) (ho0 : ¬ M bo) (ha0 : ¬ M ba) (hb0 : ¬ M bb)
    (hY : ∀ m pre x W, Px x → J pre W → pre.length < N → YieldAt Fence.wide m Try.prog l #[.pointer x.ptr] W fun e W' =>
      (e = .returned (.bool true) ∧ J (pre ++ [x]) W' ∧ Keep M W W') ∨ (e = .returned (.bool false) ∧ Jx (pre ++ [x]) W'))
    (hJE : ∀ pre W W', J pre W → Ext W W' → J pre W')
    (T : Tr) :
    ∀ (n : Nat) (pre : List Tr) (W : World), InH W T → Off M T → (∀ x ∈ T.inr, Px x) → J pre W → pre.length + (T.inr).length ≤ N →
      Boxed W by_ 76 (.func (.yield l) #[] #[]) → Boxed W bo 76 (.func (.func 86) #[] #[.pointer (some ⟨bo, 0, none⟩), .pointer (some ⟨ba, 0, none⟩), .pointer (some ⟨by_, 0, none⟩), .pointer (some ⟨bb, 0, none⟩)]) →
      Boxed W ba 92 (.func (.func 44) #[] #[]) → Boxed W bb 92 (.func (.func 43) #[] #[]) →
      CallsIn Fence.wide n Try.prog 86 #[.pointer T.ptr, .pointer (some ⟨bo, 0, none⟩), .pointer (some ⟨ba, 0, none⟩), .pointer (some ⟨by_, 0, none⟩), .pointer (some ⟨bb, 0, none⟩)] W fun e W' =>
        (e = .returned (.bool true) ∧ J (pre ++ T.inr) W' ∧ Keep M W W') ∨ (e = .returned (.bool false) ∧ ∃ q, q <+: T.inr ∧ Jx (pre ++ q) W') := by
  have hfn : ∀ f, Fence.wide.fn f := fun _ => trivial
  induction T with
  | nil =>
    intro n pre W _ _ _ hJ _ _ _ _ _
    rw [Tr.ptr_nil]
    refine callsIn_of_wp Try.func86 rfl trivial ?_ rfl
    simp only [Try.ntmps86, List.size_toArray, List.length_cons, List.length_nil, Nat.reduceAdd, Nat.reduceSub, Array.replicate_succ, Array.replicate_zero, List.push_toArray, List.append_toArray, List.nil_append, List.cons_append]
    gi_wp2_with fail
    refine wpIn_region_G (fun j => !(List.contains (α := Nat) [7, 11, 18] j)) (by kernel_rfl) ?_
    refine batchG hfn (fuel := 16) [0, 1, 2, 3, 4, 5] (by kernel_rfl) rfl ?_
    repeat (go_big_quiet_step ((fail)))
    refine wpQuiet_nil ?_
    refine wpAnyG_skip hfn (j := 6) (by kernel_rfl) rfl rfl ?_
    simp only [Act.put, List.setIfInBounds_toArray, List.set_cons_zero, List.set_cons_succ]
    refine wpAnyG_skip hfn (j := 7) (by kernel_rfl) rfl rfl ?_
    simp only [Act.put, List.setIfInBounds_toArray, List.set_cons_zero, List.set_cons_succ]
    refine batchG hfn (fuel := 11) [8, 9, 10] (by kernel_rfl) rfl ?_
    repeat (go_big_quiet_step ((fail)))
    refine wpQuiet_nil ?_
    refine wpAnyG_skip hfn (j := 11) (by kernel_rfl) rfl rfl ?_
    simp only [Act.put, List.setIfInBounds_toArray, List.set_cons_zero, List.set_cons_succ]
    refine batchG hfn (fuel := 5) [12, 13, 14, 15, 16] (by kernel_rfl) rfl ?_
    repeat (go_big_quiet_step ((fail)))
    refine wpQuiet_nil ?_
    refine wpAnyG_skip hfn (j := 17) (by kernel_rfl) rfl rfl ?_
    simp only [Act.put, List.setIfInBounds_toArray, List.set_cons_zero, List.set_cons_succ]
    refine wpAnyG_skip hfn (j := 18) (by kernel_rfl) rfl rfl ?_
    simp only [Act.put, List.setIfInBounds_toArray, List.set_cons_zero, List.set_cons_succ]
    refine batchG hfn (fuel := 0) [19, 20, 21] (by kernel_rfl) rfl ?_
    repeat (go_big_quiet_step ((fail)))
    refine wpQuiet_nil ?_
    refine wpAnyG_done (by kernel_rfl) ?_
    refine calmQ_normal ?_
    gi_wp2
    go_ret
    exact .inl ⟨rfl, by simpa [Tr.inr] using hJE _ _ _ hJ (Ext.drew W), Keep.drew W⟩
  | node b tl k v g tr ihl ihr =>
    intro n pre W ht ho hP hJ hN hy hbo hba hbb
    simp only [Tr.inr, List.length_cons, List.length_append] at hN
    have Hl := Lib.hid ihl
    have Hr := Lib.hid ihr
    have HY := Lib.hid hY
    clear ihl ihr hY
    have HP := Lib.hid hP
    clear hP
    have hco := cell_all hbo.cell
    have hca := cell_all hba.cell
    have hx0 := Ext.drew W
    rw [Tr.ptr_node]
    refine callsIn_of_wp Try.func86 rfl trivial ?_ rfl
    simp only [Try.ntmps86, List.size_toArray, List.length_cons, List.length_nil, Nat.reduceAdd, Nat.reduceSub, Array.replicate_succ, Array.replicate_zero, List.push_toArray, List.append_toArray, List.nil_append, List.cons_append]
    gi_wp2_with fail
    refine wpIn_region_G (fun j => !(List.contains (α := Nat) [7, 11, 18] j)) (by kernel_rfl) ?_
    refine batchG hfn (fuel := 16) [0, 1, 2, 3, 4, 5] (by kernel_rfl) rfl ?_
    repeat (go_big_quiet_step ((fail)))
    refine wpQuiet_nil ?_
    clear hco hca hx0
    refine wpAnyG_one (j := 6) (by kernel_rfl) rfl ?_
    gi_wp2_with fail
    rw [← Tr.ptr_node b tl k v g tr]
    have ht0 := ht.ext (Ext.drew W)
    refine ⟨wide_room _, (callsIn_wide.2 (right_any _ _ ht0)).mono ?_⟩
    rintro e W1 ⟨rfl, h1⟩
    have hk1 : Keep M W W1 := (Keep.drew W).trans (Keep.ext h1)
    have ht1 := ht0.ext h1
    have hJ1 := hJE _ _ _ (hJE _ _ _ hJ (Ext.drew W)) h1
    have hy1 := hk1.boxed hy0 hy
    have hbo1 := hk1.boxed ho0 hbo
    have hba1 := hk1.boxed ha0 hba
    have hbb1 := hk1.boxed hb0 hbb
    clear ht ht0 hJ hy hbo hba hbb
    gi_wp2_with fail
    refine onePost_ext (h1) ?_
    refine wpAnyG_one (j := 7) (by kernel_rfl) rfl ?_
    gi_wp2_with fail
    simp only [Tr.right_node]
    refine ⟨wide_room _, (Hr.out (n - 1) _ W1 ht1.2.2 ho.2.2 (fun x hx => HP.out x (List.mem_append_left _ hx)) hJ1 (by omega) hy1 hbo1 hba1 hbb1).mono ?_⟩
    rintro e W2 (⟨rfl, hJ2, hk2⟩ | ⟨rfl, q, hq, hJx2⟩)
    · have hk02 := hk1.trans hk2
      have ht2 := InH.keep hk2 ho ht1
      have hy2 := hk2.boxed hy0 hy1
      have hbo2 := hk2.boxed ho0 hbo1
      have hba2 := hk2.boxed ha0 hba1
      have hbb2 := hk2.boxed hb0 hbb1
      clear ht1 hJ1 hy1 hbo1 hba1 hbb1 hk1 hk2
      have hcy := cell_all hy2.cell
      have hx2 := Ext.refl W2
      obtain ⟨fn, tmps, assign, body, hy3, hR⟩ := HY.out n (pre ++ tr.inr) (.node b tl k v g tr) W2 (HP.out _ (List.mem_append_right _ (List.mem_cons_self ..))) hJ2 (by rw [List.length_append]; omega)
      have HR := Lib.hid hR
      clear hR
      rw [Tr.ptr_node] at hy3
      gi_wp2_with fail
      refine onePost_any (by kernel_rfl) ?_
      refine batchG hfn (fuel := 11) [8, 9, 10] (by kernel_rfl) rfl ?_
      repeat (go_big_quiet_step ((fail)))
      refine wpQuiet_nil ?_
      rw [Tr.ptr_node]
      refine wpAnyG_one (j := 11) (by kernel_rfl) rfl ?_
      gi_wp2_with fail
      clear hcy hx2 hy3
      refine ⟨wide_room _, (RoundIn.any HR.out).mono ?_⟩
      rintro e W3 (⟨rfl, hJ3, hk3⟩ | ⟨rfl, hJx3⟩)
      · have hk03 := hk02.trans hk3
        have ht3 := InH.keep hk3 ho ht2
        have hy3 := hk3.boxed hy0 hy2
        have hbo3 := hk3.boxed ho0 hbo2
        have hba3 := hk3.boxed ha0 hba2
        have hbb3 := hk3.boxed hb0 hbb2
        clear ht2 hJ2 hy2 hbo2 hba2 hbb2 hk02 hk3
        have hco := cell_all hbo3.cell
        have hcb := cell_all hbb3.cell
        have hx3 := Ext.refl W3
        gi_wp2_with fail
        refine onePost_any (by kernel_rfl) ?_
        refine batchG hfn (fuel := 5) [12, 13, 14, 15, 16] (by kernel_rfl) rfl ?_
        repeat (go_big_quiet_step ((fail)))
        refine wpQuiet_nil ?_
        clear hco hcb hx3
        refine wpAnyG_one (j := 17) (by kernel_rfl) rfl ?_
        gi_wp2_with fail
        rw [← Tr.ptr_node b tl k v g tr]
        refine ⟨wide_room _, (callsIn_wide.2 (left_any _ _ ht3)).mono ?_⟩
        rintro e W4 ⟨rfl, h4⟩
        have hk4 : Keep M W3 W4 := Keep.ext h4
        have hk04 := hk03.trans hk4
        have ht4 := ht3.ext h4
        have hJ4 := hJE _ _ _ hJ3 h4
        have hy4 := hk4.boxed hy0 hy3
        have hbo4 := hk4.boxed ho0 hbo3
        have hba4 := hk4.boxed ha0 hba3
        have hbb4 := hk4.boxed hb0 hbb3
        clear ht3 hJ3 hy3 hbo3 hba3 hbb3 hk03 hk4
        gi_wp2_with fail
        refine onePost_ext (h4) ?_
        refine wpAnyG_one (j := 18) (by kernel_rfl) rfl ?_
        gi_wp2_with fail
        simp only [Tr.left_node]
        refine ⟨wide_room _, (Hl.out (n - 1) _ W4 ht4.2.1 ho.2.1 (fun x hx => HP.out x (List.mem_append_right _ (List.mem_cons_of_mem _ hx))) hJ4 (by simp only [List.length_append, List.length_cons, List.length_nil]; omega) hy4 hbo4 hba4 hbb4).mono ?_⟩
        rintro e W5 (⟨rfl, hJ5, hk5⟩ | ⟨rfl, q, hq, hJx5⟩)
        · gi_wp2_with fail
          refine onePost_any (by kernel_rfl) ?_
          refine batchG hfn (fuel := 0) [19, 20, 21] (by kernel_rfl) rfl ?_
          repeat (go_big_quiet_step ((fail)))
          refine wpQuiet_nil ?_
          refine wpAnyG_done (by kernel_rfl) ?_
          refine calmQ_normal ?_
          gi_wp2
          go_ret
          exact .inl ⟨rfl, by simpa [Tr.inr, List.append_assoc] using hJ5, hk04.trans hk5⟩
        · gi_wp2_with fail
          refine onePost_any (by kernel_rfl) ?_
          refine batchG hfn (fuel := 0) [19, 20, 21] (by kernel_rfl) rfl ?_
          repeat (go_big_quiet_step ((fail)))
          refine wpQuiet_nil ?_
          refine wpAnyG_done (by kernel_rfl) ?_
          refine calmQ_normal ?_
          gi_wp2
          go_ret
          obtain ⟨r', hr'⟩ := hq
          exact .inr ⟨rfl, tr.inr ++ .node b tl k v g tr :: q, ⟨r', by simp [Tr.inr, ← hr']⟩, by simpa [List.append_assoc] using hJx5⟩
      · gi_wp2_with fail
        refine onePost_any (by kernel_rfl) ?_
        refine batchG hfn (fuel := 5) [12, 13, 14, 15, 16] (by kernel_rfl) rfl ?_
        repeat (go_big_quiet_step ((fail)))
        refine wpQuiet_nil ?_
        refine wpAnyG_skip hfn (j := 17) (by kernel_rfl) rfl rfl ?_
        simp only [Act.put, List.setIfInBounds_toArray, List.set_cons_zero, List.set_cons_succ]
        refine wpAnyG_skip hfn (j := 18) (by kernel_rfl) rfl rfl ?_
        simp only [Act.put, List.setIfInBounds_toArray, List.set_cons_zero, List.set_cons_succ]
        refine batchG hfn (fuel := 0) [19, 20, 21] (by kernel_rfl) rfl ?_
        repeat (go_big_quiet_step ((fail)))
        refine wpQuiet_nil ?_
        refine wpAnyG_done (by kernel_rfl) ?_
        refine calmQ_normal ?_
        gi_wp2
        go_ret
        exact .inr ⟨rfl, tr.inr ++ [.node b tl k v g tr], ⟨tl.inr, by simp [Tr.inr]⟩, by simpa [List.append_assoc] using hJx3⟩
    · gi_wp2_with fail
      refine onePost_any (by kernel_rfl) ?_
      refine batchG hfn (fuel := 11) [8, 9, 10] (by kernel_rfl) rfl ?_
      repeat (go_big_quiet_step ((fail)))
      refine wpQuiet_nil ?_
      refine wpAnyG_skip hfn (j := 11) (by kernel_rfl) rfl rfl ?_
      simp only [Act.put, List.setIfInBounds_toArray, List.set_cons_zero, List.set_cons_succ]
      refine batchG hfn (fuel := 5) [12, 13, 14, 15, 16] (by kernel_rfl) rfl ?_
      repeat (go_big_quiet_step ((fail)))
      refine wpQuiet_nil ?_
      refine wpAnyG_skip hfn (j := 17) (by kernel_rfl) rfl rfl ?_
      simp only [Act.put, List.setIfInBounds_toArray, List.set_cons_zero, List.set_cons_succ]
      refine wpAnyG_skip hfn (j := 18) (by kernel_rfl) rfl rfl ?_
      simp only [Act.put, List.setIfInBounds_toArray, List.set_cons_zero, List.set_cons_succ]
      refine batchG hfn (fuel := 0) [19, 20, 21] (by kernel_rfl) rfl ?_
      repeat (go_big_quiet_step ((fail)))
      refine wpQuiet_nil ?_
      refine wpAnyG_done (by kernel_rfl) ?_
      refine calmQ_normal ?_
      gi_wp2
      go_ret
      obtain ⟨r', hr'⟩ := hq
      exact .inr ⟨rfl, q, ⟨r' ++ .node b tl k v g tr :: tl.inr, by simp [Tr.inr, ← hr']⟩, hJx2⟩
end Go.Proofs.Ytejknkhahjgdnaa
