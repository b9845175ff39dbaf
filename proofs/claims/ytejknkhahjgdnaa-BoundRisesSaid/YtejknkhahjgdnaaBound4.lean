/- bound.Least. -/
import Derived.Test.YtejknkhahjgdnaaBound3
namespace Go.Proofs.Ytejknkhahjgdnaa
open Go Go.RowKit

/-- is there that height, in a scheme? -/
def okH (s h : Int) : Bool := decide (0 ≤ h) && (if s = 4 then decide (h ≤ 1099511627776) else decide (1 ≤ s) && decide (s ≤ 3) && decide (h ≤ 100))
def LstE (s h : Int) : Int := if okH s h then 0 else 2
def LstN (s h : Int) : Nat := if okH s h then leastN s.toNat h.toNat else 0
def Lst (s h : Int) (w : World) (r : Ending) (w' : World) : Prop := ∃ v, r = .returned (.tuple #[v, .int .i64 (LstE s h)]) ∧ NumIs w' v (LstN s h) ∧ Ext w w'
theorem lst_not {s h : Int} (k : okH s h = false) : LstE s h = 2 ∧ LstN s h = 0 := by unfold LstE LstN; rw [k]; exact ⟨rfl, rfl⟩
theorem lst_ok {s h : Int} (k : okH s h = true) : LstE s h = 0 ∧ LstN s h = leastN s.toNat h.toNat := by unfold LstE LstN; rw [k]; exact ⟨rfl, rfl⟩
theorem kinds_zero (w : World) : (zeroValue 53).run Try.prog w = .ok (.agg #[.int .i64 0, .nilFunc]) w := by kernel_rfl
theorem look1 {w : World} {N : Nat} {M : Int} (h : w.heap[N]? = some (.map (kindsE M) 4)) : (Instr.lookup 55 (.map (some N)) (.int .u8 1) true).run Try.prog w = .ok (.tuple #[.agg #[.int .i64 100, .nilFunc], .bool true]) w :=
  look_u8 Try.underlying55 Try.underlying5 h rfl
theorem look2 {w : World} {N : Nat} {M : Int} (h : w.heap[N]? = some (.map (kindsE M) 4)) : (Instr.lookup 55 (.map (some N)) (.int .u8 2) true).run Try.prog w = .ok (.tuple #[.agg #[.int .i64 100, .func (.func 52) #[] #[]], .bool true]) w :=
  look_u8 Try.underlying55 Try.underlying5 h rfl
theorem look3 {w : World} {N : Nat} {M : Int} (h : w.heap[N]? = some (.map (kindsE M) 4)) : (Instr.lookup 55 (.map (some N)) (.int .u8 3) true).run Try.prog w = .ok (.tuple #[.agg #[.int .i64 100, .func (.func 53) #[] #[]], .bool true]) w :=
  look_u8 Try.underlying55 Try.underlying5 h rfl
theorem look4 {w : World} {N : Nat} {M : Int} (h : w.heap[N]? = some (.map (kindsE M) 4)) : (Instr.lookup 55 (.map (some N)) (.int .u8 4) true).run Try.prog w = .ok (.tuple #[.agg #[.int .i64 M, .func (.func 55) #[] #[]], .bool true]) w :=
  look_u8 Try.underlying55 Try.underlying5 h rfl
theorem lookM {w : World} {N : Nat} {M s : Int} (h : w.heap[N]? = some (.map (kindsE M) 4)) (hs : s ≠ 1 ∧ s ≠ 2 ∧ s ≠ 3 ∧ s ≠ 4) : (Instr.lookup 55 (.map (some N)) (.int .u8 s) true).run Try.prog w = .ok (.tuple #[.agg #[.int .i64 0, .nilFunc], .bool false]) w :=
  miss_u8 Try.underlying55 Try.underlying5 h (kinds_zero w) (by
    obtain ⟨h1, h2, h3, h4⟩ := hs
    have e1 : (s == 1) = false := by simpa using h1
    have e2 : (s == 2) = false := by simpa using h2
    have e3 : (s == 3) = false := by simpa using h3
    have e4 : (s == 4) = false := by simpa using h4
    simp [Instr.findNow, Instr.sameNow, kindsE, e1, e2, e3, e4])
theorem nil_nil (w : World) : (binOp .eql 51 .nilFunc .nilFunc).run Try.prog w = .ok (.bool true) w := by kernel_rfl
theorem kind_nil2 (w : World) : (binOp .eql 51 (.func (.func 52) #[] #[]) .nilFunc).run Try.prog w = .ok (.bool false) w := by kernel_rfl
theorem kind_nil3 (w : World) : (binOp .eql 51 (.func (.func 53) #[] #[]) .nilFunc).run Try.prog w = .ok (.bool false) w := by kernel_rfl
theorem kind_nil4 (w : World) : (binOp .eql 51 (.func (.func 55) #[] #[]) .nilFunc).run Try.prog w = .ok (.bool false) w := by kernel_rfl
set_option maxRecDepth 100000 in
set_option maxHeartbeats 2000000 in
theorem least_1 (w : World) (h M : Int) (hM : M = 1099511627776) : Calls Try.prog 7 #[.int .u8 1, .int .i64 h] w (Lst 1 h w) := by
  have HK := Lib.hid (kinds_any w M hM)
  have hE := (Ext.refl w).alloc (.map (kindsE M) 4)
  have hl := look1 (alloc_at w (.map (kindsE M) 4) _ rfl)
  have HE := Lib.hid hE
  clear hE hM
  by_cases h0 : h < 0
  · have HN := Lib.hid (lst_not (s := 1) (h := h) (by unfold okH; rw [decide_eq_false (by omega)]; rfl))
    go_enter Try.func7, Try.ntmps7
    go_wp2_with fail
    refine HK.out.mono ?_
    rintro e w1 ⟨rfl, rfl⟩
    go_wp2
    go_ret2
    unfold Lst
    rw [HN.out.1, HN.out.2]
    exact ⟨_, rfl, num_nil _ _ _, HE.out.alloc _⟩
  · by_cases h1 : 100 < h
    · have HN := Lib.hid (lst_not (s := 1) (h := h) (by unfold okH; rw [if_neg (by decide), decide_eq_false (p := h ≤ 100) (by omega)]; simp))
      go_enter Try.func7, Try.ntmps7
      go_wp2_with fail
      refine HK.out.mono ?_
      rintro e w1 ⟨rfl, rfl⟩
      go_wp2
      go_ret2
      unfold Lst
      rw [HN.out.1, HN.out.2]
      exact ⟨_, rfl, num_nil _ _ _, HE.out.alloc _⟩
    · obtain ⟨k, rfl⟩ := Int.eq_ofNat_of_zero_le (Int.not_lt.1 h0)
      have HN := Lib.hid (lst_ok (s := 1) (h := k) (by unfold okH; simp; omega))
      have hk : (k : Int) ≤ 100 := by omega
      have HF := Lib.hid (fun w => fewer_any w k (by omega))
      have hq := nil_nil
      clear h1 h0
      go_enter Try.func7, Try.ntmps7
      go_wp2_with fail
      refine HK.out.mono ?_
      rintro e w1 ⟨rfl, rfl⟩
      go_wp2_with fail
      refine (HF.out _).mono ?_
      rintro e w3 ⟨v, rfl, n3, h3⟩
      have H3 := Lib.hid (And.intro n3 ((HE.out.alloc _).trans h3))
      clear n3 h3 hl
      go_wp2
      go_ret2
      unfold Lst
      rw [HN.out.1, HN.out.2]
      exact ⟨_, rfl, H3.out.1, H3.out.2⟩
theorem leastN_lt2 {h : Nat} (hh : h ≤ 101) : leastN 2 h < 18446744073709551616 := by
  have h1 : 2 ^ ((h + 1) / 2) ≤ 2 ^ 51 := Nat.pow_le_pow_right (by decide) (by omega)
  have h2 : 2 ^ ((h + 1) / 2 - 1) ≤ 2 ^ 51 := Nat.pow_le_pow_right (by decide) (by omega)
  have h3 : 2 ^ 51 = 2251799813685248 := by decide
  show (if h % 2 = 1 then 3 * 2 ^ ((h + 1) / 2 - 1) - 2 else 2 * 2 ^ ((h + 1) / 2) - 2) < _
  split <;> omega
theorem leastN_lt3 {h : Nat} (hh : h ≤ 101) : leastN 3 h < 18446744073709551616 := by
  have h2 := wrow_lt (k := h) (by omega)
  show wrow h - 1 < _
  omega
set_option maxRecDepth 100000 in
set_option maxHeartbeats 2000000 in
theorem least_2 (w : World) (h M : Int) (hM : M = 1099511627776) : Calls Try.prog 7 #[.int .u8 2, .int .i64 h] w (Lst 2 h w) := by
  have HK := Lib.hid (kinds_any w M hM)
  have hE := (Ext.refl w).alloc (.map (kindsE M) 4)
  have hl := look2 (alloc_at w (.map (kindsE M) 4) _ rfl)
  have HE := Lib.hid hE
  clear hE hM
  by_cases h0 : h < 0
  · have HN := Lib.hid (lst_not (s := 2) (h := h) (by unfold okH; rw [decide_eq_false (by omega)]; rfl))
    go_enter Try.func7, Try.ntmps7
    go_wp2_with fail
    refine HK.out.mono ?_
    rintro e w1 ⟨rfl, rfl⟩
    go_wp2
    go_ret2
    unfold Lst
    rw [HN.out.1, HN.out.2]
    exact ⟨_, rfl, num_nil _ _ _, HE.out.alloc _⟩
  · by_cases h1 : 100 < h
    · have HN := Lib.hid (lst_not (s := 2) (h := h) (by unfold okH; rw [if_neg (by decide), decide_eq_false (p := h ≤ 100) (by omega)]; simp))
      go_enter Try.func7, Try.ntmps7
      go_wp2_with fail
      refine HK.out.mono ?_
      rintro e w1 ⟨rfl, rfl⟩
      go_wp2
      go_ret2
      unfold Lst
      rw [HN.out.1, HN.out.2]
      exact ⟨_, rfl, num_nil _ _ _, HE.out.alloc _⟩
    · obtain ⟨k, rfl⟩ := Int.eq_ofNat_of_zero_le (Int.not_lt.1 h0)
      have HN := Lib.hid (lst_ok (s := 2) (h := k) (by unfold okH; simp; omega))
      have HB := Lib.hid (leastN_lt2 (h := k) (by omega))
      have hk : (k : Int) ≤ 100 := by omega
      have hq := kind_nil2
      have HC := Lib.hid (fun w => least2_any w k (by omega))
      clear h1 h0
      go_enter Try.func7, Try.ntmps7
      go_wp2_with fail
      refine HK.out.mono ?_
      rintro e w1 ⟨rfl, rfl⟩
      go_wp2_with fail
      refine (HC.out _).mono ?_
      rintro e w2 ⟨rfl, h2⟩
      have HE2 := Lib.hid ((HE.out.alloc _).trans h2)
      clear h2 hl
      go_wp2_with fail
      refine (from_any w2 _ HB.out).mono ?_
      rintro e w3 ⟨v, rfl, n3, h3⟩
      have H3 := Lib.hid (And.intro n3 (HE2.out.trans h3))
      clear n3 h3
      go_wp2
      go_ret2
      unfold Lst
      rw [HN.out.1, HN.out.2]
      exact ⟨_, rfl, H3.out.1, H3.out.2⟩
set_option maxRecDepth 100000 in
set_option maxHeartbeats 2000000 in
theorem least_3 (w : World) (h M : Int) (hM : M = 1099511627776) : Calls Try.prog 7 #[.int .u8 3, .int .i64 h] w (Lst 3 h w) := by
  have HK := Lib.hid (kinds_any w M hM)
  have hE := (Ext.refl w).alloc (.map (kindsE M) 4)
  have hl := look3 (alloc_at w (.map (kindsE M) 4) _ rfl)
  have HE := Lib.hid hE
  clear hE hM
  by_cases h0 : h < 0
  · have HN := Lib.hid (lst_not (s := 3) (h := h) (by unfold okH; rw [decide_eq_false (by omega)]; rfl))
    go_enter Try.func7, Try.ntmps7
    go_wp2_with fail
    refine HK.out.mono ?_
    rintro e w1 ⟨rfl, rfl⟩
    go_wp2
    go_ret2
    unfold Lst
    rw [HN.out.1, HN.out.2]
    exact ⟨_, rfl, num_nil _ _ _, HE.out.alloc _⟩
  · by_cases h1 : 100 < h
    · have HN := Lib.hid (lst_not (s := 3) (h := h) (by unfold okH; rw [if_neg (by decide), decide_eq_false (p := h ≤ 100) (by omega)]; simp))
      go_enter Try.func7, Try.ntmps7
      go_wp2_with fail
      refine HK.out.mono ?_
      rintro e w1 ⟨rfl, rfl⟩
      go_wp2
      go_ret2
      unfold Lst
      rw [HN.out.1, HN.out.2]
      exact ⟨_, rfl, num_nil _ _ _, HE.out.alloc _⟩
    · obtain ⟨k, rfl⟩ := Int.eq_ofNat_of_zero_le (Int.not_lt.1 h0)
      have HN := Lib.hid (lst_ok (s := 3) (h := k) (by unfold okH; simp; omega))
      have HB := Lib.hid (leastN_lt3 (h := k) (by omega))
      have hk : (k : Int) ≤ 100 := by omega
      have hq := kind_nil3
      have HC := Lib.hid (fun w => least3_any w k (by omega))
      clear h1 h0
      go_enter Try.func7, Try.ntmps7
      go_wp2_with fail
      refine HK.out.mono ?_
      rintro e w1 ⟨rfl, rfl⟩
      go_wp2_with fail
      refine (HC.out _).mono ?_
      rintro e w2 ⟨rfl, h2⟩
      have HE2 := Lib.hid ((HE.out.alloc _).trans h2)
      clear h2 hl
      go_wp2_with fail
      refine (from_any w2 _ HB.out).mono ?_
      rintro e w3 ⟨v, rfl, n3, h3⟩
      have H3 := Lib.hid (And.intro n3 (HE2.out.trans h3))
      clear n3 h3
      go_wp2
      go_ret2
      unfold Lst
      rw [HN.out.1, HN.out.2]
      exact ⟨_, rfl, H3.out.1, H3.out.2⟩
set_option maxRecDepth 100000 in
set_option maxHeartbeats 2000000 in
theorem least_4 (w : World) (h M : Int) (hM : M = 1099511627776) : Calls Try.prog 7 #[.int .u8 4, .int .i64 h] w (Lst 4 h w) := by
  have HK := Lib.hid (kinds_any w M hM)
  have hE := (Ext.refl w).alloc (.map (kindsE M) 4)
  have hl := look4 (alloc_at w (.map (kindsE M) 4) _ rfl)
  have HE := Lib.hid hE
  clear hE
  by_cases h0 : h < 0
  · have HN := Lib.hid (lst_not (s := 4) (h := h) (by unfold okH; rw [decide_eq_false (by omega)]; rfl))
    clear hM
    go_enter Try.func7, Try.ntmps7
    go_wp2_with fail
    refine HK.out.mono ?_
    rintro e w1 ⟨rfl, rfl⟩
    go_wp2
    go_ret2
    unfold Lst
    rw [HN.out.1, HN.out.2]
    exact ⟨_, rfl, num_nil _ _ _, HE.out.alloc _⟩
  · by_cases h1 : M < h
    · have HN := Lib.hid (lst_not (s := 4) (h := h) (by unfold okH; rw [if_pos rfl, decide_eq_false (p := h ≤ 1099511627776) (by omega)]; simp))
      clear hM
      go_enter Try.func7, Try.ntmps7
      go_wp2_with fail
      refine HK.out.mono ?_
      rintro e w1 ⟨rfl, rfl⟩
      go_wp2
      go_ret2
      unfold Lst
      rw [HN.out.1, HN.out.2]
      exact ⟨_, rfl, num_nil _ _ _, HE.out.alloc _⟩
    · obtain ⟨k, rfl⟩ := Int.eq_ofNat_of_zero_le (Int.not_lt.1 h0)
      have HN := Lib.hid (lst_ok (s := 4) (h := k) (by unfold okH; simp; omega))
      have HB := Lib.hid (show leastN 4 k < 18446744073709551616 by show k < _; omega)
      have hq := kind_nil4
      have HC := Lib.hid (fun w => least4_any w k (by omega))
      clear h0 hM
      go_enter Try.func7, Try.ntmps7
      go_wp2_with fail
      refine HK.out.mono ?_
      rintro e w1 ⟨rfl, rfl⟩
      go_wp2_with fail
      refine (HC.out _).mono ?_
      rintro e w2 ⟨rfl, h2⟩
      have HE2 := Lib.hid ((HE.out.alloc _).trans h2)
      clear h2 hl
      go_wp2_with fail
      refine (from_any w2 _ HB.out).mono ?_
      rintro e w3 ⟨v, rfl, n3, h3⟩
      have H3 := Lib.hid (And.intro n3 (HE2.out.trans h3))
      clear n3 h3
      go_wp2
      go_ret2
      unfold Lst
      rw [HN.out.1, HN.out.2]
      exact ⟨_, rfl, H3.out.1, H3.out.2⟩
set_option maxRecDepth 100000 in
set_option maxHeartbeats 2000000 in
theorem least_m (w : World) (s h M : Int) (hM : M = 1099511627776) (hs : s ≠ 1 ∧ s ≠ 2 ∧ s ≠ 3 ∧ s ≠ 4) : Calls Try.prog 7 #[.int .u8 s, .int .i64 h] w (Lst s h w) := by
  have HK := Lib.hid (kinds_any w M hM)
  have hE := (Ext.refl w).alloc (.map (kindsE M) 4)
  have hl := lookM (alloc_at w (.map (kindsE M) 4) _ rfl) hs
  have HE := Lib.hid hE
  have HN := Lib.hid (lst_not (s := s) (h := h) (by
    unfold okH
    rw [if_neg hs.2.2.2]
    rcases Int.lt_or_le s 1 with h | h
    · rw [decide_eq_false (p := 1 ≤ s) (by omega)]; simp
    · rw [decide_eq_false (p := s ≤ 3) (by omega)]; simp))
  clear hE hM hs
  go_enter Try.func7, Try.ntmps7
  go_wp2_with fail
  refine HK.out.mono ?_
  rintro e w1 ⟨rfl, rfl⟩
  go_wp2
  go_ret2
  unfold Lst
  rw [HN.out.1, HN.out.2]
  exact ⟨_, rfl, num_nil _ _ _, HE.out.alloc _⟩
/-- **bound.Least**, of any scheme and height. -/
theorem least_any (w : World) (s h : Int) : Calls Try.prog 7 #[.int .u8 s, .int .i64 h] w (Lst s h w) := by
  by_cases h1 : s = 1
  · subst h1; exact least_1 w h _ rfl
  by_cases h2 : s = 2
  · subst h2; exact least_2 w h _ rfl
  by_cases h3 : s = 3
  · subst h3; exact least_3 w h _ rfl
  by_cases h4 : s = 4
  · subst h4; exact least_4 w h _ rfl
  exact least_m w s h _ rfl ⟨h1, h2, h3, h4⟩
end Go.Proofs.Ytejknkhahjgdnaa
