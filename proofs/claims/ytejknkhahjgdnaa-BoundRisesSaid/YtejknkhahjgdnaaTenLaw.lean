/- Numbers in ten-digits (plain). -/
import Derived.Test.YtejknkhahjgdnaaNat8
namespace Go.Proofs.Ytejknkhahjgdnaa

/-- the base. -/
def ten : Nat := 10
theorem ten_pos : 0 < ten := by decide
def tval : List Nat → Nat
  | [] => 0
  | d :: ds => d + ten * tval ds
/-- all words are less than the base. -/
def Tens (xs : List Nat) : Prop := ∀ d ∈ xs, d < ten
/-- a number as it should be: no nought at its end. -/
def TNorm (xs : List Nat) : Prop := Tens xs ∧ (xs = [] ∨ xs.getD (xs.length - 1) 0 ≠ 0)
theorem tval_append : ∀ (xs ys : List Nat), tval (xs ++ ys) = tval xs + ten ^ xs.length * tval ys
  | [], ys => by simp [tval]
  | x :: xs, ys => by
    rw [List.cons_append, tval, tval, tval_append xs ys, List.length_cons, Nat.pow_succ, Nat.mul_add, Nat.mul_comm (ten ^ xs.length) ten, Nat.mul_assoc, Nat.add_assoc]
theorem tval_lt : ∀ {xs : List Nat}, Tens xs → tval xs < ten ^ xs.length
  | [], _ => by simp [tval]
  | x :: xs, h => by
    have h1 := tval_lt (xs := xs) (fun d hd => h d (List.mem_cons_of_mem _ hd))
    have h2 := h x (List.mem_cons_self ..)
    rw [tval, List.length_cons, Nat.pow_succ]
    have h3 : ten * (tval xs + 1) ≤ ten * ten ^ xs.length := Nat.mul_le_mul_left _ h1
    rw [Nat.mul_comm (ten ^ xs.length), Nat.mul_add] at *
    omega
theorem tval_zero : ∀ {xs : List Nat}, (∀ d ∈ xs, d = 0) → tval xs = 0
  | [], _ => rfl
  | x :: xs, h => by rw [tval, h x (List.mem_cons_self ..), tval_zero (fun d hd => h d (List.mem_cons_of_mem _ hd))]; rfl
theorem t_words_tail {x : Nat} {xs : List Nat} (h : Tens (x :: xs)) : Tens xs := fun d hd => h d (List.mem_cons_of_mem _ hd)
theorem t_norm_tail {x : Nat} {xs : List Nat} (h : TNorm (x :: xs)) : TNorm xs := by
  refine ⟨t_words_tail h.1, ?_⟩
  cases xs with
  | nil => exact .inl rfl
  | cons y ys =>
    rcases h.2 with h | h
    · cases h
    · right
      simpa using h
theorem t_norm_zero {xs : List Nat} (h : TNorm xs) (h0 : tval xs = 0) : xs = [] := by
  induction xs with
  | nil => rfl
  | cons x xs ih =>
    exfalso
    rw [tval] at h0
    have hb := ten_pos
    have hx : x = 0 := by omega
    have h1 : tval xs = 0 := by
      rcases Nat.eq_zero_or_pos (tval xs) with h | h
      · exact h
      · have := Nat.mul_le_mul_left ten h
        omega
    have h2 := ih (t_norm_tail h) h1
    subst h2
    rcases h.2 with h | h
    · cases h
    · simp [hx] at h
theorem t_norm_inj : ∀ {xs ys : List Nat}, TNorm xs → TNorm ys → tval xs = tval ys → xs = ys
  | [], ys, _, hy, e => (t_norm_zero hy e.symm).symm
  | x :: xs, [], hx, _, e => t_norm_zero hx e
  | x :: xs, y :: ys, hx, hy, e => by
    have h1 := hx.1 x (List.mem_cons_self ..)
    have h2 := hy.1 y (List.mem_cons_self ..)
    rw [tval, tval] at e
    have e1 : x = y := by
      have := congrArg (· % ten) e
      simpa [Nat.add_mul_mod_self_left, Nat.mod_eq_of_lt h1, Nat.mod_eq_of_lt h2] using this
    subst e1
    have e2 : tval xs = tval ys := Nat.eq_of_mul_eq_mul_left ten_pos (by omega)
    rw [t_norm_inj (t_norm_tail hx) (t_norm_tail hy) e2]
theorem t_norm_low : ∀ {xs : List Nat}, TNorm xs → xs ≠ [] → ten ^ (xs.length - 1) ≤ tval xs
  | [], _, h => absurd rfl h
  | [x], h, _ => by
    rcases h.2 with h | h
    · cases h
    · simp [tval] at h ⊢; omega
  | x :: y :: ys, h, _ => by
    have h1 := t_norm_low (t_norm_tail h) (by simp)
    rw [tval]
    simp only [List.length_cons, Nat.add_sub_cancel] at h1 ⊢
    rw [Nat.pow_succ, Nat.mul_comm]
    exact Nat.le_trans (Nat.mul_le_mul_left ten h1) (Nat.le_add_left _ _)
/-- how long a number is. -/
theorem t_norm_len {xs : List Nat} (h : TNorm xs) (k : Nat) : xs.length ≤ k ↔ tval xs < ten ^ k := by
  constructor
  · intro hk
    exact Nat.lt_of_lt_of_le (tval_lt h.1) (Nat.pow_le_pow_right ten_pos hk)
  · intro hk
    rcases Nat.lt_or_ge k xs.length with h1 | h1
    · exfalso
      have h2 := t_norm_low h (by intro e; subst e; simp at h1)
      have h3 : ten ^ k ≤ ten ^ (xs.length - 1) := Nat.pow_le_pow_right ten_pos (by omega)
      omega
    · exact h1
theorem tval_take (xs : List Nat) (k : Nat) (hk : k < xs.length) : tval (xs.take (k + 1)) = tval (xs.take k) + ten ^ k * xs.getD k 0 := by
  have hz : xs[k]? = some (xs.getD k 0) := by rw [List.getD_eq_getElem?_getD, List.getElem?_eq_getElem hk]; rfl
  rw [List.take_add_one, hz, tval_append, List.length_take, Nat.min_eq_left (Nat.le_of_lt hk)]
  simp [tval]
theorem tval_take_past (xs : List Nat) (k : Nat) (hk : xs.length ≤ k) : tval (xs.take k) = tval xs := by rw [List.take_of_length_le hk]
/-- the same, past the end as well. -/
theorem tval_take' (xs : List Nat) (k : Nat) : tval (xs.take (k + 1)) = tval (xs.take k) + ten ^ k * xs.getD k 0 := by
  rcases Nat.lt_or_ge k xs.length with h | h
  · exact tval_take xs k h
  · rw [tval_take_past xs k h, tval_take_past xs (k + 1) (by omega), getD_past xs k h, Nat.mul_zero, Nat.add_zero]
theorem tval_set : ∀ (xs : List Nat) (k d : Nat), k < xs.length → tval (xs.set k d) + ten ^ k * xs.getD k 0 = tval xs + ten ^ k * d
  | [], k, _, h => by simp at h
  | x :: xs, 0, d, _ => by simp [tval]; omega
  | x :: xs, k + 1, d, h => by
    have ih := tval_set xs k d (by simpa using h)
    rw [List.set_cons_succ, tval, tval, List.getD_cons_succ, Nat.pow_succ, Nat.mul_comm (ten ^ k) ten, Nat.mul_assoc, Nat.mul_assoc]
    have := congrArg (ten * ·) ih
    simp only [Nat.mul_add] at this
    omega
theorem t_words_set {xs : List Nat} {k d : Nat} (h : Tens xs) (hd : d < ten) : Tens (xs.set k d) := fun y hy => by
  rcases List.mem_or_eq_of_mem_set hy with h1 | h1
  · exact h y h1
  · rw [h1]; exact hd
theorem t_words_getD {xs : List Nat} (h : Tens xs) (k : Nat) : xs.getD k 0 < ten := by
  rcases Nat.lt_or_ge k xs.length with hk | hk
  · rw [List.getD_eq_getElem?_getD, List.getElem?_eq_getElem hk]; exact h _ (List.getElem_mem hk)
  · rw [getD_past xs k hk]; exact ten_pos
theorem t_words_take {xs : List Nat} (h : Tens xs) (k : Nat) : Tens (xs.take k) := fun d hd => h d (List.mem_of_mem_take hd)
/-- what trim leaves. -/
theorem t_trim_norm {xs : List Nat} (h : Tens xs) {k : Nat} (hk : k ≤ xs.length) (h0 : ∀ j, k ≤ j → xs.getD j 0 = 0) (h1 : k = 0 ∨ xs.getD (k - 1) 0 ≠ 0) : TNorm (xs.take k) ∧ tval (xs.take k) = tval xs := by
  refine ⟨⟨t_words_take h k, ?_⟩, ?_⟩
  · rcases h1 with h1 | h1
    · left; rw [h1]; rfl
    · by_cases hk0 : k = 0
      · left; rw [hk0]; rfl
      · right
        rw [List.length_take, Nat.min_eq_left hk, List.getD_eq_getElem?_getD, List.getElem?_take, if_pos (by omega), ← List.getD_eq_getElem?_getD]
        exact h1
  · have e : tval xs = tval (xs.take k ++ xs.drop k) := by rw [List.take_append_drop]
    rw [e, tval_append, tval_zero (xs := xs.drop k), Nat.mul_zero, Nat.add_zero]
    intro d hd
    obtain ⟨j, hj, e⟩ := List.getElem_of_mem hd
    have := h0 (k + j) (by omega)
    rw [List.getElem_drop] at e
    rw [← e]
    rw [List.getD_eq_getElem?_getD, List.getElem?_eq_getElem (by simp at hj; omega)] at this
    exact this
/-- digits without a nought at their end, but for the one digit. -/
def Dec (ds : List Nat) : Prop := Tens ds ∧ ds ≠ [] ∧ (ds.length = 1 ∨ ten ^ (ds.length - 1) ≤ tval ds)
theorem dec_decs : ∀ {ds : List Nat}, Dec ds → ds = decs (tval ds)
  | [], h => absurd rfl h.2.1
  | [d], h => by
    have hd : d < 10 := h.1 d (by simp)
    rw [decs_eq, show tval [d] = d by simp [tval], if_pos hd]
  | d :: e :: es, h => by
    have hd : d < 10 := h.1 d (by simp)
    have h3 : ten ^ (es.length + 1) ≤ d + ten * tval (e :: es) := by
      rcases h.2.2 with h | h
      · simp at h
      · simpa [tval] using h
    have hge : ten ^ es.length ≤ tval (e :: es) := by
      rcases Nat.lt_or_ge (tval (e :: es)) (ten ^ es.length) with h4 | h4
      · exfalso
        have h5 : ten * (tval (e :: es) + 1) ≤ ten * ten ^ es.length := Nat.mul_le_mul_left _ h4
        rw [Nat.mul_add] at h5
        rw [Nat.pow_succ, Nat.mul_comm (ten ^ es.length)] at h3
        have : ten = 10 := rfl
        omega
      · exact h4
    have hpos : 0 < tval (e :: es) := Nat.lt_of_lt_of_le (Nat.pow_pos ten_pos) hge
    have ih := dec_decs (ds := e :: es) ⟨t_words_tail h.1, by simp, .inr (by simpa using hge)⟩
    have e1 : tval (d :: e :: es) = d + 10 * tval (e :: es) := rfl
    rw [decs_eq, e1, if_neg (by omega), show (d + 10 * tval (e :: es)) % 10 = d by omega, show (d + 10 * tval (e :: es)) / 10 = tval (e :: es) by omega, ← ih]
end Go.Proofs.Ytejknkhahjgdnaa
