/- Numbers in words of 32 bits (plain). -/
import Derived.Test.YtejknkhahjgdnaaTr
namespace Go.Proofs.Ytejknkhahjgdnaa

/-- the base. -/
def beta : Nat := 4294967296
theorem beta_pos : 0 < beta := by decide
def nval : List Nat → Nat
  | [] => 0
  | d :: ds => d + beta * nval ds
/-- all words are less than the base. -/
def Words (xs : List Nat) : Prop := ∀ d ∈ xs, d < beta
/-- a number as it should be: no nought at its end. -/
def Norm (xs : List Nat) : Prop := Words xs ∧ (xs = [] ∨ xs.getD (xs.length - 1) 0 ≠ 0)
theorem nval_append : ∀ (xs ys : List Nat), nval (xs ++ ys) = nval xs + beta ^ xs.length * nval ys
  | [], ys => by simp [nval]
  | x :: xs, ys => by
    rw [List.cons_append, nval, nval, nval_append xs ys, List.length_cons, Nat.pow_succ, Nat.mul_add, Nat.mul_comm (beta ^ xs.length) beta, Nat.mul_assoc, Nat.add_assoc]
theorem nval_lt : ∀ {xs : List Nat}, Words xs → nval xs < beta ^ xs.length
  | [], _ => by simp [nval]
  | x :: xs, h => by
    have h1 := nval_lt (xs := xs) (fun d hd => h d (List.mem_cons_of_mem _ hd))
    have h2 := h x (List.mem_cons_self ..)
    rw [nval, List.length_cons, Nat.pow_succ]
    have h3 : beta * (nval xs + 1) ≤ beta * beta ^ xs.length := Nat.mul_le_mul_left _ h1
    rw [Nat.mul_comm (beta ^ xs.length), Nat.mul_add] at *
    omega
theorem nval_zero : ∀ {xs : List Nat}, (∀ d ∈ xs, d = 0) → nval xs = 0
  | [], _ => rfl
  | x :: xs, h => by rw [nval, h x (List.mem_cons_self ..), nval_zero (fun d hd => h d (List.mem_cons_of_mem _ hd))]; rfl
theorem words_tail {x : Nat} {xs : List Nat} (h : Words (x :: xs)) : Words xs := fun d hd => h d (List.mem_cons_of_mem _ hd)
theorem norm_tail {x : Nat} {xs : List Nat} (h : Norm (x :: xs)) : Norm xs := by
  refine ⟨words_tail h.1, ?_⟩
  cases xs with
  | nil => exact .inl rfl
  | cons y ys =>
    rcases h.2 with h | h
    · cases h
    · right
      simpa using h
theorem norm_zero {xs : List Nat} (h : Norm xs) (h0 : nval xs = 0) : xs = [] := by
  induction xs with
  | nil => rfl
  | cons x xs ih =>
    exfalso
    rw [nval] at h0
    have hb := beta_pos
    have hx : x = 0 := by omega
    have h1 : nval xs = 0 := by
      rcases Nat.eq_zero_or_pos (nval xs) with h | h
      · exact h
      · have := Nat.mul_le_mul_left beta h
        omega
    have h2 := ih (norm_tail h) h1
    subst h2
    rcases h.2 with h | h
    · cases h
    · simp [hx] at h
theorem norm_inj : ∀ {xs ys : List Nat}, Norm xs → Norm ys → nval xs = nval ys → xs = ys
  | [], ys, _, hy, e => (norm_zero hy e.symm).symm
  | x :: xs, [], hx, _, e => norm_zero hx e
  | x :: xs, y :: ys, hx, hy, e => by
    have h1 := hx.1 x (List.mem_cons_self ..)
    have h2 := hy.1 y (List.mem_cons_self ..)
    rw [nval, nval] at e
    have e1 : x = y := by
      have := congrArg (· % beta) e
      simpa [Nat.add_mul_mod_self_left, Nat.mod_eq_of_lt h1, Nat.mod_eq_of_lt h2] using this
    subst e1
    have e2 : nval xs = nval ys := Nat.eq_of_mul_eq_mul_left beta_pos (by omega)
    rw [norm_inj (norm_tail hx) (norm_tail hy) e2]
theorem norm_low : ∀ {xs : List Nat}, Norm xs → xs ≠ [] → beta ^ (xs.length - 1) ≤ nval xs
  | [], _, h => absurd rfl h
  | [x], h, _ => by
    rcases h.2 with h | h
    · cases h
    · simp [nval] at h ⊢; omega
  | x :: y :: ys, h, _ => by
    have h1 := norm_low (norm_tail h) (by simp)
    rw [nval]
    simp only [List.length_cons, Nat.add_sub_cancel] at h1 ⊢
    rw [Nat.pow_succ, Nat.mul_comm]
    exact Nat.le_trans (Nat.mul_le_mul_left beta h1) (Nat.le_add_left _ _)
/-- how long a number is. -/
theorem norm_len {xs : List Nat} (h : Norm xs) (k : Nat) : xs.length ≤ k ↔ nval xs < beta ^ k := by
  constructor
  · intro hk
    exact Nat.lt_of_lt_of_le (nval_lt h.1) (Nat.pow_le_pow_right beta_pos hk)
  · intro hk
    rcases Nat.lt_or_ge k xs.length with h1 | h1
    · exfalso
      have h2 := norm_low h (by intro e; subst e; simp at h1)
      have h3 : beta ^ k ≤ beta ^ (xs.length - 1) := Nat.pow_le_pow_right beta_pos (by omega)
      omega
    · exact h1
theorem nval_take (xs : List Nat) (k : Nat) (hk : k < xs.length) : nval (xs.take (k + 1)) = nval (xs.take k) + beta ^ k * xs.getD k 0 := by
  have hz : xs[k]? = some (xs.getD k 0) := by rw [List.getD_eq_getElem?_getD, List.getElem?_eq_getElem hk]; rfl
  rw [List.take_add_one, hz, nval_append, List.length_take, Nat.min_eq_left (Nat.le_of_lt hk)]
  simp [nval]
theorem nval_take_past (xs : List Nat) (k : Nat) (hk : xs.length ≤ k) : nval (xs.take k) = nval xs := by rw [List.take_of_length_le hk]
theorem getD_past (xs : List Nat) (k : Nat) (hk : xs.length ≤ k) : xs.getD k 0 = 0 := by simp [List.getD_eq_getElem?_getD, hk]
/-- the same, past the end as well. -/
theorem nval_take' (xs : List Nat) (k : Nat) : nval (xs.take (k + 1)) = nval (xs.take k) + beta ^ k * xs.getD k 0 := by
  rcases Nat.lt_or_ge k xs.length with h | h
  · exact nval_take xs k h
  · rw [nval_take_past xs k h, nval_take_past xs (k + 1) (by omega), getD_past xs k h, Nat.mul_zero, Nat.add_zero]
theorem nval_set : ∀ (xs : List Nat) (k d : Nat), k < xs.length → nval (xs.set k d) + beta ^ k * xs.getD k 0 = nval xs + beta ^ k * d
  | [], k, _, h => by simp at h
  | x :: xs, 0, d, _ => by simp [nval]; omega
  | x :: xs, k + 1, d, h => by
    have ih := nval_set xs k d (by simpa using h)
    rw [List.set_cons_succ, nval, nval, List.getD_cons_succ, Nat.pow_succ, Nat.mul_comm (beta ^ k) beta, Nat.mul_assoc, Nat.mul_assoc]
    have := congrArg (beta * ·) ih
    simp only [Nat.mul_add] at this
    omega
theorem words_set {xs : List Nat} {k d : Nat} (h : Words xs) (hd : d < beta) : Words (xs.set k d) := fun y hy => by
  rcases List.mem_or_eq_of_mem_set hy with h1 | h1
  · exact h y h1
  · rw [h1]; exact hd
theorem words_getD {xs : List Nat} (h : Words xs) (k : Nat) : xs.getD k 0 < beta := by
  rcases Nat.lt_or_ge k xs.length with hk | hk
  · rw [List.getD_eq_getElem?_getD, List.getElem?_eq_getElem hk]; exact h _ (List.getElem_mem hk)
  · rw [getD_past xs k hk]; exact beta_pos
theorem words_take {xs : List Nat} (h : Words xs) (k : Nat) : Words (xs.take k) := fun d hd => h d (List.mem_of_mem_take hd)
/-- what trim leaves. -/
theorem trim_norm {xs : List Nat} (h : Words xs) {k : Nat} (hk : k ≤ xs.length) (h0 : ∀ j, k ≤ j → xs.getD j 0 = 0) (h1 : k = 0 ∨ xs.getD (k - 1) 0 ≠ 0) : Norm (xs.take k) ∧ nval (xs.take k) = nval xs := by
  refine ⟨⟨words_take h k, ?_⟩, ?_⟩
  · rcases h1 with h1 | h1
    · left; rw [h1]; rfl
    · by_cases hk0 : k = 0
      · left; rw [hk0]; rfl
      · right
        rw [List.length_take, Nat.min_eq_left hk, List.getD_eq_getElem?_getD, List.getElem?_take, if_pos (by omega), ← List.getD_eq_getElem?_getD]
        exact h1
  · have e : nval xs = nval (xs.take k ++ xs.drop k) := by rw [List.take_append_drop]
    rw [e, nval_append, nval_zero (xs := xs.drop k), Nat.mul_zero, Nat.add_zero]
    intro d hd
    obtain ⟨j, hj, e⟩ := List.getElem_of_mem hd
    have := h0 (k + j) (by omega)
    rw [List.getElem_drop] at e
    rw [← e]
    rw [List.getD_eq_getElem?_getD, List.getElem?_eq_getElem (by simp at hj; omega)] at this
    exact this
/-- the round of a sum. -/
theorem add_step {ds xs ys : List Nat} {k c : Nat} (hk : k < ds.length) (hc : c ≤ 1) (hx : Words xs) (hy : Words ys) (hd : ∀ j, k ≤ j → ds.getD j 0 = xs.getD j 0)
    (h : nval (ds.take k) + beta ^ k * c = nval (xs.take k) + nval (ys.take k)) :
    let s := c + xs.getD k 0 + ys.getD k 0
    (s / beta ≤ 1) ∧ (∀ j, k + 1 ≤ j → (ds.set k (s % beta)).getD j 0 = xs.getD j 0) ∧ nval ((ds.set k (s % beta)).take (k + 1)) + beta ^ (k + 1) * (s / beta) = nval (xs.take (k + 1)) + nval (ys.take (k + 1)) := by
  intro s
  have h1 := words_getD hx k
  have h2 := words_getD hy k
  have hb : beta = 4294967296 := rfl
  refine ⟨?_, ?_, ?_⟩
  · have : s < 2 * beta := by show c + xs.getD k 0 + ys.getD k 0 < _; omega
    have := Nat.div_lt_of_lt_mul (show s < beta * 2 by omega)
    omega
  · intro j hj
    rw [List.getD_eq_getElem?_getD, List.getElem?_set_ne (by omega), ← List.getD_eq_getElem?_getD]
    exact hd j (by omega)
  · rw [nval_take _ k (by simpa using hk), nval_take' xs k, nval_take' ys k]
    have e1 : (ds.set k (s % beta)).getD k 0 = s % beta := by simp [List.getD_eq_getElem?_getD, hk]
    have e2 : (ds.set k (s % beta)).take k = ds.take k := by
      apply List.ext_getElem?
      intro i
      rw [List.getElem?_take, List.getElem?_take]
      split
      · rw [List.getElem?_set_ne (by omega)]
      · rfl
    rw [e1, e2, Nat.pow_succ, Nat.mul_assoc]
    have hs := Nat.mod_add_div s beta
    have h3 : beta ^ k * (s % beta) + beta ^ k * (beta * (s / beta)) = beta ^ k * c + beta ^ k * xs.getD k 0 + beta ^ k * ys.getD k 0 := by
      rw [← Nat.mul_add, hs, ← Nat.mul_add, ← Nat.mul_add]
    omega
theorem add_end {ds xs ys : List Nat} {c : Nat} (hx : Words xs) (hy : Words ys) (hl : ds.length = max xs.length ys.length + 1) (h : nval (ds.take ds.length) + beta ^ ds.length * c = nval (xs.take ds.length) + nval (ys.take ds.length)) : nval ds = nval xs + nval ys := by
  rw [List.take_length, nval_take_past xs _ (by omega), nval_take_past ys _ (by omega)] at h
  have h1 := Nat.lt_of_lt_of_le (nval_lt hx) (Nat.pow_le_pow_right beta_pos (show xs.length ≤ ds.length - 1 by omega))
  have h2 := Nat.lt_of_lt_of_le (nval_lt hy) (Nat.pow_le_pow_right beta_pos (show ys.length ≤ ds.length - 1 by omega))
  have h3 : beta ^ ds.length = beta ^ (ds.length - 1) * beta := by rw [← Nat.pow_succ]; congr 1; omega
  have h4 : beta ^ (ds.length - 1) * 2 ≤ beta ^ ds.length := by rw [h3]; exact Nat.mul_le_mul_left _ (by decide)
  rcases Nat.eq_zero_or_pos c with hc | hc
  · subst hc; omega
  · have := Nat.mul_le_mul_left (beta ^ ds.length) hc
    omega
/-- the round of a product. -/
theorem mul_step {ds ys : List Nat} {i k c x V : Nat} (hk : i + k < ds.length) (hd : Words ds) (hy : Words ys) (hx : x < beta) (hc : c < beta)
    (h : nval ds + beta ^ (i + k) * c = V + x * nval (ys.take k) * beta ^ i) :
    let s := c + ds.getD (i + k) 0 + x * ys.getD k 0
    s < 18446744073709551616 ∧ s / beta < beta ∧ nval (ds.set (i + k) (s % beta)) + beta ^ (i + k + 1) * (s / beta) = V + x * nval (ys.take (k + 1)) * beta ^ i := by
  intro s
  have h1 := words_getD hd (i + k)
  have h2 := words_getD hy k
  have hs : s < beta * beta := by
    have h3 : x * ys.getD k 0 ≤ (beta - 1) * (beta - 1) := Nat.mul_le_mul (by omega) (by omega)
    have h4 : (beta - 1) * (beta - 1) + (beta - 1) + (beta - 1) < beta * beta := by decide
    show c + ds.getD (i + k) 0 + x * ys.getD k 0 < _
    omega
  refine ⟨hs, Nat.div_lt_of_lt_mul hs, ?_⟩
  have e := nval_set ds (i + k) (s % beta) hk
  rw [nval_take' ys k, Nat.mul_add, Nat.add_mul, Nat.pow_succ, Nat.mul_assoc]
  have hm := Nat.mod_add_div s beta
  have h3 : beta ^ (i + k) * (s % beta) + beta ^ (i + k) * (beta * (s / beta)) = beta ^ (i + k) * c + beta ^ (i + k) * ds.getD (i + k) 0 + beta ^ (i + k) * (x * ys.getD k 0) := by
    rw [← Nat.mul_add, hm, ← Nat.mul_add, ← Nat.mul_add]
  have h4 : x * (beta ^ k * ys.getD k 0) * beta ^ i = beta ^ (i + k) * (x * ys.getD k 0) := by
    rw [Nat.pow_add]
    simp only [Nat.mul_comm, Nat.mul_left_comm, Nat.mul_assoc]
  rw [h4]
  omega
theorem mul_end {ds xs ys : List Nat} {i c V : Nat} (hx : Words xs) (hy : Words ys) (hi : i < xs.length) (hV : V = nval (xs.take i) * nval ys)
    (h : nval ds + beta ^ (i + (ys.length + 1)) * c = V + xs.getD i 0 * nval (ys.take (ys.length + 1)) * beta ^ i) : nval ds = nval (xs.take (i + 1)) * nval ys := by
  rw [nval_take_past ys _ (by omega)] at h
  have e : V + xs.getD i 0 * nval ys * beta ^ i = nval (xs.take (i + 1)) * nval ys := by
    rw [hV, nval_take xs i hi, Nat.add_mul]
    congr 1
    simp only [Nat.mul_comm, Nat.mul_assoc]
  rw [e] at h
  have h1 := nval_lt (words_take hx (i + 1))
  have h2 := nval_lt hy
  rw [List.length_take, Nat.min_eq_left (by omega)] at h1
  have h3 : nval (xs.take (i + 1)) * nval ys < beta ^ (i + (ys.length + 1)) := by
    rw [show i + (ys.length + 1) = (i + 1) + ys.length by omega, Nat.pow_add]
    exact Nat.mul_lt_mul_of_lt_of_le h1 (Nat.le_of_lt h2) (Nat.pow_pos beta_pos)
  generalize beta ^ (i + (ys.length + 1)) = P at *
  generalize nval (xs.take (i + 1)) * nval ys = R at *
  generalize nval ds = D at *
  clear e h1 h2 hV hx hy hi
  rcases Nat.eq_zero_or_pos c with hc | hc
  · subst hc; rw [← h, Nat.mul_zero, Nat.add_zero]
  · exfalso
    have h4 : P * 1 ≤ P * c := Nat.mul_le_mul_left P hc
    rw [Nat.mul_one] at h4
    exact absurd (Nat.lt_of_le_of_lt (Nat.le_trans h4 (Nat.le_add_left _ D)) (h ▸ h3)) (Nat.lt_irrefl _)
end Go.Proofs.Ytejknkhahjgdnaa
