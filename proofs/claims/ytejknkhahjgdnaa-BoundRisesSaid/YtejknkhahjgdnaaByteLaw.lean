/- Numbers in bytes (plain). -/
import Derived.Test.YtejknkhahjgdnaaNatLaw
namespace Go.Proofs.Ytejknkhahjgdnaa

/-- the base. -/
def bby : Nat := 256
theorem bby_pos : 0 < bby := by decide
def bval : List Nat → Nat
  | [] => 0
  | d :: ds => d + bby * bval ds
/-- all words are less than the base. -/
def Byts (xs : List Nat) : Prop := ∀ d ∈ xs, d < bby
/-- a number as it should be: no nought at its end. -/
def BNorm (xs : List Nat) : Prop := Byts xs ∧ (xs = [] ∨ xs.getD (xs.length - 1) 0 ≠ 0)
theorem bval_append : ∀ (xs ys : List Nat), bval (xs ++ ys) = bval xs + bby ^ xs.length * bval ys
  | [], ys => by simp [bval]
  | x :: xs, ys => by
    rw [List.cons_append, bval, bval, bval_append xs ys, List.length_cons, Nat.pow_succ, Nat.mul_add, Nat.mul_comm (bby ^ xs.length) bby, Nat.mul_assoc, Nat.add_assoc]
theorem bval_lt : ∀ {xs : List Nat}, Byts xs → bval xs < bby ^ xs.length
  | [], _ => by simp [bval]
  | x :: xs, h => by
    have h1 := bval_lt (xs := xs) (fun d hd => h d (List.mem_cons_of_mem _ hd))
    have h2 := h x (List.mem_cons_self ..)
    rw [bval, List.length_cons, Nat.pow_succ]
    have h3 : bby * (bval xs + 1) ≤ bby * bby ^ xs.length := Nat.mul_le_mul_left _ h1
    rw [Nat.mul_comm (bby ^ xs.length), Nat.mul_add] at *
    omega
theorem bval_zero : ∀ {xs : List Nat}, (∀ d ∈ xs, d = 0) → bval xs = 0
  | [], _ => rfl
  | x :: xs, h => by rw [bval, h x (List.mem_cons_self ..), bval_zero (fun d hd => h d (List.mem_cons_of_mem _ hd))]; rfl
theorem b_words_tail {x : Nat} {xs : List Nat} (h : Byts (x :: xs)) : Byts xs := fun d hd => h d (List.mem_cons_of_mem _ hd)
theorem b_norm_tail {x : Nat} {xs : List Nat} (h : BNorm (x :: xs)) : BNorm xs := by
  refine ⟨b_words_tail h.1, ?_⟩
  cases xs with
  | nil => exact .inl rfl
  | cons y ys =>
    rcases h.2 with h | h
    · cases h
    · right
      simpa using h
theorem b_norm_zero {xs : List Nat} (h : BNorm xs) (h0 : bval xs = 0) : xs = [] := by
  induction xs with
  | nil => rfl
  | cons x xs ih =>
    exfalso
    rw [bval] at h0
    have hb := bby_pos
    have hx : x = 0 := by omega
    have h1 : bval xs = 0 := by
      rcases Nat.eq_zero_or_pos (bval xs) with h | h
      · exact h
      · have := Nat.mul_le_mul_left bby h
        omega
    have h2 := ih (b_norm_tail h) h1
    subst h2
    rcases h.2 with h | h
    · cases h
    · simp [hx] at h
theorem b_norm_inj : ∀ {xs ys : List Nat}, BNorm xs → BNorm ys → bval xs = bval ys → xs = ys
  | [], ys, _, hy, e => (b_norm_zero hy e.symm).symm
  | x :: xs, [], hx, _, e => b_norm_zero hx e
  | x :: xs, y :: ys, hx, hy, e => by
    have h1 := hx.1 x (List.mem_cons_self ..)
    have h2 := hy.1 y (List.mem_cons_self ..)
    rw [bval, bval] at e
    have e1 : x = y := by
      have := congrArg (· % bby) e
      simpa [Nat.add_mul_mod_self_left, Nat.mod_eq_of_lt h1, Nat.mod_eq_of_lt h2] using this
    subst e1
    have e2 : bval xs = bval ys := Nat.eq_of_mul_eq_mul_left bby_pos (by omega)
    rw [b_norm_inj (b_norm_tail hx) (b_norm_tail hy) e2]
theorem b_norm_low : ∀ {xs : List Nat}, BNorm xs → xs ≠ [] → bby ^ (xs.length - 1) ≤ bval xs
  | [], _, h => absurd rfl h
  | [x], h, _ => by
    rcases h.2 with h | h
    · cases h
    · simp [bval] at h ⊢; omega
  | x :: y :: ys, h, _ => by
    have h1 := b_norm_low (b_norm_tail h) (by simp)
    rw [bval]
    simp only [List.length_cons, Nat.add_sub_cancel] at h1 ⊢
    rw [Nat.pow_succ, Nat.mul_comm]
    exact Nat.le_trans (Nat.mul_le_mul_left bby h1) (Nat.le_add_left _ _)
/-- how long a number is. -/
theorem b_norm_len {xs : List Nat} (h : BNorm xs) (k : Nat) : xs.length ≤ k ↔ bval xs < bby ^ k := by
  constructor
  · intro hk
    exact Nat.lt_of_lt_of_le (bval_lt h.1) (Nat.pow_le_pow_right bby_pos hk)
  · intro hk
    rcases Nat.lt_or_ge k xs.length with h1 | h1
    · exfalso
      have h2 := b_norm_low h (by intro e; subst e; simp at h1)
      have h3 : bby ^ k ≤ bby ^ (xs.length - 1) := Nat.pow_le_pow_right bby_pos (by omega)
      omega
    · exact h1
theorem bval_take (xs : List Nat) (k : Nat) (hk : k < xs.length) : bval (xs.take (k + 1)) = bval (xs.take k) + bby ^ k * xs.getD k 0 := by
  have hz : xs[k]? = some (xs.getD k 0) := by rw [List.getD_eq_getElem?_getD, List.getElem?_eq_getElem hk]; rfl
  rw [List.take_add_one, hz, bval_append, List.length_take, Nat.min_eq_left (Nat.le_of_lt hk)]
  simp [bval]
theorem bval_take_past (xs : List Nat) (k : Nat) (hk : xs.length ≤ k) : bval (xs.take k) = bval xs := by rw [List.take_of_length_le hk]
/-- the same, past the end as well. -/
theorem bval_take' (xs : List Nat) (k : Nat) : bval (xs.take (k + 1)) = bval (xs.take k) + bby ^ k * xs.getD k 0 := by
  rcases Nat.lt_or_ge k xs.length with h | h
  · exact bval_take xs k h
  · rw [bval_take_past xs k h, bval_take_past xs (k + 1) (by omega), getD_past xs k h, Nat.mul_zero, Nat.add_zero]
theorem bval_set : ∀ (xs : List Nat) (k d : Nat), k < xs.length → bval (xs.set k d) + bby ^ k * xs.getD k 0 = bval xs + bby ^ k * d
  | [], k, _, h => by simp at h
  | x :: xs, 0, d, _ => by simp [bval]; omega
  | x :: xs, k + 1, d, h => by
    have ih := bval_set xs k d (by simpa using h)
    rw [List.set_cons_succ, bval, bval, List.getD_cons_succ, Nat.pow_succ, Nat.mul_comm (bby ^ k) bby, Nat.mul_assoc, Nat.mul_assoc]
    have := congrArg (bby * ·) ih
    simp only [Nat.mul_add] at this
    omega
theorem b_words_set {xs : List Nat} {k d : Nat} (h : Byts xs) (hd : d < bby) : Byts (xs.set k d) := fun y hy => by
  rcases List.mem_or_eq_of_mem_set hy with h1 | h1
  · exact h y h1
  · rw [h1]; exact hd
theorem b_words_getD {xs : List Nat} (h : Byts xs) (k : Nat) : xs.getD k 0 < bby := by
  rcases Nat.lt_or_ge k xs.length with hk | hk
  · rw [List.getD_eq_getElem?_getD, List.getElem?_eq_getElem hk]; exact h _ (List.getElem_mem hk)
  · rw [getD_past xs k hk]; exact bby_pos
theorem b_words_take {xs : List Nat} (h : Byts xs) (k : Nat) : Byts (xs.take k) := fun d hd => h d (List.mem_of_mem_take hd)
/-- what trim leaves. -/
theorem b_trim_norm {xs : List Nat} (h : Byts xs) {k : Nat} (hk : k ≤ xs.length) (h0 : ∀ j, k ≤ j → xs.getD j 0 = 0) (h1 : k = 0 ∨ xs.getD (k - 1) 0 ≠ 0) : BNorm (xs.take k) ∧ bval (xs.take k) = bval xs := by
  refine ⟨⟨b_words_take h k, ?_⟩, ?_⟩
  · rcases h1 with h1 | h1
    · left; rw [h1]; rfl
    · by_cases hk0 : k = 0
      · left; rw [hk0]; rfl
      · right
        rw [List.length_take, Nat.min_eq_left hk, List.getD_eq_getElem?_getD, List.getElem?_take, if_pos (by omega), ← List.getD_eq_getElem?_getD]
        exact h1
  · have e : bval xs = bval (xs.take k ++ xs.drop k) := by rw [List.take_append_drop]
    rw [e, bval_append, bval_zero (xs := xs.drop k), Nat.mul_zero, Nat.add_zero]
    intro d hd
    obtain ⟨j, hj, e⟩ := List.getElem_of_mem hd
    have := h0 (k + j) (by omega)
    rw [List.getElem_drop] at e
    rw [← e]
    rw [List.getD_eq_getElem?_getD, List.getElem?_eq_getElem (by simp at hj; omega)] at this
    exact this
/-- the round of a sum. -/
theorem b_add_step {ds xs ys : List Nat} {k c : Nat} (hk : k < ds.length) (hc : c ≤ 1) (hx : Byts xs) (hy : Byts ys) (hd : ∀ j, k ≤ j → ds.getD j 0 = xs.getD j 0)
    (h : bval (ds.take k) + bby ^ k * c = bval (xs.take k) + bval (ys.take k)) :
    let s := c + xs.getD k 0 + ys.getD k 0
    (s / bby ≤ 1) ∧ (∀ j, k + 1 ≤ j → (ds.set k (s % bby)).getD j 0 = xs.getD j 0) ∧ bval ((ds.set k (s % bby)).take (k + 1)) + bby ^ (k + 1) * (s / bby) = bval (xs.take (k + 1)) + bval (ys.take (k + 1)) := by
  intro s
  have h1 := b_words_getD hx k
  have h2 := b_words_getD hy k
  have hb : bby = 256 := rfl
  refine ⟨?_, ?_, ?_⟩
  · have : s < 2 * bby := by show c + xs.getD k 0 + ys.getD k 0 < _; omega
    have := Nat.div_lt_of_lt_mul (show s < bby * 2 by omega)
    omega
  · intro j hj
    rw [List.getD_eq_getElem?_getD, List.getElem?_set_ne (by omega), ← List.getD_eq_getElem?_getD]
    exact hd j (by omega)
  · rw [bval_take _ k (by simpa using hk), bval_take' xs k, bval_take' ys k]
    have e1 : (ds.set k (s % bby)).getD k 0 = s % bby := by simp [List.getD_eq_getElem?_getD, hk]
    have e2 : (ds.set k (s % bby)).take k = ds.take k := by
      apply List.ext_getElem?
      intro i
      rw [List.getElem?_take, List.getElem?_take]
      split
      · rw [List.getElem?_set_ne (by omega)]
      · rfl
    rw [e1, e2, Nat.pow_succ, Nat.mul_assoc]
    have hs := Nat.mod_add_div s bby
    have h3 : bby ^ k * (s % bby) + bby ^ k * (bby * (s / bby)) = bby ^ k * c + bby ^ k * xs.getD k 0 + bby ^ k * ys.getD k 0 := by
      rw [← Nat.mul_add, hs, ← Nat.mul_add, ← Nat.mul_add]
    omega
theorem b_add_end {ds xs ys : List Nat} {c : Nat} (hx : Byts xs) (hy : Byts ys) (hl : ds.length = max xs.length ys.length + 1) (h : bval (ds.take ds.length) + bby ^ ds.length * c = bval (xs.take ds.length) + bval (ys.take ds.length)) : bval ds = bval xs + bval ys := by
  rw [List.take_length, bval_take_past xs _ (by omega), bval_take_past ys _ (by omega)] at h
  have h1 := Nat.lt_of_lt_of_le (bval_lt hx) (Nat.pow_le_pow_right bby_pos (show xs.length ≤ ds.length - 1 by omega))
  have h2 := Nat.lt_of_lt_of_le (bval_lt hy) (Nat.pow_le_pow_right bby_pos (show ys.length ≤ ds.length - 1 by omega))
  have h3 : bby ^ ds.length = bby ^ (ds.length - 1) * bby := by rw [← Nat.pow_succ]; congr 1; omega
  have h4 : bby ^ (ds.length - 1) * 2 ≤ bby ^ ds.length := by rw [h3]; exact Nat.mul_le_mul_left _ (by decide)
  rcases Nat.eq_zero_or_pos c with hc | hc
  · subst hc; omega
  · have := Nat.mul_le_mul_left (bby ^ ds.length) hc
    omega
/-- the round of a product. -/
theorem b_mul_step {ds ys : List Nat} {i k c x V : Nat} (hk : i + k < ds.length) (hd : Byts ds) (hy : Byts ys) (hx : x < bby) (hc : c < bby)
    (h : bval ds + bby ^ (i + k) * c = V + x * bval (ys.take k) * bby ^ i) :
    let s := c + ds.getD (i + k) 0 + x * ys.getD k 0
    s < 65536 ∧ s / bby < bby ∧ bval (ds.set (i + k) (s % bby)) + bby ^ (i + k + 1) * (s / bby) = V + x * bval (ys.take (k + 1)) * bby ^ i := by
  intro s
  have h1 := b_words_getD hd (i + k)
  have h2 := b_words_getD hy k
  have hs : s < bby * bby := by
    have h3 : x * ys.getD k 0 ≤ (bby - 1) * (bby - 1) := Nat.mul_le_mul (by omega) (by omega)
    have h4 : (bby - 1) * (bby - 1) + (bby - 1) + (bby - 1) < bby * bby := by decide
    show c + ds.getD (i + k) 0 + x * ys.getD k 0 < _
    omega
  refine ⟨hs, Nat.div_lt_of_lt_mul hs, ?_⟩
  have e := bval_set ds (i + k) (s % bby) hk
  rw [bval_take' ys k, Nat.mul_add, Nat.add_mul, Nat.pow_succ, Nat.mul_assoc]
  have hm := Nat.mod_add_div s bby
  have h3 : bby ^ (i + k) * (s % bby) + bby ^ (i + k) * (bby * (s / bby)) = bby ^ (i + k) * c + bby ^ (i + k) * ds.getD (i + k) 0 + bby ^ (i + k) * (x * ys.getD k 0) := by
    rw [← Nat.mul_add, hm, ← Nat.mul_add, ← Nat.mul_add]
  have h4 : x * (bby ^ k * ys.getD k 0) * bby ^ i = bby ^ (i + k) * (x * ys.getD k 0) := by
    rw [Nat.pow_add]
    simp only [Nat.mul_comm, Nat.mul_left_comm, Nat.mul_assoc]
  rw [h4]
  omega
theorem b_mul_end {ds xs ys : List Nat} {i c V : Nat} (hx : Byts xs) (hy : Byts ys) (hi : i < xs.length) (hV : V = bval (xs.take i) * bval ys)
    (h : bval ds + bby ^ (i + (ys.length + 1)) * c = V + xs.getD i 0 * bval (ys.take (ys.length + 1)) * bby ^ i) : bval ds = bval (xs.take (i + 1)) * bval ys := by
  rw [bval_take_past ys _ (by omega)] at h
  have e : V + xs.getD i 0 * bval ys * bby ^ i = bval (xs.take (i + 1)) * bval ys := by
    rw [hV, bval_take xs i hi, Nat.add_mul]
    congr 1
    simp only [Nat.mul_comm, Nat.mul_assoc]
  rw [e] at h
  have h1 := bval_lt (b_words_take hx (i + 1))
  have h2 := bval_lt hy
  rw [List.length_take, Nat.min_eq_left (by omega)] at h1
  have h3 : bval (xs.take (i + 1)) * bval ys < bby ^ (i + (ys.length + 1)) := by
    rw [show i + (ys.length + 1) = (i + 1) + ys.length by omega, Nat.pow_add]
    exact Nat.mul_lt_mul_of_lt_of_le h1 (Nat.le_of_lt h2) (Nat.pow_pos bby_pos)
  generalize bby ^ (i + (ys.length + 1)) = P at *
  generalize bval (xs.take (i + 1)) * bval ys = R at *
  generalize bval ds = D at *
  clear e h1 h2 hV hx hy hi
  rcases Nat.eq_zero_or_pos c with hc | hc
  · subst hc; rw [← h, Nat.mul_zero, Nat.add_zero]
  · exfalso
    have h4 : P * 1 ≤ P * c := Nat.mul_le_mul_left P hc
    rw [Nat.mul_one] at h4
    exact absurd (Nat.lt_of_le_of_lt (Nat.le_trans h4 (Nat.le_add_left _ D)) (h ▸ h3)) (Nat.lt_irrefl _)
end Go.Proofs.Ytejknkhahjgdnaa
