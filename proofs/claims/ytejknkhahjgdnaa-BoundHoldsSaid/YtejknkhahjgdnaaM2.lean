/- Numbers in words of 32 bits (plain). Rows of words in memory; nat.trim, May, From, fits, wide. nat.add, Add; joineryref07.Same. nat.mul, Mul. joineryref07.Same; nat.Pow. slices.Reverse, Compare at words; nat.Cmp. nat.Cmp. Rows of bytes that a call owns; slices.Reverse at bytes; ten-digits (plain). nat.Text. -/
import Derived.Test.YtejknkhahjgdnaaM1
import Derived.Deep.MidRow
import Derived.Laws.CopyOwn
import Derived.Laws.MakeOwn
import Derived.BigRegion
import Derived.Laws.BytesArg
import Derived.Maps.AppendAt
import Derived.Deep.LoopGhost
namespace Go.Proofs.Ytejknkhahjgdnaa

/-- the base. -/
def beta : Nat := 4294967296
theorem beta_pos : 0 < beta := by decide
def nval : List Nat → Nat
  | [] => 0
  | d :: ds => d + beta * nval ds
/-- all words are less than the base. -/
def Words (xs : List Nat) : Prop := ∀ d ∈ xs, d < beta
/-- a number as it should be: no nought at its end. -/
def Norm (xs : List Nat) : Prop := Words xs ∧ (xs = [] ∨ xs.getD (xs.length - 1) 0 ≠ 0)
theorem nval_append : ∀ (xs ys : List Nat), nval (xs ++ ys) = nval xs + beta ^ xs.length * nval ys
  | [], ys => by simp [nval]
  | x :: xs, ys => by
    rw [List.cons_append, nval, nval, nval_append xs ys, List.length_cons, Nat.pow_succ, Nat.mul_add, Nat.mul_comm (beta ^ xs.length) beta, Nat.mul_assoc, Nat.add_assoc]
theorem nval_lt : ∀ {xs : List Nat}, Words xs → nval xs < beta ^ xs.length
  | [], _ => by simp [nval]
  | x :: xs, h => by
    have h1 := nval_lt (xs := xs) (fun d hd => h d (List.mem_cons_of_mem _ hd))
    have h2 := h x (List.mem_cons_self ..)
    rw [nval, List.length_cons, Nat.pow_succ]
    have h3 : beta * (nval xs + 1) ≤ beta * beta ^ xs.length := Nat.mul_le_mul_left _ h1
    rw [Nat.mul_comm (beta ^ xs.length), Nat.mul_add] at *
    omega
theorem nval_zero : ∀ {xs : List Nat}, (∀ d ∈ xs, d = 0) → nval xs = 0
  | [], _ => rfl
  | x :: xs, h => by rw [nval, h x (List.mem_cons_self ..), nval_zero (fun d hd => h d (List.mem_cons_of_mem _ hd))]; rfl
theorem words_tail {x : Nat} {xs : List Nat} (h : Words (x :: xs)) : Words xs := fun d hd => h d (List.mem_cons_of_mem _ hd)
theorem norm_tail {x : Nat} {xs : List Nat} (h : Norm (x :: xs)) : Norm xs := by
  refine ⟨words_tail h.1, ?_⟩
  cases xs with
  | nil => exact .inl rfl
  | cons y ys =>
    rcases h.2 with h | h
    · cases h
    · right
      simpa using h
theorem norm_zero {xs : List Nat} (h : Norm xs) (h0 : nval xs = 0) : xs = [] := by
  induction xs with
  | nil => rfl
  | cons x xs ih =>
    exfalso
    rw [nval] at h0
    have hb := beta_pos
    have hx : x = 0 := by omega
    have h1 : nval xs = 0 := by
      rcases Nat.eq_zero_or_pos (nval xs) with h | h
      · exact h
      · have := Nat.mul_le_mul_left beta h
        omega
    have h2 := ih (norm_tail h) h1
    subst h2
    rcases h.2 with h | h
    · cases h
    · simp [hx] at h
theorem norm_inj : ∀ {xs ys : List Nat}, Norm xs → Norm ys → nval xs = nval ys → xs = ys
  | [], ys, _, hy, e => (norm_zero hy e.symm).symm
  | x :: xs, [], hx, _, e => norm_zero hx e
  | x :: xs, y :: ys, hx, hy, e => by
    have h1 := hx.1 x (List.mem_cons_self ..)
    have h2 := hy.1 y (List.mem_cons_self ..)
    rw [nval, nval] at e
    have e1 : x = y := by
      have := congrArg (· % beta) e
      simpa [Nat.add_mul_mod_self_left, Nat.mod_eq_of_lt h1, Nat.mod_eq_of_lt h2] using this
    subst e1
    have e2 : nval xs = nval ys := Nat.eq_of_mul_eq_mul_left beta_pos (by omega)
    rw [norm_inj (norm_tail hx) (norm_tail hy) e2]
theorem norm_low : ∀ {xs : List Nat}, Norm xs → xs ≠ [] → beta ^ (xs.length - 1) ≤ nval xs
  | [], _, h => absurd rfl h
  | [x], h, _ => by
    rcases h.2 with h | h
    · cases h
    · simp [nval] at h ⊢; omega
  | x :: y :: ys, h, _ => by
    have h1 := norm_low (norm_tail h) (by simp)
    rw [nval]
    simp only [List.length_cons, Nat.add_sub_cancel] at h1 ⊢
    rw [Nat.pow_succ, Nat.mul_comm]
    exact Nat.le_trans (Nat.mul_le_mul_left beta h1) (Nat.le_add_left _ _)
/-- how long a number is. -/
theorem norm_len {xs : List Nat} (h : Norm xs) (k : Nat) : xs.length ≤ k ↔ nval xs < beta ^ k := by
  constructor
  · intro hk
    exact Nat.lt_of_lt_of_le (nval_lt h.1) (Nat.pow_le_pow_right beta_pos hk)
  · intro hk
    rcases Nat.lt_or_ge k xs.length with h1 | h1
    · exfalso
      have h2 := norm_low h (by intro e; subst e; simp at h1)
      have h3 : beta ^ k ≤ beta ^ (xs.length - 1) := Nat.pow_le_pow_right beta_pos (by omega)
      omega
    · exact h1
theorem nval_take (xs : List Nat) (k : Nat) (hk : k < xs.length) : nval (xs.take (k + 1)) = nval (xs.take k) + beta ^ k * xs.getD k 0 := by
  have hz : xs[k]? = some (xs.getD k 0) := by rw [List.getD_eq_getElem?_getD, List.getElem?_eq_getElem hk]; rfl
  rw [List.take_add_one, hz, nval_append, List.length_take, Nat.min_eq_left (Nat.le_of_lt hk)]
  simp [nval]
theorem nval_take_past (xs : List Nat) (k : Nat) (hk : xs.length ≤ k) : nval (xs.take k) = nval xs := by rw [List.take_of_length_le hk]
theorem getD_past (xs : List Nat) (k : Nat) (hk : xs.length ≤ k) : xs.getD k 0 = 0 := by simp [List.getD_eq_getElem?_getD, hk]
/-- the same, past the end as well. -/
theorem nval_take' (xs : List Nat) (k : Nat) : nval (xs.take (k + 1)) = nval (xs.take k) + beta ^ k * xs.getD k 0 := by
  rcases Nat.lt_or_ge k xs.length with h | h
  · exact nval_take xs k h
  · rw [nval_take_past xs k h, nval_take_past xs (k + 1) (by omega), getD_past xs k h, Nat.mul_zero, Nat.add_zero]
theorem nval_set : ∀ (xs : List Nat) (k d : Nat), k < xs.length → nval (xs.set k d) + beta ^ k * xs.getD k 0 = nval xs + beta ^ k * d
  | [], k, _, h => by simp at h
  | x :: xs, 0, d, _ => by simp [nval]; omega
  | x :: xs, k + 1, d, h => by
    have ih := nval_set xs k d (by simpa using h)
    rw [List.set_cons_succ, nval, nval, List.getD_cons_succ, Nat.pow_succ, Nat.mul_comm (beta ^ k) beta, Nat.mul_assoc, Nat.mul_assoc]
    have := congrArg (beta * ·) ih
    simp only [Nat.mul_add] at this
    omega
theorem words_set {xs : List Nat} {k d : Nat} (h : Words xs) (hd : d < beta) : Words (xs.set k d) := fun y hy => by
  rcases List.mem_or_eq_of_mem_set hy with h1 | h1
  · exact h y h1
  · rw [h1]; exact hd
theorem words_getD {xs : List Nat} (h : Words xs) (k : Nat) : xs.getD k 0 < beta := by
  rcases Nat.lt_or_ge k xs.length with hk | hk
  · rw [List.getD_eq_getElem?_getD, List.getElem?_eq_getElem hk]; exact h _ (List.getElem_mem hk)
  · rw [getD_past xs k hk]; exact beta_pos
theorem words_take {xs : List Nat} (h : Words xs) (k : Nat) : Words (xs.take k) := fun d hd => h d (List.mem_of_mem_take hd)
/-- what trim leaves. -/
theorem trim_norm {xs : List Nat} (h : Words xs) {k : Nat} (hk : k ≤ xs.length) (h0 : ∀ j, k ≤ j → xs.getD j 0 = 0) (h1 : k = 0 ∨ xs.getD (k - 1) 0 ≠ 0) : Norm (xs.take k) ∧ nval (xs.take k) = nval xs := by
  refine ⟨⟨words_take h k, ?_⟩, ?_⟩
  · rcases h1 with h1 | h1
    · left; rw [h1]; rfl
    · by_cases hk0 : k = 0
      · left; rw [hk0]; rfl
      · right
        rw [List.length_take, Nat.min_eq_left hk, List.getD_eq_getElem?_getD, List.getElem?_take, if_pos (by omega), ← List.getD_eq_getElem?_getD]
        exact h1
  · have e : nval xs = nval (xs.take k ++ xs.drop k) := by rw [List.take_append_drop]
    rw [e, nval_append, nval_zero (xs := xs.drop k), Nat.mul_zero, Nat.add_zero]
    intro d hd
    obtain ⟨j, hj, e⟩ := List.getElem_of_mem hd
    have := h0 (k + j) (by omega)
    rw [List.getElem_drop] at e
    rw [← e]
    rw [List.getD_eq_getElem?_getD, List.getElem?_eq_getElem (by simp at hj; omega)] at this
    exact this
/-- the round of a sum. -/
theorem add_step {ds xs ys : List Nat} {k c : Nat} (hk : k < ds.length) (hc : c ≤ 1) (hx : Words xs) (hy : Words ys) (hd : ∀ j, k ≤ j → ds.getD j 0 = xs.getD j 0)
    (h : nval (ds.take k) + beta ^ k * c = nval (xs.take k) + nval (ys.take k)) :
    let s := c + xs.getD k 0 + ys.getD k 0
    (s / beta ≤ 1) ∧ (∀ j, k + 1 ≤ j → (ds.set k (s % beta)).getD j 0 = xs.getD j 0) ∧ nval ((ds.set k (s % beta)).take (k + 1)) + beta ^ (k + 1) * (s / beta) = nval (xs.take (k + 1)) + nval (ys.take (k + 1)) := by
  intro s
  have h1 := words_getD hx k
  have h2 := words_getD hy k
  have hb : beta = 4294967296 := rfl
  refine ⟨?_, ?_, ?_⟩
  · have : s < 2 * beta := by show c + xs.getD k 0 + ys.getD k 0 < _; omega
    have := Nat.div_lt_of_lt_mul (show s < beta * 2 by omega)
    omega
  · intro j hj
    rw [List.getD_eq_getElem?_getD, List.getElem?_set_ne (by omega), ← List.getD_eq_getElem?_getD]
    exact hd j (by omega)
  · rw [nval_take _ k (by simpa using hk), nval_take' xs k, nval_take' ys k]
    have e1 : (ds.set k (s % beta)).getD k 0 = s % beta := by simp [List.getD_eq_getElem?_getD, hk]
    have e2 : (ds.set k (s % beta)).take k = ds.take k := by
      apply List.ext_getElem?
      intro i
      rw [List.getElem?_take, List.getElem?_take]
      split
      · rw [List.getElem?_set_ne (by omega)]
      · rfl
    rw [e1, e2, Nat.pow_succ, Nat.mul_assoc]
    have hs := Nat.mod_add_div s beta
    have h3 : beta ^ k * (s % beta) + beta ^ k * (beta * (s / beta)) = beta ^ k * c + beta ^ k * xs.getD k 0 + beta ^ k * ys.getD k 0 := by
      rw [← Nat.mul_add, hs, ← Nat.mul_add, ← Nat.mul_add]
    omega
theorem add_end {ds xs ys : List Nat} {c : Nat} (hx : Words xs) (hy : Words ys) (hl : ds.length = max xs.length ys.length + 1) (h : nval (ds.take ds.length) + beta ^ ds.length * c = nval (xs.take ds.length) + nval (ys.take ds.length)) : nval ds = nval xs + nval ys := by
  rw [List.take_length, nval_take_past xs _ (by omega), nval_take_past ys _ (by omega)] at h
  have h1 := Nat.lt_of_lt_of_le (nval_lt hx) (Nat.pow_le_pow_right beta_pos (show xs.length ≤ ds.length - 1 by omega))
  have h2 := Nat.lt_of_lt_of_le (nval_lt hy) (Nat.pow_le_pow_right beta_pos (show ys.length ≤ ds.length - 1 by omega))
  have h3 : beta ^ ds.length = beta ^ (ds.length - 1) * beta := by rw [← Nat.pow_succ]; congr 1; omega
  have h4 : beta ^ (ds.length - 1) * 2 ≤ beta ^ ds.length := by rw [h3]; exact Nat.mul_le_mul_left _ (by decide)
  rcases Nat.eq_zero_or_pos c with hc | hc
  · subst hc; omega
  · have := Nat.mul_le_mul_left (beta ^ ds.length) hc
    omega
/-- the round of a product. -/
theorem mul_step {ds ys : List Nat} {i k c x V : Nat} (hk : i + k < ds.length) (hd : Words ds) (hy : Words ys) (hx : x < beta) (hc : c < beta)
    (h : nval ds + beta ^ (i + k) * c = V + x * nval (ys.take k) * beta ^ i) :
    let s := c + ds.getD (i + k) 0 + x * ys.getD k 0
    s < 18446744073709551616 ∧ s / beta < beta ∧ nval (ds.set (i + k) (s % beta)) + beta ^ (i + k + 1) * (s / beta) = V + x * nval (ys.take (k + 1)) * beta ^ i := by
  intro s
  have h1 := words_getD hd (i + k)
  have h2 := words_getD hy k
  have hs : s < beta * beta := by
    have h3 : x * ys.getD k 0 ≤ (beta - 1) * (beta - 1) := Nat.mul_le_mul (by omega) (by omega)
    have h4 : (beta - 1) * (beta - 1) + (beta - 1) + (beta - 1) < beta * beta := by decide
    show c + ds.getD (i + k) 0 + x * ys.getD k 0 < _
    omega
  refine ⟨hs, Nat.div_lt_of_lt_mul hs, ?_⟩
  have e := nval_set ds (i + k) (s % beta) hk
  rw [nval_take' ys k, Nat.mul_add, Nat.add_mul, Nat.pow_succ, Nat.mul_assoc]
  have hm := Nat.mod_add_div s beta
  have h3 : beta ^ (i + k) * (s % beta) + beta ^ (i + k) * (beta * (s / beta)) = beta ^ (i + k) * c + beta ^ (i + k) * ds.getD (i + k) 0 + beta ^ (i + k) * (x * ys.getD k 0) := by
    rw [← Nat.mul_add, hm, ← Nat.mul_add, ← Nat.mul_add]
  have h4 : x * (beta ^ k * ys.getD k 0) * beta ^ i = beta ^ (i + k) * (x * ys.getD k 0) := by
    rw [Nat.pow_add]
    simp only [Nat.mul_comm, Nat.mul_left_comm, Nat.mul_assoc]
  rw [h4]
  omega
theorem mul_end {ds xs ys : List Nat} {i c V : Nat} (hx : Words xs) (hy : Words ys) (hi : i < xs.length) (hV : V = nval (xs.take i) * nval ys)
    (h : nval ds + beta ^ (i + (ys.length + 1)) * c = V + xs.getD i 0 * nval (ys.take (ys.length + 1)) * beta ^ i) : nval ds = nval (xs.take (i + 1)) * nval ys := by
  rw [nval_take_past ys _ (by omega)] at h
  have e : V + xs.getD i 0 * nval ys * beta ^ i = nval (xs.take (i + 1)) * nval ys := by
    rw [hV, nval_take xs i hi, Nat.add_mul]
    congr 1
    simp only [Nat.mul_comm, Nat.mul_assoc]
  rw [e] at h
  have h1 := nval_lt (words_take hx (i + 1))
  have h2 := nval_lt hy
  rw [List.length_take, Nat.min_eq_left (by omega)] at h1
  have h3 : nval (xs.take (i + 1)) * nval ys < beta ^ (i + (ys.length + 1)) := by
    rw [show i + (ys.length + 1) = (i + 1) + ys.length by omega, Nat.pow_add]
    exact Nat.mul_lt_mul_of_lt_of_le h1 (Nat.le_of_lt h2) (Nat.pow_pos beta_pos)
  generalize beta ^ (i + (ys.length + 1)) = P at *
  generalize nval (xs.take (i + 1)) * nval ys = R at *
  generalize nval ds = D at *
  clear e h1 h2 hV hx hy hi
  rcases Nat.eq_zero_or_pos c with hc | hc
  · subst hc; rw [← h, Nat.mul_zero, Nat.add_zero]
  · exfalso
    have h4 : P * 1 ≤ P * c := Nat.mul_le_mul_left P hc
    rw [Nat.mul_one] at h4
    exact absurd (Nat.lt_of_le_of_lt (Nat.le_trans h4 (Nat.le_add_left _ D)) (h ▸ h3)) (Nat.lt_irrefl _)
end Go.Proofs.Ytejknkhahjgdnaa
namespace Go.Proofs.Ytejknkhahjgdnaa
open Go Go.RowKit

def u32 (d : Nat) : Value := .int .u32 (d : Int)
theorem rangeAt_ext' {w w' : World} {b o : Nat} {cs : List Value} (h : w.rangeAt b o cs) (e : Ext w w') : w'.rangeAt b o cs := fun q u hq => by
  have hc := h q u hq
  exact (RowKit.Below.cell e (World.block_lt_of_cell? w _ hc)).trans hc
/-- a row of words: empty, whatever its address; or laid at an address. -/
def URow (w : World) (v : Value) (xs : List Nat) : Prop :=
  (xs = [] ∧ ∃ a c, v = .slice a 0 c) ∨ ∃ b o c, v = .slice (some ⟨b, o, none⟩) xs.length c ∧ xs ≠ [] ∧ xs.length ≤ c ∧ w.rangeAt b o (xs.map u32)
theorem URow.ext {w w' : World} {v : Value} {xs : List Nat} (h : URow w v xs) (e : Ext w w') : URow w' v xs := by
  rcases h with h | ⟨b, o, c, h0, h1, h2, h3⟩
  · exact .inl h
  · exact .inr ⟨b, o, c, h0, h1, h2, rangeAt_ext' h3 e⟩
theorem URow.slice {w : World} {v : Value} {xs : List Nat} (h : URow w v xs) : ∃ a c, v = .slice a xs.length c := by
  rcases h with ⟨rfl, a, c, rfl⟩ | ⟨b, o, c, h0, _⟩
  · exact ⟨a, c, rfl⟩
  · exact ⟨_, c, h0⟩
/-- a word of a row. -/
theorem urow_cell {w : World} {b o : Nat} {xs : List Nat} (h : w.rangeAt b o (xs.map u32)) (k : Nat) (hk : k < xs.length) : w.cell? ⟨b, o + k, none⟩ = some (.int .u32 (xs.getD k 0 : Nat)) := by
  refine h k _ ?_
  rw [List.getElem?_map, List.getD_eq_getElem?_getD, List.getElem?_eq_getElem hk]
  rfl
/-- the first words of a row. -/
theorem URow.take {w : World} {a : Option Addr} {n c : Nat} {xs : List Nat} (h : URow w (.slice a n c) xs) (k : Nat) (hk : k ≤ xs.length) : URow w (.slice a k c) (xs.take k) := by
  rcases h with ⟨rfl, a', c', e⟩ | ⟨b, o, c', e, h1, h2, h3⟩
  · cases e
    obtain rfl : k = 0 := by simpa using hk
    exact .inl ⟨rfl, _, _, rfl⟩
  · cases e
    by_cases h0 : k = 0
    · subst h0; exact .inl ⟨by simp, _, _, rfl⟩
    · refine .inr ⟨b, o, c, by rw [List.length_take, Nat.min_eq_left hk], ?_, by rw [List.length_take]; omega, ?_⟩
      · intro e
        have := congrArg List.length e
        rw [List.length_take, List.length_nil] at this
        have h1' := List.length_pos_iff.2 h1
        omega
      · intro q u hq
        rw [List.map_take, List.getElem?_take] at hq
        split at hq
        · exact h3 q u hq
        · cases hq
/-- what trim hands back. -/
def Trims (a : Option Addr) (xs : List Nat) (c : Nat) (w : World) (e : Ending) (w' : World) : Prop :=
  ∃ k, e = .returned (.slice a k c) ∧ k ≤ xs.length ∧ (∀ j, k ≤ j → xs.getD j 0 = 0) ∧ (k = 0 ∨ xs.getD (k - 1) 0 ≠ 0) ∧ Ext w w'
set_option maxHeartbeats 1000000 in
theorem trim_any (w : World) (a : Option Addr) (c : Nat) (xs : List Nat) (h : URow w (.slice a xs.length c) xs) (hl : xs.length ≤ 2000) : Calls Try.prog 37 #[.slice a xs.length c] w (Trims a xs c w) := by
  have HL := Lib.hid hl
  have H := Lib.hid h
  clear h hl
  go_enter Try.func37, Try.ntmps37
  go_wp2_with fail
  go_loopw [0] (fun v W => W = w ∧ ∃ k : Nat, v = .slice a k c ∧ Hid (k ≤ xs.length ∧ ∀ j, k ≤ j → xs.getD j 0 = 0)) (fun v _ => match v with | .slice _ k _ => k | _ => 0)
  case atStart => exact ⟨rfl, xs.length, rfl, Lib.hid ⟨Nat.le_refl _, fun j hj => getD_past xs j hj⟩⟩
  case round =>
    obtain ⟨rfl, k, rfl, HK⟩ := hrel
    by_cases h0 : k = 0
    · subst h0
      go_wp2
      go_ret
      exact ⟨0, rfl, HK.out.1, HK.out.2, .inl rfl, Ext.refl _⟩
    · obtain ⟨m, rfl⟩ : ∃ m, k = m + 1 := ⟨k - 1, by omega⟩
      clear h0
      have hm : m < xs.length := HK.out.1
      have hm2 : m < 2000 := Nat.lt_of_lt_of_le hm HL.out
      rcases H.out with ⟨h, _⟩ | ⟨b, o, c', hv, _, h2, h3⟩
      · exact absurd h (by intro e; rw [e] at hm; exact absurd hm (Nat.not_lt_zero _))
      · obtain ⟨rfl, rfl⟩ : a = some ⟨b, o, none⟩ ∧ c = c' := by cases hv; exact ⟨rfl, rfl⟩
        have hc := urow_cell h3 m hm
        have hcap : m + 1 ≤ c := by omega
        clear hv h2 h3
        by_cases hz : xs.getD m 0 = 0
        · rw [hz] at hc
          have HZ := Lib.hid hz
          clear hz
          go_wp2
          exact ⟨⟨trivial, m, rfl, Lib.hid ⟨Nat.le_of_lt hm, fun j hj => by
            rcases Nat.eq_or_lt_of_le hj with e | e
            · rw [← e]; exact HZ.out
            · exact HK.out.2 j e⟩⟩, Nat.lt_succ_self m⟩
        · have HZ := Lib.hid hz
          obtain ⟨d, hd⟩ : ∃ d, xs.getD m 0 = d := ⟨_, rfl⟩
          rw [hd] at hc hz
          have hz' : ¬ (d : Int) = 0 := by omega
          have hz2 : ((d : Int) == 0) = false := by simpa using hz
          clear hz hd
          go_wp2
          go_ret
          exact ⟨m + 1, rfl, HK.out.1, HK.out.2, .inr HZ.out, Ext.refl _⟩
/-- a number lies in memory. -/
def NumIs (w : World) (v : Value) (n : Nat) : Prop := ∃ xs, URow w v xs ∧ Norm xs ∧ nval xs = n
theorem NumIs.ext {w w' : World} {v : Value} {n : Nat} (h : NumIs w v n) (e : Ext w w') : NumIs w' v n := by
  obtain ⟨xs, h1, h2⟩ := h; exact ⟨xs, h1.ext e, h2⟩
/-- a number is handed back. -/
def Num (n : Nat) (w : World) (e : Ending) (w' : World) : Prop := ∃ v, e = .returned v ∧ NumIs w' v n ∧ Ext w w'
theorem trim_num (w : World) (a : Option Addr) (c : Nat) (xs : List Nat) (h : URow w (.slice a xs.length c) xs) (hw : Words xs) (hl : xs.length ≤ 2000) : Calls Try.prog 37 #[.slice a xs.length c] w (Num (nval xs) w) := by
  refine (trim_any w a c xs h hl).mono ?_
  rintro e w1 ⟨k, rfl, h1, h2, h3, h4⟩
  obtain ⟨h5, h6⟩ := trim_norm hw h1 h2 h3
  exact ⟨_, rfl, ⟨xs.take k, (h.take k h1).ext h4, h5, h6⟩, h4⟩
/-- may a row of words be a number? -/
def mayN (xs : List Nat) : Bool := decide (xs.length ≤ 128) && decide (xs = [] ∨ xs.getD (xs.length - 1) 0 ≠ 0)
theorem mayN_norm {xs : List Nat} (hw : Words xs) : mayN xs = true ↔ Norm xs ∧ xs.length ≤ 128 := by
  simp only [mayN, Bool.and_eq_true, decide_eq_true_eq]
  exact ⟨fun h => ⟨⟨hw, h.2⟩, h.1⟩, fun h => ⟨h.2, h.1.2⟩⟩
set_option maxHeartbeats 1000000 in
theorem natMay_any (w : World) (p : Value) (xs : List Nat) (h : URow w p xs) : Calls Try.prog 33 #[p] w (Ret (.bool (mayN xs)) w) := by
  by_cases hl : xs.length ≤ 128
  · obtain ⟨a, c, rfl⟩ := h.slice
    have HT := Lib.hid (trim_any w a c xs h (by omega))
    obtain ⟨B, hB⟩ : ∃ B, mayN xs = B := ⟨_, rfl⟩
    have HB := Lib.hid hB
    rw [hB]
    have hl' : (xs.length : Int) ≤ 128 := by omega
    have HL := Lib.hid hl
    clear h hB hl
    go_enter Try.func33, Try.ntmps33
    go_wp2_with fail
    clear hl'
    refine HT.out.mono ?_
    rintro e w1 ⟨k, rfl, h1, h2, h3, h4⟩
    have HK := Lib.hid (And.intro h1 (And.intro h2 h3))
    clear h1 h2 h3
    by_cases hk : k = xs.length
    · subst hk
      go_wp2
      go_ret
      refine ⟨ret_bool ?_, h4⟩
      rw [← HB.out]
      unfold mayN
      have := HL.out
      have h3 := HK.out.2.2
      simp only [this, decide_true, Bool.true_and]
      symm
      rw [decide_eq_true_eq]
      rcases h3 with h3 | h3
      · exact .inl (List.length_eq_zero_iff.1 h3)
      · exact .inr h3
    · have hk' : ¬ (k : Int) = xs.length := by omega
      have HKN := Lib.hid hk
      clear hk
      go_wp2
      go_ret
      refine ⟨ret_bool ?_, h4⟩
      rw [← HB.out]
      unfold mayN
      have h1 := HK.out.1
      have h2 := HK.out.2.1
      have h0 := HKN.out
      rw [show ((k : Int) == (xs.length : Int)) = false by simp; omega]
      symm
      rw [Bool.and_eq_false_iff]
      right
      rw [decide_eq_false_iff_not]
      rintro (h | h)
      · subst h; simp at h1; simp [h1] at h0
      · exact h (h2 _ (by omega))
  · obtain ⟨a, c, rfl⟩ := h.slice
    have e : mayN xs = false := by unfold mayN; simp [hl]
    rw [e]
    have hl' : ¬ (xs.length : Int) ≤ 128 := by omega
    clear h e hl
    go_enter Try.func33, Try.ntmps33
    go_wp2
    go_ret
    exact Ret.mk (Ext.refl _)
theorem wrap_u32 (n : Nat) : IntKind.u32.wrap (n : Int) = ((n % beta : Nat) : Int) := by
  rw [show IntKind.u32.wrap (n : Int) = (n : Int) % 4294967296 by simp [IntKind.wrap, IntKind.bits, IntKind.signed]]
  show _ = ((n % 4294967296 : Nat) : Int)
  omega
set_option maxHeartbeats 1000000 in
theorem from_any (w : World) (n : Nat) (hn : n < 18446744073709551616) : Calls Try.prog 17 #[.int .u64 (n : Nat)] w (Num n w) := by
  have hd : n / beta < beta := Nat.div_lt_of_lt_mul (show n < beta * beta from hn)
  have hE := (Ext.refl w).alloc (.cells #[.int .u32 ((n : Int) % 4294967296), .int .u32 ((n : Int) / 4294967296 % 4294967296)] 34)
  have hrow : URow (w.alloc (.cells #[.int .u32 ((n : Int) % 4294967296), .int .u32 ((n : Int) / 4294967296 % 4294967296)] 34)) (.slice (some ⟨w.heap.size, 0, none⟩) 2 2) [n % beta, n / beta] :=
    .inr ⟨_, 0, 2, rfl, by simp, by simp, fun q u hq => by
      rw [Nat.zero_add, cell_of (alloc_at w _ _ rfl) q]
      have e1 : ((n : Int) % 4294967296) = ((n % beta : Nat) : Int) := by show _ = ((n % 4294967296 : Nat) : Int); omega
      have e2 : ((n : Int) / 4294967296 % 4294967296) = ((n / beta : Nat) : Int) := by
        rw [← Nat.mod_eq_of_lt hd]; show _ = ((n / 4294967296 % 4294967296 : Nat) : Int); omega
      rw [e1, e2]
      simpa [u32] using hq⟩
  have hv : nval [n % beta, n / beta] = n := by
    simp only [nval, Nat.mul_zero, Nat.add_zero]
    exact Nat.mod_add_div n beta
  have HT := Lib.hid (trim_num _ _ 2 [n % beta, n / beta] hrow (fun d hd' => by
    simp only [List.mem_cons, List.not_mem_nil, or_false] at hd'
    rcases hd' with rfl | rfl
    · exact Nat.mod_lt _ beta_pos
    · exact hd) (by simp))
  rw [hv] at HT
  have HE := Lib.hid hE
  clear hrow hv hd hE hn
  go_enter Try.func17, Try.ntmps17
  go_wp2_with fail
  refine HT.out.mono ?_
  rintro e w1 ⟨v, rfl, h1, h2⟩
  go_wp2
  go_ret
  exact ⟨_, rfl, h1, HE.out.trans h2⟩
/-- a number that is not too long. -/
def fitE (n : Nat) : Int := if n < beta ^ 128 then 0 else 5
def fitN (n : Nat) : Nat := if n < beta ^ 128 then n else 0
def Fits (n : Nat) (w : World) (e : Ending) (w' : World) : Prop := ∃ v, e = .returned (.tuple #[v, .int .i64 (fitE n)]) ∧ NumIs w' v (fitN n) ∧ Ext w w'
theorem num_nil (w : World) (a : Option Addr) (c : Nat) : NumIs w (.slice a 0 c) 0 := ⟨[], .inl ⟨rfl, _, _, rfl⟩, ⟨(fun d hd => by cases hd), .inl rfl⟩, rfl⟩
set_option maxHeartbeats 1000000 in
theorem fits_any (w : World) (p : Value) (xs : List Nat) (h : URow w p xs) (hw : Words xs) (hl : xs.length ≤ 2000) : Calls Try.prog 75 #[p] w (Fits (nval xs) w) := by
  obtain ⟨a, c, rfl⟩ := h.slice
  have HT := Lib.hid (trim_num w a c xs h hw hl)
  obtain ⟨n, hn⟩ : ∃ n, nval xs = n := ⟨_, rfl⟩
  rw [hn] at HT ⊢
  clear h hn
  go_enter Try.func75, Try.ntmps75
  go_wp2_with fail
  refine HT.out.mono ?_
  rintro e w1 ⟨v, rfl, ⟨ys, h1, h2, h3⟩, h4⟩
  obtain ⟨b, d, rfl⟩ := h1.slice
  have HL := Lib.hid (norm_len h2 128)
  have H1 := Lib.hid h1
  have H2 := Lib.hid h2
  have H3 := Lib.hid h3
  clear h1 h2 h3
  by_cases hk : ys.length ≤ 128
  · have hk' : ¬ (128 : Int) < ys.length := by omega
    have HK := Lib.hid hk
    clear hk
    go_wp2
    go_ret2
    have h5 : n < beta ^ 128 := by rw [← H3.out]; exact HL.out.1 HK.out
    unfold Fits fitE fitN
    rw [if_pos h5, if_pos h5]
    exact ⟨_, rfl, ⟨ys, H1.out, H2.out, H3.out⟩, h4⟩
  · have hk' : (128 : Int) < ys.length := by omega
    have HK := Lib.hid hk
    clear hk
    go_wp2
    go_ret2
    have h5 : ¬ n < beta ^ 128 := by rw [← H3.out]; exact fun h => HK.out (HL.out.2 h)
    unfold Fits fitE fitN
    rw [if_neg h5, if_neg h5]
    exact ⟨_, rfl, num_nil _ _ _, h4⟩
/-- words in a block of one's own. -/
def UBlk (w : World) (g : Nat) (ds : List Nat) : Prop := w.heap[g]? = some (.cells (ds.map u32).toArray 34 (0, 0))
theorem UBlk.row {w : World} {g : Nat} {ds : List Nat} (h : UBlk w g ds) (c : Nat) (hc : ds.length ≤ c) : URow w (.slice (some ⟨g, 0, none⟩) ds.length c) ds := by
  by_cases h0 : ds = []
  · subst h0; exact .inl ⟨rfl, _, _, rfl⟩
  · refine .inr ⟨g, 0, c, rfl, h0, hc, fun q u hq => ?_⟩
    rw [Nat.zero_add, cell_of h q]
    simpa using hq
theorem UBlk.cell {w : World} {g : Nat} {ds : List Nat} (h : UBlk w g ds) (k : Nat) (hk : k < ds.length) : w.cell? ⟨g, k, none⟩ = some (.int .u32 (ds.getD k 0 : Nat)) ∧ w.frozen? ⟨g, k, none⟩ = false := by
  refine ⟨?_, frozen_of h k⟩
  rw [cell_of h k]
  simp [hk, u32, List.getD_eq_getElem?_getD]
theorem UBlk.set {w : World} {g : Nat} {ds : List Nat} (h : UBlk w g ds) (k d : Nat) : UBlk (w.setCell ⟨g, k, none⟩ (.int .u32 (d : Nat))) g (ds.set k d) := by
  unfold UBlk at *
  simp only [World.setCell, Array.getElem?_modify, h]
  simp [u32, List.map_set]
theorem u32_info : (Try.prog.info? 34).map (·.size) = some 1 := by kernel_rfl
theorem u32_make (w : World) (n : Nat) (hn : n ≤ 3000) : (Instr.makeSlice 23 (.int .i64 (n : Nat)) (.int .i64 (n : Nat))).run Try.prog w = .ok (.slice (some ⟨w.heap.size, 0, none⟩) n n) (w.alloc (.cells ((List.replicate n 0).map u32).toArray 34)) := by
  have h : (Try.prog.info? 34).map (fun i => (i.zero, i.size, i.bytes)) = some (some (.int .u32 0), 1, 4) := by kernel_rfl
  cases hi : Try.prog.info? 34 with
  | none => rw [hi] at h; cases h
  | some i =>
    rw [hi] at h
    simp only [Option.map_some, Option.some.injEq, Prod.mk.injEq] at h
    have := run_make (P := Try.prog) w 23 34 i _ Try.underlying23 hi h.1 .i64 .i64 (n : Nat) (n : Nat) (by omega) (Int.le_refl _) (by rw [h.2.2]; omega) (by omega)
    have e : madeCells (Value.int .u32 0).cells ((n : Int).toNat * 1) = ((List.replicate n 0).map u32).toArray := by
      simp only [madeCells, Value.cells]
      apply Array.ext
      · simp
      · intro i h1 h2
        simp [Nat.mod_one, u32]
    rw [this, h.2.1, e]
    rfl
theorem u32_copy (w0 w : World) (g n : Nat) (xs : List Nat) (a : Option Addr) (c : Nat) (ty : TypeId) (h : URow w (.slice a xs.length c) xs) (hg : w.heap[g]? = some (.cells (Array.replicate n (u32 0)) 34 (0, 0))) (hn : xs.length ≤ n) (hE : Ext w0 w) (hgb : w0.heap.size ≤ g) :
    ∃ w', (Builtin.copy_ #[23, 23] ty #[.slice (some ⟨g, 0, none⟩) n n, .slice a xs.length c]).run Try.prog w = .ok (goInt xs.length) w' ∧ UBlk w' g (xs ++ List.replicate (n - xs.length) 0) ∧ Ext w0 w' := by
  rcases h with ⟨rfl, a', c', e⟩ | ⟨b, o, c', e, h1, h2, h3⟩
  · refine ⟨w, ?_, by unfold UBlk; simpa using hg, hE⟩
    exact run_copy_none (P := Try.prog) w _ _ ty 34 _ _ n n 0 c Try.underlying23 u32_info (by simp)
  · cases e
    have hr := run_copy_row (P := Try.prog) w 23 23 ty 34 g 0 n n ⟨b, o, none⟩ xs.length c _ _ (xs.map u32) Try.underlying23 u32_info hg (by rw [List.length_map]; exact (Nat.min_eq_left hn).symm)
      (fun j v hj => by rw [Addr.add_mid]; exact h3 j v hj) (by simp; omega) (fun v hv => by obtain ⟨d, _, rfl⟩ := List.mem_map.1 hv; rfl)
    rw [List.length_map] at hr
    refine ⟨_, hr, ?_, below_setRow hE hgb _⟩
    have hs := setRow_heap w g _ (((Array.replicate n (u32 0)).toList.take 0 ++ xs.map u32 ++ (Array.replicate n (u32 0)).toList.drop (0 + xs.length)).toArray) _ _ hg
    unfold UBlk
    rw [hs]
    simp [u32]
/-- a number with room for so many words. -/
def Wide (xs : List Nat) (n : Nat) (w : World) (e : Ending) (w' : World) : Prop :=
  ∃ g, e = .returned (.slice (some ⟨g, 0, none⟩) n n) ∧ w.heap.size ≤ g ∧ UBlk w' g (xs ++ List.replicate (n - xs.length) 0) ∧ Ext w w'
set_option maxHeartbeats 1000000 in
theorem wide_any (w : World) (p : Value) (xs : List Nat) (n : Nat) (h : URow w p xs) (hn : xs.length ≤ n) (hl : n ≤ 2000) : Calls Try.prog 34 #[p, .int .i64 (n : Nat)] w (Wide xs n w) := by
  have HU := Lib.hid h
  have HN := Lib.hid (And.intro hn hl)
  obtain ⟨a, c, rfl⟩ := h.slice
  have hmk := u32_make w n (by omega)
  have hE := (Ext.refl w).alloc (.cells (Array.replicate n (u32 0)) 34)
  obtain ⟨w2, hcp, hb, hE2⟩ := u32_copy w (w.alloc (.cells (Array.replicate n (u32 0)) 34)) w.heap.size n xs a c 3 (h.ext hE) (alloc_at _ _ _ rfl) hn hE (Nat.le_refl _)
  have HB := Lib.hid (And.intro hb hE2)
  clear h hn hl hb hE2 hE
  go_enter Try.func34, Try.ntmps34
  go_wp2_with fail
  go_ret
  exact ⟨_, rfl, Nat.le_refl _, HB.out.1, HB.out.2⟩
end Go.Proofs.Ytejknkhahjgdnaa
namespace Go.Proofs.Ytejknkhahjgdnaa
open Go Go.RowKit

/-- the state of the sum's loop. -/
def AddSt (w : World) (g size : Nat) (xs ys : List Nat) (c k : Value) (W : World) : Prop :=
  ∃ (ds : List Nat) (kk cc : Nat), c = .int .u64 (cc : Nat) ∧ k = .int .i64 (kk : Nat) ∧ UBlk W g ds ∧ Ext w W ∧
    Hid (kk ≤ size ∧ ds.length = size ∧ cc ≤ 1 ∧ Words ds ∧ (∀ j, kk ≤ j → ds.getD j 0 = xs.getD j 0) ∧ nval (ds.take kk) + beta ^ kk * cc = nval (xs.take kk) + nval (ys.take kk))
theorem add_rel {w W : World} {g size kk cc s : Nat} {ds xs ys : List Nat} (hU : UBlk W g ds) (hE : Ext w W) (hg : w.heap.size ≤ g)
    (HH : Hid (kk ≤ size ∧ ds.length = size ∧ cc ≤ 1 ∧ Words ds ∧ (∀ j, kk ≤ j → ds.getD j 0 = xs.getD j 0) ∧ nval (ds.take kk) + beta ^ kk * cc = nval (xs.take kk) + nval (ys.take kk)))
    (hx : Words xs) (hy : Words ys) (hk : kk < size) (hs : s = cc + xs.getD kk 0 + ys.getD kk 0) :
    AddSt w g size xs ys (.int .u64 ((s / beta : Nat) : Int)) (.int .i64 ((kk + 1 : Nat) : Int)) (W.setCell ⟨g, kk, none⟩ (.int .u32 ((s % beta : Nat) : Int))) := by
  obtain ⟨h1, h2, h3, h4, h5, h6⟩ := HH.out
  have hkd : kk < ds.length := by rw [h2]; exact hk
  obtain ⟨a1, a2, a3⟩ := add_step (ys := ys) hkd h3 hx hy h5 h6
  rw [← hs] at a1 a2 a3
  exact ⟨ds.set kk (s % beta), kk + 1, s / beta, rfl, rfl, hU.set kk _, Below.setCell (B := w.heap.size) hE hg _, Lib.hid ⟨hk, by rw [List.length_set, h2], a1, words_set h4 (Nat.mod_lt _ beta_pos), a2, a3⟩⟩
theorem cast_mod (s : Nat) : ((s % beta : Nat) : Int) = (s : Int) % 4294967296 := by show ((s % 4294967296 : Nat) : Int) = _; omega
theorem cast_div (s : Nat) : ((s / beta : Nat) : Int) = (s : Int) / 4294967296 := by show ((s / 4294967296 : Nat) : Int) = _; omega
theorem add_close {w W : World} {g size kk cc x y : Nat} {ds xs ys : List Nat} (hU : UBlk W g ds) (hE : Ext w W) (hg : w.heap.size ≤ g)
    (HH : Hid (kk ≤ size ∧ ds.length = size ∧ cc ≤ 1 ∧ Words ds ∧ (∀ j, kk ≤ j → ds.getD j 0 = xs.getD j 0) ∧ nval (ds.take kk) + beta ^ kk * cc = nval (xs.take kk) + nval (ys.take kk)))
    (hx : Words xs) (hy : Words ys) (hk : kk < size) (hs : cc + x + y = cc + xs.getD kk 0 + ys.getD kk 0) :
    AddSt w g size xs ys (.int .u64 (((cc : Int) + (x : Int) + (y : Int)) / 4294967296)) (.int .i64 ((kk : Int) + 1)) (W.setCell ⟨g, kk, none⟩ (.int .u32 (((cc : Int) + (x : Int) + (y : Int)) % 4294967296))) ∧
      size - (intOf (.int .i64 ((kk : Int) + 1))).toNat < size - (intOf (.int .i64 (kk : Int))).toNat := by
  refine ⟨?_, ?_⟩
  · have := add_rel hU hE hg HH hx hy hk hs
    rw [cast_div, cast_mod] at this
    simp only [Int.natCast_add] at this
    exact this
  · show size - (kk + 1) < size - kk
    omega
theorem add_close2 {w W : World} {g size kk cc x : Nat} {ds xs ys : List Nat} (hU : UBlk W g ds) (hE : Ext w W) (hg : w.heap.size ≤ g)
    (HH : Hid (kk ≤ size ∧ ds.length = size ∧ cc ≤ 1 ∧ Words ds ∧ (∀ j, kk ≤ j → ds.getD j 0 = xs.getD j 0) ∧ nval (ds.take kk) + beta ^ kk * cc = nval (xs.take kk) + nval (ys.take kk)))
    (hx : Words xs) (hy : Words ys) (hk : kk < size) (hs : cc + x = cc + xs.getD kk 0 + ys.getD kk 0) :
    AddSt w g size xs ys (.int .u64 (((cc : Int) + (x : Int)) / 4294967296)) (.int .i64 ((kk : Int) + 1)) (W.setCell ⟨g, kk, none⟩ (.int .u32 (((cc : Int) + (x : Int)) % 4294967296))) ∧
      size - (intOf (.int .i64 ((kk : Int) + 1))).toNat < size - (intOf (.int .i64 (kk : Int))).toNat := by
  have := add_close hU hE hg HH hx hy hk (x := x) (y := 0) (by rw [Nat.add_zero]; exact hs)
  simpa using this
set_option maxRecDepth 100000 in
set_option maxHeartbeats 4000000 in
theorem natAdd_any (w : World) (p q : Value) (xs ys : List Nat) (hp : URow w p xs) (hq : URow w q ys) (hx : Words xs) (hy : Words ys) (lx : xs.length ≤ 900) (ly : ys.length ≤ 900) :
    Calls Try.prog 76 #[p, q] w (Num (nval xs + nval ys) w) := by
  obtain ⟨a, c, rfl⟩ := hp.slice
  obtain ⟨b, d, rfl⟩ := hq.slice
  obtain ⟨size, hsize⟩ : ∃ size, size = max xs.length ys.length + 1 := ⟨_, rfl⟩
  have HS := Lib.hid hsize
  have HW := Lib.hid (wide_any w _ xs size hp (by omega) (by omega))
  have HQ := Lib.hid hq
  have HX := Lib.hid (And.intro hx (And.intro hy (And.intro lx ly)))
  have l1 : (xs.length : Int) ≤ 900 := by omega
  have l2 : (ys.length : Int) ≤ 900 := by omega
  by_cases hlt : xs.length < ys.length
  · have hsz : ((ys.length : Nat) : Int) + 1 = (size : Int) := by omega
    clear hp hq hx hy lx ly hsize
    go_enter Try.func76, Try.ntmps76
    go_wp2_with fail
    (try rw [hsz])
    clear hsz hlt l1 l2
    refine HW.out.mono ?_
    rintro e w1 ⟨g, rfl, hg, hb, hx⟩
    have HG := Lib.hid hg
    have HB := Lib.hid hb
    have HE := Lib.hid hx
    clear hg hb hx
    go_wp2_with fail
    go_loopw [6, 18] (fun c k W => AddSt w g size xs ys c k W) (fun _ k _ => size - (intOf k).toNat)
    case atStart =>
      have h0 : xs.length ≤ size := by rw [HS.out]; omega
      exact ⟨_, 0, 0, rfl, rfl, HB.out, HE.out, Lib.hid ⟨Nat.zero_le _, by simp; omega, Nat.zero_le _, fun y hy => by
        rcases List.mem_append.1 hy with h | h
        · exact HX.out.1 y h
        · rw [(List.mem_replicate.1 h).2]; exact beta_pos, fun j _ => by
        rcases Nat.lt_or_ge j xs.length with h | h
        · simp [List.getD_eq_getElem?_getD, List.getElem?_append_left h]
        · rw [getD_past xs j h, List.getD_eq_getElem?_getD, List.getElem?_append_right h, List.getElem?_replicate]
          split <;> rfl, by simp [nval]⟩⟩
    case round =>
      obtain ⟨ds, kk, cc, rfl, rfl, hU, hE, HH⟩ := hrel
      by_cases hk : kk < size
      · obtain ⟨cx, cf⟩ := hU.cell kk (by rw [HH.out.2.1]; exact hk)
        rw [HH.out.2.2.2.2.1 kk (Nat.le_refl _)] at cx
        have HK := Lib.hid hk
        have HU := Lib.hid hU
        have HE2 := Lib.hid hE
        have hc := HH.out.2.2.1
        have bx := words_getD HX.out.1 kk
        have by' := words_getD HX.out.2.1 kk
        have hsz2 : size ≤ 901 := by have := HX.out.2.2; rw [HS.out]; omega
        obtain ⟨x, hx⟩ : ∃ x, xs.getD kk 0 = x := ⟨_, rfl⟩
        obtain ⟨y, hy⟩ : ∃ y, ys.getD kk 0 = y := ⟨_, rfl⟩
        have HXX := Lib.hid hx
        have HYY := Lib.hid hy
        rw [hx] at cx bx
        rw [hy] at by'
        unfold beta at bx by'
        clear hx hy hU hE
        by_cases hky : kk < ys.length
        · rcases HQ.out with ⟨h, _⟩ | ⟨b', o, d', hv, _, h2, h3⟩
          · rw [h] at hky; exact absurd hky (Nat.not_lt_zero _)
          · obtain ⟨rfl, rfl⟩ : b = some ⟨b', o, none⟩ ∧ d = d' := by cases hv; exact ⟨rfl, rfl⟩
            have cy := urow_cell (rangeAt_ext' h3 HE2.out) kk hky
            rw [HYY.out] at cy
            clear hv h2 h3
            go_wp2
            exact add_close HU.out HE2.out HG.out HH HX.out.1 HX.out.2.1 HK.out (by rw [HXX.out, HYY.out])
        · rw [getD_past ys kk (Nat.le_of_not_lt hky)] at HYY
          go_wp2
          exact add_close2 HU.out HE2.out HG.out HH HX.out.1 HX.out.2.1 HK.out (by rw [HXX.out, getD_past ys kk (Nat.le_of_not_lt hky), Nat.add_zero])
      · have HK := Lib.hid (Nat.le_antisymm HH.out.1 (Nat.le_of_not_lt hk))
        have HU := Lib.hid hU
        have HE2 := Lib.hid hE
        have hl2 : ds.length = size := HH.out.2.1
        have HT := Lib.hid (trim_num wr (some ⟨g, 0, none⟩) size ds (hU.row size (Nat.le_of_eq hl2)) HH.out.2.2.2.1 (by have := HX.out.2.2; rw [hl2, HS.out]; omega))
        rw [hl2, add_end HX.out.1 HX.out.2.1 (by rw [hl2]; exact HS.out) (by have := HH.out.2.2.2.2.2; rw [HK.out, ← hl2] at this; exact this)] at HT
        clear hU hE hl2
        go_wp2_with fail
        refine HT.out.mono ?_
        rintro e w3 ⟨v, rfl, h1, h2⟩
        go_wp2
        go_ret
        exact ⟨_, rfl, h1, HE2.out.trans h2⟩
  · have hsz : ((xs.length : Nat) : Int) + 1 = (size : Int) := by omega
    clear hp hq hx hy lx ly hsize
    go_enter Try.func76, Try.ntmps76
    go_wp2_with fail
    (try rw [hsz])
    clear hsz hlt l1 l2
    refine HW.out.mono ?_
    rintro e w1 ⟨g, rfl, hg, hb, hx⟩
    have HG := Lib.hid hg
    have HB := Lib.hid hb
    have HE := Lib.hid hx
    clear hg hb hx
    go_wp2_with fail
    go_loopw [6, 18] (fun c k W => AddSt w g size xs ys c k W) (fun _ k _ => size - (intOf k).toNat)
    case atStart =>
      have h0 : xs.length ≤ size := by rw [HS.out]; omega
      exact ⟨_, 0, 0, rfl, rfl, HB.out, HE.out, Lib.hid ⟨Nat.zero_le _, by simp; omega, Nat.zero_le _, fun y hy => by
        rcases List.mem_append.1 hy with h | h
        · exact HX.out.1 y h
        · rw [(List.mem_replicate.1 h).2]; exact beta_pos, fun j _ => by
        rcases Nat.lt_or_ge j xs.length with h | h
        · simp [List.getD_eq_getElem?_getD, List.getElem?_append_left h]
        · rw [getD_past xs j h, List.getD_eq_getElem?_getD, List.getElem?_append_right h, List.getElem?_replicate]
          split <;> rfl, by simp [nval]⟩⟩
    case round =>
      obtain ⟨ds, kk, cc, rfl, rfl, hU, hE, HH⟩ := hrel
      by_cases hk : kk < size
      · obtain ⟨cx, cf⟩ := hU.cell kk (by rw [HH.out.2.1]; exact hk)
        rw [HH.out.2.2.2.2.1 kk (Nat.le_refl _)] at cx
        have HK := Lib.hid hk
        have HU := Lib.hid hU
        have HE2 := Lib.hid hE
        have hc := HH.out.2.2.1
        have bx := words_getD HX.out.1 kk
        have by' := words_getD HX.out.2.1 kk
        have hsz2 : size ≤ 901 := by have := HX.out.2.2; rw [HS.out]; omega
        obtain ⟨x, hx⟩ : ∃ x, xs.getD kk 0 = x := ⟨_, rfl⟩
        obtain ⟨y, hy⟩ : ∃ y, ys.getD kk 0 = y := ⟨_, rfl⟩
        have HXX := Lib.hid hx
        have HYY := Lib.hid hy
        rw [hx] at cx bx
        rw [hy] at by'
        unfold beta at bx by'
        clear hx hy hU hE
        by_cases hky : kk < ys.length
        · rcases HQ.out with ⟨h, _⟩ | ⟨b', o, d', hv, _, h2, h3⟩
          · rw [h] at hky; exact absurd hky (Nat.not_lt_zero _)
          · obtain ⟨rfl, rfl⟩ : b = some ⟨b', o, none⟩ ∧ d = d' := by cases hv; exact ⟨rfl, rfl⟩
            have cy := urow_cell (rangeAt_ext' h3 HE2.out) kk hky
            rw [HYY.out] at cy
            clear hv h2 h3
            go_wp2
            exact add_close HU.out HE2.out HG.out HH HX.out.1 HX.out.2.1 HK.out (by rw [HXX.out, HYY.out])
        · rw [getD_past ys kk (Nat.le_of_not_lt hky)] at HYY
          go_wp2
          exact add_close2 HU.out HE2.out HG.out HH HX.out.1 HX.out.2.1 HK.out (by rw [HXX.out, getD_past ys kk (Nat.le_of_not_lt hky), Nat.add_zero])
      · have HK := Lib.hid (Nat.le_antisymm HH.out.1 (Nat.le_of_not_lt hk))
        have HU := Lib.hid hU
        have HE2 := Lib.hid hE
        have hl2 : ds.length = size := HH.out.2.1
        have HT := Lib.hid (trim_num wr (some ⟨g, 0, none⟩) size ds (hU.row size (Nat.le_of_eq hl2)) HH.out.2.2.2.1 (by have := HX.out.2.2; rw [hl2, HS.out]; omega))
        rw [hl2, add_end HX.out.1 HX.out.2.1 (by rw [hl2]; exact HS.out) (by have := HH.out.2.2.2.2.2; rw [HK.out, ← hl2] at this; exact this)] at HT
        clear hU hE hl2
        go_wp2_with fail
        refine HT.out.mono ?_
        rintro e w3 ⟨v, rfl, h1, h2⟩
        go_wp2
        go_ret
        exact ⟨_, rfl, h1, HE2.out.trans h2⟩
/-- what Add hands back. -/
def SumE (xs ys : List Nat) (n : Nat) : Int := if mayN xs && mayN ys then fitE n else 2
def SumN (xs ys : List Nat) (n : Nat) : Nat := if mayN xs && mayN ys then fitN n else 0
def Both (xs ys : List Nat) (n : Nat) (w : World) (e : Ending) (w' : World) : Prop :=
  ∃ v, e = .returned (.tuple #[v, .int .i64 (SumE xs ys n)]) ∧ NumIs w' v (SumN xs ys n) ∧ Ext w w'
theorem fits_numAny (w : World) (v : Value) (n : Nat) (h : NumIs w v n) (hn : n < beta ^ 256) : Calls Try.prog 75 #[v] w (Fits n w) := by
  obtain ⟨xs, h1, h2, h3⟩ := h
  have h4 := fits_any w v xs h1 h2.1 (Nat.le_trans ((norm_len h2 256).2 (by rw [h3]; exact hn)) (by decide))
  rw [h3] at h4
  exact h4
set_option maxHeartbeats 1000000 in
theorem natAddE_any (w : World) (p q : Value) (xs ys : List Nat) (hp : URow w p xs) (hq : URow w q ys) (hx : Words xs) (hy : Words ys) : Calls Try.prog 57 #[p, q] w (Both xs ys (nval xs + nval ys) w) := by
  obtain ⟨N, hN⟩ : ∃ N, nval xs + nval ys = N := ⟨_, rfl⟩
  have HNN := Lib.hid hN
  have HBIG := Lib.hid (show (Norm xs ∧ xs.length ≤ 128) → (Norm ys ∧ ys.length ≤ 128) → N < beta ^ 256 by
    intro h1 h2
    have a1 := (norm_len h1.1 128).1 h1.2
    have a2 := (norm_len h2.1 128).1 h2.2
    have a3 : beta ^ 129 ≤ beta ^ 256 := Nat.pow_le_pow_right beta_pos (by decide)
    have a4 : beta ^ 128 * 2 ≤ beta ^ 129 := by rw [Nat.pow_succ]; exact Nat.mul_le_mul_left _ (by decide)
    generalize beta ^ 128 = A at *
    generalize beta ^ 129 = B at *
    generalize beta ^ 256 = C at *
    omega)
  rw [hN]
  clear hN
  have HM1 := Lib.hid (natMay_any w p xs hp)
  have HM2 := Lib.hid (fun W (h : Ext w W) => natMay_any W q ys (hq.ext h))
  have HP := Lib.hid hp
  have HQ := Lib.hid hq
  have HX := Lib.hid (And.intro hx hy)
  cases m1 : mayN xs with
  | false =>
    have HE := Lib.hid (show SumE xs ys N = 2 ∧ SumN xs ys N = 0 by unfold SumE SumN; rw [m1]; exact ⟨rfl, rfl⟩)
    rw [m1] at HM1
    clear hp hq hx hy m1
    go_enter Try.func57, Try.ntmps57
    go_wp2_with fail
    refine HM1.out.mono ?_
    rintro e w1 ⟨rfl, h1⟩
    go_wp2
    go_ret2
    unfold Both
    rw [HE.out.1, HE.out.2]
    exact ⟨_, rfl, num_nil _ _ _, h1⟩
  | true =>
    cases m2 : mayN ys with
    | false =>
      have HE := Lib.hid (show SumE xs ys N = 2 ∧ SumN xs ys N = 0 by unfold SumE SumN; rw [m1, m2]; exact ⟨rfl, rfl⟩)
      rw [m1] at HM1
      rw [m2] at HM2
      clear hp hq hx hy m1 m2
      go_enter Try.func57, Try.ntmps57
      go_wp2_with fail
      refine HM1.out.mono ?_
      rintro e w1 ⟨rfl, h1⟩
      go_wp2_with fail
      refine (HM2.out w1 h1).mono ?_
      rintro e w2 ⟨rfl, h2⟩
      go_wp2
      go_ret2
      unfold Both
      rw [HE.out.1, HE.out.2]
      exact ⟨_, rfl, num_nil _ _ _, h1.trans h2⟩
    | true =>
      have HE := Lib.hid (show SumE xs ys N = fitE N ∧ SumN xs ys N = fitN N by unfold SumE SumN; rw [m1, m2]; exact ⟨rfl, rfl⟩)
      have n1 := (mayN_norm hx).1 m1
      have n2 := (mayN_norm hy).1 m2
      have HN := Lib.hid (And.intro n1 n2)
      rw [m1] at HM1
      rw [m2] at HM2
      clear hp hq hx hy m1 m2 n1 n2
      go_enter Try.func57, Try.ntmps57
      go_wp2_with fail
      refine HM1.out.mono ?_
      rintro e w1 ⟨rfl, h1⟩
      go_wp2_with fail
      refine (HM2.out w1 h1).mono ?_
      rintro e w2 ⟨rfl, h2⟩
      have h02 := h1.trans h2
      go_wp2_with fail
      refine (natAdd_any w2 p q xs ys (HP.out.ext h02) (HQ.out.ext h02) HX.out.1 HX.out.2 (Nat.le_trans HN.out.1.2 (by decide)) (Nat.le_trans HN.out.2.2 (by decide))).mono ?_
      rw [HNN.out]
      rintro e w3 ⟨v, rfl, hv, h3⟩
      go_wp2_with fail
      refine (fits_numAny w3 v N hv (HBIG.out HN.out.1 HN.out.2)).mono ?_
      rintro e w4 ⟨v4, rfl, hv4, h4⟩
      have HV := Lib.hid hv4
      go_wp2
      go_ret2
      unfold Both
      rw [HE.out.1, HE.out.2]
      exact ⟨_, rfl, HV.out, (h02.trans h3).trans h4⟩
end Go.Proofs.Ytejknkhahjgdnaa
namespace Go.Proofs.Ytejknkhahjgdnaa
open Go Go.RowKit

theorem meas_s {k n : Nat} (h : k < n) : n - (intOf (.int .i64 ((k + 1 : Nat) : Int))).toNat < n - (intOf (.int .i64 (k : Int))).toNat := by
  show n - (k + 1) < n - k
  omega
/-- the state of the product's outer loop. -/
def MulSt (w : World) (g size : Nat) (xs ys : List Nat) (i : Value) (W : World) : Prop :=
  ∃ (ds : List Nat) (ii : Nat), i = .int .i64 (ii : Nat) ∧ UBlk W g ds ∧ Ext w W ∧ Hid (ii ≤ xs.length ∧ ds.length = size ∧ Words ds ∧ nval ds = nval (xs.take ii) * nval ys)
/-- the state of its inner loop. -/
def MulIn (w : World) (g size : Nat) (ii V x : Nat) (ys : List Nat) (c k : Value) (W : World) : Prop :=
  ∃ (ds : List Nat) (kk cc : Nat), c = .int .u64 (cc : Nat) ∧ k = .int .i64 (kk : Nat) ∧ UBlk W g ds ∧ Ext w W ∧
    Hid (kk ≤ ys.length + 1 ∧ ds.length = size ∧ cc < beta ∧ Words ds ∧ nval ds + beta ^ (ii + kk) * cc = V + x * nval (ys.take kk) * beta ^ ii)
theorem mul_rel {w W : World} {g size ii V x kk cc s : Nat} {ds ys : List Nat} (hU : UBlk W g ds) (hE : Ext w W) (hg : w.heap.size ≤ g)
    (HH : Hid (kk ≤ ys.length + 1 ∧ ds.length = size ∧ cc < beta ∧ Words ds ∧ nval ds + beta ^ (ii + kk) * cc = V + x * nval (ys.take kk) * beta ^ ii))
    (hy : Words ys) (hx : x < beta) (hk : kk < ys.length + 1) (hi : ii + kk < size) (hs : s = cc + ds.getD (ii + kk) 0 + x * ys.getD kk 0) :
    MulIn w g size ii V x ys (.int .u64 ((s / beta : Nat) : Int)) (.int .i64 ((kk + 1 : Nat) : Int)) (W.setCell ⟨g, ii + kk, none⟩ (.int .u32 ((s % beta : Nat) : Int))) ∧
      ys.length + 1 - (intOf (.int .i64 ((kk + 1 : Nat) : Int))).toNat < ys.length + 1 - (intOf (.int .i64 (kk : Int))).toNat := by
  obtain ⟨h1, h2, h3, h4, h5⟩ := HH.out
  obtain ⟨a1, a2, a3⟩ := mul_step (ds := ds) (ys := ys) (i := ii) (k := kk) (c := cc) (x := x) (V := V) (by rw [h2]; exact hi) h4 hy hx h3 h5
  rw [← hs] at a1 a2 a3
  refine ⟨⟨ds.set (ii + kk) (s % beta), kk + 1, s / beta, rfl, rfl, hU.set _ _, Below.setCell (B := w.heap.size) hE hg _, Lib.hid ⟨hk, by rw [List.length_set, h2], a2, words_set h4 (Nat.mod_lt _ beta_pos), ?_⟩⟩, ?_⟩
  · rw [← Nat.add_assoc]; exact a3
  · show ys.length + 1 - (kk + 1) < ys.length + 1 - kk
    omega
theorem mul_bound {x y : Nat} (h3 : x < beta) (h4 : y < beta) : (x : Int) * (y : Int) ≤ 18446744065119617025 ∧ 0 ≤ (x : Int) * (y : Int) := by
  have h : x * y ≤ (beta - 1) * (beta - 1) := Nat.mul_le_mul (by omega) (by omega)
  have e : (beta - 1) * (beta - 1) = 18446744065119617025 := by decide
  rw [e] at h
  constructor
  · have := Int.ofNat_le.2 h
    rw [Int.natCast_mul] at this
    exact this
  · have := Int.natCast_nonneg (x * y)
    rw [Int.natCast_mul] at this
    exact this
end Go.Proofs.Ytejknkhahjgdnaa
namespace Go.Proofs.Ytejknkhahjgdnaa
open Go Go.RowKit

set_option maxHeartbeats 1000000 in
theorem sameN_any (w : World) (p q : Value) (xs : List Nat) (hp : URow w p xs) (hq : URow w q xs) (hl : xs.length ≤ 5000) : Calls Try.prog 14 #[p, q] w (Ret (.bool true) w) := by
  rcases hp with ⟨h0, a, c, rfl⟩ | ⟨b, o, c, rfl, hne, hc, hr⟩
  · subst h0
    obtain ⟨a2, c2, rfl⟩ := hq.slice
    rw [show ([] : List Nat).length = 0 from rfl]
    clear hq hl
    go_enter Try.func14, Try.ntmps14
    go_wp2
    go_loop [5] (fun i => i = .int .i64 0) (fun _ => 0)
    case atStart => rfl
    case round =>
      subst hrel
      go_wp2
      go_ret
      exact Ret.mk (Ext.refl _)
  · rcases hq with ⟨h0, _⟩ | ⟨b2, o2, c2, rfl, _, hc2, hr2⟩
    · exact (hne h0).elim
    · have H := Lib.hid hr
      have H2 := Lib.hid hr2
      clear hr hr2 hne
      go_enter Try.func14, Try.ntmps14
      go_wp2
      go_loopw [5] (fun i W => Ext w W ∧ ∃ k : Nat, k ≤ xs.length ∧ i = .int .i64 k) (fun i _ => xs.length - (intOf i).toNat)
      case atStart => exact ⟨Ext.refl _, 0, Nat.zero_le _, rfl⟩
      case round =>
        obtain ⟨hX, k, hk, rfl⟩ := hrel
        by_cases hlt : k < xs.length
        · have c0 := urow_cell (rangeAt_ext' H.out hX) k hlt
          have d0 := urow_cell (rangeAt_ext' H2.out hX) k hlt
          generalize xs.getD k 0 = x at *
          go_wp2_with fail
          go_region
          go_wp2
          go_roundw
          case rel => exact ⟨by first | exact hX | exact hX.trans (Ext.drew _), k + 1, by omega, by go_num⟩
          case measure => simp [intOf]; omega
        · go_wp2
          go_ret
          exact Ret.mk hX
theorem sameN_num (w : World) (p q : Value) (n : Nat) (hp : NumIs w p n) (hq : NumIs w q n) (hn : n < beta ^ 256) : Calls Try.prog 14 #[p, q] w (Ret (.bool true) w) := by
  obtain ⟨xs, h1, h2, h3⟩ := hp
  obtain ⟨ys, g1, g2, g3⟩ := hq
  have e := norm_inj h2 g2 (by rw [h3, g3])
  subst e
  exact sameN_any w p q xs h1 g1 (Nat.le_trans ((norm_len h2 256).2 (by rw [h3]; exact hn)) (by decide))
/-- what Pow hands back. -/
def PowE (xs : List Nat) (e : Int) (n : Nat) : Int := if mayN xs ∧ 0 ≤ e ∧ e ≤ 200 then fitE n else 2
def PowN (xs : List Nat) (e : Int) (n : Nat) : Nat := if mayN xs ∧ 0 ≤ e ∧ e ≤ 200 then fitN n else 0
def Pows (xs : List Nat) (e : Int) (n : Nat) (w : World) (r : Ending) (w' : World) : Prop :=
  ∃ v, r = .returned (.tuple #[v, .int .i64 (PowE xs e n)]) ∧ NumIs w' v (PowN xs e n) ∧ Ext w w'
theorem pow_big {n k e : Nat} (hk : k ≤ e) (h : ¬ n ^ k < beta ^ 128) : ¬ n ^ e < beta ^ 128 := by
  rcases Nat.eq_zero_or_pos n with rfl | hn
  · rcases Nat.eq_zero_or_pos k with rfl | h0
    · exact absurd (show 0 ^ 0 < beta ^ 128 from Nat.one_lt_pow (by decide) (by decide)) h
    · rw [Nat.zero_pow h0] at h; exact absurd (Nat.pow_pos beta_pos) h
  · have := Nat.pow_le_pow_right hn hk
    omega
end Go.Proofs.Ytejknkhahjgdnaa
namespace Go.Proofs.Ytejknkhahjgdnaa
open Go Go.RowKit

/-- a row, of which so many at either end are turned about. -/
def RevK (ds es : List Nat) (k : Nat) : Prop := es.length = ds.length ∧ ∀ p, p < ds.length → es.getD p 0 = if p < k ∨ ds.length ≤ p + k then ds.getD (ds.length - 1 - p) 0 else ds.getD p 0
theorem revK_zero (ds : List Nat) : RevK ds ds 0 := ⟨rfl, fun p hp => by rw [if_neg (by omega)]⟩
theorem getD_set (es : List Nat) (i p d : Nat) (hp : p < es.length) : (es.set i d).getD p 0 = if i = p then d else es.getD p 0 := by
  simp only [List.getD_eq_getElem?_getD, List.getElem?_set]
  split
  · rename_i h; subst h; simp [hp]
  · rfl
theorem revK_step {ds es : List Nat} {k : Nat} (h : RevK ds es k) (hk : k < ds.length - 1 - k) : RevK ds ((es.set k (ds.getD (ds.length - 1 - k) 0)).set (ds.length - 1 - k) (ds.getD k 0)) (k + 1) := by
  obtain ⟨h1, h2⟩ := h
  refine ⟨by simp [h1], fun p hp => ?_⟩
  rw [getD_set _ _ _ _ (by simp [h1, hp]), getD_set _ _ _ _ (by rw [h1]; exact hp)]
  by_cases e1 : ds.length - 1 - k = p
  · rw [if_pos e1, if_pos (by omega)]
    congr 1; omega
  · rw [if_neg e1]
    by_cases e2 : k = p
    · rw [if_pos e2, if_pos (by omega)]
      congr 1; omega
    · rw [if_neg e2, h2 p hp]
      by_cases e3 : p < k ∨ ds.length ≤ p + k
      · rw [if_pos e3, if_pos (by omega)]
      · rw [if_neg e3, if_neg (by omega)]
theorem revK_end {ds es : List Nat} {k : Nat} (h : RevK ds es k) (hk : ¬ k < ds.length - 1 - k) (hk2 : 2 * k ≤ ds.length) : es = ds.reverse := by
  obtain ⟨h1, h2⟩ := h
  apply List.ext_getElem?
  intro p
  rcases Nat.lt_or_ge p ds.length with hp | hp
  · have := h2 p hp
    rw [List.getElem?_reverse hp, List.getElem?_eq_getElem (by rw [h1]; exact hp), List.getElem?_eq_getElem (by omega)]
    rw [List.getD_eq_getElem?_getD, List.getElem?_eq_getElem (by rw [h1]; exact hp)] at this
    simp only [Option.getD_some] at this
    rw [this]
    split
    · rw [List.getD_eq_getElem?_getD, List.getElem?_eq_getElem (by omega)]; rfl
    · have hpk : p = ds.length - 1 - p := by omega
      have : ds.getD p 0 = ds.getD (ds.length - 1 - p) 0 := by rw [← hpk]
      rw [this, List.getD_eq_getElem?_getD, List.getElem?_eq_getElem (by omega)]; rfl
  · rw [List.getElem?_eq_none (by rw [h1]; exact hp), List.getElem?_eq_none (by simpa using hp)]
/-- nothing but a block has turned. -/
def Only (g : Nat) (w w' : World) : Prop := (∀ w0, Ext w0 w → w0.heap.size ≤ g → Ext w0 w') ∧ ∀ h o, h ≠ g → w.heap[h]? = some o → w'.heap[h]? = some o
theorem Only.refl (g : Nat) (w : World) : Only g w w := ⟨fun _ h _ => h, fun _ _ _ h => h⟩
theorem Only.set {g : Nat} {w W : World} (h : Only g w W) (k : Nat) (v : Value) : Only g w (W.setCell ⟨g, k, none⟩ v) :=
  ⟨fun w0 h0 hg => Below.setCell (B := w0.heap.size) (h.1 w0 h0 hg) hg v, fun b o hb ho => by
    rw [Below.heap_setCell _ _ _ b hb]; exact h.2 b o hb ho⟩
theorem Only.drew {g : Nat} {w W : World} (h : Only g w W) : Only g w W.drew := ⟨fun w0 h0 hg => (h.1 w0 h0 hg).trans (Ext.drew W), h.2⟩
theorem rev_j {k m n : Nat} (hm : n - 1 - k = m) (hk : k < m) : Value.int .i64 ((m : Int) - 1) = .int .i64 ((n : Int) - 1 - ((k + 1 : Nat) : Int)) := by rw [show (m : Int) - 1 = (n : Int) - 1 - ((k + 1 : Nat) : Int) by omega]
set_option maxHeartbeats 2000000 in
theorem reverse_any (w : World) (g c : Nat) (ds : List Nat) (hU : UBlk w g ds) (hl : ds.length ≤ 2000) : Calls Try.prog 35 #[.slice (some ⟨g, 0, none⟩) ds.length c] w fun e w' =>
    (∃ v, e = .returned v) ∧ UBlk w' g ds.reverse ∧ Only g w w' := by
  have HU := Lib.hid hU
  have HL := Lib.hid hl
  have hl' : (ds.length : Int) ≤ 2000 := by omega
  clear hU hl
  go_enter Try.func35, Try.ntmps35
  go_wp2_with fail
  go_loopw [2, 3] (fun i j W => ∃ (k : Nat) (es : List Nat), i = .int .i64 (k : Nat) ∧ j = .int .i64 ((ds.length : Int) - 1 - (k : Nat)) ∧ UBlk W g es ∧ Only g w W ∧ Hid (RevK ds es k ∧ 2 * k ≤ ds.length)) (fun i _ _ => ds.length - (intOf i).toNat)
  case atStart => exact ⟨0, ds, rfl, by simp, HU.out, Only.refl _ _, Lib.hid ⟨revK_zero ds, by omega⟩⟩
  case round =>
    obtain ⟨k, es, rfl, rfl, hU, hO, HH⟩ := hrel
    by_cases hk : k < ds.length - 1 - k
    · obtain ⟨m, hm⟩ : ∃ m, ds.length - 1 - k = m := ⟨_, rfl⟩
      have hj : (ds.length : Int) - 1 - k = (m : Int) := by omega
      rw [hm] at hk
      have HST := Lib.hid (revK_step HH.out.1 (by rw [hm]; exact hk))
      rw [hm] at HST
      have hmd : m < ds.length := by omega
      have hlen := HH.out.1.1
      obtain ⟨ck, fk⟩ := hU.cell k (by omega)
      obtain ⟨cm, fm⟩ := hU.cell m (by omega)
      rw [HH.out.1.2 k (by omega), if_neg (by omega)] at ck
      rw [HH.out.1.2 m hmd, if_neg (by omega)] at cm
      obtain ⟨x, hx⟩ : ∃ x, ds.getD k 0 = x := ⟨_, rfl⟩
      obtain ⟨y, hy⟩ : ∃ y, ds.getD m 0 = y := ⟨_, rfl⟩
      rw [hx] at ck HST
      rw [hy] at cm HST
      have HU2 := Lib.hid hU
      have HO := Lib.hid hO
      have HN := Lib.hid (And.intro hm (And.intro hk hmd))
      rw [hj]
      have hkd : k < ds.length := by omega
      clear hU hO hm hx hy hlen hj
      go_wp2_with fail
      go_region
      have HU3 := Lib.hid (show UBlk ((wr.setCell ⟨g, k, none⟩ (.int .u32 (y : Nat))).setCell ⟨g, m, none⟩ (.int .u32 (x : Nat))).drew g ((es.set k y).set m x) from (HU2.out.set k y).set m x)
      have HO3 := Lib.hid (((HO.out.set k (.int .u32 (y : Nat))).set m (.int .u32 (x : Nat))).drew)
      clear ck cm fk fm
      generalize ((wr.setCell ⟨g, k, none⟩ (.int .u32 (y : Nat))).setCell ⟨g, m, none⟩ (.int .u32 (x : Nat))).drew = w5 at *
      go_wp2
      go_roundw
      case rel =>
        refine ⟨k + 1, _, rfl, rev_j HN.out.1 HN.out.2.1, HU3.out, HO3.out, Lib.hid ⟨HST.out, by have := HN.out; omega⟩⟩
      case measure => exact meas_s hkd
    · have hke := revK_end HH.out.1 hk HH.out.2
      have HU2 := Lib.hid hU
      have HO := Lib.hid hO
      have hkj : ¬ (k : Int) < (ds.length : Int) - 1 - k := by omega
      rw [hke] at HU2
      clear hU hO hk hke
      go_wp2
      go_end0
      exact ⟨⟨_, rfl⟩, HU2.out, HO.out⟩
/-- how two rows stand, the first word that differs being what counts. -/
def cmpL : List Nat → List Nat → Int
  | x :: xs, y :: ys => if x < y then -1 else if y < x then 1 else cmpL xs ys
  | _, _ => 0
def cmpV (a b : Nat) : Int := if a < b then -1 else if b < a then 1 else 0
theorem cmpL_rev : ∀ (u v : List Nat), u.length = v.length → Words u → Words v → cmpL u v = cmpV (nval u.reverse) (nval v.reverse)
  | [], [], _, _, _ => rfl
  | [], _ :: _, h, _, _ => by simp at h
  | _ :: _, [], h, _, _ => by simp at h
  | x :: u, y :: v, h, hu, hv => by
    have hl : u.length = v.length := by simpa using h
    have ih := cmpL_rev u v hl (words_tail hu) (words_tail hv)
    have hu' : nval u.reverse < beta ^ u.length := by
      have := nval_lt (xs := u.reverse) (fun d hd => words_tail hu d (List.mem_reverse.1 hd))
      rwa [List.length_reverse] at this
    have hv' : nval v.reverse < beta ^ u.length := by
      have := nval_lt (xs := v.reverse) (fun d hd => words_tail hv d (List.mem_reverse.1 hd))
      rwa [List.length_reverse, ← hl] at this
    rw [cmpL, List.reverse_cons, List.reverse_cons, nval_append, nval_append, List.length_reverse, List.length_reverse, ← hl, ih]
    simp only [nval, Nat.mul_zero, Nat.add_zero]
    generalize beta ^ u.length = B at *
    generalize nval u.reverse = A at *
    generalize nval v.reverse = C at *
    unfold cmpV
    rcases Nat.lt_trichotomy x y with hxy | hxy | hxy
    · rw [if_pos hxy]
      have : B * (x + 1) ≤ B * y := Nat.mul_le_mul_left _ hxy
      rw [Nat.mul_add, Nat.mul_one] at this
      rw [if_pos (by omega)]
    · subst hxy
      rw [if_neg (Nat.lt_irrefl _), if_neg (Nat.lt_irrefl _)]
      have e1 : (A + B * x < C + B * x) = (A < C) := by apply propext; omega
      have e2 : (C + B * x < A + B * x) = (C < A) := by apply propext; omega
      simp only [e1, e2]
    · have : B * (y + 1) ≤ B * x := Nat.mul_le_mul_left _ hxy
      rw [Nat.mul_add, Nat.mul_one] at this
      rw [if_neg (by omega), if_pos hxy, if_neg (by omega), if_pos (by omega)]
theorem isNaN_any (w : World) (x : Nat) : Calls Try.prog 83 #[.int .u32 (x : Nat)] w (Ret (.bool false) w) := by
  go_enter Try.func83, Try.ntmps83
  go_wp2
  go_ret
  exact ⟨ret_bool (by simp), Ext.refl _⟩
theorem cmpU_any (w : World) (x y : Nat) : Calls Try.prog 61 #[.int .u32 (x : Nat), .int .u32 (y : Nat)] w (Ret (.int .i64 (cmpV x y)) w) := by
  have hc : (x < y ∧ cmpV x y = -1) ∨ (x = y ∧ cmpV x y = 0) ∨ (y < x ∧ cmpV x y = 1) := by unfold cmpV; omega
  have H1 := Lib.hid (fun W => isNaN_any W x)
  have H2 := Lib.hid (fun W => isNaN_any W y)
  rcases hc with ⟨hxy, hv⟩ | ⟨hxy, hv⟩ | ⟨hxy, hv⟩
  all_goals
    rw [hv]
    clear hv
    try subst hxy
    go_enter Try.func61, Try.ntmps61
    go_wp2_with fail
    refine (H1.out _).mono ?_
    rintro e w1 ⟨rfl, h1⟩
    go_wp2_with fail
    refine (H2.out _).mono ?_
    rintro e w2 ⟨rfl, h2⟩
    go_wp2
    all_goals
      go_ret
      exact Ret.mk (h1.trans h2)
set_option maxHeartbeats 2000000 in
theorem compare_any (w : World) (g1 g2 c1 c2 : Nat) (xs ys : List Nat) (h1 : UBlk w g1 xs) (h2 : UBlk w g2 ys) (hl : xs.length = ys.length) (hn : xs.length ≤ 2000) : Calls Try.prog 36 #[.slice (some ⟨g1, 0, none⟩) xs.length c1, .slice (some ⟨g2, 0, none⟩) xs.length c2] w (Ret (.int .i64 (cmpL xs ys)) w) := by
  have H1 := Lib.hid h1
  have H2 := Lib.hid h2
  have HL := Lib.hid hl
  have HN := Lib.hid hn
  have hn' : (xs.length : Int) ≤ 2000 := by omega
  obtain ⟨n, hxn⟩ : ∃ n, xs.length = n := ⟨_, rfl⟩
  rw [hxn] at HL HN hn' ⊢
  have HXN := Lib.hid hxn
  obtain ⟨R, hR⟩ : ∃ R, cmpL xs ys = R := ⟨_, rfl⟩
  rw [hR]
  have HR := Lib.hid hR
  clear h1 h2 hl hn hxn hR
  go_enter Try.func36, Try.ntmps36
  go_wp2_with fail
  go_loopw [11] (fun i W => ∃ k : Nat, i = .int .i64 (k : Nat) ∧ Ext w W ∧ Hid (k ≤ n ∧ cmpL (xs.drop k) (ys.drop k) = R)) (fun i _ => n - (intOf i).toNat)
  case atStart => exact ⟨0, rfl, Ext.refl _, Lib.hid ⟨Nat.zero_le _, HR.out⟩⟩
  case round =>
    obtain ⟨k, rfl, hX, HH⟩ := hrel
    by_cases hk : k < n
    · have c1' := (show UBlk wr g1 xs from hX.get H1.out).cell k (by rw [HXN.out]; exact hk)
      have c2' := (show UBlk wr g2 ys from hX.get H2.out).cell k (by rw [← HL.out]; exact hk)
      have hdr : cmpL (xs.drop k) (ys.drop k) = if xs.getD k 0 < ys.getD k 0 then -1 else if ys.getD k 0 < xs.getD k 0 then 1 else cmpL (xs.drop (k + 1)) (ys.drop (k + 1)) := by
        have a1 : k < xs.length := by rw [HXN.out]; exact hk
        have a2 : k < ys.length := by rw [← HL.out]; exact hk
        rw [List.drop_eq_getElem_cons a1, List.drop_eq_getElem_cons a2, cmpL, List.getD_eq_getElem?_getD, List.getD_eq_getElem?_getD, List.getElem?_eq_getElem a1, List.getElem?_eq_getElem a2]
        rfl
      have cx := c1'.1
      have cy := c2'.1
      obtain ⟨x, hx⟩ : ∃ x, xs.getD k 0 = x := ⟨_, rfl⟩
      obtain ⟨y, hy⟩ : ∃ y, ys.getD k 0 = y := ⟨_, rfl⟩
      rw [hx, hy] at hdr
      rw [hx] at cx
      rw [hy] at cy
      have HD := Lib.hid hdr
      have HX := Lib.hid hX
      clear c1' c2' hx hy hdr hX
      go_wp2_with fail
      refine (cmpU_any _ x y).mono ?_
      clear cx cy
      have hcv : (cmpV x y = 0 ∧ ¬ x < y ∧ ¬ y < x) ∨ (cmpV x y = -1 ∧ x < y) ∨ (cmpV x y = 1 ∧ y < x ∧ ¬ x < y) := by unfold cmpV; omega
      rcases hcv with ⟨h0, h1, h2⟩ | ⟨h0, h1⟩ | ⟨h0, h1, h2⟩
      · rw [h0]
        have HD2 := Lib.hid (show cmpL (xs.drop (k + 1)) (ys.drop (k + 1)) = R by rw [← HH.out.2, HD.out, if_neg h1, if_neg h2])
        clear h0 h1 h2
        rintro e w2 ⟨rfl, hS⟩
        have HS := Lib.hid hS
        clear hS
        go_wp2
        go_roundw
        case rel => exact ⟨k + 1, rfl, HX.out.trans HS.out, Lib.hid ⟨hk, HD2.out⟩⟩
        case measure => exact meas_s hk
      · rw [h0]
        have HD2 := Lib.hid (show -1 = R by rw [← HH.out.2, HD.out, if_pos h1])
        clear h0 h1
        rintro e w2 ⟨rfl, hS⟩
        have HS := Lib.hid hS
        clear hS
        go_wp2
        go_ret
        exact ⟨ret_int HD2.out, HX.out.trans HS.out⟩
      · rw [h0]
        have HD2 := Lib.hid (show 1 = R by rw [← HH.out.2, HD.out, if_neg h2, if_pos h1])
        clear h0 h1 h2
        rintro e w2 ⟨rfl, hS⟩
        have HS := Lib.hid hS
        clear hS
        go_wp2
        go_ret
        exact ⟨ret_int HD2.out, HX.out.trans HS.out⟩
    · have HD2 := Lib.hid (show 0 = R by
        have hke : k = n := Nat.le_antisymm HH.out.1 (Nat.le_of_not_lt hk)
        rw [← HH.out.2, hke, ← HXN.out, List.drop_length]; rfl)
      have HX := Lib.hid hX
      clear hX
      go_wp2
      go_ret
      exact ⟨ret_int HD2.out, HX.out⟩
end Go.Proofs.Ytejknkhahjgdnaa
namespace Go.Proofs.Ytejknkhahjgdnaa
open Go Go.RowKit

/-- what Cmp answers. -/
def CmpR (xs ys : List Nat) : Int := if mayN xs && mayN ys then cmpV (nval xs) (nval ys) else 0
theorem nval_pad (xs : List Nat) (n : Nat) : nval (xs ++ List.replicate n 0) = nval xs := by
  rw [nval_append, nval_zero (fun d hd => (List.mem_replicate.1 hd).2), Nat.mul_zero, Nat.add_zero]
theorem words_pad {xs : List Nat} (h : Words xs) (n : Nat) : Words (xs ++ List.replicate n 0) := fun y hy => by
  rcases List.mem_append.1 hy with h1 | h1
  · exact h y h1
  · rw [(List.mem_replicate.1 h1).2]; exact beta_pos
theorem words_rev {xs : List Nat} (h : Words xs) : Words xs.reverse := fun y hy => h y (List.mem_reverse.1 hy)
theorem cmp_pad (xs ys : List Nat) (n : Nat) (hx : Words xs) (hy : Words ys) (h1 : xs.length ≤ n) (h2 : ys.length ≤ n) :
    cmpL (xs ++ List.replicate (n - xs.length) 0).reverse (ys ++ List.replicate (n - ys.length) 0).reverse = cmpV (nval xs) (nval ys) := by
  rw [cmpL_rev _ _ (by simp; omega) (words_rev (words_pad hx _)) (words_rev (words_pad hy _)), List.reverse_reverse, List.reverse_reverse, nval_pad, nval_pad]
set_option maxHeartbeats 4000000 in
theorem natCmp_any (w : World) (p q : Value) (xs ys : List Nat) (hp : URow w p xs) (hq : URow w q ys) (hx : Words xs) (hy : Words ys) : Calls Try.prog 16 #[p, q] w (Ret (.int .i64 (CmpR xs ys)) w) := by
  have HM1 := Lib.hid (natMay_any w p xs hp)
  have HM2 := Lib.hid (fun W (h : Ext w W) => natMay_any W q ys (hq.ext h))
  have HP := Lib.hid hp
  have HQ := Lib.hid hq
  have HX := Lib.hid (And.intro hx hy)
  cases m1 : mayN xs with
  | false =>
    have HE := Lib.hid (show CmpR xs ys = 0 by unfold CmpR; rw [m1]; rfl)
    rw [m1] at HM1
    clear hp hq hx hy m1
    go_enter Try.func16, Try.ntmps16
    go_wp2_with fail
    refine HM1.out.mono ?_
    rintro e w1 ⟨rfl, h1⟩
    go_wp2
    go_ret
    exact ⟨ret_int HE.out.symm, h1⟩
  | true =>
    cases m2 : mayN ys with
    | false =>
      have HE := Lib.hid (show CmpR xs ys = 0 by unfold CmpR; rw [m1, m2]; rfl)
      rw [m1] at HM1
      rw [m2] at HM2
      clear hp hq hx hy m1 m2
      go_enter Try.func16, Try.ntmps16
      go_wp2_with fail
      refine HM1.out.mono ?_
      rintro e w1 ⟨rfl, h1⟩
      go_wp2_with fail
      refine (HM2.out w1 h1).mono ?_
      rintro e w2 ⟨rfl, h2⟩
      go_wp2
      go_ret
      exact ⟨ret_int HE.out.symm, h1.trans h2⟩
    | true =>
      have HE := Lib.hid (show CmpR xs ys = cmpV (nval xs) (nval ys) by unfold CmpR; rw [m1, m2]; rfl)
      have n1 := ((mayN_norm hx).1 m1).2
      have n2 := ((mayN_norm hy).1 m2).2
      rw [m1] at HM1
      rw [m2] at HM2
      obtain ⟨pa, pc, rfl⟩ := hp.slice
      obtain ⟨qa, qc, rfl⟩ := hq.slice
      have l1 : (xs.length : Int) ≤ 128 := by omega
      have l2 : (ys.length : Int) ≤ 128 := by omega
      by_cases hlt : xs.length < ys.length
      · obtain ⟨size, hsize⟩ : ∃ size, ys.length = size := ⟨_, rfl⟩
        have HS := Lib.hid (show xs.length ≤ size ∧ ys.length ≤ size ∧ size ≤ 2000 by omega)
        have hsz : (ys.length : Int) = (size : Int) := by omega
        clear hp hq hx hy m1 m2 n1 n2 hsize
        go_enter Try.func16, Try.ntmps16
        go_wp2_with fail
        refine HM1.out.mono ?_
        rintro e w1 ⟨rfl, h1⟩
        go_wp2_with fail
        refine (HM2.out w1 h1).mono ?_
        rintro e w2 ⟨rfl, h2⟩
        have h02 := h1.trans h2
        clear h1 h2
        go_wp2_with fail
        (try rw [hsz])
        refine (wide_any w2 _ xs size (HP.out.ext h02) HS.out.1 HS.out.2.2).mono ?_
        rintro e w3 ⟨g, rfl, hg, hb, h3⟩
        have h03 := h02.trans h3
        have HB := Lib.hid hb
        have HG := Lib.hid (Nat.le_trans h02.size hg)
        clear h02 h3 hg hb
        go_wp2_with fail
        (try rw [hsz])
        refine (wide_any w3 _ ys size (HQ.out.ext h03) HS.out.2.1 HS.out.2.2).mono ?_
        rintro e w4 ⟨g', rfl, hg', hb', h4⟩
        have hne : g' ≠ g := by have := (Array.getElem?_eq_some_iff.1 HB.out).1; omega
        have HNE := Lib.hid hne
        have HB := Lib.hid (show UBlk w4 g _ from h4.get HB.out)
        have HB' := Lib.hid hb'
        have HG' := Lib.hid (Nat.le_trans h03.size hg')
        have h04 := h03.trans h4
        clear h03 h4 hg' hb' hne
        go_wp2_with fail
        obtain ⟨A, hA⟩ : ∃ A, xs ++ List.replicate (size - xs.length) 0 = A := ⟨_, rfl⟩
        obtain ⟨B, hB⟩ : ∃ B, ys ++ List.replicate (size - ys.length) 0 = B := ⟨_, rfl⟩
        rw [hA] at HB
        rw [hB] at HB'
        have hla : A.length = size := by rw [← hA]; simp; exact Nat.add_sub_cancel' HS.out.1
        have hlb : B.length = size := by rw [← hB]; simp; exact Nat.add_sub_cancel' HS.out.2.1
        have HCP := Lib.hid (cmp_pad xs ys size HX.out.1 HX.out.2 HS.out.1 HS.out.2.1)
        rw [hA, hB] at HCP
        have HLA := Lib.hid (And.intro hla hlb)
        have HRA := Lib.hid (fun W (h : UBlk W g A) => reverse_any W g size A h (by rw [hla]; exact Nat.le_trans HS.out.2.2 (by decide)))
        have HRB := Lib.hid (fun W (h : UBlk W g' B) => reverse_any W g' size B h (by rw [hlb]; exact Nat.le_trans HS.out.2.2 (by decide)))
        rw [hla] at HRA
        rw [hlb] at HRB
        clear hA hB hla hlb
        refine (HRA.out w4 HB.out).mono ?_
        rintro e w5 ⟨⟨v5, rfl⟩, hb5, ho5⟩
        have HB5 := Lib.hid hb5
        have HB5' := Lib.hid (show UBlk w5 g' B from ho5.2 g' _ HNE.out HB'.out)
        have h05 := ho5.1 w h04 HG.out
        clear hb5 ho5 h04
        go_wp2_with fail
        refine (HRB.out w5 HB5'.out).mono ?_
        rintro e w6 ⟨⟨v6, rfl⟩, hb6, ho6⟩
        have HB6 := Lib.hid (show UBlk w6 g A.reverse from ho6.2 g _ (Ne.symm HNE.out) HB5.out)
        have HB6' := Lib.hid hb6
        have h06 := ho6.1 w h05 HG'.out
        clear hb6 ho6 h05
        go_wp2_with fail
        have HCC := Lib.hid (compare_any w6 g g' size size A.reverse B.reverse HB6.out HB6'.out (by rw [List.length_reverse, List.length_reverse, HLA.out.1, HLA.out.2]) (by rw [List.length_reverse, HLA.out.1]; exact Nat.le_trans HS.out.2.2 (by decide)))
        rw [List.length_reverse, HLA.out.1, HCP.out] at HCC
        refine HCC.out.mono ?_
        rintro e w7 ⟨rfl, h7⟩
        go_wp2
        go_ret
        exact ⟨ret_int HE.out.symm, h06.trans h7⟩
      · obtain ⟨size, hsize⟩ : ∃ size, xs.length = size := ⟨_, rfl⟩
        have HS := Lib.hid (show xs.length ≤ size ∧ ys.length ≤ size ∧ size ≤ 2000 by omega)
        have hsz : (xs.length : Int) = (size : Int) := by omega
        clear hp hq hx hy m1 m2 n1 n2 hsize
        go_enter Try.func16, Try.ntmps16
        go_wp2_with fail
        refine HM1.out.mono ?_
        rintro e w1 ⟨rfl, h1⟩
        go_wp2_with fail
        refine (HM2.out w1 h1).mono ?_
        rintro e w2 ⟨rfl, h2⟩
        have h02 := h1.trans h2
        clear h1 h2
        go_wp2_with fail
        (try rw [hsz])
        refine (wide_any w2 _ xs size (HP.out.ext h02) HS.out.1 HS.out.2.2).mono ?_
        rintro e w3 ⟨g, rfl, hg, hb, h3⟩
        have h03 := h02.trans h3
        have HB := Lib.hid hb
        have HG := Lib.hid (Nat.le_trans h02.size hg)
        clear h02 h3 hg hb
        go_wp2_with fail
        (try rw [hsz])
        refine (wide_any w3 _ ys size (HQ.out.ext h03) HS.out.2.1 HS.out.2.2).mono ?_
        rintro e w4 ⟨g', rfl, hg', hb', h4⟩
        have hne : g' ≠ g := by have := (Array.getElem?_eq_some_iff.1 HB.out).1; omega
        have HNE := Lib.hid hne
        have HB := Lib.hid (show UBlk w4 g _ from h4.get HB.out)
        have HB' := Lib.hid hb'
        have HG' := Lib.hid (Nat.le_trans h03.size hg')
        have h04 := h03.trans h4
        clear h03 h4 hg' hb' hne
        go_wp2_with fail
        obtain ⟨A, hA⟩ : ∃ A, xs ++ List.replicate (size - xs.length) 0 = A := ⟨_, rfl⟩
        obtain ⟨B, hB⟩ : ∃ B, ys ++ List.replicate (size - ys.length) 0 = B := ⟨_, rfl⟩
        rw [hA] at HB
        rw [hB] at HB'
        have hla : A.length = size := by rw [← hA]; simp; exact Nat.add_sub_cancel' HS.out.1
        have hlb : B.length = size := by rw [← hB]; simp; exact Nat.add_sub_cancel' HS.out.2.1
        have HCP := Lib.hid (cmp_pad xs ys size HX.out.1 HX.out.2 HS.out.1 HS.out.2.1)
        rw [hA, hB] at HCP
        have HLA := Lib.hid (And.intro hla hlb)
        have HRA := Lib.hid (fun W (h : UBlk W g A) => reverse_any W g size A h (by rw [hla]; exact Nat.le_trans HS.out.2.2 (by decide)))
        have HRB := Lib.hid (fun W (h : UBlk W g' B) => reverse_any W g' size B h (by rw [hlb]; exact Nat.le_trans HS.out.2.2 (by decide)))
        rw [hla] at HRA
        rw [hlb] at HRB
        clear hA hB hla hlb
        refine (HRA.out w4 HB.out).mono ?_
        rintro e w5 ⟨⟨v5, rfl⟩, hb5, ho5⟩
        have HB5 := Lib.hid hb5
        have HB5' := Lib.hid (show UBlk w5 g' B from ho5.2 g' _ HNE.out HB'.out)
        have h05 := ho5.1 w h04 HG.out
        clear hb5 ho5 h04
        go_wp2_with fail
        refine (HRB.out w5 HB5'.out).mono ?_
        rintro e w6 ⟨⟨v6, rfl⟩, hb6, ho6⟩
        have HB6 := Lib.hid (show UBlk w6 g A.reverse from ho6.2 g _ (Ne.symm HNE.out) HB5.out)
        have HB6' := Lib.hid hb6
        have h06 := ho6.1 w h05 HG'.out
        clear hb6 ho6 h05
        go_wp2_with fail
        have HCC := Lib.hid (compare_any w6 g g' size size A.reverse B.reverse HB6.out HB6'.out (by rw [List.length_reverse, List.length_reverse, HLA.out.1, HLA.out.2]) (by rw [List.length_reverse, HLA.out.1]; exact Nat.le_trans HS.out.2.2 (by decide)))
        rw [List.length_reverse, HLA.out.1, HCP.out] at HCC
        refine HCC.out.mono ?_
        rintro e w7 ⟨rfl, h7⟩
        go_wp2
        go_ret
        exact ⟨ret_int HE.out.symm, h06.trans h7⟩
end Go.Proofs.Ytejknkhahjgdnaa
namespace Go.Proofs.Ytejknkhahjgdnaa
open Go Go.RowKit

/-- a number's ten-digits, the lowest one first. -/
def decF : Nat → Nat → List Nat
  | 0, _ => []
  | f + 1, n => if n < 10 then [n] else n % 10 :: decF f (n / 10)
def decs (n : Nat) : List Nat := decF (n + 1) n
theorem decF_more : ∀ (f n : Nat), n < f → ∀ g, n < g → decF f n = decF g n
  | 0, _, h, _, _ => absurd h (Nat.not_lt_zero _)
  | f + 1, n, h, 0, h' => absurd h' (Nat.not_lt_zero _)
  | f + 1, n, h, g + 1, h' => by
    rw [decF, decF]
    split
    · rfl
    · rw [decF_more f (n / 10) (by omega) g (by omega)]
theorem decs_eq (n : Nat) : decs n = if n < 10 then [n] else n % 10 :: decs (n / 10) := by
  unfold decs
  rw [decF]
  split
  · rfl
  · rw [decF_more n (n / 10) (by omega) (n / 10 + 1) (by omega)]
theorem decs_lt (n : Nat) : ∀ d ∈ decs n, d < 10 := by
  induction n using Nat.strongRecOn with
  | ind n ih =>
    intro d hd
    rw [decs_eq] at hd
    split at hd
    · simp at hd; omega
    · rcases List.mem_cons.1 hd with rfl | hd
      · omega
      · exact ih (n / 10) (by omega) d hd
/-- what there is of the digits, while they are told. -/
def Digs (n : Nat) (D : List Nat) (N : Nat) : Prop := (D = [] ∧ N = n) ∨ (D ≠ [] ∧ D ++ (if N = 0 then [] else decs N) = decs n)
theorem digs_step {n N : Nat} {D : List Nat} (h : Digs n D N) (h0 : N ≠ 0 ∨ D = []) : Digs n (D ++ [N % 10]) (N / 10) := by
  right
  refine ⟨by simp, ?_⟩
  have e : decs N = [N % 10] ++ (if N / 10 = 0 then [] else decs (N / 10)) := by
    rw [decs_eq]
    by_cases h : N < 10
    · rw [if_pos h, if_pos (by omega), Nat.mod_eq_of_lt h]; rfl
    · rw [if_neg h, if_neg (by omega)]; rfl
  rcases h with ⟨rfl, rfl⟩ | ⟨h1, h2⟩
  · rw [List.nil_append, ← e]
  · rcases h0 with h0 | h0
    · rw [if_neg h0, e, ← List.append_assoc] at h2
      exact h2
    · exact absurd h0 h1
theorem digs_end {n : Nat} {D : List Nat} (h : Digs n D 0) (h1 : D ≠ []) : D = decs n := by
  rcases h with ⟨h, _⟩ | ⟨_, h⟩
  · exact absurd h h1
  · simpa using h
/-- the round of a division by ten. -/
theorem div_step {es : List Nat} {L m c Td : Nat} (hm : m < L) (hL : L ≤ es.length) (h : Td + 9 * nval (es.take (m + 1)) = 10 * nval (es.take L) + c * beta ^ (m + 1)) :
    let s := c * beta + es.getD m 0
    Td + 9 * nval ((es.set m (s / 10)).take m) = 10 * nval ((es.set m (s / 10)).take L) + (s % 10) * beta ^ m := by
  intro s
  have e1 : (es.set m (s / 10)).take m = es.take m := by
    apply List.ext_getElem?
    intro i
    rw [List.getElem?_take, List.getElem?_take]
    split
    · rw [List.getElem?_set_ne (by omega)]
    · rfl
  have e2 : (es.set m (s / 10)).take L = (es.take L).set m (s / 10) := by
    apply List.ext_getElem?
    intro i
    simp only [List.getElem?_take, List.getElem?_set, List.length_take]
    repeat' split
    all_goals first | rfl | omega
  have e3 := nval_set (es.take L) m (s / 10) (by rw [List.length_take]; omega)
  have e4 : (es.take L).getD m 0 = es.getD m 0 := by rw [List.getD_eq_getElem?_getD, List.getElem?_take, if_pos hm, ← List.getD_eq_getElem?_getD]
  rw [e4] at e3
  rw [nval_take es m (by omega), Nat.pow_succ] at h
  rw [e1, e2]
  have hs := Nat.mod_add_div s 10
  have hse : c * (beta ^ m * beta) + beta ^ m * es.getD m 0 = beta ^ m * (s % 10) + 10 * (beta ^ m * (s / 10)) := by
    have : c * (beta ^ m * beta) + beta ^ m * es.getD m 0 = beta ^ m * s := by
      show _ = beta ^ m * (c * beta + es.getD m 0)
      rw [Nat.mul_add]
      congr 1
      rw [Nat.mul_comm (beta ^ m) beta, ← Nat.mul_assoc, Nat.mul_comm (beta ^ m)]
    rw [this, Nat.mul_left_comm 10, ← Nat.mul_add, hs]
  rw [Nat.mul_comm (s % 10)]
  generalize beta ^ m * (s % 10) = X at *
  generalize beta ^ m * (s / 10) = Y at *
  generalize beta ^ m * es.getD m 0 = Z at *
  generalize c * (beta ^ m * beta) = W at *
  generalize nval (es.take m) = A at *
  generalize nval ((es.take L).set m (s / 10)) = B at *
  generalize nval (es.take L) = C at *
  omega
def by8 (d : Nat) : Value := .int .u8 (d : Int)
/-- a row of bytes that was made since the heap had B blocks. -/
def DOwn (B : Nat) (w : World) (v : Value) (zs : List Nat) : Prop := w.ownsRow B 5 1 v zs.length (zs.map by8)
theorem DOwn.nil (B : Nat) (w : World) : DOwn B w (.slice none 0 0) [] := ⟨rfl, .inl ⟨rfl, rfl⟩⟩
theorem DOwn.slice {B : Nat} {w : World} {v : Value} {zs : List Nat} (h : DOwn B w v zs) : ∃ a c, v = .slice a zs.length c := by
  obtain ⟨h1, ⟨rfl, h0⟩ | ⟨g, cap, cur, rfl, _⟩⟩ := h
  · exact ⟨none, 0, by rw [h0]⟩
  · exact ⟨_, _, rfl⟩
theorem DOwn.kept {B g : Nat} {w w' : World} {v : Value} {zs : List Nat} (h : DOwn B w v zs) (hO : Only g w w') (hg : v.ownBlock ≠ some g) : DOwn B w' v zs := by
  obtain ⟨h1, h | ⟨b, cap, cur, hv, hb, hh, hc⟩⟩ := h
  · exact ⟨h1, .inl h⟩
  · exact ⟨h1, .inr ⟨b, cap, cur, hv, hb, hO.2 b _ (fun e => hg (by rw [hv, ← e]; rfl)) hh, hc⟩⟩
theorem DOwn.ext {B : Nat} {w w' : World} {v : Value} {zs : List Nat} (h : DOwn B w v zs) (e : Ext w w') : DOwn B w' v zs := by
  obtain ⟨h1, h | ⟨g, cap, cur, hv, hb, hg, hc⟩⟩ := h
  · exact ⟨h1, .inl h⟩
  · exact ⟨h1, .inr ⟨g, cap, cur, hv, hb, (e.block g (lt_of hg)).trans hg, hc⟩⟩
theorem u8_info : ∃ i : TypeInfo, Try.prog.info? 5 = some i ∧ i.zero = some (.int .u8 0) ∧ i.size = 1 ∧ i.bytes = 1 := by
  have h : (Try.prog.info? 5).map (fun i => (i.zero, i.size, i.bytes)) = some (some (.int .u8 0), 1, 1) := by kernel_rfl
  cases hi : Try.prog.info? 5 with
  | none => rw [hi] at h; cases h
  | some i =>
    rw [hi] at h
    simp only [Option.map_some, Option.some.injEq, Prod.mk.injEq] at h
    exact ⟨i, rfl, h.1, h.2.1, h.2.2⟩
/-- a byte is put behind a row. -/
theorem wpList_append_byte {ops : Array Oper} {rest : List Oper} {o : Oper} {a : Act} {Q : Exit → Act → World → Prop} (hgd : o.guard = none) (s x : Operand) (ho : o.op = .call { callee := .builtin .append, args := #[s, x], argTypes := #[39, 39] })
    {B : Nat} {w : World} {v : Value} {zs : List Nat} {d b : Nat} (hs : a.eval s = v) (hx : a.eval x = .slice (some ⟨b, 0, none⟩) 1 1) (hv : DOwn B w v zs) (hb : w.cell? ⟨b, 0, none⟩ = some (.int .u8 (d : Nat))) (hlen : zs.length ≤ 10000) (hB : B ≤ w.heap.size)
    (h : ∀ v' w', DOwn B w' v' (zs ++ [d]) → w.grownBy w' v.ownBlock → (v'.ownBlock = v.ownBlock ∨ v'.ownBlock = some w.heap.size) → wpList Try.prog ops Q rest (a.put o.dst v') w') : wpList Try.prog ops Q (o :: rest) a w := by
  refine wpList_plain hgd fun K hK => ?_
  obtain ⟨i, hi, hz, hsz, hby⟩ := u8_info
  have hml : (20000 : Nat) ≤ maxLen := by decide
  obtain ⟨v', w', hr, h2, h3, _, h4⟩ := run_append_own_at (P := Try.prog) w B _ o.type _ i _ 1 1 Try.underlying39 hi hz hsz hby rfl (by omega) v zs.length (zs.map by8) hv ⟨b, 0, none⟩ 1 1 [by8 d] rfl
    (fun j u hj => by
      rcases j with _ | j
      · simp at hj; subst hj; rw [Addr.add_mid]; simpa [by8] using hb
      · simp at hj) (fun u hu => by simp at hu; subst hu; rfl) (by omega) (by omega) hB
  unfold Oper.wp execOp
  simp only [ho, resolve, invoke, builtin, Sem.run_bind, Sem.run_pure, Result.andThen_ok, List.map_toArray, List.map_cons, List.map_nil, hs, hx, hr]
  refine hK _ _ (h v' w' ?_ h3 h4)
  show w'.ownsRow _ _ _ _ _ _
  rw [List.length_append, List.map_append]
  exact h2
/-- a row, of which the first n stand the other way round, so many at either end. -/
def RevV (cs es : List Value) (n k : Nat) : Prop := es.length = cs.length ∧ ∀ p, p < n → es[p]? = if p < k ∨ n ≤ p + k then cs[n - 1 - p]? else cs[p]?
theorem revV_step {cs es : List Value} {n k : Nat} {x y : Value} (h : RevV cs es n k) (hn : n ≤ cs.length) (hk : k < n - 1 - k) (hx : cs[k]? = some x) (hy : cs[n - 1 - k]? = some y) : RevV cs ((es.set k y).set (n - 1 - k) x) n (k + 1) := by
  obtain ⟨h1, h2⟩ := h
  refine ⟨by simp [h1], fun p hp => ?_⟩
  rw [List.getElem?_set, List.getElem?_set]
  by_cases e1 : n - 1 - k = p
  · rw [if_pos e1, if_pos (by simp; omega), if_pos (by omega), show n - 1 - p = k by omega, hx]
  · rw [if_neg e1]
    by_cases e2 : k = p
    · rw [if_pos e2, if_pos (by omega), if_pos (by omega), ← e2, hy]
    · rw [if_neg e2, h2 p hp]
      by_cases e3 : p < k ∨ n ≤ p + k
      · rw [if_pos e3, if_pos (by omega)]
      · rw [if_neg e3, if_neg (by omega)]
theorem revV_end {cs es : List Value} {n k : Nat} (h : RevV cs es n k) (hn : n ≤ cs.length) (hk : ¬ k < n - 1 - k) (hk2 : 2 * k ≤ n) : es.take n = (cs.take n).reverse := by
  obtain ⟨h1, h2⟩ := h
  apply List.ext_getElem?
  intro p
  rcases Nat.lt_or_ge p n with hp | hp
  · have e1 : (es.take n)[p]? = es[p]? := by rw [List.getElem?_take, if_pos hp]
    have hlt : n - 1 - p < n := by omega
    have e2 : (cs.take n).reverse[p]? = cs[n - 1 - p]? := by
      rw [List.getElem?_reverse (by rw [List.length_take, Nat.min_eq_left hn]; exact hp), List.length_take, Nat.min_eq_left hn, List.getElem?_take, if_pos hlt]
    rw [e1, e2, h2 p hp]
    split
    · rfl
    · rename_i h3
      have h4 : n - 1 - p = p := by omega
      rw [h4]
  · rw [List.getElem?_eq_none (by rw [List.length_take]; omega), List.getElem?_eq_none (by rw [List.length_reverse, List.length_take]; omega)]
set_option maxHeartbeats 2000000 in
theorem reverseB_any (w : World) (g n c : Nat) (cs : List Value) (zs : List Nat) (hU : w.heap[g]? = some (.cells cs.toArray 5 (0, 0))) (hz : cs.take n = zs.map by8) (hzl : zs.length = n) (hc : n ≤ cs.length) (hl : n ≤ 20000) : Calls Try.prog 80 #[.slice (some ⟨g, 0, none⟩) n c] w fun e w' =>
    (∃ v, e = .returned v) ∧ (∃ es : List Value, w'.heap[g]? = some (.cells es.toArray 5 (0, 0)) ∧ es.take n = zs.reverse.map by8) ∧ Only g w w' := by
  have HU := Lib.hid hU
  have HL := Lib.hid (And.intro hl (And.intro hc (And.intro hz hzl)))
  have hl' : (n : Int) ≤ 20000 := by omega
  clear hU hl hc hz hzl
  go_enter Try.func80, Try.ntmps80
  go_wp2_with fail
  go_loopw [2, 3] (fun i j W => ∃ (k : Nat) (es : List Value), i = .int .i64 (k : Nat) ∧ j = .int .i64 ((n : Int) - 1 - (k : Nat)) ∧ Hid (W.heap[g]? = some (.cells es.toArray 5 (0, 0))) ∧ Only g w W ∧ Hid (RevV cs es n k ∧ 2 * k ≤ n)) (fun i _ _ => n - (intOf i).toNat)
  case atStart => exact ⟨0, cs, rfl, by simp, HU.out, Only.refl _ _, Lib.hid ⟨⟨rfl, fun p hp => by rw [if_neg (by omega)]⟩, by omega⟩⟩
  case round =>
    obtain ⟨k, es, rfl, rfl, HU2, hO, HH⟩ := hrel
    by_cases hk : k < n - 1 - k
    · obtain ⟨m, hm⟩ : ∃ m, n - 1 - k = m := ⟨_, rfl⟩
      have hj : (n : Int) - 1 - k = (m : Int) := by omega
      have hkn : k < n := by omega
      have hmn : m < n := by omega
      have hcell : ∀ p, p < n → cs[p]? = some (by8 (zs.getD p 0)) := fun p hp => by
        have h1 : (cs.take n)[p]? = cs[p]? := by rw [List.getElem?_take, if_pos hp]
        rw [← h1, HL.out.2.2.1, List.getElem?_map, List.getD_eq_getElem?_getD, List.getElem?_eq_getElem (by rw [HL.out.2.2.2]; exact hp)]
        rfl
      have hx := hcell k hkn
      have hy := hcell m hmn
      have HST := Lib.hid (revV_step HH.out.1 HL.out.2.1 hk hx (by rw [hm]; exact hy))
      rw [hm] at HST hk
      have ck := cell_of HU2.out k
      have cm := cell_of HU2.out m
      have fk := frozen_of HU2.out k
      have fm := frozen_of HU2.out m
      rw [List.getElem?_toArray, HH.out.1.2 k hkn, if_neg (by omega), hx] at ck
      rw [List.getElem?_toArray, HH.out.1.2 m hmn, if_neg (by omega), hy] at cm
      unfold by8 at ck cm HST
      generalize zs.getD k 0 = x at *
      generalize zs.getD m 0 = y at *
      have HO := Lib.hid hO
      have HN := Lib.hid (And.intro hm (And.intro hk hmn))
      rw [hj]
      clear hO hm hj hcell hx hy
      go_wp2_with fail
      go_region
      have HU3 := Lib.hid (show ((wr.setCell ⟨g, k, none⟩ (.int .u8 (y : Nat))).setCell ⟨g, m, none⟩ (.int .u8 (x : Nat))).drew.heap[g]? = some (.cells ((es.set k (.int .u8 (y : Nat))).set m (.int .u8 (x : Nat))).toArray 5 (0, 0)) by
        show ((wr.setCell ⟨g, k, none⟩ (.int .u8 (y : Nat))).setCell ⟨g, m, none⟩ (.int .u8 (x : Nat))).heap[g]? = _
        simp [World.setCell, Array.getElem?_modify, HU2.out])
      have HO3 := Lib.hid (((HO.out.set k (.int .u8 (y : Nat))).set m (.int .u8 (x : Nat))).drew)
      clear ck cm fk fm
      generalize ((wr.setCell ⟨g, k, none⟩ (.int .u8 (y : Nat))).setCell ⟨g, m, none⟩ (.int .u8 (x : Nat))).drew = w5 at *
      go_wp2
      go_roundw
      case rel =>
        refine ⟨k + 1, _, rfl, rev_j HN.out.1 HN.out.2.1, HU3, HO3.out, Lib.hid ⟨HST.out, by have := HN.out; omega⟩⟩
      case measure => exact meas_s hkn
    · have hke := revV_end HH.out.1 HL.out.2.1 hk HH.out.2
      have HKE := Lib.hid hke
      have HO := Lib.hid hO
      have hkj : ¬ (k : Int) < (n : Int) - 1 - k := by omega
      clear hO hk hke
      go_wp2
      go_end0
      exact ⟨⟨_, rfl⟩, ⟨es, HU2.out, by rw [HKE.out, HL.out.2.2.1]⟩, HO.out⟩
end Go.Proofs.Ytejknkhahjgdnaa
namespace Go.Proofs.Ytejknkhahjgdnaa
open Go Go.RowKit

/-- a number's text. -/
def textOf (n : Nat) : ByteArray := strOfNums ((decs n).reverse.map (fun d => ((48 + d : Nat) : Int)))
def TextV (xs : List Nat) : ByteArray := if mayN xs then textOf (nval xs) else ByteArray.empty
/-- what holds at each round's head. -/
structure TextH (K n gh L : Nat) (ds D : List Nat) : Prop where
  len : L ≤ ds.length
  big : ds.length ≤ 200
  words : Words ds
  norm : Norm (ds.take L)
  digs : Digs n D (nval (ds.take L))
  lt : ∀ d ∈ D, d < 10
  most : D.length ≤ K ∧ nval (ds.take L) < 2 ^ (K - D.length)
  cap : 1 ≤ K ∧ K ≤ 5000
  gh : 2 * nval (ds.take L) + (if D = [] then 1 else 0) ≤ gh
theorem take_nil_iff {xs : List Nat} {L : Nat} (h : L ≤ xs.length) (hN : Norm (xs.take L)) : nval (xs.take L) = 0 ↔ L = 0 := by
  constructor
  · intro h0
    have := norm_zero hN h0
    have h1 := congrArg List.length this
    rw [List.length_take, Nat.min_eq_left h] at h1
    exact h1
  · intro h0; subst h0; rfl
theorem TextH.step {K n gh L k : Nat} {ds es D : List Nat} {c : Nat} (h : TextH K n gh L ds D) (hc : 0 < L ∨ D = []) (he : es.length ≤ 200) (hLe : L ≤ es.length) (hw : Words es)
    (ht : nval (ds.take L) = 10 * nval (es.take L) + c) (hc10 : c < 10) (hk : k ≤ L) (hn : Norm (es.take k)) (hv : nval (es.take k) = nval (es.take L)) :
    c = nval (ds.take L) % 10 ∧ ∃ gh', gh' < gh ∧ TextH K n gh' k es (D ++ [c]) := by
  have e1 : c = nval (ds.take L) % 10 := by omega
  have e2 : nval (es.take L) = nval (ds.take L) / 10 := by omega
  have h0 : nval (ds.take L) ≠ 0 ∨ D = [] := by
    rcases hc with h1 | h1
    · exact .inl (fun h2 => by have := (take_nil_iff h.len h.norm).1 h2; omega)
    · exact .inr h1
  refine ⟨e1, 2 * nval (es.take k), ?_, by omega, he, hw, hn, ?_, ?_, ?_, h.cap, ?_⟩
  · have hg := h.gh
    rw [hv, e2]
    rcases h0 with h1 | h1
    · omega
    · rw [if_pos h1] at hg; omega
  · rw [hv, e2, e1]; exact digs_step h.digs h0
  · intro d hd
    rcases List.mem_append.1 hd with hd | hd
    · exact h.lt d hd
    · rw [List.mem_singleton] at hd; omega
  · rw [hv, e2, List.length_append, List.length_singleton]
    obtain ⟨m1, m2⟩ := h.most
    by_cases hz : nval (ds.take L) = 0
    · have hD : D = [] := h0.resolve_left (fun h => h hz)
      rw [hz, hD]
      exact ⟨h.cap.1, by rw [Nat.zero_div]; exact Nat.pow_pos (by decide)⟩
    · have hlt : D.length < K := by
        rcases Nat.lt_or_ge D.length K with h1 | h1
        · exact h1
        · rw [Nat.sub_eq_zero_of_le h1, Nat.pow_zero] at m2; omega
      refine ⟨hlt, ?_⟩
      have e3 : K - D.length = (K - (D.length + 1)) + 1 := by omega
      rw [e3, Nat.pow_succ] at m2
      generalize 2 ^ (K - (D.length + 1)) = P at *
      omega
  · rw [if_neg (by simp)]; omega
theorem pow_bits {a b c K : Nat} (h : a = 2 ^ b) (hK : K = b * c) : a ^ c = 2 ^ K := by rw [h, hK, Nat.pow_mul]
theorem text_bits {xs : List Nat} {K : Nat} (hK : 2 ^ K = beta ^ 128) (h : nval xs < beta ^ 128) : nval (xs.take xs.length) < 2 ^ (K - ([] : List Nat).length) := by
  rw [List.take_length, List.length_nil, Nat.sub_zero, hK]
  exact h
theorem text_cell (D : List Nat) (i : Nat) (hi : i < D.length) : (List.map by8 (List.map (fun x => 48 + x) D).reverse)[i]? = some (.int .u8 ((List.map (fun d => ((48 + d : Nat) : Int)) D.reverse).getD i 0)) := by
  have h : i < D.reverse.length := by rw [List.length_reverse]; exact hi
  rw [← List.map_reverse, List.getElem?_map, List.getElem?_map, List.getD_eq_getElem?_getD, List.getElem?_map, List.getElem?_eq_getElem h]
  rfl
/-- the state of Text's outer loop. -/
def TextSt (w : World) (K g n gh : Nat) (r v : Value) (W : World) : Prop :=
  ∃ (L c : Nat) (ds D : List Nat), r = .slice (some ⟨g, 0, none⟩) L c ∧ L ≤ c ∧ UBlk W g ds ∧ Ext w W ∧ DOwn (g + 1) W v (D.map (48 + ·)) ∧ Hid (TextH K n gh L ds D)
/-- the state of its inner loop. -/
def TextIn (W0 : World) (g L Td : Nat) (c k : Value) (W : World) : Prop :=
  ∃ (es : List Nat) (kk cc : Nat), c = .int .u64 (cc : Nat) ∧ k = .int .i64 (kk : Nat) ∧ UBlk W g es ∧ Only g W0 W ∧
    Hid (kk ≤ L ∧ L ≤ es.length ∧ es.length ≤ 200 ∧ cc < 10 ∧ Words es ∧ Td + 9 * nval (es.take (L - kk)) = 10 * nval (es.take L) + cc * beta ^ (L - kk))
theorem UBlk.rowTake {w : World} {g : Nat} {ds : List Nat} (h : UBlk w g ds) (L c : Nat) (hL : L ≤ ds.length) (hc : L ≤ c) : URow w (.slice (some ⟨g, 0, none⟩) L c) (ds.take L) := by
  by_cases h0 : L = 0
  · subst h0; exact .inl ⟨by simp, _, _, rfl⟩
  · refine .inr ⟨g, 0, c, by rw [List.length_take, Nat.min_eq_left hL], ?_, by rw [List.length_take]; omega, fun q u hq => ?_⟩
    · intro e
      have := congrArg List.length e
      rw [List.length_take, List.length_nil] at this
      omega
    · rw [Nat.zero_add, cell_of h q]
      rw [List.map_take, List.getElem?_take] at hq
      split at hq
      · simpa using hq
      · cases hq
theorem div_close {W0 W : World} {g L Td kk m cc e : Nat} {es : List Nat} (hU : UBlk W g es) (hO : Only g W0 W)
    (HJ : Hid (kk ≤ L ∧ L ≤ es.length ∧ es.length ≤ 200 ∧ cc < 10 ∧ Words es ∧ Td + 9 * nval (es.take (L - kk)) = 10 * nval (es.take L) + cc * beta ^ (L - kk)))
    (hk : kk < L) (hm : L - (kk + 1) = m) (_hml : m < L) (hst : let s := cc * beta + e; Td + 9 * nval ((es.set m (s / 10)).take m) = 10 * nval ((es.set m (s / 10)).take L) + (s % 10) * beta ^ m) (be : e < 4294967296) :
    TextIn W0 g L Td (.int .u64 (((cc : Int) * 4294967296 + (e : Int)) % 10)) (.int .i64 ((kk : Int) + 1)) (W.setCell ⟨g, m, none⟩ (.int .u32 (((cc : Int) * 4294967296 + (e : Int)) / 10))) ∧
      L - (intOf (.int .i64 ((kk : Int) + 1))).toNat < L - (intOf (.int .i64 (kk : Int))).toNat := by
  obtain ⟨h1, h2, h3, h4, h5, h6⟩ := HJ.out
  have e1 : ((cc : Int) * 4294967296 + (e : Int)) % 10 = (((cc * beta + e) % 10 : Nat) : Int) := by
    show _ = (((cc * 4294967296 + e) % 10 : Nat) : Int); omega
  have e2 : ((cc : Int) * 4294967296 + (e : Int)) / 10 = (((cc * beta + e) / 10 : Nat) : Int) := by
    show _ = (((cc * 4294967296 + e) / 10 : Nat) : Int); omega
  rw [e1, e2]
  refine ⟨⟨es.set m ((cc * beta + e) / 10), kk + 1, (cc * beta + e) % 10, rfl, rfl, hU.set m _, hO.set m _, Lib.hid ⟨hk, by rw [List.length_set]; exact h2, by rw [List.length_set]; exact h3, Nat.mod_lt _ (by decide), words_set h5 ?_, by rw [hm]; exact hst⟩⟩, meas_s hk⟩
  show (cc * 4294967296 + e) / 10 < 4294967296
  omega
set_option maxRecDepth 100000 in
set_option maxHeartbeats 4000000 in
theorem natText_any (w : World) (p : Value) (xs : List Nat) (hp : URow w p xs) (hx : Words xs) : Calls Try.prog 59 #[p] w (Ret (.string (TextV xs)) w) := by
  have HM1 := Lib.hid (natMay_any w p xs hp)
  have HP := Lib.hid hp
  have HX := Lib.hid hx
  obtain ⟨T, hT⟩ : ∃ T, TextV xs = T := ⟨_, rfl⟩
  rw [hT]
  have HT := Lib.hid hT
  cases m1 : mayN xs with
  | false =>
    have HE := Lib.hid (show T = ByteArray.empty by rw [← hT]; unfold TextV; rw [m1]; rfl)
    rw [m1] at HM1
    clear hp hx m1 hT
    go_enter Try.func59, Try.ntmps59
    go_wp2_with fail
    refine HM1.out.mono ?_
    rintro e w1 ⟨rfl, h1⟩
    go_wp2
    go_ret
    exact ⟨by rw [HE.out]; rfl, h1⟩
  | true =>
    obtain ⟨n, hn⟩ : ∃ n, nval xs = n := ⟨_, rfl⟩
    have HE := Lib.hid (show T = textOf n by rw [← hT]; unfold TextV; rw [m1, ← hn]; rfl)
    have HN := Lib.hid ((mayN_norm hx).1 m1)
    have HNV := Lib.hid hn
    rw [m1] at HM1
    obtain ⟨pa, pc, rfl⟩ := hp.slice
    clear hp hx m1 hT hn
    go_enter Try.func59, Try.ntmps59
    go_wp2_with fail
    refine HM1.out.mono ?_
    rintro e w1 ⟨rfl, h1⟩
    go_wp2_with fail
    refine (wide_any w1 _ xs xs.length (HP.out.ext h1) (Nat.le_refl _) (Nat.le_trans HN.out.2 (by decide))).mono ?_
    rintro e w2 ⟨g, rfl, hg, hb, h2⟩
    rw [Nat.sub_self, List.replicate_zero, List.append_nil] at hb
    have HB := Lib.hid hb
    have HX2 := Lib.hid (h1.trans h2)
    have HG := Lib.hid (Nat.le_trans h1.size hg)
    clear h1 h2 hg hb
    go_wp2_with fail
    obtain ⟨K, hK⟩ : ∃ K, K = 32 * 128 := ⟨_, rfl⟩
    go_loopg [3, 4] (2 * n + 1) (fun gh r v W => TextSt w K g n gh r v W)
    case atStart =>
      refine ⟨xs.length, xs.length, xs, [], rfl, Nat.le_refl _, HB.out, HX2.out, DOwn.nil _ _, Lib.hid ?_⟩
      refine ⟨Nat.le_refl _, Nat.le_trans HN.out.2 (by decide), HX.out, by rw [List.take_length]; exact HN.out.1, ?_, (fun d hd => by cases hd), ?_, ⟨by rw [hK]; decide, by rw [hK]; decide⟩, ?_⟩
      · left; exact ⟨rfl, by rw [List.take_length]; exact HNV.out⟩
      · refine ⟨Nat.zero_le _, ?_⟩
        have := (norm_len HN.out.1 128).1 HN.out.2
        exact text_bits (pow_bits rfl hK).symm this
      · rw [List.take_length, HNV.out, if_pos rfl]; exact Nat.le_refl _
    case round =>
      obtain ⟨L, c, ds, D, rfl, hLc, hU, hE, hD, HH⟩ := hrel
      by_cases hgo : 0 < L ∨ D = []
      · have HGO := Lib.hid hgo
        have HU := Lib.hid hU
        have HE2 := Lib.hid hE
        have HD := Lib.hid hD
        have HLC := Lib.hid hLc
        obtain ⟨va, vc, hv⟩ := hD.slice
        have hlt : L ≤ 200 := Nat.le_trans HH.out.len HH.out.big
        subst hv
        by_cases hL0 : 0 < L
        · have hL : (0 : Int) < (L : Int) := by omega
          clear hgo hU hE hD hLc hL0
          go_wp2_with fail
          clear hL
          obtain ⟨W0, rfl⟩ : ∃ W0, W0 = wr := ⟨_, rfl⟩
          go_loopw [5, 25] (fun c k W => TextIn W0 g L (nval (ds.take L)) c k W) (fun _ k _ => L - (intOf k).toNat)
          case atStart => exact ⟨ds, 0, 0, rfl, rfl, HU.out, Only.refl _ _, Lib.hid ⟨Nat.zero_le _, HH.out.len, HH.out.big, by decide, HH.out.words, by rw [Nat.sub_zero, Nat.zero_mul]; omega⟩⟩
          case round =>
            obtain ⟨es, kk, cc, rfl, rfl, hU3, hO, HJ⟩ := hrel
            by_cases hk : kk < L
            · obtain ⟨m, hm⟩ : ∃ m, L - (kk + 1) = m := ⟨_, rfl⟩
              have hat : (L : Int) - 1 - (kk : Int) = (m : Int) := by omega
              have hml : m < L := by omega
              obtain ⟨cx, cf⟩ := hU3.cell m (Nat.lt_of_lt_of_le hml HJ.out.2.1)
              have be := words_getD HJ.out.2.2.2.2.1 m
              have hcc := HJ.out.2.2.2.1
              have HST := Lib.hid (div_step (c := cc) (Td := nval (ds.take L)) hml HJ.out.2.1 (by have := HJ.out.2.2.2.2.2; rw [show L - kk = m + 1 by omega] at this; exact this))
              obtain ⟨e, he⟩ : ∃ e, es.getD m 0 = e := ⟨_, rfl⟩
              rw [he] at cx be HST
              unfold beta at be
              have HU3 := Lib.hid hU3
              have HO := Lib.hid hO
              have HM := Lib.hid (And.intro hm hml)
              clear hU3 hO hm he
              go_wp2
              exact div_close HU3.out HO.out HJ hk HM.out.1 HM.out.2 HST.out be
            · have hq := HJ.out.2.2.2.2.2
              rw [Nat.le_antisymm HJ.out.1 (Nat.le_of_not_lt hk), Nat.sub_self, Nat.pow_zero, Nat.mul_one, List.take_zero] at hq
              have HQ := Lib.hid (show nval (ds.take L) = 10 * nval (es.take L) + cc from by simpa [nval] using hq)
              have hcc := HJ.out.2.2.2.1
              have HE3 := Lib.hid (hO.1 w HE2.out HG.out)
              have hown : (Value.slice va (D.map (48 + ·)).length vc).ownBlock ≠ some g := fun e => by
                have := (World.ownsRow.lt HD.out) g e
                omega
              have hA := (Ext.refl wr).alloc (.cells #[.int .u8 (48 + (cc : Int))] 5)
              have hD5 := (HD.out.kept hO hown).ext hA
              rw [List.length_map] at hD5 hown
              have HD5 := Lib.hid hD5
              have HOWN := Lib.hid hown
              have HU5 := Lib.hid (show UBlk _ g es from hA.get hU3)
              have HE5 := Lib.hid (HE3.out.trans hA)
              have hcell : (wr.alloc (.cells #[.int .u8 (48 + (cc : Int))] 5)).cell? ⟨wr.heap.size, 0, none⟩ = some (.int .u8 ((48 + cc : Nat) : Int)) := cell_of (alloc_at wr (.cells #[.int .u8 (48 + (cc : Int))] 5) _ rfl) 0
              have HC := Lib.hid (show (wr.alloc (.cells #[.int .u8 (48 + (cc : Int))] 5)).cell? ⟨wr.heap.size, 0, none⟩ = some (.int .u8 ((48 + cc : Nat) : Int)) from hcell)
              clear hq hO hown hA hD5 hU3 hcell
              go_wp2_with (at_builtin; refine wpList_append_byte (B := g + 1) (zs := D.map (48 + ·)) (d := 48 + cc) (b := wr.heap.size) rfl (.tmp 50) (.tmp 54) rfl rfl rfl HD5.out HC.out (by rw [List.length_map]; have := HH.out.most.1; have := HH.out.cap.2; omega) (Array.getElem?_eq_some_iff.1 HU5.out).1 ?_)
              intro v6 w6 ho6 hg6 hw6
              have hlt6 := World.ownsRow.lt HD5.out
              have HE6 := Lib.hid (show Ext w w6 from RowKit.Below.grown HE5.out hg6 HE5.out.size (fun k hk => Nat.le_trans (Nat.le_trans HG.out (Nat.le_succ g)) (hlt6 k hk).1))
              have HU6 := Lib.hid (show UBlk w6 g es from (hg6.block g (Array.getElem?_eq_some_iff.1 HU5.out).1 (Ne.symm HOWN.out)).trans HU5.out)
              have HO6 := Lib.hid (show DOwn (g + 1) w6 v6 ((D ++ [cc]).map (48 + ·)) by simpa using ho6)
              clear ho6 hg6 hw6 hlt6
              have hLe : L ≤ es.length := HJ.out.2.1
              have htl : (es.take L).length = L := by rw [List.length_take]; exact Nat.min_eq_left hLe
              have HTR := Lib.hid (trim_any w6 (some ⟨g, 0, none⟩) c (es.take L) (by rw [htl]; exact HU6.out.rowTake L c hLe HLC.out) (by rw [htl]; exact Nat.le_trans hlt (by decide)))
              rw [htl] at HTR
              clear hLe htl
              go_wp2_with fail
              refine HTR.out.mono ?_
              rintro r w7 ⟨k, rfl, k1, k2, k3, k4⟩
              rw [List.length_take, Nat.min_eq_left HJ.out.2.1] at k1
              have hW : Words (es.take L) := words_take HJ.out.2.2.2.2.1 L
              obtain ⟨t1, t2⟩ := trim_norm hW (by rw [List.length_take, Nat.min_eq_left HJ.out.2.1]; exact k1) k2 k3
              rw [List.take_take, Nat.min_eq_left k1] at t1 t2
              obtain ⟨-, gh', hlt', hH'⟩ := HH.out.step HGO.out HJ.out.2.2.1 HJ.out.2.1 HJ.out.2.2.2.2.1 HQ.out HJ.out.2.2.2.1 k1 t1 t2
              have HH' := Lib.hid hH'
              have HU7 := Lib.hid (show UBlk w7 g es from k4.get HU6.out)
              have HE7 := Lib.hid (HE6.out.trans k4)
              have HO7 := Lib.hid (HO6.out.ext k4)
              have HK := Lib.hid (Nat.le_trans k1 HLC.out)
              have HLT := Lib.hid hlt'
              clear hW t1 t2 hH' k1 k2 k3 k4 hlt' hcc
              go_wp2
              go_roundg gh'
              case measure => exact HLT.out
              case rel => exact ⟨k, c, es, D ++ [cc], rfl, HK.out, HU7.out, HE7.out, HO7.out, HH'.out⟩
        · have hL1 : L = 0 := Nat.eq_zero_of_not_pos hL0
          have hD1 : D = [] := hgo.resolve_left hL0
          subst hL1 hD1
          rw [show ([] : List Nat).map (48 + ·) = [] from rfl] at HD ⊢
          clear hgo hU hE hD hLc hL0 hlt
          go_wp2_with fail
          refine wp_loop_rounds 1 ?_
          rw [rounds_succ]
          have hA := (Ext.refl wr).alloc (.cells #[.int .u8 48] 5)
          have HD5 := Lib.hid (HD.out.ext hA)
          have HU5 := Lib.hid (show UBlk _ g ds from hA.get HU.out)
          have HE5 := Lib.hid (HE2.out.trans hA)
          have hcell : (wr.alloc (.cells #[.int .u8 48] 5)).cell? ⟨wr.heap.size, 0, none⟩ = some (.int .u8 ((48 : Nat) : Int)) := cell_of (alloc_at wr (.cells #[.int .u8 48] 5) _ rfl) 0
          have HC := Lib.hid hcell
          have HOWN := Lib.hid (show (Value.slice va ([] : List Nat).length vc).ownBlock ≠ some g from fun e => by
            have := (World.ownsRow.lt HD.out) g e
            omega)
          clear hA hcell
          go_wp2_with (at_builtin; refine wpList_append_byte (B := g + 1) (zs := []) (d := 48) (b := wr.heap.size) rfl (.tmp 50) (.tmp 54) rfl rfl rfl HD5.out HC.out (by simp) (Array.getElem?_eq_some_iff.1 HU5.out).1 ?_)
          intro v6 w6 ho6 hg6 hw6
          have hlt6 := World.ownsRow.lt HD5.out
          have HE6 := Lib.hid (show Ext w w6 from RowKit.Below.grown HE5.out hg6 HE5.out.size (fun k hk => Nat.le_trans (Nat.le_trans HG.out (Nat.le_succ g)) (hlt6 k hk).1))
          have HU6 := Lib.hid (show UBlk w6 g ds from (hg6.block g (Array.getElem?_eq_some_iff.1 HU5.out).1 (Ne.symm HOWN.out)).trans HU5.out)
          have HO6 := Lib.hid (show DOwn (g + 1) w6 v6 (([] ++ [0]).map (48 + ·)) from ho6)
          clear ho6 hg6 hw6 hlt6
          have HTR := Lib.hid (trim_any w6 (some ⟨g, 0, none⟩) c [] (.inl ⟨rfl, _, _, rfl⟩) (by simp))
          rw [List.length_nil] at HTR
          go_wp2_with fail
          refine HTR.out.mono ?_
          rintro r w7 ⟨k, rfl, k1, k2, k3, k4⟩
          obtain rfl : k = 0 := Nat.le_zero.1 k1
          obtain ⟨-, gh', hlt', hH'⟩ := HH.out.step (.inr rfl) HH.out.big HH.out.len HH.out.words (c := 0) rfl (by decide) (Nat.le_refl _) HH.out.norm rfl
          have HH' := Lib.hid hH'
          have HU7 := Lib.hid (show UBlk w7 g ds from k4.get HU6.out)
          have HE7 := Lib.hid (HE6.out.trans k4)
          have HO7 := Lib.hid (HO6.out.ext k4)
          have HLT := Lib.hid hlt'
          clear hH' k1 k2 k3 k4 hlt'
          go_wp2
          go_roundg gh'
          case measure => exact HLT.out
          case rel => exact ⟨0, c, ds, [0], rfl, Nat.zero_le _, HU7.out, HE7.out, HO7.out, HH'.out⟩
      · have hL0 : L = 0 := Nat.eq_zero_of_not_pos (fun h => hgo (.inl h))
        have hD0 : D ≠ [] := fun h => hgo (.inr h)
        subst hL0
        have hDD := digs_end (n := n) (D := D) (by have := HH.out.digs; rw [List.take_zero] at this; exact this) hD0
        have HDD := Lib.hid hDD
        have hpos : 0 < D.length := List.length_pos_iff.2 hD0
        obtain ⟨va, vc, hv⟩ := hD.slice
        subst hv
        (try rw [List.length_map])
        obtain ⟨h1, h | ⟨b, cap, cur, hv, hb, hh, hc1, hc2, hc3, hc4⟩⟩ := hD
        · exact absurd (by simpa using h.2) hD0
        · rw [List.length_map] at hv
          cases hv
          have hle : D.length ≤ cur.size := by
            have := congrArg List.length hc4
            simp only [List.length_take, List.length_map, Nat.mul_one, Array.length_toList] at this
            omega
          have HR := Lib.hid (reverseB_any wr b D.length vc cur.toList (D.map (48 + ·)) (by simpa using hh) (by
            rw [List.length_map, Nat.mul_one] at hc4; exact hc4) (by simp) (by rw [Array.length_toList]; exact hle) (by have := HH.out.most.1; have := HH.out.cap.2; omega))
          have HGB := Lib.hid (Nat.le_trans (Nat.le_trans HG.out (Nat.le_succ g)) hb)
          have HE2 := Lib.hid hE
          have hguard : ¬ (D.length : Int) = 0 := by omega
          have HP0 := Lib.hid hpos
          clear hh hb hc1 hc2 hc3 hc4 hle h1 hgo hDD hU hE hD0 hLc hpos
          go_wp2_with fail
          refine HR.out.mono ?_
          rintro r w7 ⟨⟨v7, rfl⟩, ⟨fs, hf, hft⟩, hO⟩
          have hcv := run_convert_bytes_arg (P := Try.prog) w7 39 5 Try.underlying39 Try.underlying5 b 0 D.length vc ((decs n).reverse.map (fun d => ((48 + d : Nat) : Int))) (by rw [List.length_map, List.length_reverse, ← HDD.out]) (fun i hi => by
            rw [Nat.zero_add, cell_of hf i, List.getElem?_toArray]
            have e1 : (fs.take D.length)[i]? = fs[i]? := by rw [List.getElem?_take, if_pos hi]
            rw [← e1, hft, ← HDD.out]
            exact text_cell D i hi) 9 Try.underlying9
          have HXX := Lib.hid (hO.1 w HE2.out HGB.out)
          clear hf hft hO
          go_wp2_with fail
          go_ret
          exact ⟨by rw [HE.out]; unfold textOf; simp, HXX.out⟩
end Go.Proofs.Ytejknkhahjgdnaa
