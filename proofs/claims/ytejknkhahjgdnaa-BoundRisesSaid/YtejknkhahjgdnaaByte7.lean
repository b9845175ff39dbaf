/- joineryref07.Text. -/
import Derived.Test.YtejknkhahjgdnaaByte6
import Derived.Test.YtejknkhahjgdnaaTenLaw
namespace Go.Proofs.Ytejknkhahjgdnaa
open Go Go.RowKit

/-- what holds while a byte is added. -/
structure TxIn (T L0 : Nat) (es : List Nat) (kk cc : Nat) : Prop where
  tens : Tens es
  sum : tval (es.take kk) + ten ^ kk * (cc + 256 * tval (es.drop kk)) = T
  klen : kk ≤ es.length
  l0 : L0 ≤ es.length
  car : cc * 10 ^ (es.length - L0) ≤ 255
  top : es.length = L0 ∨ (kk = es.length ∧ (0 < cc ∨ ten ^ (es.length - 1) ≤ tval es))
  len3 : es.length ≤ L0 + 3
theorem TxIn.cc_le {T L0 kk cc : Nat} {es : List Nat} (h : TxIn T L0 es kk cc) : cc ≤ 255 := by
  have h1 := h.car
  have h2 : cc * 1 ≤ cc * 10 ^ (es.length - L0) := Nat.mul_le_mul_left _ (Nat.pow_pos (by decide))
  omega
theorem TxIn.len {T L0 cc kk : Nat} {es : List Nat} (h : TxIn T L0 es kk cc) (h0 : kk < es.length ∨ 0 < cc) : es.length ≤ L0 + 2 := by
  rcases h.top with h1 | ⟨h1, _⟩
  · omega
  · have h2 : 0 < cc := by omega
    rcases Nat.lt_or_ge (L0 + 2) es.length with h3 | h3
    · exfalso
      have h4 := h.car
      have h5 : 10 ^ 3 ≤ 10 ^ (es.length - L0) := Nat.pow_le_pow_right (by decide) (by omega)
      have h6 : 1 * 10 ^ (es.length - L0) ≤ cc * 10 ^ (es.length - L0) := Nat.mul_le_mul_right _ h2
      omega
    · exact h3
theorem drop_cons_getD {es : List Nat} {k : Nat} (h : k < es.length) : es.drop k = es.getD k 0 :: es.drop (k + 1) := by
  rw [List.drop_eq_getElem_cons h, List.getD_eq_getElem?_getD, List.getElem?_eq_getElem h]; rfl
theorem tx_sum {A P s R : Nat} : A + P * (s % 10) + P * 10 * (s / 10 + 256 * R) = A + P * (s + 256 * (10 * R)) := by
  rw [Nat.add_assoc, Nat.mul_assoc, ← Nat.mul_add]
  congr 2
  omega
theorem TxIn.stepA {T L0 kk cc : Nat} {es : List Nat} (h : TxIn T L0 es kk cc) (hk : kk < es.length) :
    TxIn T L0 (es.set kk ((es.getD kk 0 * 256 + cc) % 10)) (kk + 1) ((es.getD kk 0 * 256 + cc) / 10) := by
  have hd : es.getD kk 0 < 10 := t_words_getD h.tens kk
  have hc := h.cc_le
  have hL : es.length = L0 := by
    rcases h.top with h1 | h1
    · exact h1
    · omega
  have hs := h.sum
  generalize hv : es.getD kk 0 * 256 + cc = s
  refine ⟨t_words_set h.tens (Nat.mod_lt _ (by decide)), ?_, by rw [List.length_set]; exact hk, by rw [List.length_set]; exact h.l0, ?_, by rw [List.length_set]; exact .inl hL, by rw [List.length_set]; exact h.len3⟩
  · have e1 : (es.set kk (s % 10)).drop (kk + 1) = es.drop (kk + 1) := by
      rw [List.drop_set]; simp
    have e2 : (es.set kk (s % 10)).take kk = es.take kk := by
      rw [List.take_set]
      rw [List.set_eq_of_length_le (by rw [List.length_take]; omega)]
    have e3 : (es.set kk (s % 10)).getD kk 0 = s % 10 := by simp [List.getD_eq_getElem?_getD, hk]
    rw [tval_take', e1, e2, e3, Nat.pow_succ]
    rw [drop_cons_getD hk, tval] at hs
    rw [show ten = 10 from rfl] at *
    have e5 : s + 256 * (10 * tval (es.drop (kk + 1))) = cc + 256 * (es.getD kk 0 + 10 * tval (es.drop (kk + 1))) := by omega
    rw [tx_sum, e5]
    exact hs
  · rw [List.length_set, hL, Nat.sub_self, Nat.pow_zero]
    omega
theorem TxIn.stepB {T L0 cc : Nat} {es : List Nat} (h : TxIn T L0 es es.length cc) (hcc : 0 < cc) :
    TxIn T L0 (es ++ [cc % 10]) (es.length + 1) (cc / 10) := by
  have hs := h.sum
  have ht : tval (es ++ [cc % 10]) = tval es + ten ^ es.length * (cc % 10) := by rw [tval_append]; simp [tval]
  refine ⟨fun d hd => ?_, ?_, by simp, by have := h.l0; simp; omega, ?_, .inr ⟨by simp, ?_⟩, by have := h.len (.inr hcc); simp; omega⟩
  · rcases List.mem_append.1 hd with h1 | h1
    · exact h.tens d h1
    · rw [List.mem_singleton.1 h1]; exact Nat.mod_lt _ (by decide)
  · rw [List.take_of_length_le (by simp), List.drop_eq_nil_of_le (by simp), ht, Nat.pow_succ, show ten = 10 from rfl, tx_sum, ← hs, List.take_length, List.drop_length]
    simp [tval]
    rfl
  · rw [List.length_append, List.length_singleton]
    have h1 := h.car
    have h2 := h.l0
    rw [show es.length + 1 - L0 = (es.length - L0) + 1 by omega, Nat.pow_succ]
    have h3 : cc / 10 * (10 ^ (es.length - L0) * 10) ≤ cc * 10 ^ (es.length - L0) := by
      rw [Nat.mul_comm (10 ^ (es.length - L0)), ← Nat.mul_assoc]
      exact Nat.mul_le_mul_right _ (Nat.div_mul_le_self cc 10)
    omega
  · by_cases h0 : 0 < cc / 10
    · exact .inl h0
    · right
      rw [ht, List.length_append, List.length_singleton, Nat.add_sub_cancel]
      have : ten ^ es.length * 1 ≤ ten ^ es.length * (cc % 10) := Nat.mul_le_mul_left _ (by omega)
      omega
theorem TxIn.done {T L0 kk : Nat} {es : List Nat} (h : TxIn T L0 es kk 0) (hk : ¬ kk < es.length) (h1 : 1 ≤ L0) (hT : L0 = 1 ∨ ten ^ (L0 - 1) ≤ T) : tval es = T ∧ Dec es := by
  have hs := h.sum
  have hke : kk = es.length := Nat.le_antisymm h.klen (Nat.le_of_not_lt hk)
  rw [hke, List.take_length, List.drop_length] at hs
  have e : tval es = T := by simpa [tval] using hs
  have hl := h.l0
  refine ⟨e, h.tens, fun e => by rw [e] at hl; simp at hl; omega, ?_⟩
  rcases h.top with h2 | ⟨_, h2⟩
  · rw [h2, e]; exact hT
  · rcases h2 with h2 | h2
    · exact absurd h2 (Nat.lt_irrefl _)
    · exact .inr h2
/-- an element of a row of one's own. -/
theorem IOwn.at {B : Nat} {w : World} {v : Value} {zs : List Nat} (h : IOwn B w v zs) {k : Nat} (hk : k < zs.length) :
    ∃ g c, v = .slice (some ⟨g, 0, none⟩) zs.length c ∧ B ≤ g ∧ zs.length ≤ c ∧ w.cell? ⟨g, k, none⟩ = some (.int .i64 (zs.getD k 0 : Nat)) ∧ w.frozen? ⟨g, k, none⟩ = false ∧ ∀ d : Nat, IOwn B (w.setCell ⟨g, k, none⟩ (.int .i64 (d : Nat))) v (zs.set k d) := by
  obtain ⟨h1, ⟨rfl, h0⟩ | ⟨g, cap, cur, rfl, hb, hg, hc, hm, hs, ht⟩⟩ := h
  · omega
  · rw [Nat.mul_one] at hs ht
    have hcur : cur.toList[k]? = some (i64 (zs.getD k 0)) := by
      have e1 : (cur.toList.take zs.length)[k]? = cur.toList[k]? := by rw [List.getElem?_take, if_pos hk]
      rw [← e1, ht, List.getElem?_map, List.getD_eq_getElem?_getD, List.getElem?_eq_getElem hk]; rfl
    refine ⟨g, cap, rfl, hb, hc, ?_, frozen_of hg k, fun d => ?_⟩
    · rw [cell_of hg k]
      simpa [i64] using hcur
    · refine ⟨by simp, .inr ⟨g, cap, cur.setIfInBounds k (.int .i64 (d : Nat)), by rw [List.length_set], hb, ?_, by rw [List.length_set]; exact hc, hm, by simpa using hs, ?_⟩⟩
      · simp only [World.setCell, Array.getElem?_modify, hg]
        simp
      · rw [List.length_set, Nat.mul_one, Array.toList_setIfInBounds, List.take_set, ht, List.map_set]
        rfl
end Go.Proofs.Ytejknkhahjgdnaa
