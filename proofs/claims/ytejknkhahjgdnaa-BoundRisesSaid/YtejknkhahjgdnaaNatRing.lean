/- joinerylaw07.NatRing. -/
import Derived.Test.YtejknkhahjgdnaaNat12
namespace Go.Proofs.Ytejknkhahjgdnaa
open Go Go.RowKit

/-- numbers in memory. -/
def Nums (w : World) (l : List (Value × Nat)) : Prop := ∀ x ∈ l, NumIs w x.1 x.2
theorem Nums.add {w w' : World} {l : List (Value × Nat)} {v : Value} {n : Nat} (h : Nums w l) (hv : NumIs w' v n) (hE : Ext w w') : Nums w' ((v, n) :: l) := fun x hx => by
  rcases List.mem_cons.1 hx with rfl | hx
  · exact hv
  · exact (h x hx).ext hE
theorem Nums.ext {w w' : World} {l : List (Value × Nat)} (h : Nums w l) (hE : Ext w w') : Nums w' l := fun x hx => (h x hx).ext hE
theorem ring_bounds {a b c : Nat} (ha : a < beta ^ 40) (hb : b < beta ^ 40) (hc : c < beta ^ 40) :
    a + b < beta ^ 128 ∧ b + c < beta ^ 128 ∧ a * b < beta ^ 128 ∧ b * c < beta ^ 128 ∧ a * c < beta ^ 128 ∧ a + b + c < beta ^ 128 ∧ a * (b + c) < beta ^ 128 ∧ a * b * c < beta ^ 128 := by
  obtain ⟨B, hB⟩ : ∃ B, B = beta ^ 40 := ⟨_, rfl⟩
  have h1 : 3 * beta ^ 40 ≤ beta ^ 128 := by decide +kernel
  have h2 : 2 * (beta ^ 40 * beta ^ 40) ≤ beta ^ 128 := by decide +kernel
  have h3 : beta ^ 40 * beta ^ 40 * beta ^ 40 ≤ beta ^ 128 := by decide +kernel
  rw [← hB] at ha hb hc h1 h2 h3
  have hab : a * b < B * B := Nat.mul_lt_mul'' ha hb
  have hac : a * c < B * B := Nat.mul_lt_mul'' ha hc
  have hbc : b * c < B * B := Nat.mul_lt_mul'' hb hc
  have habc : a * b * c < B * B * B := Nat.mul_lt_mul'' hab hc
  generalize beta ^ 128 = M at *
  rw [Nat.mul_add]
  refine ⟨?_, ?_, ?_, ?_, ?_, ?_, ?_, ?_⟩ <;> omega
theorem small_num {xs : List Nat} (h : Norm xs) (hl : xs.length ≤ 40) : nval xs < beta ^ 40 := (norm_len h 40).1 hl
theorem lt128 {n : Nat} (h : n < beta ^ 40) : n < beta ^ 128 := Nat.lt_of_lt_of_le h (by decide +kernel)
theorem lt256 {n : Nat} (h : n < beta ^ 128) : n < beta ^ 256 := Nat.lt_of_lt_of_le h (by decide +kernel)
theorem fit_at {n m : Nat} (h : m < beta ^ 128) (e : n = m) : fitE n = 0 ∧ fitN n = m := by subst e; exact fit_of h
end Go.Proofs.Ytejknkhahjgdnaa
