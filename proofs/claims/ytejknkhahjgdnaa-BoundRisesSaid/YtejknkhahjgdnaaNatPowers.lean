/- joinerylaw07.NatPowers. -/
import Derived.Test.YtejknkhahjgdnaaNatRing
namespace Go.Proofs.Ytejknkhahjgdnaa
open Go Go.RowKit

theorem pow_bounds {n d e : Nat} (hn : n < 65536) (hd : d < 100) (he : e < 100) : n ^ d < beta ^ 128 ∧ n ^ e < beta ^ 128 ∧ n ^ (d + e) < beta ^ 128 ∧ ∀ a, a < 18446744073709551616 → a + n ^ d < beta ^ 128 := by
  have h0 : ∀ k, k ≤ 200 → n ^ k ≤ 65536 ^ 200 := fun k hk => Nat.le_trans (Nat.pow_le_pow_left (Nat.le_of_lt hn) k) (Nat.pow_le_pow_right (by decide) hk)
  have h1 : 65536 ^ 200 + 18446744073709551616 < beta ^ 128 := by decide +kernel
  have a1 := h0 d (by omega)
  have a2 := h0 e (by omega)
  have a3 := h0 (d + e) (by omega)
  generalize 65536 ^ 200 = M at *
  generalize beta ^ 128 = B at *
  refine ⟨by omega, by omega, by omega, fun a ha => by omega⟩
theorem nat_of_u {k : IntKind} {z m : Int} (h : (Lit.int k z).wf = true) (h0 : k.min = 0) (h1 : k.max = m) : ∃ x : Nat, z = (x : Int) ∧ (x : Int) ≤ m := by
  simp only [Lit.wf, Bool.and_eq_true, decide_eq_true_eq] at h
  rw [h0, h1] at h
  exact ⟨z.toNat, by omega, by omega⟩
end Go.Proofs.Ytejknkhahjgdnaa
