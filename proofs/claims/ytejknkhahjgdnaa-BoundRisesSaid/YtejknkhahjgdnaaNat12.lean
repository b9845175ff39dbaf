/- The contracts at numbers; joinerylaw07.alive. -/
import Derived.Test.YtejknkhahjgdnaaNat8
import Derived.Test.YtejknkhahjgdnaaNat11
namespace Go.Proofs.Ytejknkhahjgdnaa
open Go Go.RowKit

theorem may_of {xs : List Nat} {n : Nat} (h : Norm xs) (e : nval xs = n) (hn : n < beta ^ 128) : mayN xs = true := (mayN_norm h.1).2 ⟨h, (norm_len h 128).2 (by rw [e]; exact hn)⟩
theorem natMay_num (w : World) (p : Value) (n : Nat) (hp : NumIs w p n) (hn : n < beta ^ 128) : Calls Try.prog 33 #[p] w (Ret (.bool true) w) := by
  obtain ⟨xs, h1, h2, h3⟩ := hp
  have := natMay_any w p xs h1
  rwa [may_of h2 h3 hn] at this
theorem natAdd_num (w : World) (p q : Value) (a b : Nat) (hp : NumIs w p a) (hq : NumIs w q b) (ha : a < beta ^ 128) (hb : b < beta ^ 128) : Calls Try.prog 57 #[p, q] w (Fits (a + b) w) := by
  obtain ⟨xs, h1, h2, h3⟩ := hp
  obtain ⟨ys, g1, g2, g3⟩ := hq
  refine (natAddE_any w p q xs ys h1 g1 h2.1 g2.1).mono ?_
  rintro e w1 ⟨v, rfl, h, hE⟩
  have m1 := may_of h2 h3 ha
  have m2 := may_of g2 g3 hb
  rw [h3, g3] at h ⊢
  unfold SumE SumN at *
  simp only [m1, m2, Bool.and_self, if_true] at h ⊢
  exact ⟨v, rfl, h, hE⟩
theorem natCmp_num (w : World) (p q : Value) (a b : Nat) (hp : NumIs w p a) (hq : NumIs w q b) (ha : a < beta ^ 128) (hb : b < beta ^ 128) : Calls Try.prog 16 #[p, q] w (Ret (.int .i64 (cmpV a b)) w) := by
  obtain ⟨xs, h1, h2, h3⟩ := hp
  obtain ⟨ys, g1, g2, g3⟩ := hq
  have h := natCmp_any w p q xs ys h1 g1 h2.1 g2.1
  unfold CmpR at h
  rw [may_of h2 h3 ha, may_of g2 g3 hb, h3, g3] at h
  exact h
theorem natText_num (w : World) (p : Value) (a : Nat) (hp : NumIs w p a) (ha : a < beta ^ 128) : Calls Try.prog 59 #[p] w (Ret (.string (textOf a)) w) := by
  obtain ⟨xs, h1, h2, h3⟩ := hp
  have h := natText_any w p xs h1 h2.1
  unfold TextV at h
  rw [may_of h2 h3 ha, h3] at h
  exact h
theorem text0 : textOf 0 = ⟨#[48]⟩ := by decide +kernel
theorem text1 : textOf (fibN 10) = ⟨#[53, 53]⟩ := by decide +kernel
theorem text2 : textOf (2 ^ 100) = ⟨#[49, 50, 54, 55, 54, 53, 48, 54, 48, 48, 50, 50, 56, 50, 50, 57, 52, 48, 49, 52, 57, 54, 55, 48, 51, 50, 48, 53, 51, 55, 54]⟩ := by decide +kernel
theorem fit_of {n : Nat} (h : n < beta ^ 128) : fitE n = 0 ∧ fitN n = n := by unfold fitE fitN; rw [if_pos h, if_pos h]; exact ⟨rfl, rfl⟩
theorem fit1 : fitE (18446744073709551615 + 1) = 0 ∧ fitN (18446744073709551615 + 1) = 18446744073709551616 := fit_of (by decide +kernel)
theorem fit2 : fitE (2 ^ 100) = 0 ∧ fitN (2 ^ 100) = 2 ^ 100 := fit_of (by decide +kernel)
theorem fit3 : fitE (9223372036854775808 ^ 66) = 5 := by unfold fitE; exact if_neg (by decide +kernel)
theorem alive_lits (w : World) : NumIs (w.alloc (.cells #[.int .u32 0, .int .u32 1] 34)) (.slice (some ⟨w.heap.size, 0, none⟩) 2 2) 4294967296 ∧
    NumIs (w.alloc (.cells #[.int .u32 0, .int .u32 0, .int .u32 1] 34)) (.slice (some ⟨w.heap.size, 0, none⟩) 3 3) 18446744073709551616 := by
  refine ⟨⟨[0, 1], UBlk.row (alloc_at w _ _ rfl) 2 (by decide), ⟨?_, by decide⟩, by decide⟩, ⟨[0, 0, 1], UBlk.row (alloc_at w _ _ rfl) 3 (by decide), ⟨?_, by decide⟩, by decide⟩⟩ <;> (intro d hd; simp at hd; rcases hd with rfl | rfl <;> decide)
end Go.Proofs.Ytejknkhahjgdnaa
