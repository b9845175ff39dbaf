/- The walk of joinerylaw14.AvlTells. -/
import Derived.Test.YtmpglinomjmogaaRef14
namespace Go.Proofs.Ytmpglinomjmogaa
open Go Go.RowKit

/-- what Long says no to is a tree. -/
theorem long_tree {zs : List BeadL} (h : (decide (400 < zs.length) || !mayB zs) = false) : zs.length ≤ 400 ∧ ∃ t : BT, t.enc = zs := by
  simp only [Bool.or_eq_false_iff, Bool.not_eq_false', decide_eq_false_iff_not] at h
  exact ⟨by omega, mayB_tree h.2⟩
theorem avlLean_nil : avlLean .nil = 0 := by decide +kernel
end Go.Proofs.Ytmpglinomjmogaa
