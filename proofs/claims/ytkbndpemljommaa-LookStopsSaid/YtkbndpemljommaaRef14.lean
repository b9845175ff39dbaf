/- joineryref14: Tag, one, Check, May of a row of beads, as avl's own of the tree in memory. -/
import Derived.Test.YtkbndpemljommaaBead3
namespace Go.Proofs.Ytkbndpemljommaa
open Go Go.RowKit

/-- what is wrong with a tree's root. -/
def oneOf (T : Tr) : Int := if avlBadTag T then 140 else if avlBadTree T then 8 else 0
theorem avlFirst_le : ∀ l : List Tr, (avlFirst l).1 ≤ l.length
  | [] => by simp [avlFirst]
  | t :: l => by
    have := avlFirst_le l
    rw [avlFirst_cons]
    split
    · simp
    · split
      · simp
      · simp; omega
end Go.Proofs.Ytkbndpemljommaa
