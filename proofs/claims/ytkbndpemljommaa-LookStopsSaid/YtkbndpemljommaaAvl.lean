/- The package avl, but for Check and May. -/
import Derived.Test.YtkbndpemljommaaDraw
namespace Go.Proofs.Ytkbndpemljommaa
open Go Go.RowKit

/-- the tag of a node that is made of two. -/
def avlTag (l r : Tr) : Int := IntKind.u64.wrap (max l.tag r.tag + 1)
theorem avlTag_left {l r : Tr} (h : r.tag ≤ l.tag) : IntKind.u64.wrap (l.tag + 1) = avlTag l r := by unfold avlTag; rw [Int.max_eq_left h]
theorem avlTag_right {l r : Tr} (h : ¬ r.tag ≤ l.tag) : IntKind.u64.wrap (r.tag + 1) = avlTag l r := by unfold avlTag; rw [Int.max_eq_right (by omega)]
/-- by how much a tree is higher on the right. -/
def avlLean (t : Tr) : Int := wrap64 (IntKind.u64.wrap (t.right.tag - t.left.tag))
end Go.Proofs.Ytkbndpemljommaa
