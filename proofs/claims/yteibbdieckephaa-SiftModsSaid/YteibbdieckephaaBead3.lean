/- joinerylaw09.Make: the tree in memory of a tree of beads. -/
import Derived.Test.YteibbdieckephaaBead2
import Derived.Test.YteibbdieckephaaAvlLeast
namespace Go.Proofs.Yteibbdieckephaa
open Go Go.RowKit

/-- a tree in memory is the tree of some beads. -/
def BT.fits : BT → Tr → Prop
  | .nil, .nil => True
  | .node k v _ _ g l r, .node _ L k' v' g' R => k = k' ∧ v = v' ∧ g = g' ∧ l.fits L ∧ r.fits R
  | _, _ => False
def BT.tag : BT → Int
  | .nil => 0
  | .node _ _ _ _ g _ _ => g
theorem BT.fits_tag : ∀ {t : BT} {T : Tr}, t.fits T → t.tag = T.tag
  | .nil, .nil, _ => rfl
  | .nil, .node .., h => h.elim
  | .node .., .nil, h => h.elim
  | .node .., .node .., h => h.2.2.1
theorem BT.fits_left {k v s n g : Int} {l r : BT} : ∀ {T : Tr}, (BT.node k v s n g l r).fits T → l.fits T.left ∧ r.fits T.right ∧ g = T.tag ∧ k = T.key ∧ v = T.val ∧ T.pre = T :: (T.left.pre ++ T.right.pre)
  | .nil, h => h.elim
  | .node .., h => ⟨h.2.2.2.1, h.2.2.2.2, h.2.2.1, h.1, h.2.1, rfl⟩
theorem BT.fits_len : ∀ {t : BT} {T : Tr}, t.fits T → T.pre.length = t.enc.length
  | .nil, .nil, _ => rfl
  | .nil, .node .., h => h.elim
  | .node .., .nil, h => h.elim
  | .node k v s n g l r, .node b L k' v' g' R, h => by
    have h1 := BT.fits_len h.2.2.2.1
    have h2 := BT.fits_len h.2.2.2.2
    simp [Tr.pre, BT.enc, h1, h2]

end Go.Proofs.Yteibbdieckephaa
