/- joineryref09.Of and Node. -/
import Derived.Test.YtkbndpemljommaaOwn
namespace Go.Proofs.Ytkbndpemljommaa
open Go Go.RowKit

theorem BT.of_isNil : ∀ t : BT, t.of.isNil = t.isNil
  | .nil => rfl
  | .node .. => rfl
theorem BT.of_len : ∀ t : BT, t.of.enc.length = t.enc.length
  | .nil => rfl
  | .node k v s n g l r => by simp [BT.of, BT.enc, BT.of_len l, BT.of_len r]
/-- a row that is the call's own. -/
def GivesRow (zs : List BeadL) (w : World) (e : Ending) (w' : World) : Prop := ∃ v, e = .returned v ∧ Own w.heap.size w' v zs ∧ Ext w w'
end Go.Proofs.Ytkbndpemljommaa
