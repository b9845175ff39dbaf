/- joineryref09.Of and Node. -/
import Derived.Test.YteibbdieckephaaOwn
namespace Go.Proofs.Yteibbdieckephaa
open Go Go.RowKit

theorem BT.of_isNil : ∀ t : BT, t.of.isNil = t.isNil
  | .nil => rfl
  | .node .. => rfl
theorem BT.of_len : ∀ t : BT, t.of.enc.length = t.enc.length
  | .nil => rfl
  | .node k v s n g l r => by simp [BT.of, BT.enc, BT.of_len l, BT.of_len r]
end Go.Proofs.Yteibbdieckephaa
