/- The walk of joinerylaw14.AvlTells. -/
import Derived.Test.YtkbndpemljommaaShape
import Derived.Test.YtkbndpemljommaaRef14
namespace Go.Proofs.Ytkbndpemljommaa
open Go Go.RowKit

theorem avlLean_nil : avlLean .nil = 0 := by decide +kernel
end Go.Proofs.Ytkbndpemljommaa
