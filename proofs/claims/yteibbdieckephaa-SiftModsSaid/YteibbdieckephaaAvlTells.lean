/- The walk of joinerylaw14.AvlTells. -/
import Derived.Test.YteibbdieckephaaShape
import Derived.Test.YteibbdieckephaaRef14
namespace Go.Proofs.Yteibbdieckephaa
open Go Go.RowKit

theorem avlLean_nil : avlLean .nil = 0 := by decide +kernel
end Go.Proofs.Yteibbdieckephaa
