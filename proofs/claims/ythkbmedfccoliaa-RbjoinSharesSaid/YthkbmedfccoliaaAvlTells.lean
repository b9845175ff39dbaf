/- The walk of joinerylaw14.AvlTells. -/
import Derived.Test.YthkbmedfccoliaaShape
import Derived.Test.YthkbmedfccoliaaRef14
namespace Go.Proofs.Ythkbmedfccoliaa
open Go Go.RowKit

theorem avlLean_nil : avlLean .nil = 0 := by decide +kernel
end Go.Proofs.Ythkbmedfccoliaa
