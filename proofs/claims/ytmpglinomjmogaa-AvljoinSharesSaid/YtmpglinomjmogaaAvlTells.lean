/- The walk of joinerylaw14.AvlTells. -/
import Derived.Test.YtmpglinomjmogaaShape
import Derived.Test.YtmpglinomjmogaaRef14
namespace Go.Proofs.Ytmpglinomjmogaa
open Go Go.RowKit

theorem avlLean_nil : avlLean .nil = 0 := by decide +kernel
end Go.Proofs.Ytmpglinomjmogaa
