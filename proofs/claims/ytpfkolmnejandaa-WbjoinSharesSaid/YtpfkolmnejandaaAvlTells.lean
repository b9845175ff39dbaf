/- The walk of joinerylaw14.AvlTells. -/
import Derived.Test.YtpfkolmnejandaaShape
import Derived.Test.YtpfkolmnejandaaRef14
namespace Go.Proofs.Ytpfkolmnejandaa
open Go Go.RowKit

theorem avlLean_nil : avlLean .nil = 0 := by decide +kernel
end Go.Proofs.Ytpfkolmnejandaa
