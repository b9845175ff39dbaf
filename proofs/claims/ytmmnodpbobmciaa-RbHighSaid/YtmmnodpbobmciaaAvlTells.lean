/- The walk of joinerylaw14.AvlTells. -/
import Derived.Test.YtmmnodpbobmciaaShape
import Derived.Test.YtmmnodpbobmciaaRef14
namespace Go.Proofs.Ytmmnodpbobmciaa
open Go Go.RowKit

theorem avlLean_nil : avlLean .nil = 0 := by decide +kernel
end Go.Proofs.Ytmmnodpbobmciaa
