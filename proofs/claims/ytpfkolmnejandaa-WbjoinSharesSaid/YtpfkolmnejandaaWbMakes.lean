/- The walk of joinerylaw18.WbMakes. -/
import Derived.Test.YtpfkolmnejandaaWbTells
namespace Go.Proofs.Ytpfkolmnejandaa
open Go Go.RowKit

theorem wbMakes_law (bb : Nat) (A B : Tr) (k v : Int) : wbMay (.node bb A k v 0 B) = (wbMay A && wbMay B && likeB (wt A) (wt B)) := by
  rw [wbMay_node]
  have e : wbOne (.node bb A k v 0 B) = if likeB (wt A) (wt B) then 0 else 8 := rfl
  rw [e]
  cases likeB (wt A) (wt B) <;> cases wbMay A <;> cases wbMay B <;> rfl
end Go.Proofs.Ytpfkolmnejandaa
