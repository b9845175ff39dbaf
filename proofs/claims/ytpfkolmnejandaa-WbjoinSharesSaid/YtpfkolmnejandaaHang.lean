/- avljoin: hang, Join, Most. -/
import Derived.Test.YtpfkolmnejandaaJoin
namespace Go.Proofs.Ytpfkolmnejandaa
open Go Go.RowKit

/-- what hang hands back. -/
def Hangs (n : Nat) (s : Bool) (t low : Tr) (k v : Int) (w : World) (e : Ending) (w' : World) : Prop :=
  ∃ T : Tr, e = .returned (.pointer T.ptr) ∧ HangOk n s t low k v T ∧ InH w' T ∧ Ext w w'
theorem avl_ne {T : Tr} {q : Nat} (h : AvlH T q) (hq : 0 < q) : T ≠ .nil := fun e => by
  rw [e] at h
  have : q = 0 := h
  omega
end Go.Proofs.Ytpfkolmnejandaa
