/- avljoin: its sides, the turns, hang, Join, Most. -/
import Derived.Test.YtpfkolmnejandaaJoinLaw
import Derived.Test.YtpfkolmnejandaaDraw
namespace Go.Proofs.Ytpfkolmnejandaa
open Go Go.RowKit

/-- the functions of a side, as the code tells them. -/
def inF (s : Bool) : Nat := if s then 45 else 46
def outF (s : Bool) : Nat := if s then 46 else 45
theorem call_in (s : Bool) (a : Array Value) (w : World) : (callFunc (inF s) a).run Try.prog w = .ok (.enter (inF s) a) w := by cases s <;> kernel_rfl
theorem call_out (s : Bool) (a : Array Value) (w : World) : (callFunc (outF s) a).run Try.prog w = .ok (.enter (outF s) a) w := by cases s <;> kernel_rfl
theorem inS_any (s : Bool) (w : World) (t : Tr) (ht : InH w t) : Calls Try.prog (inF s) #[.pointer t.ptr] w (Ret (.pointer (inOf s t).ptr) w) := by
  cases s
  · exact right_any w t ht
  · exact left_any w t ht
theorem outS_any (s : Bool) (w : World) (t : Tr) (ht : InH w t) : Calls Try.prog (outF s) #[.pointer t.ptr] w (Ret (.pointer (outOf s t).ptr) w) := by
  cases s
  · exact left_any w t ht
  · exact right_any w t ht
theorem in_ok {w : World} {s : Bool} {t : Tr} (h : InH w t) : InH w (inOf s t) := by
  cases s
  · exact right_ok h
  · exact left_ok h
theorem out_ok {w : World} {s : Bool} {t : Tr} (h : InH w t) : InH w (outOf s t) := by
  cases s
  · exact left_ok h
  · exact right_ok h
/-- a new node of a side. -/
def NewS (s : Bool) (i : Tr) (k v : Int) (o : Tr) (w : World) (e : Ending) (w' : World) : Prop :=
  ∃ b, e = .returned (.pointer (mkN s b i k v (avlTag i o) o).ptr) ∧ w.heap.size ≤ b ∧ InH w' (mkN s b i k v (avlTag i o) o) ∧ Ext w w'
/-- what a turn inward hands back. -/
def Inw (s : Bool) (t : Tr) (w : World) (e : Ending) (w' : World) : Prop :=
  ∃ b3 b4 T3 T4, e = .returned (.pointer (T4 : Tr).ptr) ∧ w.heap.size ≤ b3 ∧ w.heap.size ≤ b4 ∧
    T3 = mkN s b3 (inOf s t) t.key t.val (avlTag (inOf s t) (inOf s (outOf s t))) (inOf s (outOf s t)) ∧
    T4 = mkN s b4 T3 (outOf s t).key (outOf s t).val (avlTag T3 (outOf s (outOf s t))) (outOf s (outOf s t)) ∧ InH w' T4 ∧ Ext w w'
/-- what a turn outward hands back. -/
def Outw (s : Bool) (t : Tr) (w : World) (e : Ending) (w' : World) : Prop :=
  ∃ b3 b4 T3 T4, e = .returned (.pointer (T4 : Tr).ptr) ∧ w.heap.size ≤ b3 ∧ w.heap.size ≤ b4 ∧
    T3 = mkN s b3 (outOf s (inOf s t)) t.key t.val (avlTag (outOf s (inOf s t)) (outOf s t)) (outOf s t) ∧
    T4 = mkN s b4 (inOf s (inOf s t)) (inOf s t).key (inOf s t).val (avlTag (inOf s (inOf s t)) T3) T3 ∧ InH w' T4 ∧ Ext w w'
end Go.Proofs.Ytpfkolmnejandaa
