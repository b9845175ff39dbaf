/- Rows of beads that a call owns: append onto them. -/
import Derived.Test.YteibbdieckephaaBead2
import Derived.Maps.AppendAt
import Derived.Deep.Upon
namespace Go.Proofs.Yteibbdieckephaa
open Go Go.RowKit

theorem beadCells_one : ∀ (zs : List BeadL), ∀ u ∈ beadCells zs, u.oneCell' = true
  | [], u, h => by simp [beadCells] at h
  | z :: zs, u, h => by
    rw [beadCells, List.flatMap_cons, List.mem_append] at h
    rcases h with h | h
    · simp only [BeadL.cells, List.mem_cons, List.not_mem_nil, or_false] at h
      rcases h with rfl | rfl | rfl | rfl | rfl | rfl | rfl <;> rfl
    · exact beadCells_one zs u h
theorem beadCells_append (a b : List BeadL) : beadCells (a ++ b) = beadCells a ++ beadCells b := by simp [beadCells]
section
variable {F : Fence} {n : Nat} {ops : Array Oper} {rest : List Oper} {o : Oper} {a : Act} {Q : Exit → Act → World → Prop}
end
/-- beads with their sizes and sums. -/
def sumL (zs : List BeadL) : Int := zs.foldl (fun n z => wrap64 (n + z.val)) 0
def BT.of : BT → BT
  | .nil => .nil
  | .node k v s n g l r => .node k v (sumL (BT.node k v s n g l r).enc) (BT.node k v s n g l r).enc.length g l.of r.of
end Go.Proofs.Yteibbdieckephaa
