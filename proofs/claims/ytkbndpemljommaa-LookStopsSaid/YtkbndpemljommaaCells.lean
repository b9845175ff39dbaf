/- A block of three cells. -/
import Derived.Test.YtkbndpemljommaaIter
namespace Go.Proofs.Ytkbndpemljommaa
open Go Go.RowKit

theorem blk3 {w : World} {N : Nat} {x y z : Value} {t : TypeId} (h : w.heap[N]? = some (.cells #[x, y, z] t (0, 0))) : w.cell? ⟨N, 0, none⟩ = some x ∧ w.cell? ⟨N, 1, none⟩ = some y ∧ w.cell? ⟨N, 2, none⟩ = some z ∧ ∀ i, w.frozen? ⟨N, i, none⟩ = false :=
  ⟨cell_of h 0, cell_of h 1, cell_of h 2, frozen_of h⟩
end Go.Proofs.Ytkbndpemljommaa
