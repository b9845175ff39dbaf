/- The walk of joinerylaw16.RbMakes. -/
import Derived.Test.YthkbmedfccoliaaRbLaw
namespace Go.Proofs.Ythkbmedfccoliaa
open Go Go.RowKit

theorem tags_make {A B : Tr} {k v : Int} (bb : Nat) (is : Bool) (hA : TagsOk A) (hB : TagsOk B) : TagsOk (.node bb A k v (rbTag A is) B) := by
  refine ⟨?_, ?_, hA, hB⟩
  · unfold rbTag; rw [u64_mod]; omega
  · unfold rbTag; rw [u64_mod]; omega
end Go.Proofs.Ythkbmedfccoliaa
