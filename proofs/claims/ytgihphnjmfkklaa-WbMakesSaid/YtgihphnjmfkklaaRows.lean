/-
  No cell of these rows narrows 'for every input' (looked for: loops, veiled, ifaces, maps, wideKeys, modest, calm, conditions, laid).
  DERIVED. THE GIVEN ROWS OF THIS SEAT. 4 by the template 'for every input the law returns true; each argument reads behind the call as it read before'; 0 by the template 'total and deterministic' (their statements: YtgihphnjmfkklaaTotals.lean).
  GIVEN WITH THE SEED: the statements are not yours to turn. If you find one false, say at which input.
  Laid BY PROGRAM, IN A SANDBOX (cutbox-rows.mjs): the forced cells as the released guide's own fill.sh prints them over the translation cb78acc4357a5024… (all of the seat's roots in one cut). By AI agents, Wed Nov 11 2026. No macro, syntax, notation, axiom, sorry.
-/
import Derived.Test.YtgihphnjmfkklaaChecked
import GoSem.Claim
import GoSem.ClaimJoined
import GoSem.ClaimMapViews
import Derived.JoinedTies
import Derived.KernelRfl
namespace Go.Proofs.Ytgihphnjmfkklaa
/- THE CELL 'sum', in the pinned program and in every row, IS THE sha256 OF THE DUMP (.gsa) THAT YtgihphnjmfkklaaProg.lean LOADS. Nothing in Lean hashes anything: it is a label: what it is worth is what the hold of that sum in a sandbox is worth. -/
noncomputable def Try.pinned : Pinned := { name := "ytgihphnjmfkklaa", sum := "cb78acc4357a50245fc1ced0efc9036462b45bcd8b0cacc1c4ea7b3ce2e54448", checked := Try.checked }
namespace Rows
def none {H : Type} : Left H := { results := [], args := [] }

/-- 'joinerylaw18.WbTells': WHATEVER THE INPUT: true; the input reads as it did. -/
def wbTellsSpec : ChangeSpec := { name := "wbTells", fn := fun _ => fun
  | [d] => { results := [.lit (.bool true)], args := [d] }
  | _ => none }
def wbTellsRow : OpenClaim := { program := "ytgihphnjmfkklaa", sum := "cb78acc4357a50245fc1ced0efc9036462b45bcd8b0cacc1c4ea7b3ce2e54448", func := "joinery/joinerylaw18.WbTells", spec := "wbTells", recurses := true, apart := false }
def WbTellsSaid : Prop := wbTellsRow.holds Try.pinned (OpenSpec.ofChange wbTellsSpec)

/-- ITS FALSE NEIGHBOUR: 'it returns false'. Refute it at one input. -/
def wbTellsWrong : ChangeSpec := { name := "wbTells", fn := fun _ => fun
  | [d] => { results := [.lit (.bool false)], args := [d] }
  | _ => none }
def WbTellsWrongFalsely : Prop := wbTellsRow.holds Try.pinned (OpenSpec.ofChange wbTellsWrong)

/-- 'joinerylaw18.WbLikes': WHATEVER THE INPUT: true; the input reads as it did. -/
def wbLikesSpec : ChangeSpec := { name := "wbLikes", fn := fun _ => fun
  | [d1, d2] => { results := [.lit (.bool true)], args := [d1, d2] }
  | _ => none }
def wbLikesRow : OpenClaim := { program := "ytgihphnjmfkklaa", sum := "cb78acc4357a50245fc1ced0efc9036462b45bcd8b0cacc1c4ea7b3ce2e54448", func := "joinery/joinerylaw18.WbLikes", spec := "wbLikes", apart := false }
def WbLikesSaid : Prop := wbLikesRow.holds Try.pinned (OpenSpec.ofChange wbLikesSpec)

/-- ITS FALSE NEIGHBOUR: 'it returns false'. Refute it at one input. -/
def wbLikesWrong : ChangeSpec := { name := "wbLikes", fn := fun _ => fun
  | [d1, d2] => { results := [.lit (.bool false)], args := [d1, d2] }
  | _ => none }
def WbLikesWrongFalsely : Prop := wbLikesRow.holds Try.pinned (OpenSpec.ofChange wbLikesWrong)

/-- 'joinerylaw18.WbHigh': WHATEVER THE INPUT: true; the input reads as it did. -/
def wbHighSpec : ChangeSpec := { name := "wbHigh", fn := fun _ => fun
  | [d] => { results := [.lit (.bool true)], args := [d] }
  | _ => none }
def wbHighRow : OpenClaim := { program := "ytgihphnjmfkklaa", sum := "cb78acc4357a50245fc1ced0efc9036462b45bcd8b0cacc1c4ea7b3ce2e54448", func := "joinery/joinerylaw18.WbHigh", spec := "wbHigh", recurses := true, apart := false }
def WbHighSaid : Prop := wbHighRow.holds Try.pinned (OpenSpec.ofChange wbHighSpec)

/-- ITS FALSE NEIGHBOUR: 'it returns false'. Refute it at one input. -/
def wbHighWrong : ChangeSpec := { name := "wbHigh", fn := fun _ => fun
  | [d] => { results := [.lit (.bool false)], args := [d] }
  | _ => none }
def WbHighWrongFalsely : Prop := wbHighRow.holds Try.pinned (OpenSpec.ofChange wbHighWrong)

/-- 'joinerylaw18.WbMakes': WHATEVER THE INPUT: true; the input reads as it did. -/
def wbMakesSpec : ChangeSpec := { name := "wbMakes", fn := fun _ => fun
  | [d1, d2, d3, d4] => { results := [.lit (.bool true)], args := [d1, d2, d3, d4] }
  | _ => none }
def wbMakesRow : OpenClaim := { program := "ytgihphnjmfkklaa", sum := "cb78acc4357a50245fc1ced0efc9036462b45bcd8b0cacc1c4ea7b3ce2e54448", func := "joinery/joinerylaw18.WbMakes", spec := "wbMakes", recurses := true, apart := false }
def WbMakesSaid : Prop := wbMakesRow.holds Try.pinned (OpenSpec.ofChange wbMakesSpec)

/-- ITS FALSE NEIGHBOUR: 'it returns false'. Refute it at one input. -/
def wbMakesWrong : ChangeSpec := { name := "wbMakes", fn := fun _ => fun
  | [d1, d2, d3, d4] => { results := [.lit (.bool false)], args := [d1, d2, d3, d4] }
  | _ => none }
def WbMakesWrongFalsely : Prop := wbMakesRow.holds Try.pinned (OpenSpec.ofChange wbMakesWrong)

/- THE SECOND FORM. 'bulk': how many values and letters a reading holds, each counted each time it is reached (what is shared counts as often as it is met; a slice's spare places count too). A statement '..UptoSaid' is the law's where the arguments, and the package variables that the reading takes, are together of bulk at most 1048576: NARROWER than '..Said'. Prove '..Said' where nothing that the law and all that it calls make is longer than what came in: it says more and counts as full. Else prove '..UptoSaid'. A law counts once. -/
mutual
def uptoBulk {H : Type} : DataW H → Nat
  | .lit (.string bytes) => bytes.length + 1
  | .lit _ => 1
  | .nil => 1
  | .ptr d => uptoBulk d + 1
  | .slice elems spare => uptoBulkAll elems + uptoBulkAll spare + 1
  | .agg parts => uptoBulkAll parts + 1
  | .iface _ d => uptoBulk d + 1
  | .map entries => uptoBulkEntries entries + 1
  | .held _ => 1
def uptoBulkAll {H : Type} : List (DataW H) → Nat
  | [] => 0
  | d :: r => uptoBulk d + uptoBulkAll r
def uptoBulkEntries {H : Type} : List (Lit × DataW H) → Nat
  | [] => 0
  | x :: r => uptoBulkEntry x + uptoBulkEntries r
def uptoBulkEntry {H : Type} : Lit × DataW H → Nat
  | (.string bytes, d) => bytes.length + uptoBulk d + 1
  | (_, d) => uptoBulk d + 1
 end
def uptoSmall : (H : Type) → List (DataW H) → Bool := fun _ ds => decide (uptoBulkAll ds ≤ 1048576)
def OpenSpec.upto (s : _root_.Go.ChangeSpec) : _root_.Go.OpenSpec := { _root_.Go.OpenSpec.ofChange s with cond := some uptoSmall }

/-- 'joinerylaw18.WbTells', WHERE WHAT IT READS IS OF BULK AT MOST 1048576: true; the input reads as it did. -/
def wbTellsUptoRow : OpenClaim := { program := "ytgihphnjmfkklaa", sum := "cb78acc4357a50245fc1ced0efc9036462b45bcd8b0cacc1c4ea7b3ce2e54448", func := "joinery/joinerylaw18.WbTells", spec := "wbTells", recurses := true, apart := false, narrowed := true }
def WbTellsUptoSaid : Prop := wbTellsUptoRow.holds Try.pinned (OpenSpec.upto wbTellsSpec)

/-- 'joinerylaw18.WbLikes', WHERE WHAT IT READS IS OF BULK AT MOST 1048576: true; the input reads as it did. -/
def wbLikesUptoRow : OpenClaim := { program := "ytgihphnjmfkklaa", sum := "cb78acc4357a50245fc1ced0efc9036462b45bcd8b0cacc1c4ea7b3ce2e54448", func := "joinery/joinerylaw18.WbLikes", spec := "wbLikes", apart := false, narrowed := true }
def WbLikesUptoSaid : Prop := wbLikesUptoRow.holds Try.pinned (OpenSpec.upto wbLikesSpec)

/-- 'joinerylaw18.WbHigh', WHERE WHAT IT READS IS OF BULK AT MOST 1048576: true; the input reads as it did. -/
def wbHighUptoRow : OpenClaim := { program := "ytgihphnjmfkklaa", sum := "cb78acc4357a50245fc1ced0efc9036462b45bcd8b0cacc1c4ea7b3ce2e54448", func := "joinery/joinerylaw18.WbHigh", spec := "wbHigh", recurses := true, apart := false, narrowed := true }
def WbHighUptoSaid : Prop := wbHighUptoRow.holds Try.pinned (OpenSpec.upto wbHighSpec)

/-- 'joinerylaw18.WbMakes', WHERE WHAT IT READS IS OF BULK AT MOST 1048576: true; the input reads as it did. -/
def wbMakesUptoRow : OpenClaim := { program := "ytgihphnjmfkklaa", sum := "cb78acc4357a50245fc1ced0efc9036462b45bcd8b0cacc1c4ea7b3ce2e54448", func := "joinery/joinerylaw18.WbMakes", spec := "wbMakes", recurses := true, apart := false, narrowed := true }
def WbMakesUptoSaid : Prop := wbMakesUptoRow.holds Try.pinned (OpenSpec.upto wbMakesSpec)

end Rows
end Go.Proofs.Ytgihphnjmfkklaa
