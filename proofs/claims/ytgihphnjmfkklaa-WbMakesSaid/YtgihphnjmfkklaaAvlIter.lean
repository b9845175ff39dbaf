/- The going over a tree, each node ahead of its sides (avl.beads). -/
import Derived.Test.YtgihphnjmfkklaaDraw
import Derived.BigQuiet
namespace Go.Proofs.Ytgihphnjmfkklaa
open Go Go.RowKit Go.Shelf
attribute [local go_sem] Oper.semAt_some

end Go.Proofs.Ytgihphnjmfkklaa
