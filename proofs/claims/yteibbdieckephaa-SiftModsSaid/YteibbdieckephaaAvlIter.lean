/- The going over a tree, each node ahead of its sides (avl.beads). -/
import Derived.Test.YteibbdieckephaaDraw
import Derived.BigQuiet
namespace Go.Proofs.Yteibbdieckephaa
open Go Go.RowKit Go.Shelf
attribute [local go_sem] Oper.semAt_some

end Go.Proofs.Yteibbdieckephaa
