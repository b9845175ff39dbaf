/- The going over a tree, each node ahead of its sides (avl.beads). -/
import Derived.Test.YtkbndpemljommaaDraw
import Derived.BigQuiet
namespace Go.Proofs.Ytkbndpemljommaa
open Go Go.RowKit Go.Shelf
attribute [local go_sem] Oper.semAt_some

end Go.Proofs.Ytkbndpemljommaa
