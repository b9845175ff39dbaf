/- The going over a tree, each node ahead of its sides (avl.beads). -/
import Derived.Test.YtmmnodpbobmciaaDraw
import Derived.BigQuiet
namespace Go.Proofs.Ytmmnodpbobmciaa
open Go Go.RowKit Go.Shelf
attribute [local go_sem] Oper.semAt_some

end Go.Proofs.Ytmmnodpbobmciaa
