/- joineryref14: Tag, one, Check, May of a row of beads, as avl's own of the tree in memory. -/
import Derived.Test.YthkbmedfccoliaaBead3
namespace Go.Proofs.Ythkbmedfccoliaa
open Go Go.RowKit

theorem tag14_any (w : World) (p : Value) (t : BT) (hb : Beads w p t.enc) : Calls Try.prog 60 #[p] w (Ret (.int .u64 t.tag) w) := by
  rcases hb with ⟨h, a, c, rfl⟩ | ⟨b, o, c, rfl, hne, hc, hr⟩
  · cases t with
    | nil =>
      rw [show BT.nil.tag = 0 from rfl]
      go_enter Try.func60, Try.ntmps60
      go_wp2
      go_ret
      exact Ret.mk (Ext.refl _)
    | node => simp [BT.enc] at h
  · cases t with
    | nil => exact (hne rfl).elim
    | node k v s n g l r =>
      have hc4 : w.cell? ⟨b, o + 4, none⟩ = some (.int .u64 g) := by
        have := rangeAt_cell hr (i := 0) rfl (j := 4) rfl
        simpa using this
      have hlen : 1 ≤ (BT.node k v s n g l r).enc.length := by simp [BT.enc]
      rw [show (BT.node k v s n g l r).tag = g from rfl]
      clear hr hne
      generalize (BT.node k v s n g l r).enc.length = LL at *
      go_enter Try.func60, Try.ntmps60
      go_wp2
      go_ret
      exact Ret.mk (Ext.refl _)

/-- what is wrong with a tree's root. -/
def oneOf (T : Tr) : Int := if avlBadTag T then 140 else if avlBadTree T then 8 else 0
theorem avlFirst_le : ∀ l : List Tr, (avlFirst l).1 ≤ l.length
  | [] => by simp [avlFirst]
  | t :: l => by
    have := avlFirst_le l
    rw [avlFirst_cons]
    split
    · simp
    · split
      · simp
      · simp; omega
end Go.Proofs.Ythkbmedfccoliaa
