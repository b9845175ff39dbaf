/- joineryref09.Same at equal rows; joinerylaw09.see, See, Is. -/
import Derived.Test.YtkbndpemljommaaOf
import Derived.Test.YtkbndpemljommaaBead3
namespace Go.Proofs.Ytkbndpemljommaa
open Go Go.RowKit

/-- a node's bead, as its tree tells it. -/
def Tr.bead (t : Tr) : BeadL := ⟨t.key, t.val, t.sum, t.size, t.tag, t.left.ptr.isSome, t.right.ptr.isSome⟩
def Tr.beads (t : Tr) : List BeadL := t.pre.map Tr.bead
def Tr.high : Tr → Nat
  | .nil => 0
  | .node _ l _ _ _ r => 1 + max l.high r.high
theorem Tr.high_le : ∀ t : Tr, t.high ≤ t.pre.length
  | .nil => by simp [Tr.high]
  | .node b l k v g r => by
    have h1 := Tr.high_le l
    have h2 := Tr.high_le r
    simp [Tr.high, Tr.pre]
    omega
/-- what see hands back. -/
def Sees (zs : List BeadL) (w0 : World) (e : Ending) (w' : World) : Prop := ∃ v, e = .returned (.tuple #[v, .bool true]) ∧ Own w0.heap.size w' v zs ∧ Ext w0 w'
/-- the values together. -/
def tot (zs : List BeadL) : Int := (zs.map BeadL.val).sum
theorem sumL_from (zs : List BeadL) : ∀ a : Int, zs.foldl (fun n z => wrap64 (n + z.val)) (wrap64 a) = wrap64 (a + tot zs) := by
  induction zs with
  | nil => intro a; simp [tot]
  | cons z zs ih =>
    intro a
    rw [List.foldl_cons, show wrap64 (wrap64 a + z.val) = wrap64 (a + z.val) by unfold wrap64; omega, ih]
    simp [tot, Int.add_assoc]
theorem sumL_tot (zs : List BeadL) : sumL zs = wrap64 (tot zs) := by
  have := sumL_from zs 0
  rw [show wrap64 0 = 0 by decide +kernel] at this
  unfold sumL
  rw [this, Int.zero_add]
theorem tot_append (a b : List BeadL) : tot (a ++ b) = tot a + tot b := by simp [tot]
theorem wrap_add (x y : Int) : wrap64 (wrap64 x + y) = wrap64 (x + y) := by unfold wrap64; omega
theorem wrap_three (a v b : Int) : wrap64 (wrap64 (wrap64 a + v) + wrap64 b) = wrap64 (a + v + b) := by
  rw [wrap_add a v, wrap_add (a + v), Int.add_comm (a + v), wrap_add b, Int.add_comm b]
theorem fits_sum : ∀ {t : BT} {T : Tr}, t.fits T → T.sum = wrap64 (tot t.enc) ∧ T.size = wrap64 t.enc.length
  | .nil, .nil, _ => ⟨by simp [Tr.sum, BT.enc, tot, wrap64], by simp [Tr.size, BT.enc, wrap64]⟩
  | .nil, .node .., h => h.elim
  | .node .., .nil, h => h.elim
  | .node k v s n g l r, .node b L k' v' g' R, h => by
    have h1 := fits_sum h.2.2.2.1
    have h2 := fits_sum h.2.2.2.2
    rw [Tr.sum, Tr.size, h1.1, h1.2, h2.1, h2.2]
    have e1 : tot (BT.node k v s n g l r).enc = v + (tot l.enc + tot r.enc) := by
      rw [← tot_append]; simp [BT.enc, tot]
    have e2 : ((BT.node k v s n g l r).enc.length : Int) = 1 + l.enc.length + r.enc.length := by simp [BT.enc]; omega
    rw [e1, e2, ← h.2.1, wrap_three, wrap_three]
    exact ⟨by congr 1; omega, by congr 1; omega⟩
theorem fits_some : ∀ {t : BT} {T : Tr}, t.fits T → T.ptr.isSome = !t.isNil
  | .nil, .nil, _ => rfl
  | .nil, .node .., h => h.elim
  | .node .., .nil, h => h.elim
  | .node .., .node .., _ => rfl
/-- a tree tells the beads that it was made of, with sizes and sums. -/
theorem fits_beads : ∀ {t : BT} {T : Tr}, t.fits T → t.enc.length ≤ 10000 → T.beads = t.of.enc
  | .nil, .nil, _, _ => rfl
  | .nil, .node .., h, _ => h.elim
  | .node .., .nil, h, _ => h.elim
  | .node k v s n g l r, .node b L k' v' g' R, h, hl => by
    have hl' : (BT.node k v s n g l r).enc.length = 1 + l.enc.length + r.enc.length := by simp [BT.enc]; omega
    have h1 := fits_beads h.2.2.2.1 (by omega)
    have h2 := fits_beads h.2.2.2.2 (by omega)
    have h3 := fits_sum h
    have e1 : (Tr.node b L k' v' g' R).beads = (Tr.node b L k' v' g' R).bead :: (L.beads ++ R.beads) := by simp [Tr.beads, Tr.pre]
    rw [e1, h1, h2]
    show _ = BeadL.mk _ _ _ _ _ (!l.of.isNil) (!r.of.isNil) :: (l.of.enc ++ r.of.enc)
    rw [BT.of_isNil, BT.of_isNil, ← fits_some h.2.2.2.1, ← fits_some h.2.2.2.2, sumL_tot, ← h3.1]
    have e3 : (Tr.node b L k' v' g' R).size = (BT.node k v s n g l r).enc.length := by
      rw [h3.2]; unfold wrap64; omega
    rw [← e3, h.1, h.2.1, h.2.2.1]
    rfl
end Go.Proofs.Ytkbndpemljommaa
