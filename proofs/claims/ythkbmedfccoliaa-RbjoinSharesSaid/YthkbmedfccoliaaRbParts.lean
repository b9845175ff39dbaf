/- The walk of joinerylaw16.RbParts. -/
import Derived.Test.YthkbmedfccoliaaRbMakes
namespace Go.Proofs.Ythkbmedfccoliaa
open Go Go.RowKit

theorem parts_law (bb : Nat) (A B : Tr) (k v : Int) (is : Bool) (hA : TagsOk A) (cA : A.count < 1000000) : rbPart (.node bb A k v (rbTag A is) B) = (rbPart A && rbPart B && (hi A == hi B) && !(is && (rbRed A || rbRed B))) := by
  rw [rbPart_node]
  cases hp : rbPart A with
  | false => simp
  | true =>
    obtain ⟨h0, h1, -, -⟩ := part_facts A hp hA cA
    have e1 : rbBadTag (.node bb A k v (rbTag A is) B) = false := by
      have et := rbTag_small h0 h1 is
      cases is with
      | true =>
        rw [et]
        simp only [rbBadTag, Tr.tag_node, Tr.left_node, if_true]
        have c1 : col (.node bb A k v (2 * hi A + 1) B) = 1 := by show (2 * hi A + 1) % 2 = 1; omega
        have c2 : hi (.node bb A k v (2 * hi A + 1) B) = hi A := by show (2 * hi A + 1) / 2 = hi A; omega
        rw [c1, c2]
        simp; omega
      | false =>
        simp only [rbBadTag, Tr.tag_node, Tr.left_node, bne_self_eq_false, Bool.and_false, Bool.or_false]
        rw [et, beq_eq_false_iff_ne]
        simp; omega
    have e2 : rbBadTree (.node bb A k v (rbTag A is) B) = (hi A != hi B || (is && (rbRed A || rbRed B))) := by
      have : (col (.node bb A k v (rbTag A is) B) == 1) = is := rbRed_make bb A k v is B
      simp only [rbBadTree, Tr.left_node, Tr.right_node, this]
      rfl
    have e3 : (rbOne (.node bb A k v (rbTag A is) B) == 0) = !(hi A != hi B || (is && (rbRed A || rbRed B))) := by
      unfold rbOne
      rw [e1, e2]
      cases (hi A != hi B || (is && (rbRed A || rbRed B))) <;> rfl
    rw [e3]
    have : (hi A == hi B) = !(hi A != hi B) := by show _ = !(!(hi A == hi B)); rw [Bool.not_not]
    rw [this]
    cases (hi A != hi B) <;> cases (is && (rbRed A || rbRed B)) <;> cases rbPart B <;> rfl
theorem may_black {T : Tr} {n : Nat} {u : Tr} (hp : rbPart T = true) (ho : TagsOk T) (hc : T.count < 1000000) (h : (rbRed T = false ∧ u = T) ∨ (rbRed T = true ∧ ∃ b, n ≤ b ∧ u = .node b T.left T.key T.val (IntKind.u64.wrap (T.tag + 1)) T.right)) : rbMay u = true := by
  rcases h with ⟨h1, rfl⟩ | ⟨h1, b, -, rfl⟩
  · unfold rbMay; rw [hp, h1]; rfl
  · cases T with
    | nil => rw [show rbRed .nil = false by decide +kernel] at h1; cases h1
    | node b' l k v g r =>
      obtain ⟨p1, p2, h0, hg, he, hr⟩ := rb_sides hp
      rw [Tr.count_node] at hc
      obtain ⟨l0, l1, -, -⟩ := part_facts l p1 ho.2.2.1 (by omega)
      have hodd : g % 2 = 1 := by
        have : (g % 2 == 1) = true := h1
        simpa using this
      have e : IntKind.u64.wrap (g + 1) = rbTag l false := by
        rw [rbTag_small l0 l1]
        have hgo := ho.2.1
        rcases hg with hg | hg
        · rw [u64_mod]; simp; omega
        · rw [u64_mod] at hg; omega
      simp only [Tr.left_node, Tr.right_node, Tr.key_node, Tr.val_node, Tr.tag_node]
      rw [e]
      unfold rbMay
      rw [parts_law b l r k v false ho.2.2.1 (by omega), rbRed_make, p1, p2, he]
      simp
end Go.Proofs.Ythkbmedfccoliaa
