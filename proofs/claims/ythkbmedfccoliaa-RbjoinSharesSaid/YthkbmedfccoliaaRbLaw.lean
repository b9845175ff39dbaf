/- Plain facts of red-black trees; joinerylaw16.alive; the walks of RbTells and RbMakes. -/
import Derived.Test.YthkbmedfccoliaaRef16c
namespace Go.Proofs.Ythkbmedfccoliaa
open Go Go.RowKit

theorem rbPart_node (b : Nat) (l : Tr) (k v g : Int) (r : Tr) : rbPart (.node b l k v g r) = (rbOne (.node b l k v g r) == 0 && rbPart l && rbPart r) := mayOf_node b l k v g r
theorem rbOne_zero {T : Tr} : rbOne T = 0 ↔ rbBadTag T = false ∧ rbBadTree T = false := by
  unfold rbOne
  cases rbBadTag T <;> cases rbBadTree T <;> simp
theorem rb_sides {b : Nat} {l r : Tr} {k v g : Int} (h : rbPart (.node b l k v g r) = true) :
    rbPart l = true ∧ rbPart r = true ∧ g ≠ 0 ∧ (g = 2 * hi l + 1 ∨ g = IntKind.u64.wrap (2 * hi l + 2)) ∧ hi l = hi r ∧ (g % 2 = 1 → col l ≠ 1 ∧ col r ≠ 1) := by
  rw [rbPart_node] at h
  simp only [Bool.and_eq_true, beq_iff_eq] at h
  obtain ⟨⟨h1, h2⟩, h3⟩ := h
  obtain ⟨h4, h5⟩ := rbOne_zero.1 h1
  simp only [rbBadTag, Bool.or_eq_false_iff, Bool.and_eq_false_iff, Bool.not_eq_false', Bool.and_eq_true, beq_eq_false_iff_ne, beq_iff_eq, bne_eq_false_iff_eq, Tr.tag_node, Tr.left_node] at h4
  simp only [rbBadTree, Bool.or_eq_false_iff, Bool.and_eq_false_iff, beq_eq_false_iff_ne, bne_eq_false_iff_eq, Tr.left_node, Tr.right_node] at h5
  refine ⟨h2, h3, h4.1, ?_, h5.1, ?_⟩
  · rcases h4.2 with ⟨h6, h7⟩ | h6
    · left
      have e1 : g % 2 = 1 := h6
      have e2 : g / 2 = hi l := h7
      omega
    · right
      rw [h6]; rfl
  · intro hg
    rcases h5.2 with h6 | h6
    · exact absurd hg h6
    · exact h6
theorem col_01 (T : Tr) : col T = 0 ∨ col T = 1 := by unfold col; omega
theorem part_facts : ∀ T : Tr, rbPart T = true → TagsOk T → T.count < 1000000 → 0 ≤ hi T ∧ hi T < 100000000 ∧ (T.ht : Int) ≤ 2 * hi T + col T ∧ 2 ^ (hi T).toNat ≤ T.count + 1
  | .nil, _, _, _ => ⟨by decide, by decide, by decide, by decide⟩
  | .node b l k v g r, hp, ho, hc => by
    obtain ⟨p1, p2, h0, hg, he, hr⟩ := rb_sides hp
    rw [Tr.count_node] at hc ⊢
    obtain ⟨l0, -, l1, l2⟩ := part_facts l p1 ho.2.2.1 (by omega)
    obtain ⟨r0, -, r1, r2⟩ := part_facts r p2 ho.2.2.2 (by omega)
    have hlt : (hi l).toNat < 2 ^ (hi l).toNat := Nat.lt_two_pow_self
    rw [← he] at r1 r2
    have cl := col_01 l
    have cr := col_01 r
    have hcol : col (.node b l k v g r) = g % 2 := rfl
    have hhi : hi (.node b l k v g r) = g / 2 := rfl
    have hht : (Tr.node b l k v g r).ht = 1 + max l.ht r.ht := rfl
    rw [hcol, hhi, hht]
    rcases hg with hg | hg
    · have hc2 := hr (by omega)
      have e : g / 2 = hi l := by omega
      rw [e]
      refine ⟨l0, by omega, by omega, by omega⟩
    · rw [u64_mod] at hg
      have e : g / 2 = hi l + 1 := by omega
      rw [e]
      refine ⟨by omega, by omega, by omega, ?_⟩
      rw [show (hi l + 1).toNat = (hi l).toNat + 1 by omega, Nat.pow_succ]
      omega
theorem rbTag_small {l : Tr} (h0 : 0 ≤ hi l) (h1 : hi l < 100000000) (is : Bool) : rbTag l is = if is then 2 * hi l + 1 else 2 * hi l + 2 := by
  unfold rbTag
  rw [u64_mod]
  cases is <;> simp <;> omega
/-- what is made is red or black, as it was asked for. -/
theorem rbRed_make (b : Nat) (A : Tr) (k v : Int) (is : Bool) (B : Tr) : rbRed (.node b A k v (rbTag A is) B) = is := by
  have : rbRed (.node b A k v (rbTag A is) B) = (rbTag A is % 2 == 1) := rfl
  rw [this]
  unfold rbTag
  rw [u64_mod]
  cases is
  · rw [beq_eq_false_iff_ne]; simp
  · rw [beq_iff_eq]; simp
theorem black_of (k v s n g : Int) (l r : BT) : (BT.node k v s n g l r).of.black.enc = (BT.node k v s n (if g % 2 == 1 then IntKind.u64.wrap (g + 1) else g) l r).of.enc := by
  simp [BT.of, BT.black, BT.enc, sumL, BT.isNil]
end Go.Proofs.Ythkbmedfccoliaa
