/- Plain facts of AVL trees; least trees; the examples of layer 14. -/
import Derived.Test.YtkbndpemljommaaAvlChk2
namespace Go.Proofs.Ytkbndpemljommaa
open Go Go.RowKit

theorem avlFirst_cons (t : Tr) (r : List Tr) : avlFirst (t :: r) = if avlBadTag t then (0, 140) else if avlBadTree t then (0, 8) else ((avlFirst r).1 + 1, (avlFirst r).2) := rfl
theorem avlFirst_none : ∀ {l : List Tr}, (avlFirst l).2 = 0 → (avlFirst l).1 = l.length ∧ ∀ t ∈ l, avlBadTag t = false ∧ avlBadTree t = false
  | [], _ => by simp [avlFirst]
  | t :: l, h => by
    unfold avlFirst at h ⊢
    split at h
    · simp at h
    · split at h
      · simp at h
      · rename_i h1 h2
        have := avlFirst_none (l := l) h
        refine ⟨by simp [h1, h2, this.1], ?_⟩
        intro x hx
        rcases List.mem_cons.1 hx with rfl | hx
        · exact ⟨by simpa using h1, by simpa using h2⟩
        · exact this.2 x hx
theorem avlFirst_append (a b : List Tr) : avlFirst (a ++ b) = if (avlFirst a).2 = 0 then (a.length + (avlFirst b).1, (avlFirst b).2) else avlFirst a := by
  induction a with
  | nil => simp [avlFirst]
  | cons t a ih =>
    rw [List.cons_append, avlFirst_cons, avlFirst_cons]
    by_cases h1 : avlBadTag t = true
    · simp [h1]
    · by_cases h2 : avlBadTree t = true
      · simp [h1, h2]
      · simp only [h1, h2, ih]
        by_cases h3 : (avlFirst a).2 = 0
        · simp [h3]; omega
        · simp [h3]

/-- a tree that may be is one whose root is right, and both sides may be. -/
theorem avlMay_node (b : Nat) (l : Tr) (k v g : Int) (r : Tr) : avlMay (.node b l k v g r) = (!avlBadTag (.node b l k v g r) && !avlBadTree (.node b l k v g r) && avlMay l && avlMay r) := by
  unfold avlMay
  simp only [Tr.pre]
  rw [avlFirst_cons]
  by_cases h1 : avlBadTag (.node b l k v g r) = true
  · simp [h1]
  · by_cases h2 : avlBadTree (.node b l k v g r) = true
    · simp [h1, h2]
    · simp only [h1, h2, avlFirst_append]
      by_cases h3 : (avlFirst l.pre).2 = 0 <;> simp [h3]
theorem avlMay_nil : avlMay .nil = true := rfl

/-- a tree's number of nodes. -/
def Tr.count (t : Tr) : Nat := t.pre.length
theorem Tr.count_node (b : Nat) (l : Tr) (k v g : Int) (r : Tr) : (Tr.node b l k v g r).count = l.count + 1 + r.count := by simp [Tr.count, Tr.pre]; omega
theorem Tr.size_count : ∀ t : Tr, t.size = wrap64 t.count
  | .nil => by simp [Tr.size, Tr.count, Tr.pre, wrap64]
  | .node b l k v g r => by
    rw [Tr.size, Tr.size_count l, Tr.size_count r, Tr.count_node]
    have e : ((l.count + 1 + r.count : Nat) : Int) = (l.count : Int) + 1 + (r.count : Int) := by omega
    rw [e]
    unfold wrap64
    omega

/-- the least tree of a height, wherever its nodes lie. -/
def IsLeast : Nat → Tr → Prop
  | 0, t => t = .nil
  | 1, t => ∃ b, t = .node b .nil 1 1 (avlTag .nil .nil) .nil
  | k + 2, t => ∃ b l r, t = .node b l (k + 2) 1 (avlTag l r) r ∧ IsLeast k l ∧ IsLeast (k + 1) r
def leastN : Nat → Nat
  | 0 => 0
  | 1 => 1
  | k + 2 => leastN k + leastN (k + 1) + 1
theorem u64_small {a : Int} (h0 : 0 ≤ a) (h1 : a < 18446744073709551616) : IntKind.u64.wrap a = a := by
  have : (2 : Int) ^ 64 = 18446744073709551616 := by decide
  simp only [IntKind.wrap, IntKind.bits, IntKind.signed, this]
  simp
  omega
theorem isLeast_all : ∀ (k : Nat) (t : Tr), k < 1000000 → IsLeast k t → t.tag = k ∧ avlMay t = true ∧ t.count = leastN k
  | 0, t, _, h => by obtain rfl : t = .nil := h; exact ⟨rfl, rfl, rfl⟩
  | 1, t, _, h => by
    obtain ⟨b, rfl⟩ := h
    have e : avlTag .nil .nil = 1 := by decide
    rw [e]
    exact ⟨rfl, by rw [avlMay_node, show avlBadTag (.node b .nil 1 1 1 .nil) = false from rfl, show avlBadTree (.node b .nil 1 1 1 .nil) = false from rfl]; rfl, rfl⟩
  | k + 2, t, hk, h => by
    obtain ⟨b, l, r, rfl, hl, hr⟩ := h
    obtain ⟨l1, l2, l3⟩ := isLeast_all k l (by omega) hl
    obtain ⟨r1, r2, r3⟩ := isLeast_all (k + 1) r (by omega) hr
    have e : avlTag l r = k + 2 := by
      unfold avlTag
      rw [l1, r1, Int.max_eq_right (by omega), u64_small (by omega) (by omega)]
      omega
    refine ⟨e, ?_, by rw [Tr.count_node, l3, r3, leastN]; omega⟩
    rw [avlMay_node, l2, r2, e]
    have hm : max l.tag r.tag = k + 1 := by rw [l1, r1, Int.max_eq_right (by omega)]; rfl
    have hn : min l.tag r.tag = k := by rw [l1, r1, Int.min_eq_left (by omega)]
    have e1 : avlBadTag (.node b l (k + 2) 1 (k + 2) r) = false := by
      simp only [avlBadTag, Tr.tag_node, Tr.left_node, Tr.right_node, hm]
      rw [u64_small (by omega) (by omega)]
      simp; omega
    have e2 : avlBadTree (.node b l (k + 2) 1 (k + 2) r) = false := by
      simp only [avlBadTree, Tr.left_node, Tr.right_node, hm, hn]
      rw [u64_small (by omega) (by omega)]
      simp; omega
    rw [e1, e2]
    rfl
end Go.Proofs.Ytkbndpemljommaa
