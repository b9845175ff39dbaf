/- joinerylaw14.height, and the walk of joinerylaw14.AvlHigh. -/
import Derived.Test.YtkbndpemljommaaAvlTells
namespace Go.Proofs.Ytkbndpemljommaa
open Go Go.RowKit

/-- a tree's height, while it is no higher than a bound; -1 else. -/
def heightN : Nat → Tr → Int
  | _, .nil => 0
  | 0, .node .. => -1
  | k + 1, .node _ l _ _ _ r => if heightN k l < 0 ∨ heightN k r < 0 then -1 else 1 + max (heightN k l) (heightN k r)
theorem heightN_le : ∀ (k : Nat) (t : Tr), -1 ≤ heightN k t ∧ heightN k t ≤ k
  | k, .nil => by unfold heightN; omega
  | 0, .node .. => by unfold heightN; omega
  | k + 1, .node b l _ _ _ r => by
    have h1 := heightN_le k l
    have h2 := heightN_le k r
    unfold heightN
    split <;> omega
theorem heightN_ht : ∀ (k : Nat) (t : Tr), t.ht ≤ k → heightN k t = t.ht
  | k, .nil, _ => by unfold heightN; rfl
  | 0, .node .., h => by simp [Tr.ht] at h
  | k + 1, .node b l _ _ _ r, h => by
    rw [Tr.ht] at h
    have h1 := heightN_ht k l (by omega)
    have h2 := heightN_ht k r (by omega)
    unfold heightN
    rw [h1, h2, if_neg (by omega), Tr.ht]
    omega
theorem leastN_step : ∀ k : Nat, leastN k ≤ leastN (k + 1)
  | 0 => by decide
  | k + 1 => by rw [leastN]; omega
theorem leastN_mono {a b : Nat} (h : a ≤ b) : leastN a ≤ leastN b := by
  induction b with
  | zero => obtain rfl : a = 0 := by omega
            exact Nat.le_refl _
  | succ b ih =>
    rcases Nat.lt_or_ge a (b + 1) with h1 | h1
    · exact Nat.le_trans (ih (by omega)) (leastN_step b)
    · obtain rfl : a = b + 1 := by omega
      exact Nat.le_refl _
theorem may_ht : ∀ t : Tr, avlMay t = true → TagsOk t → t.count < 1000000 → t.tag = t.ht ∧ leastN t.ht ≤ t.count ∧ (t ≠ .nil → max t.left.ht t.right.ht ≤ min t.left.ht t.right.ht + 1)
  | .nil, _, _, _ => ⟨rfl, Nat.le_refl _, fun h => (h rfl).elim⟩
  | .node b l k v g r, hm, ho, hc => by
    rw [avlMay_node] at hm
    simp only [Bool.and_eq_true, Bool.not_eq_true'] at hm
    obtain ⟨⟨⟨m1, m2⟩, m3⟩, m4⟩ := hm
    obtain ⟨o1, o2, o3, o4⟩ := ho
    rw [Tr.count_node] at hc
    obtain ⟨l1, l2, -⟩ := may_ht l m3 o3 (by omega)
    obtain ⟨r1, r2, -⟩ := may_ht r m4 o4 (by omega)
    have hl := Tr.ht_count l
    have hr := Tr.ht_count r
    simp only [avlBadTag, Tr.tag_node, Tr.left_node, Tr.right_node, l1, r1, Bool.or_eq_false_iff, beq_eq_false_iff_ne, bne_eq_false_iff_eq] at m1
    simp only [avlBadTree, Tr.left_node, Tr.right_node, l1, r1, decide_eq_false_iff_not] at m2
    have e1 := u64_small (a := g - 1) (by omega) (by omega)
    rw [e1] at m1
    have e2 := u64_small (a := max (l.ht : Int) (r.ht : Int) - min (l.ht : Int) (r.ht : Int)) (by omega) (by omega)
    rw [e2] at m2
    rw [Tr.tag_node, Tr.ht, Tr.count_node, Tr.left_node, Tr.right_node]
    refine ⟨by omega, ?_, fun _ => by omega⟩
    rcases Nat.le_total l.ht r.ht with h | h
    · rw [Nat.max_eq_right h]
      rcases Nat.eq_zero_or_pos r.ht with h0 | h0
      · rw [h0]; show 1 ≤ _; omega
      · obtain ⟨q, hq⟩ : ∃ q, r.ht = q + 1 := ⟨r.ht - 1, by omega⟩
        have := leastN_mono (a := q) (b := l.ht) (by omega)
        rw [hq] at r2 ⊢
        rw [show 1 + (q + 1) = q + 2 by omega, leastN]
        omega
    · rw [Nat.max_eq_left h]
      rcases Nat.eq_zero_or_pos l.ht with h0 | h0
      · rw [h0]; show 1 ≤ _; omega
      · obtain ⟨q, hq⟩ : ∃ q, l.ht = q + 1 := ⟨l.ht - 1, by omega⟩
        have := leastN_mono (a := q) (b := r.ht) (by omega)
        rw [hq] at l2 ⊢
        rw [show 1 + (q + 1) = q + 2 by omega, leastN]
        omega
theorem avlMay_sides : ∀ {t : Tr}, avlMay t = true → avlMay t.left = true ∧ avlMay t.right = true
  | .nil, _ => ⟨rfl, rfl⟩
  | .node b l k v g r, hm => by
    rw [avlMay_node] at hm
    simp only [Bool.and_eq_true] at hm
    exact ⟨hm.1.2, hm.2⟩
theorem avlHigh_law (T : Tr) (hm : avlMay T = true) (ho : TagsOk T) (hc : T.count ≤ 400) :
    ∃ h : Nat, heightN 500 T = h ∧ wrap64 T.tag = h ∧ h ≤ 12 ∧ (leastN h : Int) ≤ T.size ∧ avlMay T.left = true ∧ avlMay T.right = true ∧ -1 ≤ avlLean T ∧ avlLean T ≤ 1 := by
  obtain ⟨h1, h2, h3⟩ := may_ht T hm ho (by omega)
  have h4 := Tr.ht_count T
  have hs : T.size = T.count := by rw [Tr.size_count]; unfold wrap64; omega
  refine ⟨T.ht, heightN_ht 500 T (by omega), ?_, ?_, ?_, (avlMay_sides hm).1, (avlMay_sides hm).2, ?_⟩
  · rw [h1]; unfold wrap64; omega
  · rcases Nat.lt_or_ge 12 T.ht with h | h
    · have := leastN_mono (a := 13) (b := T.ht) h
      have e : leastN 13 = 609 := by decide
      omega
    · exact h
  · rw [hs]; omega
  · cases T with
    | nil => rw [avlLean_nil]; omega
    | node b l k v g r =>
      have h5 := h3 (by simp)
      rw [avlMay_node] at hm
      simp only [Bool.and_eq_true] at hm
      obtain ⟨⟨⟨m1, m2⟩, m3⟩, m4⟩ := hm
      obtain ⟨o1, o2, o3, o4⟩ := ho
      rw [Tr.count_node] at hc
      obtain ⟨l1, -, -⟩ := may_ht l m3 o3 (by omega)
      obtain ⟨r1, -, -⟩ := may_ht r m4 o4 (by omega)
      have hl := Tr.ht_count l
      have hr := Tr.ht_count r
      simp only [Tr.left_node, Tr.right_node] at h5
      have e : ∀ a : Int, -1 ≤ a → a ≤ 1 → -1 ≤ wrap64 (IntKind.u64.wrap a) ∧ wrap64 (IntKind.u64.wrap a) ≤ 1 := by
        intro a ha hb
        have : a = -1 ∨ a = 0 ∨ a = 1 := by omega
        rcases this with rfl | rfl | rfl <;> decide +kernel
      unfold avlLean
      rw [Tr.left_node, Tr.right_node, l1, r1]
      exact e _ (by omega) (by omega)
end Go.Proofs.Ytkbndpemljommaa
