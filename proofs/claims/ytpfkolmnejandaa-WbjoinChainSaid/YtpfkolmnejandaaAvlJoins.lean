/- joinerylaw15.long, alive, and the walk of AvlJoins. -/
import Derived.Test.YtpfkolmnejandaaJoinTop
namespace Go.Proofs.Ytpfkolmnejandaa
open Go Go.RowKit

theorem AvlH.least : ∀ {T : Tr} {h : Nat}, AvlH T h → leastN h ≤ T.count
  | .nil, _, e => by rw [show _ = 0 from e]; exact Nat.le_refl _
  | .node b l k v g r, h, ⟨p, q, hp, hq, e, eg, h1, h2⟩ => by
    have l1 := AvlH.least hp
    have r1 := AvlH.least hq
    rw [Tr.count_node, e]
    rcases Nat.le_total p q with hh | hh
    · rw [Nat.max_eq_right hh]
      rcases Nat.eq_zero_or_pos q with h0 | h0
      · rw [h0]; show 1 ≤ _; omega
      · obtain ⟨z, rfl⟩ : ∃ z, q = z + 1 := ⟨q - 1, by omega⟩
        have := leastN_mono (a := z) (b := p) (by omega)
        rw [show 1 + (z + 1) = z + 2 by omega, leastN]
        omega
    · rw [Nat.max_eq_left hh]
      rcases Nat.eq_zero_or_pos p with h0 | h0
      · rw [h0]; show 1 ≤ _; omega
      · obtain ⟨z, rfl⟩ : ∃ z, p = z + 1 := ⟨p - 1, by omega⟩
        have := leastN_mono (a := z) (b := q) (by omega)
        rw [show 1 + (z + 1) = z + 2 by omega, leastN]
        omega
theorem AvlH.most : ∀ {T : Tr} {h : Nat}, AvlH T h → T.count + 1 ≤ 2 ^ h
  | .nil, _, e => by rw [show _ = 0 from e]; decide
  | .node b l k v g r, h, ⟨p, q, hp, hq, e, eg, h1, h2⟩ => by
    have l1 := AvlH.most hp
    have r1 := AvlH.most hq
    have l2 : 2 ^ p ≤ 2 ^ max p q := Nat.pow_le_pow_right (by decide) (by omega)
    have r2 : 2 ^ q ≤ 2 ^ max p q := Nat.pow_le_pow_right (by decide) (by omega)
    rw [Tr.count_node, e, Nat.add_comm 1, Nat.pow_succ]
    omega
/-- some tree that has been joined. -/
theorem join_facts {n : Nat} {l r T : Tr} {k v : Int} (h : JoinOk n l r k v T) : T.count = l.count + 1 + r.count ∧ T.size = wrap64 (T.count : Int) ∧ AvlH T T.ht := by
  obtain ⟨⟨x, h1, h2, h3⟩, h4, h5, h6, h7⟩ := h
  refine ⟨?_, T.size_count, by rw [h1.ht]; exact h1⟩
  rw [← Tr.kvs_count, h4, ← Tr.kvs_count, ← Tr.kvs_count]; simp; omega
theorem fits_avlMay : ∀ {t : BT} {A B : Tr}, t.fits A → t.fits B → avlMay A = avlMay B
  | .nil, .nil, .nil, _, _ => rfl
  | .nil, .node .., _, h, _ => h.elim
  | .nil, .nil, .node .., _, h => h.elim
  | .node .., .nil, _, h, _ => h.elim
  | .node .., .node .., .nil, _, h => h.elim
  | .node k v s n g l r, .node _ L _ _ _ R, .node _ L' _ _ _ R', h, h' => by
    rw [avlMay_node, avlMay_node, fits_avlMay h.2.2.2.1 h'.2.2.2.1, fits_avlMay h.2.2.2.2 h'.2.2.2.2]
    simp only [avlBadTag, avlBadTree, Tr.tag_node, Tr.left_node, Tr.right_node, ← BT.fits_tag h.2.2.2.1, ← BT.fits_tag h.2.2.2.2, ← BT.fits_tag h'.2.2.2.1, ← BT.fits_tag h'.2.2.2.2, ← h.2.2.1, ← h'.2.2.1]
/-- a row of beads of a tree that may be, and is not too long. -/
def Good (zs : List BeadL) (t : BT) : Prop := t.enc = zs ∧ zs.length ≤ 400 ∧ avlMay t.tr = true
/-- what is known of a tree that is made of such a row. -/
theorem good_tree {zs : List BeadL} {t : BT} {A : Tr} (hg : Good zs t) (hf : t.fits A) (hz : ∀ z ∈ zs, z.wf) : AvlH A A.ht ∧ A.ht ≤ 400 ∧ A.count ≤ 400 := by
  obtain ⟨rfl, h1, h2⟩ := hg
  have hc : A.count ≤ 400 := by unfold Tr.count; rw [BT.fits_len hf]; exact h1
  have := Tr.ht_count A
  exact ⟨AvlH.of_may (by rw [fits_avlMay hf t.tr_fits]; exact h2) (fits_tagsOk t A hf hz) (by omega), by omega, hc⟩
end Go.Proofs.Ytpfkolmnejandaa
