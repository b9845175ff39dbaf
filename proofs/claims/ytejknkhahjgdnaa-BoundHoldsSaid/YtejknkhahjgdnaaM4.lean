/- Trees in memory and trees of beads: height, pairs, sides, and what one tells of the other (plain). joineryref14: Tag, one, Check, May of a row of beads, as avl's own of the tree in memory. The walk of joinerylaw14.AvlTells. joinerylaw14.height, and the walk of joinerylaw14.AvlHigh. AVL trees by their heights; a side of a node; what becomes of a tree on whose outer side another one hangs (plain, no program). A pointer to a node is itself. The package rb, but for what goes over a tree. rb.one: what is wrong with a node. The first tree of a row with which something is wrong (plain); rows of pointers to nodes that a call owns. The going over a tree, each node ahead of its sides, and what is wrong with it (rb.wrong). rb.wrong, rb.first, Check, Part, May, Rank. joineryref16. joineryref16: parts, Part, Check, May, Make, Blacken, Rank; rb.Rank. joineryref16: Blacken, Rank; rb.Rank. Plain facts of red-black trees; joinerylaw16.alive; the walks of RbTells and RbMakes. The walk of joinerylaw16.RbMakes. The walk of joinerylaw16.RbParts. Red-black trees by their black heights; what becomes of a tree on whose outer side another one hangs (plain, no program). -/
import Derived.Test.YtejknkhahjgdnaaM3
import Derived.LaidEqlPtr
import Derived.BigQuiet
import Derived.Maps.AppendAt
import Derived.Deep.Upon
import Derived.Deep.MidRow
namespace Go.Proofs.Ytejknkhahjgdnaa
open Go Go.RowKit

/-- every tag fits uint64. -/
def TagsOk : Tr → Prop
  | .nil => True
  | .node _ l _ _ g r => 0 ≤ g ∧ g < 18446744073709551616 ∧ TagsOk l ∧ TagsOk r
theorem fits_tagsOk : ∀ (t : BT) (T : Tr), t.fits T → (∀ z ∈ t.enc, z.wf) → TagsOk T
  | .nil, .nil, _, _ => trivial
  | .nil, .node .., h, _ => h.elim
  | .node .., .nil, h, _ => h.elim
  | .node k v s n g l r, .node b L k' v' g' R, h, hz => by
    have h0 := hz _ (List.mem_cons_self ..)
    have h1 := h0.2.2.2.2
    simp [Lit.wf, IntKind.min, IntKind.max, IntKind.signed, IntKind.bits] at h1
    rw [h.2.2.1] at h1
    exact ⟨by omega, by omega, fits_tagsOk l L h.2.2.2.1 (fun z hz' => hz z (by simp [BT.enc, hz'])), fits_tagsOk r R h.2.2.2.2 (fun z hz' => hz z (by simp [BT.enc, hz']))⟩
/-- the height of a tree. -/
def Tr.ht : Tr → Nat
  | .nil => 0
  | .node _ l _ _ _ r => 1 + max l.ht r.ht
theorem Tr.ht_count : ∀ t : Tr, t.ht ≤ t.count
  | .nil => by simp [Tr.ht, Tr.count, Tr.pre]
  | .node b l k v g r => by
    have h1 := Tr.ht_count l
    have h2 := Tr.ht_count r
    rw [Tr.ht, Tr.count_node]
    omega
/-- what Long says no to is a tree. -/
theorem long_tree {zs : List BeadL} (h : (decide (400 < zs.length) || !mayB zs) = false) : zs.length ≤ 400 ∧ ∃ t : BT, t.enc = zs := by
  simp only [Bool.or_eq_false_iff, Bool.not_eq_false', decide_eq_false_iff_not] at h
  exact ⟨by omega, mayB_tree h.2⟩
/-- the pairs of a tree, from left to right. -/
def Tr.kvs : Tr → List (Int × Int)
  | .nil => []
  | .node _ l k v _ r => l.kvs ++ (k, v) :: r.kvs
def Tr.blk : Tr → Nat
  | .nil => 0
  | .node b .. => b
/-- how many nodes lie in blocks from a number on. -/
def Tr.news (n : Nat) : Tr → Nat
  | .nil => 0
  | .node b l _ _ _ r => (if n ≤ b then 1 else 0) + l.news n + r.news n
theorem news_zero {w : World} {n : Nat} (hn : w.heap.size ≤ n) : ∀ {t : Tr}, InH w t → t.news n = 0
  | .nil, _ => rfl
  | .node b l k v g r, ⟨h0, h1, h2⟩ => by
    have := lt_of h0
    rw [Tr.news, news_zero hn h1, news_zero hn h2, if_neg (by omega)]

/-- what lies inward of a node, and outward (true: outward is to the right); a node of both. -/
def inOf (s : Bool) (t : Tr) : Tr := if s then t.left else t.right
def outOf (s : Bool) (t : Tr) : Tr := if s then t.right else t.left
def mkN (s : Bool) (b : Nat) (i : Tr) (k v g : Int) (o : Tr) : Tr := if s then .node b i k v g o else .node b o k v g i
def both {α : Type} (s : Bool) (a m b : List α) : List α := if s then a ++ m ++ b else b ++ m ++ a
section
variable {s : Bool} {b : Nat} {i o : Tr} {k v g : Int}
theorem inOf_mk : inOf s (mkN s b i k v g o) = i := by cases s <;> rfl
theorem outOf_mk : outOf s (mkN s b i k v g o) = o := by cases s <;> rfl
theorem mk_sides (s : Bool) (b : Nat) (l : Tr) (k v g : Int) (r : Tr) : Tr.node b l k v g r = mkN s b (inOf s (.node b l k v g r)) k v g (outOf s (.node b l k v g r)) := by cases s <;> rfl
theorem mk_key : (mkN s b i k v g o).key = k := by cases s <;> rfl
theorem mk_val : (mkN s b i k v g o).val = v := by cases s <;> rfl
theorem mk_tag : (mkN s b i k v g o).tag = g := by cases s <;> rfl
theorem mk_blk : (mkN s b i k v g o).blk = b := by cases s <;> rfl
theorem mk_ptr : (mkN s b i k v g o).ptr = some ⟨b, 0, none⟩ := by cases s <;> rfl
theorem mk_nn : mkN s b i k v g o ≠ .nil := by cases s <;> simp [mkN]
theorem mk_kvs : (mkN s b i k v g o).kvs = both s i.kvs [(k, v)] o.kvs := by cases s <;> simp [mkN, both, Tr.kvs]
theorem mk_news (n : Nat) : (mkN s b i k v g o).news n = (if n ≤ b then 1 else 0) + i.news n + o.news n := by cases s <;> simp [mkN, Tr.news] <;> omega
theorem mk_ht : (mkN s b i k v g o).ht = 1 + max i.ht o.ht := by cases s <;> simp [mkN, Tr.ht, Nat.max_comm]
theorem mk_count : (mkN s b i k v g o).count = i.count + 1 + o.count := by cases s <;> simp [mkN, Tr.count_node] <;> omega
theorem mk_pre (x : Tr) : x ∈ (mkN s b i k v g o).pre ↔ x = mkN s b i k v g o ∨ x ∈ i.pre ∨ x ∈ o.pre := by
  cases s <;> simp [mkN, Tr.pre]
  constructor <;> rintro (h | h | h) <;> simp [h]
theorem mk_inH {w : World} (h : InH w (mkN s b i k v g o)) : InH w i ∧ InH w o := by
  cases s
  · exact ⟨h.2.2, h.2.1⟩
  · exact ⟨h.2.1, h.2.2⟩
end
/-- a tree of beads' pairs, from left to right. -/
def BT.kvs : BT → List (Int × Int)
  | .nil => []
  | .node k v _ _ _ l r => l.kvs ++ (k, v) :: r.kvs
theorem BT.fits_kvs : ∀ {t : BT} {T : Tr}, t.fits T → T.kvs = t.kvs
  | .nil, .nil, _ => rfl
  | .nil, .node .., h => h.elim
  | .node .., .nil, h => h.elim
  | .node .., .node .., h => by rw [Tr.kvs, BT.kvs, BT.fits_kvs h.2.2.2.1, BT.fits_kvs h.2.2.2.2, h.1, h.2.1]
theorem BT.kvs_len : ∀ t : BT, t.kvs.length = t.enc.length
  | .nil => rfl
  | .node k v s n g l r => by simp [BT.kvs, BT.enc, BT.kvs_len l, BT.kvs_len r]; omega
/-- the beads of a tree, as a tree of beads. -/
def Tr.bt : Tr → BT
  | .nil => .nil
  | .node b l k v g r => .node k v (Tr.node b l k v g r).sum (Tr.node b l k v g r).size g l.bt r.bt
theorem Tr.bt_fits : ∀ T : Tr, T.bt.fits T
  | .nil => trivial
  | .node _ l _ _ _ r => ⟨rfl, rfl, rfl, Tr.bt_fits l, Tr.bt_fits r⟩
theorem Tr.bt_enc : ∀ T : Tr, T.bt.enc = T.beads
  | .nil => rfl
  | .node b l k v g r => by
    have e1 : (Tr.node b l k v g r).beads = (Tr.node b l k v g r).bead :: (l.beads ++ r.beads) := by simp [Tr.beads, Tr.pre]
    have e2 : (Tr.node b l k v g r).bead = ⟨k, v, (Tr.node b l k v g r).sum, (Tr.node b l k v g r).size, g, l.ptr.isSome, r.ptr.isSome⟩ := rfl
    rw [e1, e2, fits_some (Tr.bt_fits l), fits_some (Tr.bt_fits r), ← Tr.bt_enc l, ← Tr.bt_enc r]
    rfl
theorem Tr.beads_len (T : Tr) : T.beads.length = T.pre.length := by simp [Tr.beads]
theorem beads_bt {w : World} {v : Value} {T : Tr} (h : Beads w v T.beads) : Beads w v T.bt.enc := by rw [Tr.bt_enc]; exact h
theorem Tr.kvs_count : ∀ T : Tr, T.kvs.length = T.count
  | .nil => rfl
  | .node b l k v g r => by rw [Tr.kvs, Tr.count_node, List.length_append, List.length_cons, Tr.kvs_count l, Tr.kvs_count r]; omega
def kvSum (l : List (Int × Int)) : Int := (l.map (·.2)).sum
theorem Tr.sum_kvs : ∀ T : Tr, T.sum = wrap64 (kvSum T.kvs)
  | .nil => by decide +kernel
  | .node b l k v g r => by
    rw [Tr.sum, Tr.sum_kvs l, Tr.sum_kvs r, wrap_three]
    congr 1
    simp [kvSum, Tr.kvs]; omega
/-- a tree with no place in memory. -/
def BT.tr : BT → Tr
  | .nil => .nil
  | .node k v _ _ g l r => .node 0 l.tr k v g r.tr
theorem BT.tr_fits : ∀ t : BT, t.fits t.tr
  | .nil => trivial
  | .node _ _ _ _ _ l r => ⟨rfl, rfl, rfl, l.tr_fits, r.tr_fits⟩
/-- a truth, of which 'no' says something. -/
def Says (S : Prop) (w : World) (e : Ending) (w' : World) : Prop := ∃ b : Bool, e = .returned (.bool b) ∧ (b = false → S) ∧ Ext w w'
theorem BT.of_fits : ∀ {t : BT} {T : Tr}, t.fits T → t.of.fits T
  | .nil, .nil, _ => trivial
  | .nil, .node .., h => h.elim
  | .node .., .nil, h => h.elim
  | .node .., .node .., h => ⟨h.1, h.2.1, h.2.2.1, BT.of_fits h.2.2.2.1, BT.of_fits h.2.2.2.2⟩
theorem sides_ne (s : Bool) {T : Tr} (h : T ≠ .nil) : ∃ b i k v g o, T = mkN s b i k v g o := by
  cases T with
  | nil => exact (h rfl).elim
  | node b l k v g r => exact ⟨b, _, k, v, g, _, mk_sides s b l k v g r⟩
theorem both_out (s : Bool) (a m b c d : List (Int × Int)) : both s a m (both s b c d) = both s (both s a m b) c d := by cases s <;> simp [both]
end Go.Proofs.Ytejknkhahjgdnaa
namespace Go.Proofs.Ytejknkhahjgdnaa
open Go Go.RowKit

/-- what is wrong with a tree's root. -/
def oneOf (T : Tr) : Int := if avlBadTag T then 140 else if avlBadTree T then 8 else 0
theorem avlFirst_le : ∀ l : List Tr, (avlFirst l).1 ≤ l.length
  | [] => by simp [avlFirst]
  | t :: l => by
    have := avlFirst_le l
    rw [avlFirst_cons]
    split
    · simp
    · split
      · simp
      · simp; omega
end Go.Proofs.Ytejknkhahjgdnaa
namespace Go.Proofs.Ytejknkhahjgdnaa
open Go Go.RowKit

theorem avlLean_nil : avlLean .nil = 0 := by decide +kernel
end Go.Proofs.Ytejknkhahjgdnaa
namespace Go.Proofs.Ytejknkhahjgdnaa
open Go Go.RowKit

/-- a tree's height, while it is no higher than a bound; -1 else. -/
def heightN : Nat → Tr → Int
  | _, .nil => 0
  | 0, .node .. => -1
  | k + 1, .node _ l _ _ _ r => if heightN k l < 0 ∨ heightN k r < 0 then -1 else 1 + max (heightN k l) (heightN k r)
theorem heightN_le : ∀ (k : Nat) (t : Tr), -1 ≤ heightN k t ∧ heightN k t ≤ k
  | k, .nil => by unfold heightN; omega
  | 0, .node .. => by unfold heightN; omega
  | k + 1, .node b l _ _ _ r => by
    have h1 := heightN_le k l
    have h2 := heightN_le k r
    unfold heightN
    split <;> omega
theorem heightN_ht : ∀ (k : Nat) (t : Tr), t.ht ≤ k → heightN k t = t.ht
  | k, .nil, _ => by unfold heightN; rfl
  | 0, .node .., h => by simp [Tr.ht] at h
  | k + 1, .node b l _ _ _ r, h => by
    rw [Tr.ht] at h
    have h1 := heightN_ht k l (by omega)
    have h2 := heightN_ht k r (by omega)
    unfold heightN
    rw [h1, h2, if_neg (by omega), Tr.ht]
    omega
theorem leastN_step : ∀ k : Nat, leastN k ≤ leastN (k + 1)
  | 0 => by decide
  | k + 1 => by rw [leastN]; omega
theorem leastN_mono {a b : Nat} (h : a ≤ b) : leastN a ≤ leastN b := by
  induction b with
  | zero => obtain rfl : a = 0 := by omega
            exact Nat.le_refl _
  | succ b ih =>
    rcases Nat.lt_or_ge a (b + 1) with h1 | h1
    · exact Nat.le_trans (ih (by omega)) (leastN_step b)
    · obtain rfl : a = b + 1 := by omega
      exact Nat.le_refl _
theorem may_ht : ∀ t : Tr, avlMay t = true → TagsOk t → t.count < 1000000 → t.tag = t.ht ∧ leastN t.ht ≤ t.count ∧ (t ≠ .nil → max t.left.ht t.right.ht ≤ min t.left.ht t.right.ht + 1)
  | .nil, _, _, _ => ⟨rfl, Nat.le_refl _, fun h => (h rfl).elim⟩
  | .node b l k v g r, hm, ho, hc => by
    rw [avlMay_node] at hm
    simp only [Bool.and_eq_true, Bool.not_eq_true'] at hm
    obtain ⟨⟨⟨m1, m2⟩, m3⟩, m4⟩ := hm
    obtain ⟨o1, o2, o3, o4⟩ := ho
    rw [Tr.count_node] at hc
    obtain ⟨l1, l2, -⟩ := may_ht l m3 o3 (by omega)
    obtain ⟨r1, r2, -⟩ := may_ht r m4 o4 (by omega)
    have hl := Tr.ht_count l
    have hr := Tr.ht_count r
    simp only [avlBadTag, Tr.tag_node, Tr.left_node, Tr.right_node, l1, r1, Bool.or_eq_false_iff, beq_eq_false_iff_ne, bne_eq_false_iff_eq] at m1
    simp only [avlBadTree, Tr.left_node, Tr.right_node, l1, r1, decide_eq_false_iff_not] at m2
    have e1 := u64_small (a := g - 1) (by omega) (by omega)
    rw [e1] at m1
    have e2 := u64_small (a := max (l.ht : Int) (r.ht : Int) - min (l.ht : Int) (r.ht : Int)) (by omega) (by omega)
    rw [e2] at m2
    rw [Tr.tag_node, Tr.ht, Tr.count_node, Tr.left_node, Tr.right_node]
    refine ⟨by omega, ?_, fun _ => by omega⟩
    rcases Nat.le_total l.ht r.ht with h | h
    · rw [Nat.max_eq_right h]
      rcases Nat.eq_zero_or_pos r.ht with h0 | h0
      · rw [h0]; show 1 ≤ _; omega
      · obtain ⟨q, hq⟩ : ∃ q, r.ht = q + 1 := ⟨r.ht - 1, by omega⟩
        have := leastN_mono (a := q) (b := l.ht) (by omega)
        rw [hq] at r2 ⊢
        rw [show 1 + (q + 1) = q + 2 by omega, leastN]
        omega
    · rw [Nat.max_eq_left h]
      rcases Nat.eq_zero_or_pos l.ht with h0 | h0
      · rw [h0]; show 1 ≤ _; omega
      · obtain ⟨q, hq⟩ : ∃ q, l.ht = q + 1 := ⟨l.ht - 1, by omega⟩
        have := leastN_mono (a := q) (b := r.ht) (by omega)
        rw [hq] at l2 ⊢
        rw [show 1 + (q + 1) = q + 2 by omega, leastN]
        omega
theorem avlMay_sides : ∀ {t : Tr}, avlMay t = true → avlMay t.left = true ∧ avlMay t.right = true
  | .nil, _ => ⟨rfl, rfl⟩
  | .node b l k v g r, hm => by
    rw [avlMay_node] at hm
    simp only [Bool.and_eq_true] at hm
    exact ⟨hm.1.2, hm.2⟩
theorem avlHigh_law (T : Tr) (hm : avlMay T = true) (ho : TagsOk T) (hc : T.count ≤ 400) :
    ∃ h : Nat, heightN 500 T = h ∧ wrap64 T.tag = h ∧ h ≤ 12 ∧ (leastN h : Int) ≤ T.size ∧ avlMay T.left = true ∧ avlMay T.right = true ∧ -1 ≤ avlLean T ∧ avlLean T ≤ 1 := by
  obtain ⟨h1, h2, h3⟩ := may_ht T hm ho (by omega)
  have h4 := Tr.ht_count T
  have hs : T.size = T.count := by rw [Tr.size_count]; unfold wrap64; omega
  refine ⟨T.ht, heightN_ht 500 T (by omega), ?_, ?_, ?_, (avlMay_sides hm).1, (avlMay_sides hm).2, ?_⟩
  · rw [h1]; unfold wrap64; omega
  · rcases Nat.lt_or_ge 12 T.ht with h | h
    · have := leastN_mono (a := 13) (b := T.ht) h
      have e : leastN 13 = 609 := by decide
      omega
    · exact h
  · rw [hs]; omega
  · cases T with
    | nil => rw [avlLean_nil]; omega
    | node b l k v g r =>
      have h5 := h3 (by simp)
      rw [avlMay_node] at hm
      simp only [Bool.and_eq_true] at hm
      obtain ⟨⟨⟨m1, m2⟩, m3⟩, m4⟩ := hm
      obtain ⟨o1, o2, o3, o4⟩ := ho
      rw [Tr.count_node] at hc
      obtain ⟨l1, -, -⟩ := may_ht l m3 o3 (by omega)
      obtain ⟨r1, -, -⟩ := may_ht r m4 o4 (by omega)
      have hl := Tr.ht_count l
      have hr := Tr.ht_count r
      simp only [Tr.left_node, Tr.right_node] at h5
      have e : ∀ a : Int, -1 ≤ a → a ≤ 1 → -1 ≤ wrap64 (IntKind.u64.wrap a) ∧ wrap64 (IntKind.u64.wrap a) ≤ 1 := by
        intro a ha hb
        have : a = -1 ∨ a = 0 ∨ a = 1 := by omega
        rcases this with rfl | rfl | rfl <;> decide +kernel
      unfold avlLean
      rw [Tr.left_node, Tr.right_node, l1, r1]
      exact e _ (by omega) (by omega)
end Go.Proofs.Ytejknkhahjgdnaa
namespace Go.Proofs.Ytejknkhahjgdnaa
open Go Go.RowKit

/-- a tree in balance, of a height, well tagged. -/
def AvlH : Tr → Nat → Prop
  | .nil, h => h = 0
  | .node _ l _ _ g r, h => ∃ p q, AvlH l p ∧ AvlH r q ∧ h = 1 + max p q ∧ g = h ∧ p ≤ q + 1 ∧ q ≤ p + 1
theorem AvlH.ht : ∀ {t : Tr} {h : Nat}, AvlH t h → t.ht = h
  | .nil, _, e => e.symm
  | .node _ l _ _ g r, h, ⟨p, q, hp, hq, e, _⟩ => by rw [Tr.ht, AvlH.ht hp, AvlH.ht hq, e]
theorem AvlH.tag : ∀ {t : Tr} {h : Nat}, AvlH t h → t.tag = h
  | .nil, _, e => by rw [show _ = 0 from e]; rfl
  | .node _ l _ _ g r, h, ⟨p, q, hp, hq, e, eg, _⟩ => eg
theorem AvlH.may : ∀ {t : Tr} {h : Nat}, AvlH t h → h < 1000000 → avlMay t = true ∧ TagsOk t
  | .nil, _, _, _ => ⟨rfl, trivial⟩
  | .node b l k v g r, h, ⟨p, q, hp, hq, e, eg, h1, h2⟩, hh => by
    obtain ⟨m1, o1⟩ := AvlH.may hp (by omega)
    obtain ⟨m2, o2⟩ := AvlH.may hq (by omega)
    refine ⟨?_, by omega, by omega, o1, o2⟩
    have t1 := hp.tag
    have t2 := hq.tag
    have e1 : avlBadTag (.node b l k v g r) = false := by
      simp only [avlBadTag, Tr.tag_node, Tr.left_node, Tr.right_node, t1, t2]
      rw [u64_small (by omega) (by omega)]
      simp; omega
    have e2 : avlBadTree (.node b l k v g r) = false := by
      simp only [avlBadTree, Tr.left_node, Tr.right_node, t1, t2]
      rw [u64_small (by omega) (by omega)]
      simp; omega
    rw [avlMay_node, m1, m2, e1, e2]
    rfl
theorem AvlH.of_may : ∀ {t : Tr}, avlMay t = true → TagsOk t → t.count < 1000000 → AvlH t t.ht
  | .nil, _, _, _ => rfl
  | .node b l k v g r, hm, ho, hc => by
    obtain ⟨e, -, h3⟩ := may_ht (.node b l k v g r) hm ho hc
    rw [avlMay_node] at hm
    simp only [Bool.and_eq_true] at hm
    rw [Tr.count_node] at hc
    have h4 := h3 (by simp)
    simp only [Tr.left_node, Tr.right_node] at h4
    exact ⟨l.ht, r.ht, AvlH.of_may hm.1.2 ho.2.2.1 (by omega), AvlH.of_may hm.2 ho.2.2.2 (by omega), rfl, e, by omega, by omega⟩

theorem mk_avl {s : Bool} {b : Nat} {i o : Tr} {k v g : Int} (h : Nat) : AvlH (mkN s b i k v g o) h ↔ ∃ p q, AvlH i p ∧ AvlH o q ∧ h = 1 + max p q ∧ g = h ∧ p ≤ q + 1 ∧ q ≤ p + 1 := by
  cases s
  · constructor
    · rintro ⟨p, q, h1, h2, h3, h4, h5, h6⟩; exact ⟨q, p, h2, h1, by omega, h4, h6, h5⟩
    · rintro ⟨p, q, h1, h2, h3, h4, h5, h6⟩; exact ⟨q, p, h2, h1, by omega, h4, h6, h5⟩
  · exact Iff.rfl
theorem avlTag_comm (l r : Tr) : avlTag l r = avlTag r l := by unfold avlTag; rw [Int.max_comm]
theorem avlTag_h {l r : Tr} {p q : Nat} (hl : AvlH l p) (hr : AvlH r q) (hp : p < 1000000) (hq : q < 1000000) : avlTag l r = ((1 + max p q : Nat) : Int) := by
  unfold avlTag
  rw [hl.tag, hr.tag, u64_small (by omega) (by omega)]
  omega
/-- a node of two trees in balance. -/
theorem mk_bal {s : Bool} {b : Nat} {i o : Tr} {k v : Int} {p q : Nat} (hi : AvlH i p) (ho : AvlH o q) (h1 : p ≤ q + 1) (h2 : q ≤ p + 1) (hp : p < 1000000) (hq : q < 1000000) :
    AvlH (mkN s b i k v (avlTag i o) o) (1 + max p q) := (mk_avl _).2 ⟨p, q, hi, ho, rfl, avlTag_h hi ho hp hq, h1, h2⟩

/-- what becomes of a tree t, if a pair and a lower one hang on its outer side. -/
structure HangOk (n : Nat) (s : Bool) (t low : Tr) (k v : Int) (T : Tr) : Prop where
  ex : ∃ h, AvlH T h ∧ (h = t.ht ∨ (h = t.ht + 1 ∧ (inOf s T).ht < (outOf s T).ht)) ∧ T.news n + low.ht ≤ t.ht + 1
  kvs : T.kvs = both s t.kvs [(k, v)] low.kvs
  old : ∀ x ∈ T.pre, x.blk < n → x ∈ t.pre ∨ x ∈ low.pre
  top : n ≤ T.blk
  nn : T ≠ .nil

section
variable {n : Nat} {s : Bool} {b : Nat} {i o low : Tr} {k v g pk pv : Int} {p q r : Nat}
/-- at the bottom: the pair and the lower tree, under what lay outward. -/
theorem hang_base (bx : Nat) (ho : AvlH o q) (hl : AvlH low r) (hq : q < 1000000) (hr : r < 1000000) (h1 : q ≤ r + 1) (h2 : r ≤ q) (no : o.news n = 0) (nl : low.news n = 0) (hb : n ≤ bx) :
    AvlH (mkN s bx o pk pv (avlTag o low) low) (q + 1) ∧ (mkN s bx o pk pv (avlTag o low) low).news n + r ≤ q + 1 ∧ (mkN s bx o pk pv (avlTag o low) low).kvs = both s o.kvs [(pk, pv)] low.kvs ∧
    ∀ x ∈ (mkN s bx o pk pv (avlTag o low) low).pre, x.blk < n → x ∈ o.pre ∨ x ∈ low.pre := by
  refine ⟨?_, ?_, mk_kvs, fun x hx hn => ?_⟩
  · have := mk_bal (s := s) (b := bx) (k := pk) (v := pv) ho hl h1 (by omega) hq hr
    rwa [show 1 + max q r = q + 1 by omega] at this
  · rw [mk_news, no, nl, if_pos hb]; omega
  · rcases (mk_pre x).1 hx with rfl | h | h
    · rw [mk_blk] at hn; omega
    · exact .inl h
    · exact .inr h
/-- no turn. -/
theorem hang_plain {x : Tr} {hx : Nat} (bt : Nat) (hi : AvlH i p) (ho : AvlH o q) (hl : AvlH low r) (h1 : p ≤ q + 1) (h2 : q ≤ p + 1) (hp : p < 100000) (hxx : AvlH x hx) (hle : hx ≤ p + 1) (hor : hx = q ∨ hx = q + 1)
    (hn : x.news n + r ≤ q + 1) (hk : x.kvs = both s o.kvs [(pk, pv)] low.kvs) (hold : ∀ y ∈ x.pre, y.blk < n → y ∈ o.pre ∨ y ∈ low.pre) (ni : i.news n = 0) (hb : n ≤ bt) :
    HangOk n s (mkN s b i k v g o) low pk pv (mkN s bt i k v (avlTag i x) x) := by
  have hm := mk_bal (s := s) (b := bt) (k := k) (v := v) hi hxx (by omega) hle (by omega) (by omega)
  refine ⟨⟨_, hm, ?_, ?_⟩, ?_, fun y hy hyn => ?_, by rw [mk_blk]; exact hb, mk_nn⟩
  · rw [mk_ht, inOf_mk, outOf_mk, hi.ht, ho.ht, hxx.ht]; omega
  · rw [mk_news, ni, if_pos hb, mk_ht, hi.ht, ho.ht, hl.ht]; omega
  · rw [mk_kvs, mk_kvs, hk, both_out]
  · rcases (mk_pre y).1 hy with rfl | h | h
    · rw [mk_blk] at hyn; omega
    · exact .inl ((mk_pre y).2 (.inr (.inl h)))
    · rcases hold y h hyn with h | h
      · exact .inl ((mk_pre y).2 (.inr (.inr h)))
      · exact .inr h
/-- one turn. -/
theorem hang_turn {xi xo : Tr} {xk xv xg : Int} {bx hx : Nat} (b3 b4 : Nat) (hi : AvlH i p) (ho : AvlH o q) (hl : AvlH low r) (h1 : p ≤ q + 1) (h2 : q ≤ p + 1) (hp : p < 100000) (hxx : AvlH (mkN s bx xi xk xv xg xo) hx) (hgt : p + 1 < hx)
    (hor : hx = q ∨ (hx = q + 1 ∧ xi.ht < xo.ht)) (hn : (mkN s bx xi xk xv xg xo).news n + r ≤ q + 1) (hbx : n ≤ bx) (hk : (mkN s bx xi xk xv xg xo).kvs = both s o.kvs [(pk, pv)] low.kvs)
    (hold : ∀ y ∈ (mkN s bx xi xk xv xg xo).pre, y.blk < n → y ∈ o.pre ∨ y ∈ low.pre) (ni : i.news n = 0) (hb3 : n ≤ b3) (hb4 : n ≤ b4) :
    HangOk n s (mkN s b i k v g o) low pk pv (mkN s b4 (mkN s b3 i k v (avlTag i xi) xi) xk xv (avlTag (mkN s b3 i k v (avlTag i xi) xi) xo) xo) := by
  obtain ⟨a, c, ha, hc, e1, e2, e3, e4⟩ := (mk_avl _).1 hxx
  have hac : hx = q + 1 ∧ a < c := by
    rcases hor with h | ⟨h, h'⟩
    · omega
    · rw [ha.ht, hc.ht] at h'; exact ⟨h, h'⟩
  obtain ⟨hq1, hlt⟩ := hac
  have m3 := mk_bal (s := s) (b := b3) (k := k) (v := v) hi ha (by omega) (by omega) (by omega) (by omega)
  have m4 := mk_bal (s := s) (b := b4) (k := xk) (v := xv) m3 hc (by omega) (by omega) (by omega) (by omega)
  rw [mk_news, if_pos hbx] at hn
  refine ⟨⟨_, m4, ?_, ?_⟩, ?_, fun y hy hyn => ?_, by rw [mk_blk]; exact hb4, mk_nn⟩
  · rw [mk_ht, hi.ht, ho.ht]; omega
  · rw [mk_news, mk_news, ni, if_pos hb3, if_pos hb4, mk_ht, hi.ht, ho.ht, hl.ht]; omega
  · rw [mk_kvs] at hk
    rw [mk_kvs, mk_kvs, mk_kvs, ← both_out, hk, both_out]
  · have hin : ∀ z, z ∈ xi.pre ∨ z ∈ xo.pre → z.blk < n → z ∈ (mkN s b i k v g o).pre ∨ z ∈ low.pre := fun z hz hzn => by
      rcases hold z ((mk_pre z).2 (.inr hz)) hzn with h | h
      · exact .inl ((mk_pre z).2 (.inr (.inr h)))
      · exact .inr h
    rcases (mk_pre y).1 hy with rfl | h | h
    · rw [mk_blk] at hyn; omega
    · rcases (mk_pre y).1 h with rfl | h | h
      · rw [mk_blk] at hyn; omega
      · exact .inl ((mk_pre y).2 (.inr (.inl h)))
      · exact hin y (.inl h) hyn
    · exact hin y (.inr h) hyn
/-- two turns, at the bottom. -/
theorem hang_two {oi oo : Tr} {ok ov og : Int} {bo : Nat} (b3 b4 b5 : Nat) (hi : AvlH i p) (ho : AvlH (mkN s bo oi ok ov og oo) q) (hl : AvlH low r) (h1 : p ≤ q + 1) (h2 : q ≤ p + 1) (hp : p < 100000) (hr : r + 1 < 1 + max p q) (hbase : q ≤ r + 1) (hgt : p + 1 < q + 1)
    (ni : i.news n = 0) (no : (mkN s bo oi ok ov og oo).news n = 0) (nl : low.news n = 0) (hb3 : n ≤ b3) (hb4 : n ≤ b4) (hb5 : n ≤ b5) :
    HangOk n s (mkN s b i k v g (mkN s bo oi ok ov og oo)) low pk pv (mkN s b5 (mkN s b4 i k v (avlTag i oi) oi) ok ov (avlTag (mkN s b4 i k v (avlTag i oi) oi) (mkN s b3 oo pk pv (avlTag oo low) low)) (mkN s b3 oo pk pv (avlTag oo low) low)) := by
  have hot := ho.ht
  obtain ⟨a, c, ha, hc, e1, e2, e3, e4⟩ := (mk_avl _).1 ho
  have m3 := mk_bal (s := s) (b := b3) (k := pk) (v := pv) hc hl (by omega) (by omega) (by omega) (by omega)
  have m4 := mk_bal (s := s) (b := b4) (k := k) (v := v) hi ha (by omega) (by omega) (by omega) (by omega)
  have m5 := mk_bal (s := s) (b := b5) (k := ok) (v := ov) m4 m3 (by omega) (by omega) (by omega) (by omega)
  rw [mk_news] at no
  refine ⟨⟨_, m5, ?_, ?_⟩, ?_, fun y hy hyn => ?_, by rw [mk_blk]; exact hb5, mk_nn⟩
  · rw [mk_ht, hi.ht, hot]; omega
  · rw [mk_news, mk_news, mk_news, ni, nl, if_pos hb3, if_pos hb4, if_pos hb5, mk_ht, hi.ht, hot, hl.ht]; omega
  · simp only [mk_kvs, both_out]
  · have hin : ∀ z, z ∈ oi.pre ∨ z ∈ oo.pre → z ∈ (mkN s b i k v g (mkN s bo oi ok ov og oo)).pre ∨ z ∈ low.pre := fun z hz =>
      .inl ((mk_pre z).2 (.inr (.inr ((mk_pre z).2 (.inr hz)))))
    rcases (mk_pre y).1 hy with rfl | h | h
    · rw [mk_blk] at hyn; omega
    · rcases (mk_pre y).1 h with rfl | h | h
      · rw [mk_blk] at hyn; omega
      · exact .inl ((mk_pre y).2 (.inr (.inl h)))
      · exact hin y (.inl h)
    · rcases (mk_pre y).1 h with rfl | h | h
      · rw [mk_blk] at hyn; omega
      · exact hin y (.inr h)
      · exact .inr h
end

/-- what a join of two trees is. -/
structure JoinOk (n : Nat) (l r : Tr) (k v : Int) (T : Tr) : Prop where
  ex : ∃ h, AvlH T h ∧ (h = max l.ht r.ht ∨ h = max l.ht r.ht + 1) ∧ T.news n + min l.ht r.ht ≤ max l.ht r.ht + 1
  kvs : T.kvs = l.kvs ++ (k, v) :: r.kvs
  old : ∀ x ∈ T.pre, x.blk < n → x ∈ l.pre ∨ x ∈ r.pre
  top : n ≤ T.blk
  nn : T ≠ .nil
theorem join_right {n : Nat} {l r : Tr} {k v : Int} {T : Tr} (h : HangOk n true l r k v T) (hlt : r.ht + 1 < l.ht) : JoinOk n l r k v T := by
  obtain ⟨⟨x, h1, h2, h3⟩, h4, h5, h6, h7⟩ := h
  exact ⟨⟨x, h1, by omega, by omega⟩, by rw [h4]; simp [both], h5, h6, h7⟩
theorem join_left {n : Nat} {l r : Tr} {k v : Int} {T : Tr} (h : HangOk n false r l k v T) (hlt : l.ht + 1 < r.ht) : JoinOk n l r k v T := by
  obtain ⟨⟨x, h1, h2, h3⟩, h4, h5, h6, h7⟩ := h
  exact ⟨⟨x, h1, by omega, by omega⟩, by rw [h4]; simp [both], fun y hy hn => (h5 y hy hn).symm, h6, h7⟩
theorem join_even {n : Nat} {l r : Tr} {k v : Int} {p q : Nat} (b : Nat) (hl : AvlH l p) (hr : AvlH r q) (h1 : p ≤ q + 1) (h2 : q ≤ p + 1) (hp : p < 100000) (nl : l.news n = 0) (nr : r.news n = 0) (hb : n ≤ b) : JoinOk n l r k v (.node b l k v (avlTag l r) r) := by
  have hm := mk_bal (s := true) (b := b) (k := k) (v := v) hl hr h1 h2 (by omega) (by omega)
  refine ⟨⟨_, hm, by rw [hl.ht, hr.ht]; omega, ?_⟩, by simp [Tr.kvs], fun x hx hn => ?_, hb, by simp⟩
  · rw [Tr.news, nl, nr, if_pos hb, hl.ht, hr.ht]; omega
  · rcases (mk_pre (s := true) x).1 hx with rfl | h | h
    · have : (mkN true b l k v (avlTag l r) r).blk = b := mk_blk
      omega
    · exact .inl h
    · exact .inr h
end Go.Proofs.Ytejknkhahjgdnaa
namespace Go.Proofs.Ytejknkhahjgdnaa
open Go Go.RowKit
theorem ptr_same (p : Option Addr) (w : World) : (binOp .eql 43 (.pointer p) (.pointer p)).run Try.prog w = .ok (.bool true) w := by
  obtain ⟨j, hj⟩ : ∃ j, Try.prog.info? 89 = some j := by
    have h : (Try.prog.info? 89).isSome = true := by kernel_rfl
    exact Option.isSome_iff_exists.1 h
  cases p with
  | none =>
    have := run_eql_pointer_nil (P := Try.prog) w 43 none (by kernel_rfl)
    simpa using this
  | some a => exact run_eql_ptr_same w a Try.underlying43 hj
end Go.Proofs.Ytejknkhahjgdnaa
namespace Go.Proofs.Ytejknkhahjgdnaa
open Go Go.RowKit

theorem u64_mod (a : Int) : IntKind.u64.wrap a = a % 18446744073709551616 := by
  have : (2 : Int) ^ 64 = 18446744073709551616 := by decide
  simp only [IntKind.wrap, IntKind.bits, IntKind.signed, this]
  simp
theorem tag_ok {T : Tr} (h : TagsOk T) : 0 ≤ T.tag ∧ T.tag < 18446744073709551616 := by
  cases T with
  | nil => exact ⟨by decide, by decide⟩
  | node b l k v g r => exact ⟨h.1, h.2.1⟩
theorem tags_left {T : Tr} (h : TagsOk T) : TagsOk T.left := by
  cases T with
  | nil => exact h
  | node b l k v g r => exact h.2.2.1
theorem tags_right {T : Tr} (h : TagsOk T) : TagsOk T.right := by
  cases T with
  | nil => exact h
  | node b l k v g r => exact h.2.2.2
/-- a struct of two numbers. -/
def whatV (c h : Int) : Value := .agg #[.int .u64 c, .int .u64 h]
def col (t : Tr) : Int := t.tag % 2
def hi (t : Tr) : Int := t.tag / 2
theorem set2 {w : World} {N : Nat} {T : TypeId} {a0 a1 : Value} (h : w.heap[N]? = some (.cells #[a0, a1] T (0, 0))) (b0 b1 : Value) :
    ((w.setCell ⟨N, 0, none⟩ b0).setCell ⟨N, 1, none⟩ b1).heap[N]? = some (.cells #[b0, b1] T (0, 0)) := by
  simp [World.setCell, Array.getElem?_modify, h]
theorem load_what {w : World} {N : Nat} {c h : Int} (hh : w.heap[N]? = some (.cells #[.int .u64 c, .int .u64 h] 116 (0, 0))) : (loadVar 116 ⟨N, 0, none⟩).run Try.prog w = .ok (whatV c h) w := by
  refine run_loadVar_mid w N 0 _ [.int .u64 c, .int .u64 h] _ (fun j v hj => ?_) Try.underlying116 rfl (by kernel_rfl)
  rw [Nat.zero_add, cell_of hh j]
  simpa using hj
theorem results_row1 {fn : Func} {p : Tmp} {ty : TypeId} (h : fn.results = #[.cell p ty]) (tmps : Array Value) (w : World) {x : Value} {a : Addr} (hp : tmps.getD p undef = .pointer (some a))
    (hl : (loadVar ty a).run Try.prog w = .ok x w) : (results fn tmps).run Try.prog w = .ok x w := by
  simp only [Array.getD_eq_getD_getElem?] at hp
  simp [results, h, hp, hl, asAddr]
theorem hi_div {t : Tr} (h : TagsOk t) : IntKind.u64.wrap (t.tag.tdiv 2) = hi t := by
  have := tag_ok h
  rw [Int.tdiv_eq_ediv_of_nonneg this.1, u64_mod]
  unfold hi
  omega
set_option maxHeartbeats 1000000 in
theorem rbOf_any (w : World) (t : Tr) (ht : InH w t) (ho : TagsOk t) : Calls Try.prog 90 #[.pointer t.ptr] w (Ret (whatV (col t) (hi t)) w) := by
  have HC := Lib.hid (show t.tag % 2 = col t from rfl)
  have HD := Lib.hid (hi_div ho)
  have h0 := (tag_ok ho).1
  have hnew := alloc_at w (.cells #[.int .u64 0, .int .u64 0] 116) _ rfl
  have hE := (Ext.refl w).alloc (.cells #[.int .u64 0, .int .u64 0] 116)
  clear ho
  go_enter Try.func90, Try.ntmps90
  go_wp2_with fail
  refine (tag_any _ t (ht.ext hE)).mono ?_
  rintro e w1 ⟨rfl, h1⟩
  go_wp2_with fail
  refine (tag_any _ t (ht.ext (hE.trans h1))).mono ?_
  rintro e w2 ⟨rfl, h2⟩
  have h02 := h1.trans h2
  have hnew2 := (h02.block _ (lt_of hnew)).trans hnew
  have hE2 := hE.trans h02
  have hn0 := cell_of hnew2 0
  have hn1 := cell_of hnew2 1
  have hf0 := frozen_of hnew2 0
  have hf1 := frozen_of hnew2 1
  simp at hn0 hn1
  clear hE hnew h1 h2 h02
  go_wp2
  rw [HC.out, HD.out]
  exact bodyPost_ret (results_row1 rfl _ _ rfl (load_what (set2 hnew2 _ _))) rfl (Ret.mk (Ext.put (Ext.put hE2 0 _) 1 _))
theorem alloc_set2 (w : World) (T : TypeId) (a0 a1 : Value) : (w.alloc (.cells #[a0, a1] T)).heap[w.heap.size]? = some (.cells #[a0, a1] T (0, 0)) := alloc_at _ _ _ rfl
/-- what a node may be over one of a black height. -/
def overV (h : Int) (is : Bool) : Value := if is then whatV 1 h else whatV 0 (IntKind.u64.wrap (h + 1))
set_option maxHeartbeats 400000 in
theorem rbOver_any (w : World) (h : Int) (is : Bool) : Calls Try.prog 110 #[.int .u64 h, .bool is] w (Ret (overV h is) w) := by
  cases is with
  | true =>
    rw [show overV h true = whatV 1 h from rfl]
    go_enter Try.func110, Try.ntmps110
    go_wp2
    exact bodyPost_ret (results_row1 rfl _ _ rfl (load_what (alloc_at _ _ _ rfl))) rfl (Ret.mk ((Ext.refl w).alloc _))
  | false =>
    rw [show overV h false = whatV 0 (IntKind.u64.wrap (h + 1)) from rfl]
    go_enter Try.func110, Try.ntmps110
    go_wp2
    exact bodyPost_ret (results_row1 rfl _ _ rfl (load_what (alloc_at _ _ _ rfl))) rfl (Ret.mk ((Ext.refl w).alloc _))
set_option maxHeartbeats 400000 in
theorem rbTag_any (w : World) (c h : Int) : Calls Try.prog 111 #[whatV c h] w (Ret (.int .u64 (IntKind.u64.wrap (IntKind.u64.wrap (2 * h) + c))) w) := by
  unfold whatV
  go_enter Try.func111, Try.ntmps111
  go_wp2
  go_ret
  exact Ret.mk ((Ext.refl w).alloc _)
/-- the tag of a red node, or of a black one, over a tree. -/
def rbTag (l : Tr) (is : Bool) : Int := IntKind.u64.wrap (if is then 2 * hi l + 1 else 2 * hi l + 2)
theorem rbTag_red (l : Tr) : IntKind.u64.wrap (IntKind.u64.wrap (2 * hi l) + 1) = rbTag l true := by
  unfold rbTag; simp only [u64_mod]; simp
theorem rbTag_black (l : Tr) : IntKind.u64.wrap (IntKind.u64.wrap (2 * IntKind.u64.wrap (hi l + 1)) + 0) = rbTag l false := by
  unfold rbTag; simp only [u64_mod]; simp; omega
theorem rbOverTag_any (w : World) (l : Tr) (is : Bool) : Calls Try.prog 111 #[overV (hi l) is] w (Ret (.int .u64 (rbTag l is)) w) := by
  cases is with
  | true => rw [← rbTag_red]; exact rbTag_any w 1 (hi l)
  | false => rw [← rbTag_black]; exact rbTag_any w 0 (IntKind.u64.wrap (hi l + 1))
/-- is it red? -/
def rbRed (t : Tr) : Bool := col t == 1
set_option maxHeartbeats 400000 in
theorem rbRed_any (w : World) (t : Tr) (ht : InH w t) (ho : TagsOk t) : Calls Try.prog 69 #[.pointer t.ptr] w (Ret (.bool (rbRed t)) w) := by
  have hfld := fun (a b : Value) (w : World) => (by kernel_rfl : (Instr.field 116 (.agg #[a, b]) 0).run Try.prog w = .ok a w)
  have H := Lib.hid (rbOf_any w t ht ho)
  have HR := Lib.hid (show rbRed t = (col t == 1) from rfl)
  unfold whatV at H
  clear ho
  go_enter Try.func69, Try.ntmps69
  go_wp2_with fail
  refine (H.out).mono ?_
  rintro e w1 ⟨rfl, hS⟩
  go_wp2
  go_ret
  exact ⟨ret_bool (by rw [HR.out]), hS⟩
/-- what becomes of a tree that is to be black. -/
def Blackens (n : Nat) (t : Tr) (w : World) (e : Ending) (w' : World) : Prop :=
  ∃ u : Tr, e = .returned (.pointer u.ptr) ∧ InH w' u ∧ Ext w w' ∧
    ((rbRed t = false ∧ u = t) ∨ (rbRed t = true ∧ ∃ b, n ≤ b ∧ u = .node b t.left t.key t.val (IntKind.u64.wrap (t.tag + 1)) t.right))
end Go.Proofs.Ytejknkhahjgdnaa
namespace Go.Proofs.Ytejknkhahjgdnaa
open Go Go.RowKit

theorem what_neq (a b c d : Int) (w : World) : (binOp .neq 116 (.agg #[.int .u64 a, .int .u64 b]) (.agg #[.int .u64 c, .int .u64 d])).run Try.prog w = .ok (.bool (!(a == c && b == d))) w := by
  have h := Try.underlying116
  simp only [Bool.not_and]
  by_cases h1 : a = c <;> by_cases h2 : b = d <;> simp [go_sem, h, h1, h2]
/-- is the tag wrong? -/
def rbBadTag (t : Tr) : Bool := t.tag == 0 || (!(col t == 1 && hi t == hi t.left) && t.tag != rbTag t.left false)
def rbBadTree (t : Tr) : Bool := hi t.left != hi t.right || (col t == 1 && (col t.left == 1 || col t.right == 1))
def rbOne (t : Tr) : Int := if rbBadTag t then 140 else if rbBadTree t then 8 else 0
theorem rbBadTree_eq (t : Tr) (a b c d : Bool) (h1 : (hi t.left != hi t.right) = a) (h2 : (col t == 1) = b) (h3 : (col t.left == 1) = c) (h4 : (col t.right == 1) = d) : rbBadTree t = (a || (b && (c || d))) := by
  unfold rbBadTree
  rw [h1, h2, h3, h4]
theorem three {w : World} {A B C : Array Value} {T : TypeId} : (((w.alloc (.cells A T)).alloc (.cells B T)).alloc (.cells C T)).heap[w.heap.size]? = some (.cells A T (0, 0)) ∧
    (((w.alloc (.cells A T)).alloc (.cells B T)).alloc (.cells C T)).heap[w.heap.size + 1]? = some (.cells B T (0, 0)) ∧ (((w.alloc (.cells A T)).alloc (.cells B T)).alloc (.cells C T)).heap[w.heap.size + 1 + 1]? = some (.cells C T (0, 0)) := by
  refine ⟨?_, ?_, ?_⟩ <;> (repeat (first | exact alloc_at _ _ _ (by simp) | rw [alloc_lt _ _ _ (by simp <;> omega)]))
set_option maxHeartbeats 4000000 in
theorem rbOne_any (w : World) (t : Tr) (ht : InH w t) (ho : TagsOk t) : Calls Try.prog 109 #[.pointer t.ptr] w (Ret (.int .i64 (rbOne t)) w) := by
  have hfn : ∀ f, Fence.wide.fn f := fun _ => trivial
  have hx := Ext.refl w
  obtain ⟨X, eX⟩ : ∃ X, X = rbOne t := ⟨_, rfl⟩
  have hX : X = if rbBadTag t = true then 140 else if rbBadTree t = true then 8 else 0 := eX
  rw [← eX]
  have HX := Lib.hid hX
  have HL := Lib.hid (fun W h => rbOf_any W t.left h (tags_left ho))
  have HR := Lib.hid (fun W h => rbOf_any W t.right h (tags_right ho))
  have HM := Lib.hid (fun W h => rbOf_any W t h ho)
  have HBT := Lib.hid (show rbBadTag t = (t.tag == 0 || (!(col t == 1 && hi t == hi t.left) && t.tag != rbTag t.left false)) from rfl)
  clear eX hX ho
  unfold whatV at HL HR HM
  go_enter Try.func109, Try.ntmps109
  obtain ⟨m⟩ : Nonempty Nat := ⟨0⟩
  refine (wpIn_wide (n := m)).1 ?_
  gi_wp2_with fail
  refine ⟨wide_room _, (callsIn_wide.2 (left_any _ t ht)).mono ?_⟩
  rintro e w1 ⟨rfl, hS⟩
  replace hx := hx.trans hS
  replace ht := ht.ext hS
  clear hS
  gi_wp2_with fail
  refine ⟨wide_room _, (callsIn_wide.2 (HL.out _ (left_ok ht))).mono ?_⟩
  rintro e w2 ⟨rfl, hS⟩
  replace hx := hx.trans hS
  replace ht := ht.ext hS
  clear hS
  gi_wp2_with fail
  refine ⟨wide_room _, (callsIn_wide.2 (right_any _ t ht)).mono ?_⟩
  rintro e w3 ⟨rfl, hS⟩
  replace hx := hx.trans hS
  replace ht := ht.ext hS
  clear hS
  gi_wp2_with fail
  refine ⟨wide_room _, (callsIn_wide.2 (HR.out _ (right_ok ht))).mono ?_⟩
  rintro e w4 ⟨rfl, hS⟩
  replace hx := hx.trans hS
  replace ht := ht.ext hS
  clear hS
  gi_wp2_with fail
  refine ⟨wide_room _, (callsIn_wide.2 (HM.out _ ht)).mono ?_⟩
  rintro e w5 ⟨rfl, hS⟩
  replace hx := hx.trans hS
  replace ht := ht.ext hS
  clear hS
  gi_wp2_with fail
  have hE := ((((Ext.refl w5).alloc (.cells #[.int .u64 (col t.left), .int .u64 (hi t.left)] 116)).alloc (.cells #[.int .u64 (col t.right), .int .u64 (hi t.right)] 116)).alloc (.cells #[.int .u64 (col t), .int .u64 (hi t)] 116))
  obtain ⟨hbl, hbr, hbm⟩ := three (w := w5) (A := #[.int .u64 (col t.left), .int .u64 (hi t.left)]) (B := #[.int .u64 (col t.right), .int .u64 (hi t.right)]) (C := #[.int .u64 (col t), .int .u64 (hi t)]) (T := 116)
  replace ht := ht.ext hE
  replace hx := hx.trans hE
  clear hE HL HR HM
  generalize (((w5.alloc (.cells #[.int .u64 (col t.left), .int .u64 (hi t.left)] 116)).alloc (.cells #[.int .u64 (col t.right), .int .u64 (hi t.right)] 116)).alloc (.cells #[.int .u64 (col t), .int .u64 (hi t)] 116)) = w6 at *
  generalize w5.heap.size = N at *
  refine ⟨wide_room _, (callsIn_wide.2 (tag_any w6 t ht)).mono ?_⟩
  rintro e w7 ⟨rfl, hS⟩
  by_cases c0 : t.tag = 0
  · have HB := Lib.hid (show rbBadTag t = true by rw [HBT.out, c0]; rfl)
    have c1 := beq_iff_eq.2 c0
    clear c0
    gi_wp2
    go_ret
    exact ⟨ret_int (by rw [HX.out, if_pos HB.out]), hx.trans hS⟩
  · have c0' := beq_eq_false_iff_ne.2 c0
    clear c0
    replace hx := hx.trans hS
    replace ht := ht.ext hS
    replace hbl := (hS.block _ (lt_of hbl)).trans hbl
    replace hbr := (hS.block _ (lt_of hbr)).trans hbr
    replace hbm := (hS.block _ (lt_of hbm)).trans hbm
    clear hS
    gi_wp2_with fail
    have hl1 := cell_all (cell_of hbl 1)
    have hm0 := cell_all (cell_of hbm 0)
    have hm1 := cell_all (cell_of hbm 1)
    have hxd := Ext.drew w7
    cases ce : (col t == 1 && hi t == hi t.left) with
    | true =>
      have HB := Lib.hid (show rbBadTag t = false by rw [HBT.out, c0', ce]; rfl)
      have hneq := fun W => what_neq (col t) (hi t) 1 (hi t.left) W
      rw [ce] at hneq
      simp only [Bool.not_true] at hneq
      clear ce
      refine wpIn_region_G (fun j => !(List.contains (α := Nat) [10, 11] j)) (by kernel_rfl) ?_
      refine batchG hfn (fuel := 12) [0, 1, 2] (by kernel_rfl) rfl ?_
      repeat (go_big_quiet_step ((fail)))
      refine wpQuiet_nil ?_
      refine wpAnyG_one (j := 3) (by kernel_rfl) rfl ?_
      gi_wp2_with fail
      refine ⟨wide_room _, (callsIn_wide.2 (rbOver_any _ (hi t.left) true)).mono ?_⟩
      rw [show overV (hi t.left) true = .agg #[.int .u64 1, .int .u64 (hi t.left)] from rfl]
      rintro e w8 ⟨rfl, h8⟩
      gi_wp2_with fail
      refine onePost_ext (h8) ?_
      have hk := hxd.trans h8
      replace hx := hx.trans hk
      clear hl1 hm0 hm1
      refine batchG hfn (fuel := 6) [4, 5, 6, 8, 9] (by kernel_rfl) rfl ?_
      repeat (go_big_quiet_step ((fail)))
      refine wpQuiet_nil ?_
      refine wpAnyG_skip hfn (j := 7) (by kernel_rfl) rfl rfl ?_
      simp only [Act.put, List.setIfInBounds_toArray, List.set_cons_zero, List.set_cons_succ]
      refine wpAnyG_skip hfn (j := 10) (by kernel_rfl) rfl rfl ?_
      simp only [Act.put, List.setIfInBounds_toArray, List.set_cons_zero, List.set_cons_succ]
      refine wpAnyG_skip hfn (j := 11) (by kernel_rfl) rfl rfl ?_
      simp only [Act.put, List.setIfInBounds_toArray, List.set_cons_zero, List.set_cons_succ]
      refine batchG hfn (fuel := 0) [12, 13, 14] (by kernel_rfl) rfl ?_
      repeat (go_big_quiet_step ((fail)))
      refine wpQuiet_nil ?_
      refine wpAnyG_done (by kernel_rfl) ?_
      refine calmQ_normal ?_
      clear hneq hxd h8
      have bl := (hk.block _ (lt_of hbl)).trans hbl
      have br := (hk.block _ (lt_of hbr)).trans hbr
      have bm := (hk.block _ (lt_of hbm)).trans hbm
      have hl0 := cell_of bl 0
      have hl1 := cell_of bl 1
      have hr0 := cell_of br 0
      have hr1 := cell_of br 1
      have hm0 := cell_of bm 0
      simp at hl0 hl1 hr0 hr1 hm0
      clear hbl hbr hbm bl br bm
      cases h1 : (hi t.left != hi t.right) <;> cases h2 : (col t == 1) <;> cases h3 : (col t.left == 1) <;> cases h4 : (col t.right == 1)
      all_goals
        have HT := Lib.hid (rbBadTree_eq t _ _ _ _ h1 h2 h3 h4)
        gi_wp2
        go_ret
        exact ⟨ret_int (by rw [HX.out, HB.out, HT.out]; rfl), hx⟩
    | false =>
      have hneq := fun W => what_neq (col t) (hi t) 1 (hi t.left) W
      rw [ce] at hneq
      simp only [Bool.not_false] at hneq
      refine wpIn_region_G (fun j => !(List.contains (α := Nat) [10, 11] j)) (by kernel_rfl) ?_
      refine batchG hfn (fuel := 12) [0, 1, 2] (by kernel_rfl) rfl ?_
      repeat (go_big_quiet_step ((fail)))
      refine wpQuiet_nil ?_
      refine wpAnyG_one (j := 3) (by kernel_rfl) rfl ?_
      gi_wp2_with fail
      refine ⟨wide_room _, (callsIn_wide.2 (rbOver_any _ (hi t.left) true)).mono ?_⟩
      rw [show overV (hi t.left) true = .agg #[.int .u64 1, .int .u64 (hi t.left)] from rfl]
      rintro e w8 ⟨rfl, h8⟩
      gi_wp2_with fail
      refine onePost_ext (h8) ?_
      have hk0 := hxd.trans h8
      clear hl1 hm0 hm1
      have hl1 := cell_all (cell_of ((hk0.block _ (lt_of hbl)).trans hbl) 1)
      have hx8 := Ext.refl w8
      refine batchG hfn (fuel := 6) [4, 5, 6, 8, 9] (by kernel_rfl) rfl ?_
      repeat (go_big_quiet_step ((fail)))
      refine wpQuiet_nil ?_
      refine wpAnyG_one (j := 7) (by kernel_rfl) rfl ?_
      gi_wp2_with fail
      refine ⟨wide_room _, (callsIn_wide.2 (tag_any _ t (ht.ext hk0))).mono ?_⟩
      rintro e w9 ⟨rfl, h9⟩
      gi_wp2_with fail
      refine onePost_ext (h9) ?_
      clear hl1 hneq hxd hx8
      refine wpAnyG_one (j := 10) (by kernel_rfl) rfl ?_
      gi_wp2_with fail
      refine ⟨wide_room _, (callsIn_wide.2 (rbOver_any _ (hi t.left) false)).mono ?_⟩
      rintro e w10 ⟨rfl, h10⟩
      gi_wp2_with fail
      refine onePost_any (by kernel_rfl) ?_
      refine wpAnyG_one (j := 11) (by kernel_rfl) rfl ?_
      gi_wp2_with fail
      refine ⟨wide_room _, (callsIn_wide.2 (rbOverTag_any _ t.left false)).mono ?_⟩
      rintro e w11 ⟨rfl, h11⟩
      gi_wp2_with fail
      refine onePost_any (by kernel_rfl) ?_
      have hk := ((hk0.trans h9).trans h10).trans h11
      replace hx := hx.trans hk
      cases ct : (t.tag != rbTag t.left false) with
      | true =>
        have HB := Lib.hid (show rbBadTag t = true by rw [HBT.out, c0', ce, ct]; rfl)
        clear ce h8 hk0 h9 h10 h11
        refine batchG hfn (fuel := 0) [12, 13, 14] (by kernel_rfl) rfl ?_
        repeat (go_big_quiet_step ((fail)))
        refine wpQuiet_nil ?_
        refine wpAnyG_done (by kernel_rfl) ?_
        refine calmQ_normal ?_
        gi_wp2
        go_ret
        exact ⟨ret_int (by rw [HX.out, if_pos HB.out]), hx⟩
      | false =>
        have HB := Lib.hid (show rbBadTag t = false by rw [HBT.out, c0', ce, ct]; rfl)
        clear ce h8 hk0 h9 h10 h11
        refine batchG hfn (fuel := 0) [12, 13, 14] (by kernel_rfl) rfl ?_
        repeat (go_big_quiet_step ((fail)))
        refine wpQuiet_nil ?_
        refine wpAnyG_done (by kernel_rfl) ?_
        refine calmQ_normal ?_
        have bl := (hk.block _ (lt_of hbl)).trans hbl
        have br := (hk.block _ (lt_of hbr)).trans hbr
        have bm := (hk.block _ (lt_of hbm)).trans hbm
        have hl0 := cell_of bl 0
        have hl1 := cell_of bl 1
        have hr0 := cell_of br 0
        have hr1 := cell_of br 1
        have hm0 := cell_of bm 0
        simp at hl0 hl1 hr0 hr1 hm0
        clear hbl hbr hbm bl br bm
        cases h1 : (hi t.left != hi t.right) <;> cases h2 : (col t == 1) <;> cases h3 : (col t.left == 1) <;> cases h4 : (col t.right == 1)
        all_goals
          have HT := Lib.hid (rbBadTree_eq t _ _ _ _ h1 h2 h3 h4)
          gi_wp2
          go_ret
          exact ⟨ret_int (by rw [HX.out, HB.out, HT.out]; rfl), hx⟩
end Go.Proofs.Ytejknkhahjgdnaa
namespace Go.Proofs.Ytejknkhahjgdnaa
open Go Go.RowKit

/-- the first one that is wrong, and how. -/
def firstOf (one : Tr → Int) : List Tr → Nat × Int
  | [] => (0, 0)
  | t :: r => if one t = 0 then ((firstOf one r).1 + 1, (firstOf one r).2) else (0, one t)
def mayOf (one : Tr → Int) (T : Tr) : Bool := (firstOf one T.pre).2 == 0
section
variable {one : Tr → Int}
theorem firstOf_cons (t : Tr) (r : List Tr) : firstOf one (t :: r) = if one t = 0 then ((firstOf one r).1 + 1, (firstOf one r).2) else (0, one t) := rfl
theorem firstOf_none : ∀ {l : List Tr}, (firstOf one l).2 = 0 → (firstOf one l).1 = l.length ∧ ∀ t ∈ l, one t = 0
  | [], _ => by simp [firstOf]
  | t :: l, h => by
    rw [firstOf_cons] at h ⊢
    split at h
    · rename_i h1
      have := firstOf_none (l := l) h
      refine ⟨by simp [this.1, h1], ?_⟩
      intro x hx
      rcases List.mem_cons.1 hx with rfl | hx
      · exact h1
      · exact this.2 x hx
    · rename_i h1
      exact (h1 h).elim
theorem firstOf_append (a b : List Tr) : firstOf one (a ++ b) = if (firstOf one a).2 = 0 then (a.length + (firstOf one b).1, (firstOf one b).2) else firstOf one a := by
  induction a with
  | nil => simp [firstOf]
  | cons t a ih =>
    rw [List.cons_append, firstOf_cons, firstOf_cons]
    by_cases h1 : one t = 0
    · simp only [h1, ih]
      by_cases h3 : (firstOf one a).2 = 0
      · simp [h3]; omega
      · simp [h3]
    · simp [h1]
theorem firstOf_le : ∀ l : List Tr, (firstOf one l).1 ≤ l.length
  | [] => by simp [firstOf]
  | t :: l => by
    have := firstOf_le l
    rw [firstOf_cons]
    split
    · simp; omega
    · simp
theorem mayOf_nil : mayOf one .nil = true := rfl
theorem mayOf_node (b : Nat) (l : Tr) (k v g : Int) (r : Tr) : mayOf one (.node b l k v g r) = (one (.node b l k v g r) == 0 && mayOf one l && mayOf one r) := by
  unfold mayOf
  simp only [Tr.pre]
  rw [firstOf_cons]
  by_cases h1 : one (.node b l k v g r) = 0
  · simp only [h1, firstOf_append]
    by_cases h3 : (firstOf one l.pre).2 = 0 <;> simp [h3]
  · rw [if_neg h1, beq_eq_false_iff_ne.2 h1]; simp
end
/-- what is still to be looked at, of a stack of trees (the next one stands last). -/
def pend (st : List Tr) : List Tr := st.reverse.flatMap Tr.pre
theorem pend_nil : pend [] = [] := rfl
theorem pend_snoc (st : List Tr) (t : Tr) : pend (st ++ [t]) = t.pre ++ pend st := by simp [pend]
theorem pend_two (st : List Tr) (a b : Tr) : pend (st ++ [a, b]) = b.pre ++ (a.pre ++ pend st) := by simp [pend]

/-- a row of pointers that was made since the heap had B blocks. -/
def NOwn (B : Nat) (w : World) (v : Value) (xs : List (Option Addr)) : Prop := w.ownsRow B 43 1 v xs.length (xs.map Value.pointer)
theorem NOwn.nil (B : Nat) (w : World) : NOwn B w (.slice none 0 0) [] := ⟨rfl, .inl ⟨rfl, rfl⟩⟩
theorem NOwn.ext {B : Nat} {w w' : World} {v : Value} {xs : List (Option Addr)} (h : NOwn B w v xs) (e : Ext w w') : NOwn B w' v xs := by
  obtain ⟨h1, h | ⟨g, cap, cur, hv, hb, hg, hc⟩⟩ := h
  · exact ⟨h1, .inl h⟩
  · exact ⟨h1, .inr ⟨g, cap, cur, hv, hb, (e.block g (lt_of hg)).trans hg, hc⟩⟩
theorem NOwn.mono {B B' : Nat} {w : World} {v : Value} {xs : List (Option Addr)} (h : NOwn B w v xs) (e : B' ≤ B) : NOwn B' w v xs := by
  obtain ⟨h1, h | ⟨g, cap, cur, hv, hb, hg, hc⟩⟩ := h
  · exact ⟨h1, .inl h⟩
  · exact ⟨h1, .inr ⟨g, cap, cur, hv, Nat.le_trans e hb, hg, hc⟩⟩
theorem NOwn.slice {B : Nat} {w : World} {v : Value} {xs : List (Option Addr)} (h : NOwn B w v xs) : ∃ a c, v = .slice a xs.length c := by
  obtain ⟨h1, ⟨rfl, h0⟩ | ⟨g, cap, cur, rfl, hb, hg, hc⟩⟩ := h
  · exact ⟨none, 0, by rw [h0]⟩
  · exact ⟨_, _, rfl⟩
/-- its last one, and the row without it. -/
theorem NOwn.pop {B : Nat} {w : World} {v : Value} {xs : List (Option Addr)} {x : Option Addr} (h : NOwn B w v (xs ++ [x])) :
    ∃ g cap, v = .slice (some ⟨g, 0, none⟩) (xs.length + 1) cap ∧ xs.length + 1 ≤ cap ∧ w.cell? ⟨g, xs.length, none⟩ = some (.pointer x) ∧ NOwn B w (.slice (some ⟨g, 0, none⟩) xs.length cap) xs := by
  obtain ⟨h1, ⟨rfl, h0⟩ | ⟨g, cap, cur, hv, hb, hg, hc, hm, hs, ht⟩⟩ := h
  · simp at h0
  · rw [List.length_append, List.length_singleton] at hv hc ht
    refine ⟨g, cap, hv, hc, ?_, by simp, .inr ⟨g, cap, cur, rfl, hb, hg, by omega, hm, hs, ?_⟩⟩
    · rw [cell_of hg]
      have : (cur.toList.take ((xs.length + 1) * 1))[xs.length]? = some (.pointer x) := by rw [ht]; simp
      rw [List.getElem?_take] at this
      split at this
      · simpa using this
      · cases this
    · have := congrArg (List.take (xs.length * 1)) ht
      rw [List.take_take, Nat.min_eq_left (by omega)] at this
      rw [this]; simp
theorem node_info : ∃ i : TypeInfo, Try.prog.info? 43 = some i ∧ i.zero = some (.pointer none) ∧ i.size = 1 ∧ i.bytes = 8 := by
  have h : (Try.prog.info? 43).map (fun i => (i.zero, i.size, i.bytes)) = some (some (.pointer none), 1, 8) := by kernel_rfl
  cases hi : Try.prog.info? 43 with
  | none => rw [hi] at h; cases h
  | some i =>
    rw [hi] at h
    simp only [Option.map_some, Option.some.injEq, Prod.mk.injEq] at h
    exact ⟨i, rfl, h.1, h.2.1, h.2.2⟩
/-- append, onto a row of one's own. -/
theorem append_nown {B : Nat} {w : World} {v : Value} {xs ys : List (Option Addr)} (ty : TypeId) {b o c : Nat} (hv : NOwn B w v xs) (hr : w.rangeAt b o (ys.map Value.pointer)) (hlen : xs.length + ys.length ≤ 10000) (hB : B ≤ w.heap.size) :
    ∃ v' w', (Builtin.append_ #[118, 118] ty #[v, .slice (some ⟨b, o, none⟩) ys.length c]).run Try.prog w = .ok v' w' ∧ NOwn B w' v' (xs ++ ys) ∧ w.grownBy w' v.ownBlock := by
  obtain ⟨i, hi, hz, hs, hb⟩ := node_info
  have hml : (10000 : Nat) ≤ maxLen := by decide
  obtain ⟨v', w', hrun, hown, hg, _, _⟩ := run_append_own_at (P := Try.prog) w B _ ty _ i _ 1 8 Try.underlying118 hi hz hs hb rfl (by omega) v xs.length (xs.map Value.pointer) hv ⟨b, o, none⟩ ys.length c (ys.map Value.pointer) (by simp)
    (fun j u hj => by rw [Addr.add_mid]; exact hr j u hj) (by intro u hu; obtain ⟨x, _, rfl⟩ := List.mem_map.1 hu; rfl) (by omega) (by omega) hB
  refine ⟨v', w', hrun, ?_, hg⟩
  show w'.ownsRow _ _ _ _ _ _
  rw [List.length_append, List.map_append]
  exact hown
/-- what append leaves alone. -/
theorem ngrown_ext {w0 w w' : World} {v : Value} {xs : List (Option Addr)} (hw : Ext w0 w) (hv : NOwn w0.heap.size w v xs) (hg : w.grownBy w' v.ownBlock) : Ext w0 w' := by
  refine RowKit.Below.grown hw hg hw.size ?_
  intro k hk
  rcases hv with ⟨_, ⟨rfl, h0⟩ | ⟨g, cap, cur, rfl, hb, _⟩⟩
  · cases hk
  · simp only [Value.ownBlock, Option.some.injEq] at hk
    omega
section
variable {F : Fence} {n : Nat} {ops : Array Oper} {rest : List Oper} {o : Oper} {a : Act} {Q : Exit → Act → World → Prop}
theorem wpList_append_nodes (hgd : o.guard = none) (s x : Operand) (ho : o.op = .call { callee := .builtin .append, args := #[s, x], argTypes := #[118, 118] })
    {B : Nat} {w : World} {v : Value} {xs ys : List (Option Addr)} {b i c : Nat} (hs : a.eval s = v) (hx : a.eval x = .slice (some ⟨b, i, none⟩) ys.length c) (hv : NOwn B w v xs) (hr : w.rangeAt b i (ys.map Value.pointer)) (hlen : xs.length + ys.length ≤ 10000) (hB : B ≤ w.heap.size)
    (h : ∀ v' w', NOwn B w' v' (xs ++ ys) → w.grownBy w' v.ownBlock → wpList Try.prog ops Q rest (a.put o.dst v') w') : wpList Try.prog ops Q (o :: rest) a w := by
  refine wpList_plain hgd fun K hK => ?_
  obtain ⟨v', w', hr, h2, h3⟩ := append_nown (c := c) o.type hv hr hlen hB
  unfold Oper.wp execOp
  simp only [ho, resolve, invoke, builtin, Sem.run_bind, Sem.run_pure, Result.andThen_ok, List.map_toArray, List.map_cons, List.map_nil, hs, hx, hr]
  exact hK _ _ (h v' w' h2 h3)
end
end Go.Proofs.Ytejknkhahjgdnaa
namespace Go.Proofs.Ytejknkhahjgdnaa
open Go Go.RowKit Go.Shelf
attribute [local go_sem] Oper.semAt_some

set_option maxRecDepth 100000 in
set_option maxHeartbeats 2000000 in
theorem rbOn_in (M : Nat → Prop) (Px : Tr → Prop) (l N by_ bo : Nat) (J Jx : List Tr → World → Prop) (hy0 : ¬ M by_) (ho0 : ¬ M bo)
    (hY : ∀ m pre x W, Px x → J pre W → pre.length < N → YieldAt Fence.wide m Try.prog l #[.int .i64 (rbOne x)] W fun e W' =>
      (e = .returned (.bool true) ∧ J (pre ++ [x]) W' ∧ Keep M W W') ∨ (e = .returned (.bool false) ∧ Jx (pre ++ [x]) W'))
    (hJE : ∀ pre W W', J pre W → Ext W W' → J pre W')
    (T : Tr) :
    ∀ (n : Nat) (pre : List Tr) (W : World), InH W T → TagsOk T → Off M T → (∀ x ∈ T.pre, Px x) → J pre W → pre.length + T.pre.length ≤ N →
      Boxed W by_ 133 (.func (.yield l) #[] #[]) → Boxed W bo 76 (.func (.func 108) #[] #[.pointer (some ⟨by_, 0, none⟩), .pointer (some ⟨bo, 0, none⟩)]) →
      CallsIn Fence.wide n Try.prog 108 #[.pointer T.ptr, .pointer (some ⟨by_, 0, none⟩), .pointer (some ⟨bo, 0, none⟩)] W fun e W' =>
        (e = .returned (.bool true) ∧ J (pre ++ T.pre) W' ∧ Keep M W W') ∨ (e = .returned (.bool false) ∧ ∃ q, q <+: T.pre ∧ Jx (pre ++ q) W') := by
  have hfn : ∀ f, Fence.wide.fn f := fun _ => trivial
  induction T with
  | nil =>
    intro n pre W _ _ _ _ hJ _ _ _
    rw [Tr.ptr_nil]
    refine callsIn_of_wp Try.func108 rfl trivial ?_ rfl
    simp only [Try.ntmps108, List.size_toArray, List.length_cons, List.length_nil, Nat.reduceAdd, Nat.reduceSub, Array.replicate_succ, Array.replicate_zero, List.push_toArray, List.append_toArray, List.nil_append, List.cons_append]
    gi_wp2_with fail
    refine wpIn_region_G (fun j => !(List.contains (α := Nat) [6, 11, 17] j)) (by kernel_rfl) ?_
    refine batchG hfn (fuel := 16) [0, 1, 2, 3, 4] (by kernel_rfl) rfl ?_
    repeat (go_big_quiet_step ((fail)))
    refine wpQuiet_nil ?_
    refine wpAnyG_skip hfn (j := 5) (by kernel_rfl) rfl rfl ?_
    simp only [Act.put, List.setIfInBounds_toArray, List.set_cons_zero, List.set_cons_succ]
    refine wpAnyG_skip hfn (j := 6) (by kernel_rfl) rfl rfl ?_
    simp only [Act.put, List.setIfInBounds_toArray, List.set_cons_zero, List.set_cons_succ]
    refine batchG hfn (fuel := 11) [7, 8, 9] (by kernel_rfl) rfl ?_
    repeat (go_big_quiet_step ((fail)))
    refine wpQuiet_nil ?_
    refine wpAnyG_skip hfn (j := 10) (by kernel_rfl) rfl rfl ?_
    simp only [Act.put, List.setIfInBounds_toArray, List.set_cons_zero, List.set_cons_succ]
    refine wpAnyG_skip hfn (j := 11) (by kernel_rfl) rfl rfl ?_
    simp only [Act.put, List.setIfInBounds_toArray, List.set_cons_zero, List.set_cons_succ]
    refine batchG hfn (fuel := 5) [12, 13, 14, 15] (by kernel_rfl) rfl ?_
    repeat (go_big_quiet_step ((fail)))
    refine wpQuiet_nil ?_
    refine wpAnyG_skip hfn (j := 16) (by kernel_rfl) rfl rfl ?_
    simp only [Act.put, List.setIfInBounds_toArray, List.set_cons_zero, List.set_cons_succ]
    refine wpAnyG_skip hfn (j := 17) (by kernel_rfl) rfl rfl ?_
    simp only [Act.put, List.setIfInBounds_toArray, List.set_cons_zero, List.set_cons_succ]
    refine batchG hfn (fuel := 0) [18, 19, 20] (by kernel_rfl) rfl ?_
    repeat (go_big_quiet_step ((fail)))
    refine wpQuiet_nil ?_
    refine wpAnyG_done (by kernel_rfl) ?_
    refine calmQ_normal ?_
    gi_wp2
    go_ret
    exact .inl ⟨rfl, by simpa [Tr.pre] using hJE _ _ _ hJ (Ext.drew W), Keep.drew W⟩
  | node b tl k v g tr ihl ihr =>
    intro n pre W ht hto ho hP hJ hN hy hbo
    simp only [Tr.pre, List.length_cons, List.length_append] at hN
    have Hl := Lib.hid ihl
    have Hr := Lib.hid ihr
    clear ihl ihr
    have HP := Lib.hid hP
    clear hP
    have hcy := cell_all hy.cell
    have hx0 := Ext.drew W
    rw [Tr.ptr_node]
    refine callsIn_of_wp Try.func108 rfl trivial ?_ rfl
    simp only [Try.ntmps108, List.size_toArray, List.length_cons, List.length_nil, Nat.reduceAdd, Nat.reduceSub, Array.replicate_succ, Array.replicate_zero, List.push_toArray, List.append_toArray, List.nil_append, List.cons_append]
    gi_wp2_with fail
    refine wpIn_region_G (fun j => !(List.contains (α := Nat) [6, 11, 17] j)) (by kernel_rfl) ?_
    refine batchG hfn (fuel := 16) [0, 1, 2, 3, 4] (by kernel_rfl) rfl ?_
    repeat (go_big_quiet_step ((fail)))
    refine wpQuiet_nil ?_
    clear hcy
    refine wpAnyG_one (j := 5) (by kernel_rfl) rfl ?_
    gi_wp2_with fail
    refine ⟨wide_room _, (callsIn_wide.2 (rbOne_any _ (.node b tl k v g tr) (ht.ext hx0) hto)).mono ?_⟩
    rintro e W0 ⟨rfl, h0⟩
    gi_wp2_with fail
    refine onePost_ext (h0) ?_
    have h00 := hx0.trans h0
    obtain ⟨fn, tmps, assign, body, hy1, hR⟩ := hY n pre (.node b tl k v g tr) W0 (HP.out _ (List.mem_cons_self ..)) (hJE _ _ _ hJ h00) (by omega)
    have HR := Lib.hid hR
    clear hR hY
    refine wpAnyG_one (j := 6) (by kernel_rfl) rfl ?_
    gi_wp2_with fail
    clear hy1
    refine ⟨wide_room _, (RoundIn.any HR.out).mono ?_⟩
    rintro e W1 (⟨rfl, hJ1, hk1⟩ | ⟨rfl, hJx1⟩)
    · have hk01 := (Keep.ext (M := M) h00).trans hk1
      have ht1 := InH.keep hk01 ho ht
      have hy1 := hk01.boxed hy0 hy
      have hb1 := hk01.boxed ho0 hbo
      clear hy hbo ht hJ hk1
      have hco := cell_all hb1.cell
      have hx1 := Ext.refl W1
      gi_wp2_with fail
      refine onePost_any (by kernel_rfl) ?_
      refine batchG hfn (fuel := 11) [7, 8, 9] (by kernel_rfl) rfl ?_
      repeat (go_big_quiet_step ((fail)))
      refine wpQuiet_nil ?_
      refine wpAnyG_one (j := 10) (by kernel_rfl) rfl ?_
      gi_wp2_with fail
      rw [← Tr.ptr_node b tl k v g tr]
      clear hco hx1
      refine ⟨wide_room _, (callsIn_wide.2 (left_any _ _ ht1)).mono ?_⟩
      rintro e W2 ⟨rfl, h2⟩
      gi_wp2_with fail
      refine onePost_ext (h2) ?_
      refine wpAnyG_one (j := 11) (by kernel_rfl) rfl ?_
      gi_wp2_with fail
      simp only [Tr.left_node]
      have ht2 := ht1.ext h2
      have hb2 := (Keep.ext (M := M) h2).boxed ho0 hb1
      have hy2 := (Keep.ext (M := M) h2).boxed hy0 hy1
      have hJ2 := hJE _ _ _ hJ1 h2
      have hk02 := hk01.trans (Keep.ext h2)
      clear ht1 hb1 hy1 hJ1 hk01
      refine ⟨wide_room _, (Hl.out (n - 1) _ W2 ht2.2.1 hto.2.2.1 ho.2.1 (fun x hx => HP.out x (List.mem_cons_of_mem _ (List.mem_append_left _ hx))) hJ2 (by simp; omega) hy2 hb2).mono ?_⟩
      rintro e W3 (⟨rfl, hJ3, hk3⟩ | ⟨rfl, q, hq, hJx3⟩)
      · have ht3 := InH.keep hk3 ho ht2
        have hy3 := hk3.boxed hy0 hy2
        have hb3 := hk3.boxed ho0 hb2
        have hk03 := hk02.trans hk3
        clear hk3 hk02 hJ2 hb2 hy2 ht2
        have hco := cell_all hb3.cell
        have hx3 := Ext.refl W3
        gi_wp2_with fail
        refine onePost_any (by kernel_rfl) ?_
        refine batchG hfn (fuel := 5) [12, 13, 14, 15] (by kernel_rfl) rfl ?_
        repeat (go_big_quiet_step ((fail)))
        refine wpQuiet_nil ?_
        refine wpAnyG_one (j := 16) (by kernel_rfl) rfl ?_
        gi_wp2_with fail
        clear hco hx3
        refine ⟨wide_room _, (callsIn_wide.2 (right_any _ _ ht3)).mono ?_⟩
        rintro e W4 ⟨rfl, h4⟩
        gi_wp2_with fail
        refine onePost_ext (h4) ?_
        refine wpAnyG_one (j := 17) (by kernel_rfl) rfl ?_
        gi_wp2_with fail
        simp only [Tr.right_node]
        have ht4 := ht3.ext h4
        have hb4 := (Keep.ext (M := M) h4).boxed ho0 hb3
        have hy4 := (Keep.ext (M := M) h4).boxed hy0 hy3
        have hJ4 := hJE _ _ _ hJ3 h4
        have hk04 := hk03.trans (Keep.ext h4)
        clear ht3 hb3 hy3 hJ3 hk03
        refine ⟨wide_room _, (Hr.out (n - 1) _ W4 ht4.2.2 hto.2.2.2 ho.2.2 (fun x hx => HP.out x (List.mem_cons_of_mem _ (List.mem_append_right _ hx))) hJ4 (by simp; omega) hy4 hb4).mono ?_⟩
        rintro e W5 (⟨rfl, hJ5, hk5⟩ | ⟨rfl, q, hq, hJx5⟩)
        · gi_wp2_with fail
          refine onePost_any (by kernel_rfl) ?_
          refine batchG hfn (fuel := 0) [18, 19, 20] (by kernel_rfl) rfl ?_
          repeat (go_big_quiet_step ((fail)))
          refine wpQuiet_nil ?_
          refine wpAnyG_done (by kernel_rfl) ?_
          refine calmQ_normal ?_
          gi_wp2
          go_ret
          exact .inl ⟨rfl, by simpa [Tr.pre, List.append_assoc] using hJ5, hk04.trans hk5⟩
        · gi_wp2_with fail
          refine onePost_any (by kernel_rfl) ?_
          refine batchG hfn (fuel := 0) [18, 19, 20] (by kernel_rfl) rfl ?_
          repeat (go_big_quiet_step ((fail)))
          refine wpQuiet_nil ?_
          refine wpAnyG_done (by kernel_rfl) ?_
          refine calmQ_normal ?_
          gi_wp2
          go_ret
          obtain ⟨r', hr'⟩ := hq
          exact .inr ⟨rfl, .node b tl k v g tr :: (tl.pre ++ q), ⟨r', by simp [Tr.pre, ← hr']⟩, by simpa [List.append_assoc] using hJx5⟩
      · gi_wp2_with fail
        refine onePost_any (by kernel_rfl) ?_
        refine batchG hfn (fuel := 5) [12, 13, 14, 15] (by kernel_rfl) rfl ?_
        repeat (go_big_quiet_step ((fail)))
        refine wpQuiet_nil ?_
        refine wpAnyG_skip hfn (j := 16) (by kernel_rfl) rfl rfl ?_
        simp only [Act.put, List.setIfInBounds_toArray, List.set_cons_zero, List.set_cons_succ]
        refine wpAnyG_skip hfn (j := 17) (by kernel_rfl) rfl rfl ?_
        simp only [Act.put, List.setIfInBounds_toArray, List.set_cons_zero, List.set_cons_succ]
        refine batchG hfn (fuel := 0) [18, 19, 20] (by kernel_rfl) rfl ?_
        repeat (go_big_quiet_step ((fail)))
        refine wpQuiet_nil ?_
        refine wpAnyG_done (by kernel_rfl) ?_
        refine calmQ_normal ?_
        gi_wp2
        go_ret
        obtain ⟨r', hr'⟩ := hq
        exact .inr ⟨rfl, .node b tl k v g tr :: q, ⟨r' ++ tr.pre, by simp [Tr.pre, ← hr']⟩, by simpa [List.append_assoc] using hJx3⟩
    · gi_wp2_with fail
      refine onePost_any (by kernel_rfl) ?_
      refine batchG hfn (fuel := 11) [7, 8, 9] (by kernel_rfl) rfl ?_
      repeat (go_big_quiet_step ((fail)))
      refine wpQuiet_nil ?_
      refine wpAnyG_skip hfn (j := 10) (by kernel_rfl) rfl rfl ?_
      simp only [Act.put, List.setIfInBounds_toArray, List.set_cons_zero, List.set_cons_succ]
      refine wpAnyG_skip hfn (j := 11) (by kernel_rfl) rfl rfl ?_
      simp only [Act.put, List.setIfInBounds_toArray, List.set_cons_zero, List.set_cons_succ]
      refine batchG hfn (fuel := 5) [12, 13, 14, 15] (by kernel_rfl) rfl ?_
      repeat (go_big_quiet_step ((fail)))
      refine wpQuiet_nil ?_
      refine wpAnyG_skip hfn (j := 16) (by kernel_rfl) rfl rfl ?_
      simp only [Act.put, List.setIfInBounds_toArray, List.set_cons_zero, List.set_cons_succ]
      refine wpAnyG_skip hfn (j := 17) (by kernel_rfl) rfl rfl ?_
      simp only [Act.put, List.setIfInBounds_toArray, List.set_cons_zero, List.set_cons_succ]
      refine batchG hfn (fuel := 0) [18, 19, 20] (by kernel_rfl) rfl ?_
      repeat (go_big_quiet_step ((fail)))
      refine wpQuiet_nil ?_
      refine wpAnyG_done (by kernel_rfl) ?_
      refine calmQ_normal ?_
      gi_wp2
      go_ret
      exact .inr ⟨rfl, [.node b tl k v g tr], ⟨tl.pre ++ tr.pre, rfl⟩, hJx1⟩
end Go.Proofs.Ytejknkhahjgdnaa
namespace Go.Proofs.Ytejknkhahjgdnaa
open Go Go.RowKit Go.Shelf
attribute [local go_sem] Oper.semAt_some

set_option maxHeartbeats 1000000 in
/-- **rb.wrong(t) hands back what goes over what is wrong with t's nodes, each ahead of its sides.** -/
theorem rbWrong_stops (M : Nat → Prop) (n Bt : Nat) (T : Tr) (w : World) (hM : ∀ i, M i → i < w.heap.size) (hBt : Boxed w Bt 43 (.pointer T.ptr)) (hT : InH w T) (hto : TagsOk T) (ho : Off M T) :
    SeqStopsK Fence.wide n Try.prog 107 #[.pointer (some ⟨Bt, 0, none⟩)] (fun x : Tr => #[Value.int .i64 (rbOne x)]) (Keep M) (fun ys => ys = T.pre) (fun q => q <+: T.pre) T.pre.length w := by
  intro l J Jx W hW hJ hJx hY h0
  have hsz : w.heap.size ≤ W.heap.size := hW.size
  have hE : Ext w W := hW
  have hW2 : Ext W ((W.alloc (.cells #[.func (.yield l) #[] #[]] 133)).alloc (.cells #[.func (.func 108) #[] #[.pointer (some ⟨W.heap.size, 0, none⟩), .pointer (some ⟨W.heap.size + 1, 0, none⟩)]] 76)) := ((Ext.refl W).alloc _).alloc _
  have hon := (rbOn_in M (fun _ => True) l T.pre.length W.heap.size (W.heap.size + 1) J Jx (fun h => by have := hM _ h; omega) (fun h => by have := hM _ h; omega)
    (fun m pre x W _ hj hl => YieldAt.any m (hY pre x W hj hl))
    (fun pre W W' h hE => ext_of_abides hJ h hE) T (n - 1) [] _ ((hT.ext hE).ext hW2) hto ho (fun _ _ => trivial) (ext_of_abides hJ h0 hW2) (by simp)
    ((Boxed.new W _ _).alloc _) (by have := Boxed.new (W.alloc (.cells #[.func (.yield l) #[] #[]] 133)) 76 (.func (.func 108) #[] #[.pointer (some ⟨W.heap.size, 0, none⟩), .pointer (some ⟨W.heap.size + 1, 0, none⟩)]); simpa using this))
  have Hon := Lib.hid hon
  clear hon hY
  have hcb := (show Boxed W Bt _ _ from hE.get hBt).cell
  have hlb := (show Boxed W Bt _ _ from hE.get hBt).lt
  have hfn : ∀ f, Fence.wide.fn f := fun _ => trivial
  refine callsIn_of_wp Try.func107 rfl trivial ?_ rfl
  simp only [Try.ntmps107, List.size_toArray, List.length_cons, List.length_nil, Nat.reduceAdd, Nat.reduceSub, Array.replicate_succ, Array.replicate_zero, List.push_toArray, List.append_toArray, List.nil_append, List.cons_append]
  gi_wp2_with fail
  refine ⟨wide_room _, Hon.out.mono ?_⟩
  rintro e W1 (⟨rfl, hJ1, -⟩ | ⟨rfl, q, hq, hJ1⟩)
  · gi_wp2
    go_end0
    exact ⟨⟨_, rfl⟩, .inl ⟨_, rfl, by simpa using hJ1⟩⟩
  · gi_wp2
    go_end0
    exact ⟨⟨_, rfl⟩, .inr ⟨q, hq, by simpa using hJ1⟩⟩
theorem rbWrong_any (w : World) (p : Option Addr) : Calls Try.prog 104 #[.pointer p] w fun e w' => e = .returned (.func (.func 107) #[] #[.pointer (some ⟨w.heap.size, 0, none⟩)]) ∧ w' = w.alloc (.cells #[.pointer p] 43) := by
  go_enter Try.func104, Try.ntmps104
  go_wp2
  go_ret
  exact ⟨rfl, rfl⟩
theorem firstOf_good {one : Tr → Int} : ∀ {l : List Tr}, (∀ t ∈ l, one t = 0) → firstOf one l = (l.length, 0)
  | [], _ => rfl
  | t :: l, h => by
    rw [firstOf_cons, if_pos (h t (List.mem_cons_self ..)), firstOf_good (l := l) (fun x hx => h x (List.mem_cons_of_mem _ hx))]
    rfl
theorem firstOf_bad {one : Tr → Int} {x : Tr} {l r : List Tr} (h : ∀ t ∈ l, one t = 0) (hx : one x ≠ 0) : firstOf one (l ++ x :: r) = (l.length, one x) := by
  rw [firstOf_append, firstOf_good h, firstOf_cons, if_neg hx]
  simp
theorem two_end0 {w W0 W : World} {N D : Nat} {t u : TypeId} {a b : Value} (hN : w.heap.size = N) (hE : Ext w W0) (hb : Below N W0 W) (hD : W0.heap.size ≤ D) (hK : W.heap[D]? = some (.deferred (some []))) (h1 : Boxed W N t a) (h2 : Boxed W (N + 1) u b) (hs : N + 2 ≤ W0.heap.size) :
    (W.putObj D (.deferred none)).cell? ⟨N, 0, none⟩ = some a ∧ (W.putObj D (.deferred none)).cell? ⟨N + 1, 0, none⟩ = some b ∧ Ext w (W.putObj D (.deferred none)) := by
  refine ⟨(Boxed.kept h1 (grownBy_putObj' _ D _) (by simp; omega)).cell, (Boxed.kept h2 (grownBy_putObj' _ D _) (by simp; omega)).cell, ?_⟩
  have hB : Below N w W0 := by have := hE; unfold Ext at this; rwa [hN] at this
  have := (hB.trans hb).trans (belowK_b (w := W0) (n₀ := N) (by omega) _ D _ (.deferred none) hD hK rfl rfl)
  unfold Ext
  rwa [hN]
/-- the world ahead of first's loop. -/
def fstW (w : World) (p : Option Addr) : World := ((w.alloc (.cells #[.int .i64 0] 3)).alloc (.cells #[.int .i64 0] 24)).alloc (.cells #[.pointer p] 43)
theorem fstW_all (w : World) (p : Option Addr) : Ext w (fstW w p) ∧ (fstW w p).heap.size = w.heap.size + 3 ∧ Boxed (fstW w p) w.heap.size 3 (.int .i64 0) ∧ Boxed (fstW w p) (w.heap.size + 1) 24 (.int .i64 0) ∧
    Boxed (fstW w p) (w.heap.size + 1 + 1) 43 (.pointer p) := by
  refine ⟨(((Ext.refl w).alloc _).alloc _).alloc _, by simp [fstW], ?_, ?_, ?_⟩ <;> unfold fstW <;> (try unfold Boxed) <;> (repeat (first | exact alloc_at _ _ _ (by simp) | rw [alloc_lt _ _ _ (by simp <;> omega)]))
set_option maxRecDepth 100000 in
set_option maxHeartbeats 2000000 in
theorem rbFirst_in (n : Nat) (hn : Hid (1 ≤ n)) (T : Tr) (w : World) (hT : InH w T) (hto : TagsOk T) :
    CallsIn Fence.wide n Try.prog 89 #[.pointer T.ptr] w (Ret (.tuple #[.int .i64 (wrap64 (firstOf rbOne T.pre).1), .int .i64 (firstOf rbOne T.pre).2]) w) := by
  have hfn : ∀ f, Fence.wide.fn f := fun _ => trivial
  refine callsIn_of_wp_marks Try.func89 rfl trivial ?_ rfl
  simp only [Try.ntmps89, List.size_toArray, List.length_cons, List.length_nil, Nat.reduceAdd, Nat.reduceSub, Array.replicate_succ, Array.replicate_zero, List.push_toArray, List.append_toArray, List.nil_append, List.cons_append]
  gi_wp2_with fail
  refine ⟨wide_room _, (callsIn_wide.2 (rbWrong_any _ _)).mono ?_⟩
  rintro e w2 ⟨rfl, rfl⟩
  gi_wp2_with fail
  change Code.wpIn _ _ _ _ _ _ (fstW w T.ptr)
  obtain ⟨hE, hsz, hat, he, htb⟩ := fstW_all w T.ptr
  generalize fstW w T.ptr = W0 at *
  generalize hN : w.heap.size = N at *
  have HN := Lib.hid hN
  clear hN
  refine wpIn_rangeFunc_ownG rfl (n := n) (w := W0) hn.out (gf := 107) (lb := #[.pointer (some ⟨N + 1 + 1, 0, none⟩)]) rfl trivial (enters_of Try.func107 (by kernel_rfl) rfl)
    (rbWrong_stops (fun i => i = N ∨ i = N + 1) (n - 1) _ T W0 (by omega) htb (hT.ext hE) hto (InH.off (fun i h => by rw [HN.out]; omega) hT))
    (fun h k => Keep.trans h k) (fun W l o o' _ h ho _ => Keep.putObj W l o o' h ho) (RowKit.Below.refl _ _) (fun _ => rfl)
    (fun pre W => Boxed W N 3 (.int .i64 (wrap64 pre.length)) ∧ Boxed W (N + 1) 24 (.int .i64 0) ∧ (∀ y ∈ pre, rbOne y = 0) ∧ Keep (fun i => i = N ∨ i = N + 1) W0 W ∧ Below N W0 W)
    (fun c pre W => c = .ret ∧ ∃ q x, pre = q ++ [x] ∧ (∀ y ∈ q, rbOne y = 0) ∧ rbOne x ≠ 0 ∧ Boxed W N 3 (.int .i64 (wrap64 q.length)) ∧ Boxed W (N + 1) 24 (.int .i64 (rbOne x)) ∧ Below N W0 W)
    ?own ?ownx ⟨(by simpa [wrap64] using hat), he, by simp, Keep.refl _ _, Below.refl _ _⟩ (fun x => { tmps := #[Value.pointer T.ptr, undef, Value.pointer (some ⟨N, 0, none⟩), Value.pointer (some ⟨N + 1, 0, none⟩), Value.int .i64 (rbOne x), Value.pointer T.ptr, Value.func (Fn.func 107) #[] #[Value.pointer (some ⟨N + 1 + 1, 0, none⟩)], Value.int .i64 (rbOne x), undef, undef, undef, undef, undef, undef, undef], defers := [] }) ?assign ?body ?done ?stop
  case own =>
    rintro s A A' row ⟨h1, h2, h3, h4, h5⟩ hg hr
    exact ⟨boxed_grown h1 hg hr, boxed_grown h2 hg hr, h3, keep_grown h4 hg hr, below_grown (by omega) (by omega) h5 hg hr⟩
  case ownx =>
    rintro c s A A' row ⟨h0, q, x, h1, h2, hx, h3, h4, h5⟩ hg hr
    exact ⟨h0, q, x, h1, h2, hx, boxed_grown h3 hg hr, boxed_grown h4 hg hr, below_grown (by omega) (by omega) h5 hg hr⟩
  case assign =>
    intro l x W K hK
    gi_wp2
    exact hK
  case body =>
    rintro l pre x W ⟨hat, he, hg, hk, hb⟩ _
    have hg' := Lib.hid hg
    have hat' := hat
    have he' := he
    have hca := hat.cell
    have hfa := hat.frozen
    have hce := he.cell
    have hfe := he.frozen
    clear hg hsz hat he htb
    by_cases e1 : rbOne x = 0
    · have HE1 := Lib.hid e1
      have e2 : (rbOne x != 0) = false := by simpa using e1
      clear e1
      gi_wp2
      have hbx := hat'.set (.int .i64 (wrap64 (wrap64 pre.length + 1)))
      have hBf := hb.setCell (p := ⟨N, 0, none⟩) (Nat.le_refl N) (.int .i64 (wrap64 (wrap64 pre.length + 1)))
      rw [wrap64_succ] at hbx hBf ⊢
      refine ⟨keepsFrom_set _ _ _, Keep.setCell _ _ _ (.inl rfl), ?_, he'.other (by omega) _, ?_, hk.trans (Keep.setCell _ _ _ (.inl rfl)), hBf⟩
      · rw [List.length_append]; exact hbx
      · intro y hy
        rcases List.mem_append.1 hy with hy | hy
        · exact hg'.out y hy
        · obtain rfl : y = x := by simpa using hy
          exact HE1.out
    · have HE1 := Lib.hid e1
      have e2 : (rbOne x != 0) = true := by simpa using e1
      clear e1
      gi_wp2
      have b1 : Boxed ((W.setCell ⟨N, 0, none⟩ (.int .i64 (wrap64 pre.length))).setCell ⟨N + 1, 0, none⟩ (.int .i64 (rbOne x))) N 3 (.int .i64 (wrap64 pre.length)) := (hat'.set (.int .i64 (wrap64 pre.length))).other (by omega) _
      have b2 : Boxed ((W.setCell ⟨N, 0, none⟩ (.int .i64 (wrap64 pre.length))).setCell ⟨N + 1, 0, none⟩ (.int .i64 (rbOne x))) (N + 1) 24 (.int .i64 (rbOne x)) := (he'.other (by omega) (.int .i64 (wrap64 pre.length))).set (.int .i64 (rbOne x))
      have hBf := (hb.setCell (p := ⟨N, 0, none⟩) (Nat.le_refl N) (.int .i64 (wrap64 pre.length))).setCell (p := ⟨N + 1, 0, none⟩) (Nat.le_succ N) (.int .i64 (rbOne x))
      exact ⟨(keepsFrom_set _ _ _).trans (keepsFrom_set _ _ _), rfl, pre, x, rfl, hg'.out, HE1.out, b1, b2, hBf⟩
  case done =>
    rintro D ys W hD hys ⟨hat, he, hg, hk, hb⟩ hK
    clear htb
    have hca := hat.cell
    have hfa := hat.frozen
    have hce := he.cell
    have hfe := he.frozen
    gi_wp2
    have h1 : Boxed ((W.setCell ⟨N, 0, none⟩ (.int .i64 (wrap64 ys.length))).setCell ⟨N + 1, 0, none⟩ (.int .i64 0)) N 3 (.int .i64 (wrap64 ys.length)) := (hat.set _).other (by omega) _
    have h2 : Boxed ((W.setCell ⟨N, 0, none⟩ (.int .i64 (wrap64 ys.length))).setCell ⟨N + 1, 0, none⟩ (.int .i64 0)) (N + 1) 24 (.int .i64 0) := (he.other (by omega) _).set _
    have hk : ((W.setCell ⟨N, 0, none⟩ (.int .i64 (wrap64 ys.length))).setCell ⟨N + 1, 0, none⟩ (.int .i64 0)).heap[D]? = some (.deferred (some [])) := ((KeepsOthers.setCell _ _ _).trans (KeepsOthers.setCell _ _ _)).same D _ hK rfl
    obtain ⟨f2, f3, f4⟩ := two_end0 HN.out hE ((hb.setCell (p := ⟨N, 0, none⟩) (Nat.le_refl N) (.int .i64 (wrap64 ys.length))).setCell (p := ⟨N + 1, 0, none⟩) (Nat.le_succ N) (.int .i64 0)) hD hk h1 h2 (by omega)
    have e1 : firstOf rbOne T.pre = (ys.length, 0) := by rw [← hys]; exact firstOf_good hg
    subst hys
    rw [e1]
    refine ⟨by simp, .inl ⟨_, _, rfl, run_takeDeferred hk, ?_⟩⟩
    exact ⟨_, results_cells2 rfl _ _ rfl rfl (fun _ => by kernel_rfl) (fun _ => by kernel_rfl) f2 f3, rfl, f4⟩
  case stop =>
    rintro D c q W hD hq ⟨rfl, q', x, hqx, hg, hx, hat, he, hb⟩ hK
    clear htb
    obtain ⟨r, hr⟩ := hq
    have hca := hat.cell
    have hfa := hat.frozen
    have hce := he.cell
    have hfe := he.frozen
    gi_wp2
    obtain ⟨f2, f3, f4⟩ := two_end0 HN.out hE hb hD hK hat he (by omega)
    have e1 : firstOf rbOne T.pre = (q'.length, rbOne x) := by
      rw [← hr, hqx, List.append_assoc]
      exact firstOf_bad hg hx
    rw [e1]
    refine ⟨by simp, .inl ⟨_, _, rfl, run_takeDeferred hK, ?_⟩⟩
    exact ⟨_, results_cells2 rfl _ _ rfl rfl (fun _ => by kernel_rfl) (fun _ => by kernel_rfl) f2 f3, rfl, f4⟩
theorem rbFirst_any (w : World) (T : Tr) (hT : InH w T) (hto : TagsOk T) : Calls Try.prog 89 #[.pointer T.ptr] w (Ret (.tuple #[.int .i64 (wrap64 (firstOf rbOne T.pre).1), .int .i64 (firstOf rbOne T.pre).2]) w) :=
  callsIn_wide.1 (rbFirst_in 9 (Lib.hid (by omega)) T w hT hto)
/-- is it a part? may it be? -/
def rbPart (T : Tr) : Bool := mayOf rbOne T
def rbMay (T : Tr) : Bool := rbPart T && !rbRed T
set_option maxHeartbeats 400000 in
theorem rbPart_any (w : World) (T : Tr) (hT : InH w T) (hto : TagsOk T) : Calls Try.prog 68 #[.pointer T.ptr] w (Ret (.bool (rbPart T)) w) := by
  have H := Lib.hid (rbFirst_any w T hT hto)
  clear hto
  go_enter Try.func68, Try.ntmps68
  go_wp2_with fail
  refine (H.out).mono ?_
  rintro e w1 ⟨rfl, hS⟩
  go_wp2
  go_ret
  exact ⟨rfl, hS⟩
set_option maxHeartbeats 400000 in
theorem rbMay_any (w : World) (T : Tr) (hT : InH w T) (hto : TagsOk T) : Calls Try.prog 47 #[.pointer T.ptr] w (Ret (.bool (rbMay T)) w) := by
  have H := Lib.hid (rbPart_any w T hT hto)
  have HR := Lib.hid (fun W h => rbRed_any W T h hto)
  have HM := Lib.hid (show rbMay T = (rbPart T && !rbRed T) from rfl)
  have hx := Ext.refl w
  clear hto
  cases hp : rbPart T
  all_goals
    rw [hp] at H HM
    clear hp
    go_enter Try.func47, Try.ntmps47
    go_wp2_with fail
    refine (H.out).mono ?_
    rintro e w1 ⟨rfl, hS⟩
    replace hx := hx.trans hS
    replace hT := hT.ext hS
    clear hS
  · go_wp2
    go_ret
    exact ⟨ret_bool (by rw [HM.out]; rfl), hx⟩
  · go_wp2_with fail
    refine (HR.out _ hT).mono ?_
    rintro e w2 ⟨rfl, hS⟩
    replace hx := hx.trans hS
    clear hS
    go_wp2
    go_ret
    exact ⟨ret_bool (by rw [HM.out]; rfl), hx⟩
/-- what rb.Check says. -/
def rbChk (T : Tr) : Nat × Int := if (firstOf rbOne T.pre).2 = 0 ∧ rbRed T = true then (0, 8) else firstOf rbOne T.pre
end Go.Proofs.Ytejknkhahjgdnaa
namespace Go.Proofs.Ytejknkhahjgdnaa
open Go Go.RowKit

def oneB (b1 b2 b3 b4 b5 b6 b7 : Bool) : Int := if (b1 || (b2 && b3)) then 140 else if (b4 || (b5 && (b6 || b7))) then 8 else 0
theorem one_eq (T : Tr) (ho : TagsOk T) (b1 b2 b3 b4 b5 b6 b7 : Bool) (h1 : (T.tag == 0) = b1) (h2 : (T.tag != IntKind.u64.wrap (IntKind.u64.wrap (2 * hi T.left) + 1)) = b2) (h3 : (T.tag != IntKind.u64.wrap (IntKind.u64.wrap (2 * hi T.left) + 2)) = b3)
    (h4 : (hi T.right != hi T.left) = b4) (h5 : (T.tag % 2 == 1) = b5) (h6 : rbRed T.left = b6) (h7 : rbRed T.right = b7) : rbOne T = oneB b1 b2 b3 b4 b5 b6 b7 := by
  have q0 := tag_ok ho
  have q1 := tag_ok (tags_left ho)
  have e2 : (T.tag != IntKind.u64.wrap (IntKind.u64.wrap (2 * hi T.left) + 1)) = !(col T == 1 && hi T == hi T.left) := by
    rw [Bool.eq_iff_iff]
    simp only [bne_iff_ne, Bool.not_eq_true', Bool.and_eq_false_iff, beq_eq_false_iff_ne, u64_mod, col, hi]
    omega
  have e3 : IntKind.u64.wrap (IntKind.u64.wrap (2 * hi T.left) + 2) = rbTag T.left false := by
    unfold rbTag; simp only [u64_mod]; simp
  have e4 : (hi T.right != hi T.left) = (hi T.left != hi T.right) := by
    rw [Bool.eq_iff_iff]; simp only [bne_iff_ne]; exact ⟨Ne.symm, Ne.symm⟩
  rw [e2] at h2
  rw [e3] at h3
  rw [e4] at h4
  unfold rbOne rbBadTag rbBadTree oneB
  rw [h1, h2, h3, h4]
  rw [show (col T == 1) = b5 from h5, show (col T.left == 1) = b6 from h6, show (col T.right == 1) = b7 from h7]
end Go.Proofs.Ytejknkhahjgdnaa
namespace Go.Proofs.Ytejknkhahjgdnaa
open Go Go.RowKit

theorem rbChk_may (T : Tr) : ((rbChk T).2 == 0) = rbMay T := by
  unfold rbChk rbMay rbPart mayOf
  by_cases h1 : (firstOf rbOne T.pre).2 = 0
  · cases h2 : rbRed T <;> simp [h1]
  · simp [h1]
end Go.Proofs.Ytejknkhahjgdnaa
namespace Go.Proofs.Ytejknkhahjgdnaa
open Go Go.RowKit

/-- a tree of beads that is black. -/
def BT.black : BT → BT
  | .nil => .nil
  | .node k v s n g l r => .node k v s n (if g % 2 == 1 then IntKind.u64.wrap (g + 1) else g) l r
theorem mod7 {w : World} {g : Nat} {cur : Array Value} {T : TypeId} (h : w.heap[g]? = some (.cells cur T (0, 0))) {a0 a1 a2 a3 a4 a5 a6 : Value} {R : List Value} (hc : cur.toList = [a0, a1, a2, a3, a4, a5, a6] ++ R) (b0 b1 b2 b3 b4 b5 b6 : Value) :
    (((((((w.setCell ⟨g, 0, none⟩ b0).setCell ⟨g, 1, none⟩ b1).setCell ⟨g, 2, none⟩ b2).setCell ⟨g, 3, none⟩ b3).setCell ⟨g, 4, none⟩ b4).setCell ⟨g, 5, none⟩ b5).setCell ⟨g, 6, none⟩ b6).heap[g]? = some (.cells ([b0, b1, b2, b3, b4, b5, b6] ++ R).toArray T (0, 0)) := by
  have : cur = ([a0, a1, a2, a3, a4, a5, a6] ++ R).toArray := by
    cases cur; simp at hc; simp [hc]
  subst this
  simp [World.setCell, Array.getElem?_modify, h]
theorem Below.put7 {B : Nat} {w w1 : World} (h : Below B w w1) {g : Nat} (hg : B ≤ g) (b0 b1 b2 b3 b4 b5 b6 : Value) :
    Below B w (((((((w1.setCell ⟨g, 0, none⟩ b0).setCell ⟨g, 1, none⟩ b1).setCell ⟨g, 2, none⟩ b2).setCell ⟨g, 3, none⟩ b3).setCell ⟨g, 4, none⟩ b4).setCell ⟨g, 5, none⟩ b5).setCell ⟨g, 6, none⟩ b6) :=
  ((((((h.setCell hg b0).setCell hg b1).setCell hg b2).setCell hg b3).setCell hg b4).setCell hg b5).setCell hg b6
/-- the first bead of a row of one's own. -/
theorem Own.head {B : Nat} {w : World} {v : Value} {z : BeadL} {zs : List BeadL} (h : Own B w v (z :: zs)) :
    ∃ g cap cur R, v = .slice (some ⟨g, 0, none⟩) (zs.length + 1) cap ∧ zs.length + 1 ≤ cap ∧ B ≤ g ∧ w.heap[g]? = some (.cells cur 66 (0, 0)) ∧ cur.toList = z.cells ++ R ∧
      ∀ (W : World) (y : BeadL), W.heap[g]? = some (.cells (y.cells ++ R).toArray 66 (0, 0)) → Own B W v (y :: zs) := by
  obtain ⟨h1, ⟨rfl, h0⟩ | ⟨g, cap, cur, hv, hb, hg, hc, hm, hs, ht⟩⟩ := h
  · simp at h0
  · rw [List.length_cons] at *
    have hcur : ∃ R, cur.toList = z.cells ++ R := by
      refine ⟨cur.toList.drop 7, ?_⟩
      have e1 : cur.toList.take 7 = z.cells := by
        have := congrArg (List.take 7) ht
        rw [List.take_take, Nat.min_eq_left (by omega)] at this
        rw [this, beadCells, List.flatMap_cons]; rfl
      rw [← e1, List.take_append_drop]
    obtain ⟨R, hR⟩ := hcur
    refine ⟨g, cap, cur, R, hv, hc, hb, hg, hR, fun W y hW => ⟨?_, .inr ⟨g, cap, _, hv, hb, hW, hc, hm, ?_, ?_⟩⟩⟩
    · have := h1
      rw [beadCells, List.flatMap_cons, List.length_append] at this ⊢
      exact this
    · have : cur.size = ((y.cells ++ R).toArray).size := by
        have := congrArg List.length hR
        simp only [List.length_append, Array.length_toList] at this
        simp only [List.size_toArray, List.length_append]
        exact this
      rw [← this]; exact hs
    · rw [hR] at ht
      rw [List.length_cons]
      rw [beadCells, List.flatMap_cons] at ht ⊢
      have e7 : z.cells.length = 7 := rfl
      have e7' : y.cells.length = 7 := rfl
      rw [List.take_append, e7, List.take_of_length_le (by rw [e7]; omega)] at ht
      show (y.cells ++ R).take _ = _
      rw [List.take_append, e7', List.take_of_length_le (by rw [e7']; omega)]
      rw [List.append_cancel_left ht]
/-- the black height of a tree that is made black. -/
def hiB (T : Tr) : Int := if rbRed T then IntKind.u64.wrap (T.tag + 1) / 2 else hi T
theorem hiB_lt {T : Tr} (h : TagsOk T) : 0 ≤ hiB T ∧ hiB T < 9223372036854775808 := by
  have := tag_ok h
  unfold hiB hi
  rw [u64_mod]
  split <;> omega
theorem black_tags {T : Tr} {n : Nat} {u : Tr} (ho : TagsOk T) (h : (rbRed T = false ∧ u = T) ∨ (rbRed T = true ∧ ∃ b, n ≤ b ∧ u = .node b T.left T.key T.val (IntKind.u64.wrap (T.tag + 1)) T.right)) : TagsOk u ∧ hi u = hiB T := by
  rcases h with ⟨h1, rfl⟩ | ⟨h1, b, -, rfl⟩
  · exact ⟨ho, by unfold hiB; rw [h1]; rfl⟩
  · refine ⟨⟨?_, ?_, tags_left ho, tags_right ho⟩, ?_⟩
    · rw [u64_mod]; omega
    · rw [u64_mod]; omega
    · unfold hiB; rw [h1]; rfl
theorem BT.black_fits {t : BT} {T : Tr} (h : t.fits T) : ∃ u, t.black.fits u ∧ (TagsOk T → TagsOk u ∧ hi u = hiB T) := by
  cases t with
  | nil =>
    cases T with
    | nil => exact ⟨.nil, trivial, fun _ => ⟨trivial, by decide +kernel⟩⟩
    | node => exact h.elim
  | node k v s n g l r =>
    cases T with
    | nil => exact h.elim
    | node b L k' v' g' R =>
      obtain ⟨h1, h2, h3, h4, h5⟩ := h
      subst h3
      refine ⟨.node 0 L k' v' (if g % 2 == 1 then IntKind.u64.wrap (g + 1) else g) R, ⟨h1, h2, rfl, h4, h5⟩, fun ho => ?_⟩
      have hr : rbRed (.node b L k' v' g R) = (g % 2 == 1) := rfl
      cases hg : (g % 2 == 1) with
      | true =>
        rw [hg] at hr
        refine ⟨⟨?_, ?_, ho.2.2.1, ho.2.2.2⟩, ?_⟩
        · rw [if_pos rfl, u64_mod]; omega
        · rw [if_pos rfl, u64_mod]; omega
        · unfold hiB; rw [hr]; rfl
      | false =>
        rw [hg] at hr
        refine ⟨⟨?_, ?_, ho.2.2.1, ho.2.2.2⟩, ?_⟩
        · exact ho.1
        · exact ho.2.1
        · unfold hiB; rw [hr]; rfl
theorem BT.black_len (t : BT) : t.black.enc.length = t.enc.length := by
  cases t with
  | nil => rfl
  | node k v s n g l r => simp [BT.black, BT.enc]
end Go.Proofs.Ytejknkhahjgdnaa
namespace Go.Proofs.Ytejknkhahjgdnaa
open Go Go.RowKit

theorem rbPart_node (b : Nat) (l : Tr) (k v g : Int) (r : Tr) : rbPart (.node b l k v g r) = (rbOne (.node b l k v g r) == 0 && rbPart l && rbPart r) := mayOf_node b l k v g r
theorem rbOne_zero {T : Tr} : rbOne T = 0 ↔ rbBadTag T = false ∧ rbBadTree T = false := by
  unfold rbOne
  cases rbBadTag T <;> cases rbBadTree T <;> simp
theorem rb_sides {b : Nat} {l r : Tr} {k v g : Int} (h : rbPart (.node b l k v g r) = true) :
    rbPart l = true ∧ rbPart r = true ∧ g ≠ 0 ∧ (g = 2 * hi l + 1 ∨ g = IntKind.u64.wrap (2 * hi l + 2)) ∧ hi l = hi r ∧ (g % 2 = 1 → col l ≠ 1 ∧ col r ≠ 1) := by
  rw [rbPart_node] at h
  simp only [Bool.and_eq_true, beq_iff_eq] at h
  obtain ⟨⟨h1, h2⟩, h3⟩ := h
  obtain ⟨h4, h5⟩ := rbOne_zero.1 h1
  simp only [rbBadTag, Bool.or_eq_false_iff, Bool.and_eq_false_iff, Bool.not_eq_false', Bool.and_eq_true, beq_eq_false_iff_ne, beq_iff_eq, bne_eq_false_iff_eq, Tr.tag_node, Tr.left_node] at h4
  simp only [rbBadTree, Bool.or_eq_false_iff, Bool.and_eq_false_iff, beq_eq_false_iff_ne, bne_eq_false_iff_eq, Tr.left_node, Tr.right_node] at h5
  refine ⟨h2, h3, h4.1, ?_, h5.1, ?_⟩
  · rcases h4.2 with ⟨h6, h7⟩ | h6
    · left
      have e1 : g % 2 = 1 := h6
      have e2 : g / 2 = hi l := h7
      omega
    · right
      rw [h6]; rfl
  · intro hg
    rcases h5.2 with h6 | h6
    · exact absurd hg h6
    · exact h6
theorem col_01 (T : Tr) : col T = 0 ∨ col T = 1 := by unfold col; omega
theorem part_facts : ∀ T : Tr, rbPart T = true → TagsOk T → T.count < 1000000 → 0 ≤ hi T ∧ hi T < 100000000 ∧ (T.ht : Int) ≤ 2 * hi T + col T ∧ 2 ^ (hi T).toNat ≤ T.count + 1
  | .nil, _, _, _ => ⟨by decide, by decide, by decide, by decide⟩
  | .node b l k v g r, hp, ho, hc => by
    obtain ⟨p1, p2, h0, hg, he, hr⟩ := rb_sides hp
    rw [Tr.count_node] at hc ⊢
    obtain ⟨l0, -, l1, l2⟩ := part_facts l p1 ho.2.2.1 (by omega)
    obtain ⟨r0, -, r1, r2⟩ := part_facts r p2 ho.2.2.2 (by omega)
    have hlt : (hi l).toNat < 2 ^ (hi l).toNat := Nat.lt_two_pow_self
    rw [← he] at r1 r2
    have cl := col_01 l
    have cr := col_01 r
    have hcol : col (.node b l k v g r) = g % 2 := rfl
    have hhi : hi (.node b l k v g r) = g / 2 := rfl
    have hht : (Tr.node b l k v g r).ht = 1 + max l.ht r.ht := rfl
    rw [hcol, hhi, hht]
    rcases hg with hg | hg
    · have hc2 := hr (by omega)
      have e : g / 2 = hi l := by omega
      rw [e]
      refine ⟨l0, by omega, by omega, by omega⟩
    · rw [u64_mod] at hg
      have e : g / 2 = hi l + 1 := by omega
      rw [e]
      refine ⟨by omega, by omega, by omega, ?_⟩
      rw [show (hi l + 1).toNat = (hi l).toNat + 1 by omega, Nat.pow_succ]
      omega
theorem rbTag_small {l : Tr} (h0 : 0 ≤ hi l) (h1 : hi l < 100000000) (is : Bool) : rbTag l is = if is then 2 * hi l + 1 else 2 * hi l + 2 := by
  unfold rbTag
  rw [u64_mod]
  cases is <;> simp <;> omega
/-- what is made is red or black, as it was asked for. -/
theorem rbRed_make (b : Nat) (A : Tr) (k v : Int) (is : Bool) (B : Tr) : rbRed (.node b A k v (rbTag A is) B) = is := by
  have : rbRed (.node b A k v (rbTag A is) B) = (rbTag A is % 2 == 1) := rfl
  rw [this]
  unfold rbTag
  rw [u64_mod]
  cases is
  · rw [beq_eq_false_iff_ne]; simp
  · rw [beq_iff_eq]; simp
theorem black_of (k v s n g : Int) (l r : BT) : (BT.node k v s n g l r).of.black.enc = (BT.node k v s n (if g % 2 == 1 then IntKind.u64.wrap (g + 1) else g) l r).of.enc := by
  simp [BT.of, BT.black, BT.enc, sumL, BT.isNil]
end Go.Proofs.Ytejknkhahjgdnaa
namespace Go.Proofs.Ytejknkhahjgdnaa
open Go Go.RowKit

theorem tags_make {A B : Tr} {k v : Int} (bb : Nat) (is : Bool) (hA : TagsOk A) (hB : TagsOk B) : TagsOk (.node bb A k v (rbTag A is) B) := by
  refine ⟨?_, ?_, hA, hB⟩
  · unfold rbTag; rw [u64_mod]; omega
  · unfold rbTag; rw [u64_mod]; omega
end Go.Proofs.Ytejknkhahjgdnaa
namespace Go.Proofs.Ytejknkhahjgdnaa
open Go Go.RowKit

theorem parts_law (bb : Nat) (A B : Tr) (k v : Int) (is : Bool) (hA : TagsOk A) (cA : A.count < 1000000) : rbPart (.node bb A k v (rbTag A is) B) = (rbPart A && rbPart B && (hi A == hi B) && !(is && (rbRed A || rbRed B))) := by
  rw [rbPart_node]
  cases hp : rbPart A with
  | false => simp
  | true =>
    obtain ⟨h0, h1, -, -⟩ := part_facts A hp hA cA
    have e1 : rbBadTag (.node bb A k v (rbTag A is) B) = false := by
      have et := rbTag_small h0 h1 is
      cases is with
      | true =>
        rw [et]
        simp only [rbBadTag, Tr.tag_node, Tr.left_node, if_true]
        have c1 : col (.node bb A k v (2 * hi A + 1) B) = 1 := by show (2 * hi A + 1) % 2 = 1; omega
        have c2 : hi (.node bb A k v (2 * hi A + 1) B) = hi A := by show (2 * hi A + 1) / 2 = hi A; omega
        rw [c1, c2]
        simp; omega
      | false =>
        simp only [rbBadTag, Tr.tag_node, Tr.left_node, bne_self_eq_false, Bool.and_false, Bool.or_false]
        rw [et, beq_eq_false_iff_ne]
        simp; omega
    have e2 : rbBadTree (.node bb A k v (rbTag A is) B) = (hi A != hi B || (is && (rbRed A || rbRed B))) := by
      have : (col (.node bb A k v (rbTag A is) B) == 1) = is := rbRed_make bb A k v is B
      simp only [rbBadTree, Tr.left_node, Tr.right_node, this]
      rfl
    have e3 : (rbOne (.node bb A k v (rbTag A is) B) == 0) = !(hi A != hi B || (is && (rbRed A || rbRed B))) := by
      unfold rbOne
      rw [e1, e2]
      cases (hi A != hi B || (is && (rbRed A || rbRed B))) <;> rfl
    rw [e3]
    have : (hi A == hi B) = !(hi A != hi B) := by show _ = !(!(hi A == hi B)); rw [Bool.not_not]
    rw [this]
    cases (hi A != hi B) <;> cases (is && (rbRed A || rbRed B)) <;> cases rbPart B <;> rfl
theorem may_black {T : Tr} {n : Nat} {u : Tr} (hp : rbPart T = true) (ho : TagsOk T) (hc : T.count < 1000000) (h : (rbRed T = false ∧ u = T) ∨ (rbRed T = true ∧ ∃ b, n ≤ b ∧ u = .node b T.left T.key T.val (IntKind.u64.wrap (T.tag + 1)) T.right)) : rbMay u = true := by
  rcases h with ⟨h1, rfl⟩ | ⟨h1, b, -, rfl⟩
  · unfold rbMay; rw [hp, h1]; rfl
  · cases T with
    | nil => rw [show rbRed .nil = false by decide +kernel] at h1; cases h1
    | node b' l k v g r =>
      obtain ⟨p1, p2, h0, hg, he, hr⟩ := rb_sides hp
      rw [Tr.count_node] at hc
      obtain ⟨l0, l1, -, -⟩ := part_facts l p1 ho.2.2.1 (by omega)
      have hodd : g % 2 = 1 := by
        have : (g % 2 == 1) = true := h1
        simpa using this
      have e : IntKind.u64.wrap (g + 1) = rbTag l false := by
        rw [rbTag_small l0 l1]
        have hgo := ho.2.1
        rcases hg with hg | hg
        · rw [u64_mod]; simp; omega
        · rw [u64_mod] at hg; omega
      simp only [Tr.left_node, Tr.right_node, Tr.key_node, Tr.val_node, Tr.tag_node]
      rw [e]
      unfold rbMay
      rw [parts_law b l r k v false ho.2.2.1 (by omega), rbRed_make, p1, p2, he]
      simp
end Go.Proofs.Ytejknkhahjgdnaa
namespace Go.Proofs.Ytejknkhahjgdnaa
open Go Go.RowKit

/-- a part, of a black height, red or black, well tagged. -/
def RbH : Tr → Nat → Bool → Prop
  | .nil, b, c => b = 0 ∧ c = false
  | .node _ l _ _ g r, b, true => RbH l b false ∧ RbH r b false ∧ g = 2 * b + 1
  | .node _ l _ _ g r, b, false => ∃ d cl cr, b = d + 1 ∧ RbH l d cl ∧ RbH r d cr ∧ g = 2 * b
theorem RbH.tag : ∀ {T : Tr} {b : Nat} {c : Bool}, RbH T b c → T.tag = 2 * b + (if c then 1 else 0)
  | .nil, b, c, ⟨h1, h2⟩ => by subst h1 h2; rfl
  | .node _ l _ _ g r, b, true, h => by rw [Tr.tag_node, h.2.2]; rfl
  | .node _ l _ _ g r, b, false, ⟨d, cl, cr, h⟩ => by rw [Tr.tag_node, h.2.2.2]; simp
theorem RbH.hi {T : Tr} {b : Nat} {c : Bool} (h : RbH T b c) : Proofs.Ytejknkhahjgdnaa.hi T = b := by
  unfold Proofs.Ytejknkhahjgdnaa.hi
  rw [h.tag]
  cases c <;> simp <;> omega
theorem RbH.red {T : Tr} {b : Nat} {c : Bool} (h : RbH T b c) : rbRed T = c := by
  unfold rbRed col
  rw [h.tag]
  cases c
  · rw [beq_eq_false_iff_ne]; simp
  · rw [beq_iff_eq]; simp
theorem RbH.tags : ∀ {T : Tr} {b : Nat} {c : Bool}, RbH T b c → b < 1000000 → TagsOk T
  | .nil, _, _, _, _ => trivial
  | .node _ l _ _ g r, b, true, ⟨h1, h2, h3⟩, hb => ⟨by omega, by omega, RbH.tags h1 hb, RbH.tags h2 hb⟩
  | .node _ l _ _ g r, b, false, ⟨d, cl, cr, h0, h1, h2, h3⟩, hb => ⟨by omega, by omega, RbH.tags h1 (by omega), RbH.tags h2 (by omega)⟩
theorem hi_tag {l : Tr} {b : Nat} {c : Bool} (h : RbH l b c) (hb : b < 1000000) (is : Bool) : rbTag l is = if is then 2 * (b : Int) + 1 else 2 * (b : Int) + 2 := by
  have e := h.hi
  rw [rbTag_small (by rw [e]; omega) (by rw [e]; omega), e]
theorem RbH.part : ∀ {T : Tr} {b : Nat} {c : Bool}, RbH T b c → b < 1000000 → rbPart T = true
  | .nil, _, _, _, _ => rfl
  | .node bb l k v g r, b, true, ⟨h1, h2, h3⟩, hb => by
    have p1 := RbH.part h1 hb
    have p2 := RbH.part h2 hb
    have r1 := h1.red
    have r2 := h2.red
    have e : g = rbTag l true := by rw [hi_tag h1 hb, h3]; rfl
    rw [rbPart_node, p1, p2, Bool.and_true, Bool.and_true]
    have o : rbOne (.node bb l k v g r) = 0 := rbOne_zero.2 ⟨by
      unfold rbBadTag col Proofs.Ytejknkhahjgdnaa.hi
      have := h1.hi
      unfold Proofs.Ytejknkhahjgdnaa.hi at this
      simp only [Tr.tag_node, Tr.left_node, this, h3]
      have a1 : ((2 * (b : Int) + 1) % 2 == 1) = true := by simp
      have a2 : ((2 * (b : Int) + 1) / 2 == (b : Int)) = true := by simp; omega
      have a3 : ((2 * (b : Int) + 1) == 0) = false := by simp; omega
      rw [a1, a2, a3]; rfl, by
      unfold rbBadTree
      simp only [Tr.left_node, Tr.right_node, h1.hi, h2.hi]
      have c1 : (col l == 1) = false := r1
      have c2 : (col r == 1) = false := r2
      rw [c1, c2]; simp⟩
    rw [o]; rfl
  | .node bb l k v g r, b, false, ⟨d, cl, cr, h0, h1, h2, h3⟩, hb => by
    have p1 := RbH.part h1 (by omega)
    have p2 := RbH.part h2 (by omega)
    have e : g = rbTag l false := by rw [hi_tag h1 (by omega), h3, h0]; simp; omega
    rw [rbPart_node, p1, p2, Bool.and_true, Bool.and_true]
    have o : rbOne (.node bb l k v g r) = 0 := rbOne_zero.2 ⟨by
      unfold rbBadTag
      simp only [Tr.tag_node, Tr.left_node]
      rw [← e, bne_self_eq_false, Bool.and_false, Bool.or_false, beq_eq_false_iff_ne]
      omega, by
      unfold rbBadTree
      simp only [Tr.left_node, Tr.right_node, h1.hi, h2.hi]
      have c1 : (col (.node bb l k v g r) == 1) = false := by
        show (g % 2 == 1) = false
        rw [beq_eq_false_iff_ne, h3]; omega
      rw [c1]; simp⟩
    rw [o]; rfl
theorem RbH.may {T : Tr} {b : Nat} (h : RbH T b false) (hb : b < 1000000) : rbMay T = true := by
  unfold rbMay
  rw [h.part hb, h.red]; rfl
theorem RbH.of_part : ∀ {T : Tr}, rbPart T = true → TagsOk T → T.count < 1000000 → RbH T (Proofs.Ytejknkhahjgdnaa.hi T).toNat (rbRed T)
  | .nil, _, _, _ => ⟨by decide +kernel, by decide +kernel⟩
  | .node b l k v g r, hp, ho, hc => by
    obtain ⟨p1, p2, h0, hg, he, hr⟩ := rb_sides hp
    rw [Tr.count_node] at hc
    have l1 := RbH.of_part p1 ho.2.2.1 (by omega)
    have r1 := RbH.of_part p2 ho.2.2.2 (by omega)
    obtain ⟨f1, f2, -, -⟩ := part_facts l p1 ho.2.2.1 (by omega)
    have hhi : Proofs.Ytejknkhahjgdnaa.hi (.node b l k v g r) = g / 2 := rfl
    rcases hg with hg | hg
    · obtain ⟨c1, c2⟩ := hr (by omega)
      have hred : rbRed (.node b l k v g r) = true := by show (g % 2 == 1) = true; simp; omega
      have e : (Proofs.Ytejknkhahjgdnaa.hi (.node b l k v g r)).toNat = (Proofs.Ytejknkhahjgdnaa.hi l).toNat := by rw [hhi]; omega
      have rl : rbRed l = false := by unfold rbRed; simpa using c1
      have rr : rbRed r = false := by unfold rbRed; simpa using c2
      rw [rl] at l1
      rw [rr, ← he] at r1
      rw [hred, e]
      exact ⟨l1, r1, by omega⟩
    · rw [u64_mod] at hg
      have hred : rbRed (.node b l k v g r) = false := by show (g % 2 == 1) = false; rw [beq_eq_false_iff_ne]; omega
      have e : (Proofs.Ytejknkhahjgdnaa.hi (.node b l k v g r)).toNat = (Proofs.Ytejknkhahjgdnaa.hi l).toNat + 1 := by rw [hhi]; omega
      rw [← he] at r1
      rw [hred, e]
      exact ⟨_, _, _, rfl, l1, r1, by omega⟩
section
variable {s : Bool} {b : Nat} {i o : Tr} {k v g : Int}
theorem mk_red {q : Nat} : RbH (mkN s b i k v g o) q true ↔ RbH i q false ∧ RbH o q false ∧ g = 2 * q + 1 := by
  cases s
  · exact ⟨fun ⟨h1, h2, h3⟩ => ⟨h2, h1, h3⟩, fun ⟨h1, h2, h3⟩ => ⟨h2, h1, h3⟩⟩
  · exact Iff.rfl
theorem mk_black {q : Nat} : RbH (mkN s b i k v g o) q false ↔ ∃ d ci co, q = d + 1 ∧ RbH i d ci ∧ RbH o d co ∧ g = 2 * q := by
  cases s
  · exact ⟨fun ⟨d, cl, cr, h0, h1, h2, h3⟩ => ⟨d, cr, cl, h0, h2, h1, h3⟩, fun ⟨d, cl, cr, h0, h1, h2, h3⟩ => ⟨d, cr, cl, h0, h2, h1, h3⟩⟩
  · exact Iff.rfl
end
/-- the tag of a node of a side. -/
def sTag (s : Bool) (i : Tr) (is : Bool) (o : Tr) : Int := if s then rbTag i is else rbTag o is
theorem sTag_red {s : Bool} {i o : Tr} {q : Nat} {ci co : Bool} (hi : RbH i q ci) (ho : RbH o q co) (hq : q < 1000000) : sTag s i true o = 2 * (q : Int) + 1 := by
  cases s
  · exact hi_tag ho hq true
  · exact hi_tag hi hq true
theorem sTag_black {s : Bool} {i o : Tr} {q : Nat} {ci co : Bool} (hi : RbH i q ci) (ho : RbH o q co) (hq : q < 1000000) : sTag s i false o = 2 * ((q + 1 : Nat) : Int) := by
  cases s
  · have := hi_tag ho hq false
    simp only [Bool.false_eq_true, if_false] at this
    show rbTag o false = _
    omega
  · have := hi_tag hi hq false
    simp only [Bool.false_eq_true, if_false] at this
    show rbTag i false = _
    omega
/-- what becomes of a tree t, if a pair and a lower one hang on its outer side. -/
structure RHang (n : Nat) (s : Bool) (t low : Tr) (b : Nat) (c : Bool) (q : Nat) (k v : Int) (T : Tr) : Prop where
  black : c = false → ∃ cx, RbH T b cx ∧ (cx = true → T.news n = 1 + (inOf s T).news n + (outOf s T).news n)
  red : c = true → ∃ bx i kx vx gx o co, T = mkN s bx i kx vx gx o ∧ n ≤ bx ∧ RbH i b false ∧ RbH o b co ∧ gx = 2 * (b : Int) + 1 ∧ (co = true → o.news n = 1 + (inOf s o).news n + (outOf s o).news n)
  news : T.news n + 2 * q ≤ 2 * b + (if c then 1 else 0) + 1 + low.news n
  kvs : T.kvs = both s t.kvs [(k, v)] low.kvs
  old : ∀ x ∈ T.pre, x.blk < n → x ∈ t.pre ∨ x ∈ low.pre
  top : n ≤ T.blk
  nn : T ≠ .nil
theorem news_top {s : Bool} {n bx : Nat} {i o : Tr} {k v g : Int} (hb : n ≤ bx) : (mkN s bx i k v g o).news n = 1 + (inOf s (mkN s bx i k v g o)).news n + (outOf s (mkN s bx i k v g o)).news n := by
  rw [mk_news, inOf_mk, outOf_mk, if_pos hb]
section
variable {n : Nat} {s : Bool} {b : Nat} {i o low : Tr} {k v g pk pv : Int} {p q : Nat}
/-- at the bottom: a red one of both. -/
theorem rhang_base {t : Tr} (bx : Nat) (ht : RbH t p false) (hl : RbH low q false) (hp : p < 100000) (hpq : p = q) (nt : t.news n = 0) (hb : n ≤ bx) : RHang n s t low p false q pk pv (mkN s bx t pk pv (sTag s t true low) low) := by
  subst hpq
  refine ⟨fun _ => ⟨true, mk_red.2 ⟨ht, hl, sTag_red ht hl (by omega)⟩, fun _ => news_top hb⟩, fun h => (by cases h), ?_, mk_kvs, fun x hx hn => ?_, by rw [mk_blk]; exact hb, mk_nn⟩
  · rw [mk_news, nt, if_pos hb]; simp; omega
  · rcases (mk_pre x).1 hx with rfl | h | h
    · rw [mk_blk] at hn; omega
    · exact .inl h
    · exact .inr h
theorem old_node {x : Tr} {bt : Nat} {kk vv gg : Int} (hold : ∀ y ∈ x.pre, y.blk < n → y ∈ o.pre ∨ y ∈ low.pre) (hb : n ≤ bt) : ∀ y ∈ (mkN s bt i kk vv gg x).pre, y.blk < n → y ∈ (mkN s b i k v g o).pre ∨ y ∈ low.pre := fun y hy hyn => by
  rcases (mk_pre y).1 hy with rfl | h | h
  · rw [mk_blk] at hyn; omega
  · exact .inl ((mk_pre y).2 (.inr (.inl h)))
  · rcases hold y h hyn with h | h
    · exact .inl ((mk_pre y).2 (.inr (.inr h)))
    · exact .inr h
/-- a red one: what came up hangs under it. -/
theorem rhang_red {x : Tr} (bt : Nat) (hi : RbH i p false) (hx : RHang n s o low p false q pk pv x) (hp : p < 100000) (ni : i.news n = 0) (hb : n ≤ bt) : RHang n s (mkN s b i k v g o) low p true q pk pv (mkN s bt i k v (sTag s i true x) x) := by
  obtain ⟨cx, h1, h2⟩ := hx.black rfl
  have hnew := hx.news
  refine ⟨fun h => (by cases h), fun _ => ⟨bt, i, k, v, _, x, cx, rfl, hb, hi, h1, sTag_red hi h1 (by omega), h2⟩, ?_, ?_, old_node hx.old hb, by rw [mk_blk]; exact hb, mk_nn⟩
  · rw [mk_news, ni, if_pos hb]; simp at hnew ⊢; omega
  · rw [mk_kvs, mk_kvs, hx.kvs, both_out]
/-- a black one, and what came up may stand under it. -/
theorem rhang_black {x : Tr} {c : Bool} (bt : Nat) {ci : Bool} (hi : RbH i p ci) (hx : RHang n s o low p c q pk pv x) (hp : p < 100000) (hok : ∃ cx, RbH x p cx) (ni : i.news n = 0) (hb : n ≤ bt) : RHang n s (mkN s b i k v g o) low (p + 1) false q pk pv (mkN s bt i k v (sTag s i false x) x) := by
  obtain ⟨cx, h1⟩ := hok
  have hnew := hx.news
  refine ⟨fun _ => ⟨false, mk_black.2 ⟨p, ci, cx, rfl, hi, h1, sTag_black hi h1 (by omega)⟩, fun h => (by cases h)⟩, fun h => (by cases h), ?_, ?_, old_node hx.old hb, by rw [mk_blk]; exact hb, mk_nn⟩
  · rw [mk_news, ni, if_pos hb]
    cases c <;> simp at hnew ⊢ <;> omega
  · rw [mk_kvs, mk_kvs, hx.kvs, both_out]
/-- a black one, and a red one above a red one came up: a turn. -/
theorem rhang_turn {xi yi yo : Tr} {xk xv xg yk yv yg : Int} {bx by_ : Nat} (b3 b4 b5 : Nat) {ci : Bool} (hi : RbH i p ci) (hx : RHang n s o low p true q pk pv (mkN s bx xi xk xv xg (mkN s by_ yi yk yv yg yo))) (hp : p < 100000)
    (hxi : RbH xi p false) (hy : RbH (mkN s by_ yi yk yv yg yo) p true) (hbx : n ≤ bx) (hyn : (mkN s by_ yi yk yv yg yo).news n = 1 + yi.news n + yo.news n) (ni : i.news n = 0) (hb3 : n ≤ b3) (hb4 : n ≤ b4) (hb5 : n ≤ b5) :
    RHang n s (mkN s b i k v g o) low (p + 1) false q pk pv (mkN s b5 (mkN s b3 i k v (sTag s i false xi) xi) xk xv (sTag s (mkN s b3 i k v (sTag s i false xi) xi) true (mkN s b4 yi yk yv (IntKind.u64.wrap (yg + 1)) yo)) (mkN s b4 yi yk yv (IntKind.u64.wrap (yg + 1)) yo)) := by
  obtain ⟨y1, y2, y3⟩ := mk_red.1 hy
  have hnew := hx.news
  rw [mk_news, if_pos hbx, hyn] at hnew
  have m3 : RbH (mkN s b3 i k v (sTag s i false xi) xi) (p + 1) false := mk_black.2 ⟨p, ci, false, rfl, hi, hxi, sTag_black hi hxi (by omega)⟩
  have m4 : RbH (mkN s b4 yi yk yv (IntKind.u64.wrap (yg + 1)) yo) (p + 1) false := mk_black.2 ⟨p, false, false, rfl, y1, y2, by rw [u64_mod, y3]; omega⟩
  refine ⟨fun _ => ⟨true, mk_red.2 ⟨m3, m4, sTag_red m3 m4 (by omega)⟩, fun _ => news_top hb5⟩, fun h => (by cases h), ?_, ?_, fun z hz hzn => ?_, by rw [mk_blk]; exact hb5, mk_nn⟩
  · rw [mk_news, mk_news, mk_news, ni, if_pos hb3, if_pos hb4, if_pos hb5]; simp at hnew ⊢; omega
  · have hk := hx.kvs
    simp only [mk_kvs] at hk ⊢
    rw [← both_out s i.kvs [(k, v)] xi.kvs, hk, both_out]
  · have hin : ∀ y, y ∈ xi.pre ∨ y ∈ (mkN s by_ yi yk yv yg yo).pre → y.blk < n → y ∈ (mkN s b i k v g o).pre ∨ y ∈ low.pre := fun y hy hyn => by
      rcases hx.old y ((mk_pre y).2 (.inr hy)) hyn with h | h
      · exact .inl ((mk_pre y).2 (.inr (.inr h)))
      · exact .inr h
    rcases (mk_pre z).1 hz with rfl | h | h
    · rw [mk_blk] at hzn; omega
    · rcases (mk_pre z).1 h with rfl | h | h
      · rw [mk_blk] at hzn; omega
      · exact .inl ((mk_pre z).2 (.inr (.inl h)))
      · exact hin z (.inl h) hzn
    · rcases (mk_pre z).1 h with rfl | h | h
      · rw [mk_blk] at hzn; omega
      · exact hin z (.inr ((mk_pre z).2 (.inr (.inl h)))) hzn
      · exact hin z (.inr ((mk_pre z).2 (.inr (.inr h)))) hzn
end
end Go.Proofs.Ytejknkhahjgdnaa
