/- Trees in memory and trees of beads: height, pairs, sides, and what one tells of the other (plain). -/
import Derived.Test.YtkbndpemljommaaSee
namespace Go.Proofs.Ytkbndpemljommaa
open Go Go.RowKit

/-- every tag fits uint64. -/
def TagsOk : Tr → Prop
  | .nil => True
  | .node _ l _ _ g r => 0 ≤ g ∧ g < 18446744073709551616 ∧ TagsOk l ∧ TagsOk r
theorem fits_tagsOk : ∀ (t : BT) (T : Tr), t.fits T → (∀ z ∈ t.enc, z.wf) → TagsOk T
  | .nil, .nil, _, _ => trivial
  | .nil, .node .., h, _ => h.elim
  | .node .., .nil, h, _ => h.elim
  | .node k v s n g l r, .node b L k' v' g' R, h, hz => by
    have h0 := hz _ (List.mem_cons_self ..)
    have h1 := h0.2.2.2.2
    simp [Lit.wf, IntKind.min, IntKind.max, IntKind.signed, IntKind.bits] at h1
    rw [h.2.2.1] at h1
    exact ⟨by omega, by omega, fits_tagsOk l L h.2.2.2.1 (fun z hz' => hz z (by simp [BT.enc, hz'])), fits_tagsOk r R h.2.2.2.2 (fun z hz' => hz z (by simp [BT.enc, hz']))⟩
/-- the height of a tree. -/
def Tr.ht : Tr → Nat
  | .nil => 0
  | .node _ l _ _ _ r => 1 + max l.ht r.ht
theorem Tr.ht_count : ∀ t : Tr, t.ht ≤ t.count
  | .nil => by simp [Tr.ht, Tr.count, Tr.pre]
  | .node b l k v g r => by
    have h1 := Tr.ht_count l
    have h2 := Tr.ht_count r
    rw [Tr.ht, Tr.count_node]
    omega
/-- what Long says no to is a tree. -/
theorem long_tree {zs : List BeadL} (h : (decide (400 < zs.length) || !mayB zs) = false) : zs.length ≤ 400 ∧ ∃ t : BT, t.enc = zs := by
  simp only [Bool.or_eq_false_iff, Bool.not_eq_false', decide_eq_false_iff_not] at h
  exact ⟨by omega, mayB_tree h.2⟩
/-- the pairs of a tree, from left to right. -/
def Tr.kvs : Tr → List (Int × Int)
  | .nil => []
  | .node _ l k v _ r => l.kvs ++ (k, v) :: r.kvs
def Tr.blk : Tr → Nat
  | .nil => 0
  | .node b .. => b
/-- how many nodes lie in blocks from a number on. -/
def Tr.news (n : Nat) : Tr → Nat
  | .nil => 0
  | .node b l _ _ _ r => (if n ≤ b then 1 else 0) + l.news n + r.news n
theorem news_zero {w : World} {n : Nat} (hn : w.heap.size ≤ n) : ∀ {t : Tr}, InH w t → t.news n = 0
  | .nil, _ => rfl
  | .node b l k v g r, ⟨h0, h1, h2⟩ => by
    have := lt_of h0
    rw [Tr.news, news_zero hn h1, news_zero hn h2, if_neg (by omega)]

/-- what lies inward of a node, and outward (true: outward is to the right); a node of both. -/
def inOf (s : Bool) (t : Tr) : Tr := if s then t.left else t.right
def outOf (s : Bool) (t : Tr) : Tr := if s then t.right else t.left
def mkN (s : Bool) (b : Nat) (i : Tr) (k v g : Int) (o : Tr) : Tr := if s then .node b i k v g o else .node b o k v g i
def both {α : Type} (s : Bool) (a m b : List α) : List α := if s then a ++ m ++ b else b ++ m ++ a
section
variable {s : Bool} {b : Nat} {i o : Tr} {k v g : Int}
theorem inOf_mk : inOf s (mkN s b i k v g o) = i := by cases s <;> rfl
theorem outOf_mk : outOf s (mkN s b i k v g o) = o := by cases s <;> rfl
theorem mk_sides (s : Bool) (b : Nat) (l : Tr) (k v g : Int) (r : Tr) : Tr.node b l k v g r = mkN s b (inOf s (.node b l k v g r)) k v g (outOf s (.node b l k v g r)) := by cases s <;> rfl
theorem mk_key : (mkN s b i k v g o).key = k := by cases s <;> rfl
theorem mk_val : (mkN s b i k v g o).val = v := by cases s <;> rfl
theorem mk_tag : (mkN s b i k v g o).tag = g := by cases s <;> rfl
theorem mk_blk : (mkN s b i k v g o).blk = b := by cases s <;> rfl
theorem mk_ptr : (mkN s b i k v g o).ptr = some ⟨b, 0, none⟩ := by cases s <;> rfl
theorem mk_nn : mkN s b i k v g o ≠ .nil := by cases s <;> simp [mkN]
theorem mk_kvs : (mkN s b i k v g o).kvs = both s i.kvs [(k, v)] o.kvs := by cases s <;> simp [mkN, both, Tr.kvs]
theorem mk_news (n : Nat) : (mkN s b i k v g o).news n = (if n ≤ b then 1 else 0) + i.news n + o.news n := by cases s <;> simp [mkN, Tr.news] <;> omega
theorem mk_ht : (mkN s b i k v g o).ht = 1 + max i.ht o.ht := by cases s <;> simp [mkN, Tr.ht, Nat.max_comm]
theorem mk_count : (mkN s b i k v g o).count = i.count + 1 + o.count := by cases s <;> simp [mkN, Tr.count_node] <;> omega
theorem mk_pre (x : Tr) : x ∈ (mkN s b i k v g o).pre ↔ x = mkN s b i k v g o ∨ x ∈ i.pre ∨ x ∈ o.pre := by
  cases s <;> simp [mkN, Tr.pre]
  constructor <;> rintro (h | h | h) <;> simp [h]
theorem mk_inH {w : World} (h : InH w (mkN s b i k v g o)) : InH w i ∧ InH w o := by
  cases s
  · exact ⟨h.2.2, h.2.1⟩
  · exact ⟨h.2.1, h.2.2⟩
end
/-- a tree of beads' pairs, from left to right. -/
def BT.kvs : BT → List (Int × Int)
  | .nil => []
  | .node k v _ _ _ l r => l.kvs ++ (k, v) :: r.kvs
theorem BT.fits_kvs : ∀ {t : BT} {T : Tr}, t.fits T → T.kvs = t.kvs
  | .nil, .nil, _ => rfl
  | .nil, .node .., h => h.elim
  | .node .., .nil, h => h.elim
  | .node .., .node .., h => by rw [Tr.kvs, BT.kvs, BT.fits_kvs h.2.2.2.1, BT.fits_kvs h.2.2.2.2, h.1, h.2.1]
theorem BT.kvs_len : ∀ t : BT, t.kvs.length = t.enc.length
  | .nil => rfl
  | .node k v s n g l r => by simp [BT.kvs, BT.enc, BT.kvs_len l, BT.kvs_len r]; omega
/-- the beads of a tree, as a tree of beads. -/
def Tr.bt : Tr → BT
  | .nil => .nil
  | .node b l k v g r => .node k v (Tr.node b l k v g r).sum (Tr.node b l k v g r).size g l.bt r.bt
theorem Tr.bt_fits : ∀ T : Tr, T.bt.fits T
  | .nil => trivial
  | .node _ l _ _ _ r => ⟨rfl, rfl, rfl, Tr.bt_fits l, Tr.bt_fits r⟩
theorem Tr.bt_enc : ∀ T : Tr, T.bt.enc = T.beads
  | .nil => rfl
  | .node b l k v g r => by
    have e1 : (Tr.node b l k v g r).beads = (Tr.node b l k v g r).bead :: (l.beads ++ r.beads) := by simp [Tr.beads, Tr.pre]
    have e2 : (Tr.node b l k v g r).bead = ⟨k, v, (Tr.node b l k v g r).sum, (Tr.node b l k v g r).size, g, l.ptr.isSome, r.ptr.isSome⟩ := rfl
    rw [e1, e2, fits_some (Tr.bt_fits l), fits_some (Tr.bt_fits r), ← Tr.bt_enc l, ← Tr.bt_enc r]
    rfl
theorem Tr.beads_len (T : Tr) : T.beads.length = T.pre.length := by simp [Tr.beads]
theorem beads_bt {w : World} {v : Value} {T : Tr} (h : Beads w v T.beads) : Beads w v T.bt.enc := by rw [Tr.bt_enc]; exact h
theorem Tr.kvs_count : ∀ T : Tr, T.kvs.length = T.count
  | .nil => rfl
  | .node b l k v g r => by rw [Tr.kvs, Tr.count_node, List.length_append, List.length_cons, Tr.kvs_count l, Tr.kvs_count r]; omega
def kvSum (l : List (Int × Int)) : Int := (l.map (·.2)).sum
theorem Tr.sum_kvs : ∀ T : Tr, T.sum = wrap64 (kvSum T.kvs)
  | .nil => by decide +kernel
  | .node b l k v g r => by
    rw [Tr.sum, Tr.sum_kvs l, Tr.sum_kvs r, wrap_three]
    congr 1
    simp [kvSum, Tr.kvs]; omega
/-- a tree with no place in memory. -/
def BT.tr : BT → Tr
  | .nil => .nil
  | .node k v _ _ g l r => .node 0 l.tr k v g r.tr
theorem BT.tr_fits : ∀ t : BT, t.fits t.tr
  | .nil => trivial
  | .node _ _ _ _ _ l r => ⟨rfl, rfl, rfl, l.tr_fits, r.tr_fits⟩
/-- a truth, of which 'no' says something. -/
def Says (S : Prop) (w : World) (e : Ending) (w' : World) : Prop := ∃ b : Bool, e = .returned (.bool b) ∧ (b = false → S) ∧ Ext w w'
theorem BT.of_fits : ∀ {t : BT} {T : Tr}, t.fits T → t.of.fits T
  | .nil, .nil, _ => trivial
  | .nil, .node .., h => h.elim
  | .node .., .nil, h => h.elim
  | .node .., .node .., h => ⟨h.1, h.2.1, h.2.2.1, BT.of_fits h.2.2.2.1, BT.of_fits h.2.2.2.2⟩
theorem sides_ne (s : Bool) {T : Tr} (h : T ≠ .nil) : ∃ b i k v g o, T = mkN s b i k v g o := by
  cases T with
  | nil => exact (h rfl).elim
  | node b l k v g r => exact ⟨b, _, k, v, g, _, mk_sides s b l k v g r⟩
theorem both_out (s : Bool) (a m b c d : List (Int × Int)) : both s a m (both s b c d) = both s (both s a m b) c d := by cases s <;> simp [both]
end Go.Proofs.Ytkbndpemljommaa
