/- Trees in memory and trees of beads: height, pairs, sides, and what one tells of the other (plain). The first tree of a row with which something is wrong (plain); rows of pointers to nodes that a call owns. Treaps (plain): who stands above whom, what a treap is, and what a join of two comes to. -/
import Derived.Maps.AppendAt
import Derived.Deep.Upon
import Derived.Deep.MidRow
import Derived.Test.YtoiohjifjmejkaaGreatM2
import Derived.Test.YtoiohjifjmejkaaGreatM8
namespace Go.Proofs.YtoiohjifjmejkaaGreat
open Go Go.RowKit

/-- every tag fits uint64. -/
def TagsOk : Tr → Prop
  | .nil => True
  | .node _ l _ _ g r => 0 ≤ g ∧ g < 18446744073709551616 ∧ TagsOk l ∧ TagsOk r
theorem fits_tagsOk : ∀ (t : BT) (T : Tr), t.fits T → (∀ z ∈ t.enc, z.wf) → TagsOk T
  | .nil, .nil, _, _ => trivial
  | .nil, .node .., h, _ => h.elim
  | .node .., .nil, h, _ => h.elim
  | .node k v s n g l r, .node b L k' v' g' R, h, hz => by
    have h0 := hz _ (List.mem_cons_self ..)
    have h1 := h0.2.2.2.2
    simp [Lit.wf, IntKind.min, IntKind.max, IntKind.signed, IntKind.bits] at h1
    rw [h.2.2.1] at h1
    exact ⟨by omega, by omega, fits_tagsOk l L h.2.2.2.1 (fun z hz' => hz z (by simp [BT.enc, hz'])), fits_tagsOk r R h.2.2.2.2 (fun z hz' => hz z (by simp [BT.enc, hz']))⟩
/-- the height of a tree. -/
def Tr.ht : Tr → Nat
  | .nil => 0
  | .node _ l _ _ _ r => 1 + max l.ht r.ht
theorem Tr.ht_count : ∀ t : Tr, t.ht ≤ t.count
  | .nil => by simp [Tr.ht, Tr.count, Tr.pre]
  | .node b l k v g r => by
    have h1 := Tr.ht_count l
    have h2 := Tr.ht_count r
    rw [Tr.ht, Tr.count_node]
    omega
/-- what Long says no to is a tree. -/
theorem long_tree {zs : List BeadL} (h : (decide (400 < zs.length) || !mayB zs) = false) : zs.length ≤ 400 ∧ ∃ t : BT, t.enc = zs := by
  simp only [Bool.or_eq_false_iff, Bool.not_eq_false', decide_eq_false_iff_not] at h
  exact ⟨by omega, mayB_tree h.2⟩
/-- the pairs of a tree, from left to right. -/
def Tr.kvs : Tr → List (Int × Int)
  | .nil => []
  | .node _ l k v _ r => l.kvs ++ (k, v) :: r.kvs
def Tr.blk : Tr → Nat
  | .nil => 0
  | .node b .. => b
/-- how many nodes lie in blocks from a number on. -/
def Tr.news (n : Nat) : Tr → Nat
  | .nil => 0
  | .node b l _ _ _ r => (if n ≤ b then 1 else 0) + l.news n + r.news n
theorem news_zero {w : World} {n : Nat} (hn : w.heap.size ≤ n) : ∀ {t : Tr}, InH w t → t.news n = 0
  | .nil, _ => rfl
  | .node b l k v g r, ⟨h0, h1, h2⟩ => by
    have := lt_of h0
    rw [Tr.news, news_zero hn h1, news_zero hn h2, if_neg (by omega)]

/-- what lies inward of a node, and outward (true: outward is to the right); a node of both. -/
def inOf (s : Bool) (t : Tr) : Tr := if s then t.left else t.right
def outOf (s : Bool) (t : Tr) : Tr := if s then t.right else t.left
def mkN (s : Bool) (b : Nat) (i : Tr) (k v g : Int) (o : Tr) : Tr := if s then .node b i k v g o else .node b o k v g i
def both {α : Type} (s : Bool) (a m b : List α) : List α := if s then a ++ m ++ b else b ++ m ++ a
section
variable {s : Bool} {b : Nat} {i o : Tr} {k v g : Int}
theorem inOf_mk : inOf s (mkN s b i k v g o) = i := by cases s <;> rfl
theorem outOf_mk : outOf s (mkN s b i k v g o) = o := by cases s <;> rfl
theorem mk_sides (s : Bool) (b : Nat) (l : Tr) (k v g : Int) (r : Tr) : Tr.node b l k v g r = mkN s b (inOf s (.node b l k v g r)) k v g (outOf s (.node b l k v g r)) := by cases s <;> rfl
theorem mk_key : (mkN s b i k v g o).key = k := by cases s <;> rfl
theorem mk_val : (mkN s b i k v g o).val = v := by cases s <;> rfl
theorem mk_tag : (mkN s b i k v g o).tag = g := by cases s <;> rfl
theorem mk_blk : (mkN s b i k v g o).blk = b := by cases s <;> rfl
theorem mk_ptr : (mkN s b i k v g o).ptr = some ⟨b, 0, none⟩ := by cases s <;> rfl
theorem mk_nn : mkN s b i k v g o ≠ .nil := by cases s <;> simp [mkN]
theorem mk_kvs : (mkN s b i k v g o).kvs = both s i.kvs [(k, v)] o.kvs := by cases s <;> simp [mkN, both, Tr.kvs]
theorem mk_news (n : Nat) : (mkN s b i k v g o).news n = (if n ≤ b then 1 else 0) + i.news n + o.news n := by cases s <;> simp [mkN, Tr.news] <;> omega
theorem mk_ht : (mkN s b i k v g o).ht = 1 + max i.ht o.ht := by cases s <;> simp [mkN, Tr.ht, Nat.max_comm]
theorem mk_count : (mkN s b i k v g o).count = i.count + 1 + o.count := by cases s <;> simp [mkN, Tr.count_node] <;> omega
theorem mk_pre (x : Tr) : x ∈ (mkN s b i k v g o).pre ↔ x = mkN s b i k v g o ∨ x ∈ i.pre ∨ x ∈ o.pre := by
  cases s <;> simp [mkN, Tr.pre]
  constructor <;> rintro (h | h | h) <;> simp [h]
theorem mk_inH {w : World} (h : InH w (mkN s b i k v g o)) : InH w i ∧ InH w o := by
  cases s
  · exact ⟨h.2.2, h.2.1⟩
  · exact ⟨h.2.1, h.2.2⟩
end
/-- a tree of beads' pairs, from left to right. -/
def BT.kvs : BT → List (Int × Int)
  | .nil => []
  | .node k v _ _ _ l r => l.kvs ++ (k, v) :: r.kvs
theorem BT.fits_kvs : ∀ {t : BT} {T : Tr}, t.fits T → T.kvs = t.kvs
  | .nil, .nil, _ => rfl
  | .nil, .node .., h => h.elim
  | .node .., .nil, h => h.elim
  | .node .., .node .., h => by rw [Tr.kvs, BT.kvs, BT.fits_kvs h.2.2.2.1, BT.fits_kvs h.2.2.2.2, h.1, h.2.1]
theorem BT.kvs_len : ∀ t : BT, t.kvs.length = t.enc.length
  | .nil => rfl
  | .node k v s n g l r => by simp [BT.kvs, BT.enc, BT.kvs_len l, BT.kvs_len r]; omega
/-- the beads of a tree, as a tree of beads. -/
def Tr.bt : Tr → BT
  | .nil => .nil
  | .node b l k v g r => .node k v (Tr.node b l k v g r).sum (Tr.node b l k v g r).size g l.bt r.bt
theorem Tr.bt_fits : ∀ T : Tr, T.bt.fits T
  | .nil => trivial
  | .node _ l _ _ _ r => ⟨rfl, rfl, rfl, Tr.bt_fits l, Tr.bt_fits r⟩
theorem Tr.bt_enc : ∀ T : Tr, T.bt.enc = T.beads
  | .nil => rfl
  | .node b l k v g r => by
    have e1 : (Tr.node b l k v g r).beads = (Tr.node b l k v g r).bead :: (l.beads ++ r.beads) := by simp [Tr.beads, Tr.pre]
    have e2 : (Tr.node b l k v g r).bead = ⟨k, v, (Tr.node b l k v g r).sum, (Tr.node b l k v g r).size, g, l.ptr.isSome, r.ptr.isSome⟩ := rfl
    rw [e1, e2, fits_some (Tr.bt_fits l), fits_some (Tr.bt_fits r), ← Tr.bt_enc l, ← Tr.bt_enc r]
    rfl
theorem Tr.beads_len (T : Tr) : T.beads.length = T.pre.length := by simp [Tr.beads]
theorem beads_bt {w : World} {v : Value} {T : Tr} (h : Beads w v T.beads) : Beads w v T.bt.enc := by rw [Tr.bt_enc]; exact h
theorem Tr.kvs_count : ∀ T : Tr, T.kvs.length = T.count
  | .nil => rfl
  | .node b l k v g r => by rw [Tr.kvs, Tr.count_node, List.length_append, List.length_cons, Tr.kvs_count l, Tr.kvs_count r]; omega
def kvSum (l : List (Int × Int)) : Int := (l.map (·.2)).sum
theorem Tr.sum_kvs : ∀ T : Tr, T.sum = wrap64 (kvSum T.kvs)
  | .nil => by decide +kernel
  | .node b l k v g r => by
    rw [Tr.sum, Tr.sum_kvs l, Tr.sum_kvs r, wrap_three]
    congr 1
    simp [kvSum, Tr.kvs]; omega
/-- a tree with no place in memory. -/
def BT.tr : BT → Tr
  | .nil => .nil
  | .node k v _ _ g l r => .node 0 l.tr k v g r.tr
theorem BT.tr_fits : ∀ t : BT, t.fits t.tr
  | .nil => trivial
  | .node _ _ _ _ _ l r => ⟨rfl, rfl, rfl, l.tr_fits, r.tr_fits⟩
/-- a truth, of which 'no' says something. -/
def Says (S : Prop) (w : World) (e : Ending) (w' : World) : Prop := ∃ b : Bool, e = .returned (.bool b) ∧ (b = false → S) ∧ Ext w w'
theorem BT.of_fits : ∀ {t : BT} {T : Tr}, t.fits T → t.of.fits T
  | .nil, .nil, _ => trivial
  | .nil, .node .., h => h.elim
  | .node .., .nil, h => h.elim
  | .node .., .node .., h => ⟨h.1, h.2.1, h.2.2.1, BT.of_fits h.2.2.2.1, BT.of_fits h.2.2.2.2⟩
theorem sides_ne (s : Bool) {T : Tr} (h : T ≠ .nil) : ∃ b i k v g o, T = mkN s b i k v g o := by
  cases T with
  | nil => exact (h rfl).elim
  | node b l k v g r => exact ⟨b, _, k, v, g, _, mk_sides s b l k v g r⟩
theorem both_out (s : Bool) (a m b c d : List (Int × Int)) : both s a m (both s b c d) = both s (both s a m b) c d := by cases s <;> simp [both]
end Go.Proofs.YtoiohjifjmejkaaGreat
namespace Go.Proofs.YtoiohjifjmejkaaGreat
open Go Go.RowKit

/-- the first one that is wrong, and how. -/
def firstOf (one : Tr → Int) : List Tr → Nat × Int
  | [] => (0, 0)
  | t :: r => if one t = 0 then ((firstOf one r).1 + 1, (firstOf one r).2) else (0, one t)
def mayOf (one : Tr → Int) (T : Tr) : Bool := (firstOf one T.pre).2 == 0
section
variable {one : Tr → Int}
theorem firstOf_cons (t : Tr) (r : List Tr) : firstOf one (t :: r) = if one t = 0 then ((firstOf one r).1 + 1, (firstOf one r).2) else (0, one t) := rfl
theorem firstOf_none : ∀ {l : List Tr}, (firstOf one l).2 = 0 → (firstOf one l).1 = l.length ∧ ∀ t ∈ l, one t = 0
  | [], _ => by simp [firstOf]
  | t :: l, h => by
    rw [firstOf_cons] at h ⊢
    split at h
    · rename_i h1
      have := firstOf_none (l := l) h
      refine ⟨by simp [this.1, h1], ?_⟩
      intro x hx
      rcases List.mem_cons.1 hx with rfl | hx
      · exact h1
      · exact this.2 x hx
    · rename_i h1
      exact (h1 h).elim
theorem firstOf_append (a b : List Tr) : firstOf one (a ++ b) = if (firstOf one a).2 = 0 then (a.length + (firstOf one b).1, (firstOf one b).2) else firstOf one a := by
  induction a with
  | nil => simp [firstOf]
  | cons t a ih =>
    rw [List.cons_append, firstOf_cons, firstOf_cons]
    by_cases h1 : one t = 0
    · simp only [h1, ih]
      by_cases h3 : (firstOf one a).2 = 0
      · simp [h3]; omega
      · simp [h3]
    · simp [h1]
theorem firstOf_le : ∀ l : List Tr, (firstOf one l).1 ≤ l.length
  | [] => by simp [firstOf]
  | t :: l => by
    have := firstOf_le l
    rw [firstOf_cons]
    split
    · simp; omega
    · simp
theorem mayOf_nil : mayOf one .nil = true := rfl
theorem mayOf_node (b : Nat) (l : Tr) (k v g : Int) (r : Tr) : mayOf one (.node b l k v g r) = (one (.node b l k v g r) == 0 && mayOf one l && mayOf one r) := by
  unfold mayOf
  simp only [Tr.pre]
  rw [firstOf_cons]
  by_cases h1 : one (.node b l k v g r) = 0
  · simp only [h1, firstOf_append]
    by_cases h3 : (firstOf one l.pre).2 = 0 <;> simp [h3]
  · rw [if_neg h1, beq_eq_false_iff_ne.2 h1]; simp
end
/-- what is still to be looked at, of a stack of trees (the next one stands last). -/
def pend (st : List Tr) : List Tr := st.reverse.flatMap Tr.pre
theorem pend_nil : pend [] = [] := rfl
theorem pend_snoc (st : List Tr) (t : Tr) : pend (st ++ [t]) = t.pre ++ pend st := by simp [pend]
theorem pend_two (st : List Tr) (a b : Tr) : pend (st ++ [a, b]) = b.pre ++ (a.pre ++ pend st) := by simp [pend]

/-- a row of pointers that was made since the heap had B blocks. -/
def NOwn (B : Nat) (w : World) (v : Value) (xs : List (Option Addr)) : Prop := w.ownsRow B 31 1 v xs.length (xs.map Value.pointer)
theorem NOwn.nil (B : Nat) (w : World) : NOwn B w (.slice none 0 0) [] := ⟨rfl, .inl ⟨rfl, rfl⟩⟩
theorem NOwn.ext {B : Nat} {w w' : World} {v : Value} {xs : List (Option Addr)} (h : NOwn B w v xs) (e : Ext w w') : NOwn B w' v xs := by
  obtain ⟨h1, h | ⟨g, cap, cur, hv, hb, hg, hc⟩⟩ := h
  · exact ⟨h1, .inl h⟩
  · exact ⟨h1, .inr ⟨g, cap, cur, hv, hb, (e.block g (lt_of hg)).trans hg, hc⟩⟩
theorem NOwn.mono {B B' : Nat} {w : World} {v : Value} {xs : List (Option Addr)} (h : NOwn B w v xs) (e : B' ≤ B) : NOwn B' w v xs := by
  obtain ⟨h1, h | ⟨g, cap, cur, hv, hb, hg, hc⟩⟩ := h
  · exact ⟨h1, .inl h⟩
  · exact ⟨h1, .inr ⟨g, cap, cur, hv, Nat.le_trans e hb, hg, hc⟩⟩
theorem NOwn.slice {B : Nat} {w : World} {v : Value} {xs : List (Option Addr)} (h : NOwn B w v xs) : ∃ a c, v = .slice a xs.length c := by
  obtain ⟨h1, ⟨rfl, h0⟩ | ⟨g, cap, cur, rfl, hb, hg, hc⟩⟩ := h
  · exact ⟨none, 0, by rw [h0]⟩
  · exact ⟨_, _, rfl⟩
/-- its last one, and the row without it. -/
theorem NOwn.pop {B : Nat} {w : World} {v : Value} {xs : List (Option Addr)} {x : Option Addr} (h : NOwn B w v (xs ++ [x])) :
    ∃ g cap, v = .slice (some ⟨g, 0, none⟩) (xs.length + 1) cap ∧ xs.length + 1 ≤ cap ∧ w.cell? ⟨g, xs.length, none⟩ = some (.pointer x) ∧ NOwn B w (.slice (some ⟨g, 0, none⟩) xs.length cap) xs := by
  obtain ⟨h1, ⟨rfl, h0⟩ | ⟨g, cap, cur, hv, hb, hg, hc, hm, hs, ht⟩⟩ := h
  · simp at h0
  · rw [List.length_append, List.length_singleton] at hv hc ht
    refine ⟨g, cap, hv, hc, ?_, by simp, .inr ⟨g, cap, cur, rfl, hb, hg, by omega, hm, hs, ?_⟩⟩
    · rw [cell_of hg]
      have : (cur.toList.take ((xs.length + 1) * 1))[xs.length]? = some (.pointer x) := by rw [ht]; simp
      rw [List.getElem?_take] at this
      split at this
      · simpa using this
      · cases this
    · have := congrArg (List.take (xs.length * 1)) ht
      rw [List.take_take, Nat.min_eq_left (by omega)] at this
      rw [this]; simp
theorem node_info : ∃ i : TypeInfo, Tryz.prog.info? 31 = some i ∧ i.zero = some (.pointer none) ∧ i.size = 1 ∧ i.bytes = 8 := by
  have h : (Tryz.prog.info? 31).map (fun i => (i.zero, i.size, i.bytes)) = some (some (.pointer none), 1, 8) := by kernel_rfl
  cases hi : Tryz.prog.info? 31 with
  | none => rw [hi] at h; cases h
  | some i =>
    rw [hi] at h
    simp only [Option.map_some, Option.some.injEq, Prod.mk.injEq] at h
    exact ⟨i, rfl, h.1, h.2.1, h.2.2⟩
/-- append, onto a row of one's own. -/
theorem append_nown {B : Nat} {w : World} {v : Value} {xs ys : List (Option Addr)} (ty : TypeId) {b o c : Nat} (hv : NOwn B w v xs) (hr : w.rangeAt b o (ys.map Value.pointer)) (hlen : xs.length + ys.length ≤ 10000) (hB : B ≤ w.heap.size) :
    ∃ v' w', (Builtin.append_ #[175, 175] ty #[v, .slice (some ⟨b, o, none⟩) ys.length c]).run Tryz.prog w = .ok v' w' ∧ NOwn B w' v' (xs ++ ys) ∧ w.grownBy w' v.ownBlock := by
  obtain ⟨i, hi, hz, hs, hb⟩ := node_info
  have hml : (10000 : Nat) ≤ maxLen := by decide
  obtain ⟨v', w', hrun, hown, hg, _, _⟩ := run_append_own_at (P := Tryz.prog) w B _ ty _ i _ 1 8 Tryz.underlying175 hi hz hs hb rfl (by omega) v xs.length (xs.map Value.pointer) hv ⟨b, o, none⟩ ys.length c (ys.map Value.pointer) (by simp)
    (fun j u hj => by rw [Addr.add_mid]; exact hr j u hj) (by intro u hu; obtain ⟨x, _, rfl⟩ := List.mem_map.1 hu; rfl) (by omega) (by omega) hB
  refine ⟨v', w', hrun, ?_, hg⟩
  show w'.ownsRow _ _ _ _ _ _
  rw [List.length_append, List.map_append]
  exact hown
/-- what append leaves alone. -/
theorem ngrown_ext {w0 w w' : World} {v : Value} {xs : List (Option Addr)} (hw : Ext w0 w) (hv : NOwn w0.heap.size w v xs) (hg : w.grownBy w' v.ownBlock) : Ext w0 w' := by
  refine RowKit.Below.grown hw hg hw.size ?_
  intro k hk
  rcases hv with ⟨_, ⟨rfl, h0⟩ | ⟨g, cap, cur, rfl, hb, _⟩⟩
  · cases hk
  · simp only [Value.ownBlock, Option.some.injEq] at hk
    omega
section
variable {F : Fence} {n : Nat} {ops : Array Oper} {rest : List Oper} {o : Oper} {a : Act} {Q : Exit → Act → World → Prop}
theorem wpList_append_nodes (hgd : o.guard = none) (s x : Operand) (ho : o.op = .call { callee := .builtin .append, args := #[s, x], argTypes := #[175, 175] })
    {B : Nat} {w : World} {v : Value} {xs ys : List (Option Addr)} {b i c : Nat} (hs : a.eval s = v) (hx : a.eval x = .slice (some ⟨b, i, none⟩) ys.length c) (hv : NOwn B w v xs) (hr : w.rangeAt b i (ys.map Value.pointer)) (hlen : xs.length + ys.length ≤ 10000) (hB : B ≤ w.heap.size)
    (h : ∀ v' w', NOwn B w' v' (xs ++ ys) → w.grownBy w' v.ownBlock → wpList Tryz.prog ops Q rest (a.put o.dst v') w') : wpList Tryz.prog ops Q (o :: rest) a w := by
  refine wpList_plain hgd fun K hK => ?_
  obtain ⟨v', w', hr, h2, h3⟩ := append_nown (c := c) o.type hv hr hlen hB
  unfold Oper.wp execOp
  simp only [ho, resolve, invoke, builtin, Sem.run_bind, Sem.run_pure, Result.andThen_ok, List.map_toArray, List.map_cons, List.map_nil, hs, hx, hr]
  exact hK _ _ (h v' w' h2 h3)
end
end Go.Proofs.YtoiohjifjmejkaaGreat
namespace Go.Proofs.YtoiohjifjmejkaaGreat
open Go Go.RowKit

/-- does one tag and key stand above others? -/
def aboveB (g k g' k' : Int) : Bool := decide (g' < g) || (decide (g = g') && decide (k' < k))
theorem above_irr (g k : Int) : aboveB g k g k = false := by simp [aboveB]
theorem above_asym {g k g' k' : Int} (h : aboveB g k g' k' = true) : aboveB g' k' g k = false := by
  simp only [aboveB, Bool.or_eq_true, Bool.and_eq_true, decide_eq_true_eq, Bool.or_eq_false_iff, Bool.and_eq_false_iff, decide_eq_false_iff_not] at h ⊢
  omega
theorem above_trans' {a b c d e f : Int} (h1 : aboveB a b c d = false) (h2 : aboveB c d e f = false) : aboveB a b e f = false := by
  simp only [aboveB, Bool.or_eq_false_iff, Bool.and_eq_false_iff, decide_eq_false_iff_not] at h1 h2 ⊢
  omega
/-- does the root of one tree stand above that of another one (false, where one is missing)? -/
def tAbove : Tr → Tr → Bool
  | .node _ _ k _ g _, .node _ _ k' _ g' _ => aboveB g k g' k'
  | _, _ => false
/-- does the root of a tree stand not above a tag and key? -/
def under : Tr → Int → Int → Prop
  | .nil, _, _ => True
  | .node _ _ k _ g _, g', k' => aboveB g k g' k' = false
theorem under_iff (t : Tr) (b : Nat) (l : Tr) (k v g : Int) (r : Tr) : tAbove t (.node b l k v g r) = false ↔ under t g k := by
  cases t <;> simp [tAbove, under]
theorem under_trans {t : Tr} {g k g' k' : Int} (h : under t g k) (h2 : aboveB g k g' k' = false) : under t g' k' := by
  cases t with
  | nil => trivial
  | node => exact above_trans' h h2
/-- what is wrong with a node. -/
def tpOne (n : Tr) : Int := if tAbove n.left n || tAbove n.right n then 8 else 0
def tpMay (T : Tr) : Bool := mayOf tpOne T
def TpH : Tr → Prop
  | .nil => True
  | .node _ l k _ g r => under l g k ∧ under r g k ∧ TpH l ∧ TpH r
theorem tpMay_iff : ∀ T : Tr, tpMay T = true ↔ TpH T
  | .nil => by simp [tpMay, mayOf_nil, TpH]
  | .node b l k v g r => by
    have h1 := tpMay_iff l
    have h2 := tpMay_iff r
    unfold tpMay at h1 h2 ⊢
    have e1 := under_iff l b l k v g r
    have e2 := under_iff r b l k v g r
    rw [mayOf_node, TpH, Bool.and_eq_true, Bool.and_eq_true, h1, h2, ← e1, ← e2]
    unfold tpOne
    simp only [Tr.left_node, Tr.right_node]
    by_cases hx : tAbove l (.node b l k v g r) = true <;> by_cases hy : tAbove r (.node b l k v g r) = true <;> simp [hx, hy]
/-- a tree's items, from left to right. -/
def Tr.its : Tr → List (Int × Int × Int)
  | .nil => []
  | .node _ l k v g r => l.its ++ (k, v, g) :: r.its
theorem Tr.its_len : ∀ T : Tr, T.its.length = T.count
  | .nil => rfl
  | .node b l k v g r => by rw [Tr.its, Tr.count_node, List.length_append, List.length_cons, Tr.its_len l, Tr.its_len r]; omega
theorem Tr.its_kvs : ∀ T : Tr, T.its.map (fun z => (z.1, z.2.1)) = T.kvs
  | .nil => rfl
  | .node b l k v g r => by rw [Tr.its, Tr.kvs, List.map_append, List.map_cons, Tr.its_kvs l, Tr.its_kvs r]
/-- how many nodes there are on the way to one side. -/
def Tr.rway : Tr → Nat
  | .nil => 0
  | .node _ _ _ _ _ r => 1 + r.rway
def Tr.lway : Tr → Nat
  | .nil => 0
  | .node _ l _ _ _ _ => 1 + l.lway
theorem Tr.rway_le : ∀ T : Tr, T.rway ≤ T.count
  | .nil => Nat.le_refl _
  | .node b l k v g r => by rw [Tr.rway, Tr.count_node]; have := Tr.rway_le r; omega
theorem Tr.lway_le : ∀ T : Tr, T.lway ≤ T.count
  | .nil => Nat.le_refl _
  | .node b l k v g r => by rw [Tr.lway, Tr.count_node]; have := Tr.lway_le l; omega
/-- what a join of two treaps has to be. -/
structure TJoinOk (n : Nat) (L R : Tr) (k v g : Int) (T : Tr) : Prop where
  tp : TpH L → TpH R → TpH T
  its : T.its = L.its ++ (k, v, g) :: R.its
  news : L.news n = 0 → R.news n = 0 → T.news n ≤ L.rway + R.lway + 1
  top : ∀ g' k', under L g' k' → under R g' k' → aboveB g k g' k' = false → under T g' k'
  tags : 0 ≤ g → g < 18446744073709551616 → TagsOk L → TagsOk R → TagsOk T
  old : ∀ x ∈ T.pre, x.blk < n → x ∈ L.pre ∨ x ∈ R.pre
  new : n ≤ T.blk
theorem TJoinOk.mid (n b : Nat) {L R : Tr} {k v g : Int} (hb : n ≤ b) (hl : under L g k) (hr : under R g k) : TJoinOk n L R k v g (.node b L k v g R) :=
  ⟨fun a c => ⟨hl, hr, a, c⟩, rfl, fun a c => by rw [Tr.news, a, c]; split <;> omega, fun g' k' _ _ h => h, fun a c d e => ⟨a, c, d, e⟩, fun x hx hn => by
    simp only [Tr.pre, List.mem_cons, List.mem_append] at hx
    rcases hx with rfl | hx | hx
    · exact absurd hn (Nat.not_lt.2 hb)
    · exact .inl hx
    · exact .inr hx, hb⟩
theorem TJoinOk.onLeft {n b b' : Nat} {L R T l r : Tr} {k v g K V G : Int} (hb : n ≤ b) (hL : L = .node b' l K V G r) (h : TJoinOk n r R k v g T) (ha : aboveB G K g k = true) (hr : under R G K) : TJoinOk n L R k v g (.node b l K V G T) := by
  subst hL
  refine ⟨fun a c => ⟨a.1, h.top _ _ a.2.1 hr (above_asym ha), a.2.2.1, h.tp a.2.2.2 c⟩, ?_, fun a c => ?_, fun g' k' a _ _ => a, fun a c d e => ⟨d.1, d.2.1, d.2.2.1, h.tags a c d.2.2.2 e⟩, fun x hx hn => ?_, hb⟩
  · rw [Tr.its, Tr.its, h.its, List.append_assoc, List.cons_append]
  · rw [Tr.news] at a ⊢
    have := h.news (by omega) c
    have e1 : l.news n = 0 := by omega
    rw [e1, Tr.rway]
    split <;> omega
  · simp only [Tr.pre, List.mem_cons, List.mem_append] at hx
    rcases hx with rfl | hx | hx
    · exact absurd hn (Nat.not_lt.2 hb)
    · exact .inl (by simp [Tr.pre, hx])
    · rcases h.old x hx hn with h1 | h1
      · exact .inl (by simp [Tr.pre, h1])
      · exact .inr h1
theorem TJoinOk.onRight {n b b' : Nat} {L R T l r : Tr} {k v g K V G : Int} (hb : n ≤ b) (hR : R = .node b' l K V G r) (h : TJoinOk n L l k v g T) (ha : aboveB G K g k = true) (hl : under L G K) : TJoinOk n L R k v g (.node b T K V G r) := by
  subst hR
  refine ⟨fun a c => ⟨h.top _ _ hl c.1 (above_asym ha), c.2.1, h.tp a c.2.2.1, c.2.2.2⟩, ?_, fun a c => ?_, fun g' k' _ c _ => c, fun a c d e => ⟨e.1, e.2.1, h.tags a c d e.2.2.1, e.2.2.2⟩, fun x hx hn => ?_, hb⟩
  · rw [Tr.its, Tr.its, h.its, List.append_assoc, List.cons_append]
  · rw [Tr.news] at c ⊢
    have := h.news a (by omega)
    have e1 : r.news n = 0 := by omega
    rw [e1, Tr.lway]
    split <;> omega
  · simp only [Tr.pre, List.mem_cons, List.mem_append] at hx
    rcases hx with rfl | hx | hx
    · exact absurd hn (Nat.not_lt.2 hb)
    · rcases h.old x hx hn with h1 | h1
      · exact .inl h1
      · exact .inr (by simp [Tr.pre, h1])
    · exact .inr (by simp [Tr.pre, hx])
/-- does a tree stand above a node, and above another tree? -/
def isB (A M B : Tr) : Bool := tAbove A M && (match B with | .nil => true | .node .. => tAbove A B)
end Go.Proofs.YtoiohjifjmejkaaGreat
