/- AVL trees by their heights; a side of a node; what becomes of a tree on whose outer side another one hangs (plain, no program). avljoin: its sides, the turns, hang, Join, Most. avljoin: hang, Join, Most. Rows of pairs in memory, and those that a call owns; joineryref09.Pairs, SamePairs. avljoin.Join, Most; joineryref15; joinerylaw15.long, alive. joinerylaw15.long, alive, and the walk of AvlJoins. A pointer to a node is itself. The package rb, but for what goes over a tree. rb.one: what is wrong with a node. The going over a tree, each node ahead of its sides, and what is wrong with it (rb.wrong). rb.wrong, rb.first, Check, Part, May, Rank. -/
import Derived.Test.YtkkdobolloojjaaGreatM2
import Derived.LaidEqlPtr
import Derived.BigQuiet
namespace Go.Proofs.YtkkdobolloojjaaGreat
open Go Go.RowKit

/-- a tree in balance, of a height, well tagged. -/
def AvlH : Tr → Nat → Prop
  | .nil, h => h = 0
  | .node _ l _ _ g r, h => ∃ p q, AvlH l p ∧ AvlH r q ∧ h = 1 + max p q ∧ g = h ∧ p ≤ q + 1 ∧ q ≤ p + 1
theorem AvlH.ht : ∀ {t : Tr} {h : Nat}, AvlH t h → t.ht = h
  | .nil, _, e => e.symm
  | .node _ l _ _ g r, h, ⟨p, q, hp, hq, e, _⟩ => by rw [Tr.ht, AvlH.ht hp, AvlH.ht hq, e]
theorem AvlH.tag : ∀ {t : Tr} {h : Nat}, AvlH t h → t.tag = h
  | .nil, _, e => by rw [show _ = 0 from e]; rfl
  | .node _ l _ _ g r, h, ⟨p, q, hp, hq, e, eg, _⟩ => eg
theorem AvlH.may : ∀ {t : Tr} {h : Nat}, AvlH t h → h < 1000000 → avlMay t = true ∧ TagsOk t
  | .nil, _, _, _ => ⟨rfl, trivial⟩
  | .node b l k v g r, h, ⟨p, q, hp, hq, e, eg, h1, h2⟩, hh => by
    obtain ⟨m1, o1⟩ := AvlH.may hp (by omega)
    obtain ⟨m2, o2⟩ := AvlH.may hq (by omega)
    refine ⟨?_, by omega, by omega, o1, o2⟩
    have t1 := hp.tag
    have t2 := hq.tag
    have e1 : avlBadTag (.node b l k v g r) = false := by
      simp only [avlBadTag, Tr.tag_node, Tr.left_node, Tr.right_node, t1, t2]
      rw [u64_small (by omega) (by omega)]
      simp; omega
    have e2 : avlBadTree (.node b l k v g r) = false := by
      simp only [avlBadTree, Tr.left_node, Tr.right_node, t1, t2]
      rw [u64_small (by omega) (by omega)]
      simp; omega
    rw [avlMay_node, m1, m2, e1, e2]
    rfl
theorem AvlH.of_may : ∀ {t : Tr}, avlMay t = true → TagsOk t → t.count < 1000000 → AvlH t t.ht
  | .nil, _, _, _ => rfl
  | .node b l k v g r, hm, ho, hc => by
    obtain ⟨e, -, h3⟩ := may_ht (.node b l k v g r) hm ho hc
    rw [avlMay_node] at hm
    simp only [Bool.and_eq_true] at hm
    rw [Tr.count_node] at hc
    have h4 := h3 (by simp)
    simp only [Tr.left_node, Tr.right_node] at h4
    exact ⟨l.ht, r.ht, AvlH.of_may hm.1.2 ho.2.2.1 (by omega), AvlH.of_may hm.2 ho.2.2.2 (by omega), rfl, e, by omega, by omega⟩

theorem mk_avl {s : Bool} {b : Nat} {i o : Tr} {k v g : Int} (h : Nat) : AvlH (mkN s b i k v g o) h ↔ ∃ p q, AvlH i p ∧ AvlH o q ∧ h = 1 + max p q ∧ g = h ∧ p ≤ q + 1 ∧ q ≤ p + 1 := by
  cases s
  · constructor
    · rintro ⟨p, q, h1, h2, h3, h4, h5, h6⟩; exact ⟨q, p, h2, h1, by omega, h4, h6, h5⟩
    · rintro ⟨p, q, h1, h2, h3, h4, h5, h6⟩; exact ⟨q, p, h2, h1, by omega, h4, h6, h5⟩
  · exact Iff.rfl
theorem avlTag_comm (l r : Tr) : avlTag l r = avlTag r l := by unfold avlTag; rw [Int.max_comm]
theorem avlTag_h {l r : Tr} {p q : Nat} (hl : AvlH l p) (hr : AvlH r q) (hp : p < 1000000) (hq : q < 1000000) : avlTag l r = ((1 + max p q : Nat) : Int) := by
  unfold avlTag
  rw [hl.tag, hr.tag, u64_small (by omega) (by omega)]
  omega
/-- a node of two trees in balance. -/
theorem mk_bal {s : Bool} {b : Nat} {i o : Tr} {k v : Int} {p q : Nat} (hi : AvlH i p) (ho : AvlH o q) (h1 : p ≤ q + 1) (h2 : q ≤ p + 1) (hp : p < 1000000) (hq : q < 1000000) :
    AvlH (mkN s b i k v (avlTag i o) o) (1 + max p q) := (mk_avl _).2 ⟨p, q, hi, ho, rfl, avlTag_h hi ho hp hq, h1, h2⟩

/-- what becomes of a tree t, if a pair and a lower one hang on its outer side. -/
structure HangOk (n : Nat) (s : Bool) (t low : Tr) (k v : Int) (T : Tr) : Prop where
  ex : ∃ h, AvlH T h ∧ (h = t.ht ∨ (h = t.ht + 1 ∧ (inOf s T).ht < (outOf s T).ht)) ∧ T.news n + low.ht ≤ t.ht + 1
  kvs : T.kvs = both s t.kvs [(k, v)] low.kvs
  old : ∀ x ∈ T.pre, x.blk < n → x ∈ t.pre ∨ x ∈ low.pre
  top : n ≤ T.blk
  nn : T ≠ .nil

section
variable {n : Nat} {s : Bool} {b : Nat} {i o low : Tr} {k v g pk pv : Int} {p q r : Nat}
/-- at the bottom: the pair and the lower tree, under what lay outward. -/
theorem hang_base (bx : Nat) (ho : AvlH o q) (hl : AvlH low r) (hq : q < 1000000) (hr : r < 1000000) (h1 : q ≤ r + 1) (h2 : r ≤ q) (no : o.news n = 0) (nl : low.news n = 0) (hb : n ≤ bx) :
    AvlH (mkN s bx o pk pv (avlTag o low) low) (q + 1) ∧ (mkN s bx o pk pv (avlTag o low) low).news n + r ≤ q + 1 ∧ (mkN s bx o pk pv (avlTag o low) low).kvs = both s o.kvs [(pk, pv)] low.kvs ∧
    ∀ x ∈ (mkN s bx o pk pv (avlTag o low) low).pre, x.blk < n → x ∈ o.pre ∨ x ∈ low.pre := by
  refine ⟨?_, ?_, mk_kvs, fun x hx hn => ?_⟩
  · have := mk_bal (s := s) (b := bx) (k := pk) (v := pv) ho hl h1 (by omega) hq hr
    rwa [show 1 + max q r = q + 1 by omega] at this
  · rw [mk_news, no, nl, if_pos hb]; omega
  · rcases (mk_pre x).1 hx with rfl | h | h
    · rw [mk_blk] at hn; omega
    · exact .inl h
    · exact .inr h
/-- no turn. -/
theorem hang_plain {x : Tr} {hx : Nat} (bt : Nat) (hi : AvlH i p) (ho : AvlH o q) (hl : AvlH low r) (h1 : p ≤ q + 1) (h2 : q ≤ p + 1) (hp : p < 100000) (hxx : AvlH x hx) (hle : hx ≤ p + 1) (hor : hx = q ∨ hx = q + 1)
    (hn : x.news n + r ≤ q + 1) (hk : x.kvs = both s o.kvs [(pk, pv)] low.kvs) (hold : ∀ y ∈ x.pre, y.blk < n → y ∈ o.pre ∨ y ∈ low.pre) (ni : i.news n = 0) (hb : n ≤ bt) :
    HangOk n s (mkN s b i k v g o) low pk pv (mkN s bt i k v (avlTag i x) x) := by
  have hm := mk_bal (s := s) (b := bt) (k := k) (v := v) hi hxx (by omega) hle (by omega) (by omega)
  refine ⟨⟨_, hm, ?_, ?_⟩, ?_, fun y hy hyn => ?_, by rw [mk_blk]; exact hb, mk_nn⟩
  · rw [mk_ht, inOf_mk, outOf_mk, hi.ht, ho.ht, hxx.ht]; omega
  · rw [mk_news, ni, if_pos hb, mk_ht, hi.ht, ho.ht, hl.ht]; omega
  · rw [mk_kvs, mk_kvs, hk, both_out]
  · rcases (mk_pre y).1 hy with rfl | h | h
    · rw [mk_blk] at hyn; omega
    · exact .inl ((mk_pre y).2 (.inr (.inl h)))
    · rcases hold y h hyn with h | h
      · exact .inl ((mk_pre y).2 (.inr (.inr h)))
      · exact .inr h
/-- one turn. -/
theorem hang_turn {xi xo : Tr} {xk xv xg : Int} {bx hx : Nat} (b3 b4 : Nat) (hi : AvlH i p) (ho : AvlH o q) (hl : AvlH low r) (h1 : p ≤ q + 1) (h2 : q ≤ p + 1) (hp : p < 100000) (hxx : AvlH (mkN s bx xi xk xv xg xo) hx) (hgt : p + 1 < hx)
    (hor : hx = q ∨ (hx = q + 1 ∧ xi.ht < xo.ht)) (hn : (mkN s bx xi xk xv xg xo).news n + r ≤ q + 1) (hbx : n ≤ bx) (hk : (mkN s bx xi xk xv xg xo).kvs = both s o.kvs [(pk, pv)] low.kvs)
    (hold : ∀ y ∈ (mkN s bx xi xk xv xg xo).pre, y.blk < n → y ∈ o.pre ∨ y ∈ low.pre) (ni : i.news n = 0) (hb3 : n ≤ b3) (hb4 : n ≤ b4) :
    HangOk n s (mkN s b i k v g o) low pk pv (mkN s b4 (mkN s b3 i k v (avlTag i xi) xi) xk xv (avlTag (mkN s b3 i k v (avlTag i xi) xi) xo) xo) := by
  obtain ⟨a, c, ha, hc, e1, e2, e3, e4⟩ := (mk_avl _).1 hxx
  have hac : hx = q + 1 ∧ a < c := by
    rcases hor with h | ⟨h, h'⟩
    · omega
    · rw [ha.ht, hc.ht] at h'; exact ⟨h, h'⟩
  obtain ⟨hq1, hlt⟩ := hac
  have m3 := mk_bal (s := s) (b := b3) (k := k) (v := v) hi ha (by omega) (by omega) (by omega) (by omega)
  have m4 := mk_bal (s := s) (b := b4) (k := xk) (v := xv) m3 hc (by omega) (by omega) (by omega) (by omega)
  rw [mk_news, if_pos hbx] at hn
  refine ⟨⟨_, m4, ?_, ?_⟩, ?_, fun y hy hyn => ?_, by rw [mk_blk]; exact hb4, mk_nn⟩
  · rw [mk_ht, hi.ht, ho.ht]; omega
  · rw [mk_news, mk_news, ni, if_pos hb3, if_pos hb4, mk_ht, hi.ht, ho.ht, hl.ht]; omega
  · rw [mk_kvs] at hk
    rw [mk_kvs, mk_kvs, mk_kvs, ← both_out, hk, both_out]
  · have hin : ∀ z, z ∈ xi.pre ∨ z ∈ xo.pre → z.blk < n → z ∈ (mkN s b i k v g o).pre ∨ z ∈ low.pre := fun z hz hzn => by
      rcases hold z ((mk_pre z).2 (.inr hz)) hzn with h | h
      · exact .inl ((mk_pre z).2 (.inr (.inr h)))
      · exact .inr h
    rcases (mk_pre y).1 hy with rfl | h | h
    · rw [mk_blk] at hyn; omega
    · rcases (mk_pre y).1 h with rfl | h | h
      · rw [mk_blk] at hyn; omega
      · exact .inl ((mk_pre y).2 (.inr (.inl h)))
      · exact hin y (.inl h) hyn
    · exact hin y (.inr h) hyn
/-- two turns, at the bottom. -/
theorem hang_two {oi oo : Tr} {ok ov og : Int} {bo : Nat} (b3 b4 b5 : Nat) (hi : AvlH i p) (ho : AvlH (mkN s bo oi ok ov og oo) q) (hl : AvlH low r) (h1 : p ≤ q + 1) (h2 : q ≤ p + 1) (hp : p < 100000) (hr : r + 1 < 1 + max p q) (hbase : q ≤ r + 1) (hgt : p + 1 < q + 1)
    (ni : i.news n = 0) (no : (mkN s bo oi ok ov og oo).news n = 0) (nl : low.news n = 0) (hb3 : n ≤ b3) (hb4 : n ≤ b4) (hb5 : n ≤ b5) :
    HangOk n s (mkN s b i k v g (mkN s bo oi ok ov og oo)) low pk pv (mkN s b5 (mkN s b4 i k v (avlTag i oi) oi) ok ov (avlTag (mkN s b4 i k v (avlTag i oi) oi) (mkN s b3 oo pk pv (avlTag oo low) low)) (mkN s b3 oo pk pv (avlTag oo low) low)) := by
  have hot := ho.ht
  obtain ⟨a, c, ha, hc, e1, e2, e3, e4⟩ := (mk_avl _).1 ho
  have m3 := mk_bal (s := s) (b := b3) (k := pk) (v := pv) hc hl (by omega) (by omega) (by omega) (by omega)
  have m4 := mk_bal (s := s) (b := b4) (k := k) (v := v) hi ha (by omega) (by omega) (by omega) (by omega)
  have m5 := mk_bal (s := s) (b := b5) (k := ok) (v := ov) m4 m3 (by omega) (by omega) (by omega) (by omega)
  rw [mk_news] at no
  refine ⟨⟨_, m5, ?_, ?_⟩, ?_, fun y hy hyn => ?_, by rw [mk_blk]; exact hb5, mk_nn⟩
  · rw [mk_ht, hi.ht, hot]; omega
  · rw [mk_news, mk_news, mk_news, ni, nl, if_pos hb3, if_pos hb4, if_pos hb5, mk_ht, hi.ht, hot, hl.ht]; omega
  · simp only [mk_kvs, both_out]
  · have hin : ∀ z, z ∈ oi.pre ∨ z ∈ oo.pre → z ∈ (mkN s b i k v g (mkN s bo oi ok ov og oo)).pre ∨ z ∈ low.pre := fun z hz =>
      .inl ((mk_pre z).2 (.inr (.inr ((mk_pre z).2 (.inr hz)))))
    rcases (mk_pre y).1 hy with rfl | h | h
    · rw [mk_blk] at hyn; omega
    · rcases (mk_pre y).1 h with rfl | h | h
      · rw [mk_blk] at hyn; omega
      · exact .inl ((mk_pre y).2 (.inr (.inl h)))
      · exact hin y (.inl h)
    · rcases (mk_pre y).1 h with rfl | h | h
      · rw [mk_blk] at hyn; omega
      · exact hin y (.inr h)
      · exact .inr h
end

/-- what a join of two trees is. -/
structure JoinOk (n : Nat) (l r : Tr) (k v : Int) (T : Tr) : Prop where
  ex : ∃ h, AvlH T h ∧ (h = max l.ht r.ht ∨ h = max l.ht r.ht + 1) ∧ T.news n + min l.ht r.ht ≤ max l.ht r.ht + 1
  kvs : T.kvs = l.kvs ++ (k, v) :: r.kvs
  old : ∀ x ∈ T.pre, x.blk < n → x ∈ l.pre ∨ x ∈ r.pre
  top : n ≤ T.blk
  nn : T ≠ .nil
theorem join_right {n : Nat} {l r : Tr} {k v : Int} {T : Tr} (h : HangOk n true l r k v T) (hlt : r.ht + 1 < l.ht) : JoinOk n l r k v T := by
  obtain ⟨⟨x, h1, h2, h3⟩, h4, h5, h6, h7⟩ := h
  exact ⟨⟨x, h1, by omega, by omega⟩, by rw [h4]; simp [both], h5, h6, h7⟩
theorem join_left {n : Nat} {l r : Tr} {k v : Int} {T : Tr} (h : HangOk n false r l k v T) (hlt : l.ht + 1 < r.ht) : JoinOk n l r k v T := by
  obtain ⟨⟨x, h1, h2, h3⟩, h4, h5, h6, h7⟩ := h
  exact ⟨⟨x, h1, by omega, by omega⟩, by rw [h4]; simp [both], fun y hy hn => (h5 y hy hn).symm, h6, h7⟩
theorem join_even {n : Nat} {l r : Tr} {k v : Int} {p q : Nat} (b : Nat) (hl : AvlH l p) (hr : AvlH r q) (h1 : p ≤ q + 1) (h2 : q ≤ p + 1) (hp : p < 100000) (nl : l.news n = 0) (nr : r.news n = 0) (hb : n ≤ b) : JoinOk n l r k v (.node b l k v (avlTag l r) r) := by
  have hm := mk_bal (s := true) (b := b) (k := k) (v := v) hl hr h1 h2 (by omega) (by omega)
  refine ⟨⟨_, hm, by rw [hl.ht, hr.ht]; omega, ?_⟩, by simp [Tr.kvs], fun x hx hn => ?_, hb, by simp⟩
  · rw [Tr.news, nl, nr, if_pos hb, hl.ht, hr.ht]; omega
  · rcases (mk_pre (s := true) x).1 hx with rfl | h | h
    · have : (mkN true b l k v (avlTag l r) r).blk = b := mk_blk
      omega
    · exact .inl h
    · exact .inr h
end Go.Proofs.YtkkdobolloojjaaGreat
namespace Go.Proofs.YtkkdobolloojjaaGreat
open Go Go.RowKit

/-- the functions of a side, as the code tells them. -/
def inF (s : Bool) : Nat := if s then 19 else 20
def outF (s : Bool) : Nat := if s then 20 else 19
def mkF (s : Bool) : Nat := if s then 128 else 131
def sideV (s : Bool) : Value := .agg #[.func (.func (inF s)) #[] #[], .func (.func (outF s)) #[] #[], .func (.func (mkF s)) #[] #[]]
theorem call_in (s : Bool) (a : Array Value) (w : World) : (callFunc (inF s) a).run Tryz.prog w = .ok (.enter (inF s) a) w := by cases s <;> kernel_rfl
theorem call_out (s : Bool) (a : Array Value) (w : World) : (callFunc (outF s) a).run Tryz.prog w = .ok (.enter (outF s) a) w := by cases s <;> kernel_rfl
theorem call_mk (s : Bool) (a : Array Value) (w : World) : (callFunc (mkF s) a).run Tryz.prog w = .ok (.enter (mkF s) a) w := by cases s <;> kernel_rfl
theorem inS_any (s : Bool) (w : World) (t : Tr) (ht : InH w t) : Calls Tryz.prog (inF s) #[.pointer t.ptr] w (Ret (.pointer (inOf s t).ptr) w) := by
  cases s
  · exact right_any w t ht
  · exact left_any w t ht
theorem outS_any (s : Bool) (w : World) (t : Tr) (ht : InH w t) : Calls Tryz.prog (outF s) #[.pointer t.ptr] w (Ret (.pointer (outOf s t).ptr) w) := by
  cases s
  · exact left_any w t ht
  · exact right_any w t ht
theorem in_ok {w : World} {s : Bool} {t : Tr} (h : InH w t) : InH w (inOf s t) := by
  cases s
  · exact right_ok h
  · exact left_ok h
theorem out_ok {w : World} {s : Bool} {t : Tr} (h : InH w t) : InH w (outOf s t) := by
  cases s
  · exact left_ok h
  · exact right_ok h
set_option maxHeartbeats 400000 in
theorem right1_any (w : World) (i p o : Tr) (hi : InH w i) (hp : InH w p) (ho : InH w o) : Calls Tryz.prog 128 #[.pointer i.ptr, .pointer p.ptr, .pointer o.ptr] w (New i p.key p.val (avlTag i o) o w) := by
  go_enter Tryz.func128, Tryz.ntmps128
  go_wp2_with fail
  refine (key_any _ p hp).mono ?_
  rintro e w1 ⟨rfl, h1⟩
  go_wp2_with fail
  refine (val_any _ p (hp.ext h1)).mono ?_
  rintro e w2 ⟨rfl, h2⟩
  have h := h1.trans h2
  go_wp2_with fail
  refine (avlMake_any _ i o p.key p.val (hi.ext h) (ho.ext h)).mono ?_
  rintro e w3 ⟨b, rfl, hb, ht, h3⟩
  go_wp2
  go_ret
  exact ⟨b, rfl, Nat.le_trans h.size hb, ht, h.trans h3⟩
set_option maxHeartbeats 400000 in
theorem left1_any (w : World) (i p o : Tr) (hi : InH w i) (hp : InH w p) (ho : InH w o) : Calls Tryz.prog 131 #[.pointer i.ptr, .pointer p.ptr, .pointer o.ptr] w (New o p.key p.val (avlTag o i) i w) := by
  go_enter Tryz.func131, Tryz.ntmps131
  go_wp2_with fail
  refine (key_any _ p hp).mono ?_
  rintro e w1 ⟨rfl, h1⟩
  go_wp2_with fail
  refine (val_any _ p (hp.ext h1)).mono ?_
  rintro e w2 ⟨rfl, h2⟩
  have h := h1.trans h2
  go_wp2_with fail
  refine (avlMake_any _ o i p.key p.val (ho.ext h) (hi.ext h)).mono ?_
  rintro e w3 ⟨b, rfl, hb, ht, h3⟩
  go_wp2
  go_ret
  exact ⟨b, rfl, Nat.le_trans h.size hb, ht, h.trans h3⟩
/-- a new node of a side. -/
def NewS (s : Bool) (i : Tr) (k v : Int) (o : Tr) (w : World) (e : Ending) (w' : World) : Prop :=
  ∃ b, e = .returned (.pointer (mkN s b i k v (avlTag i o) o).ptr) ∧ w.heap.size ≤ b ∧ InH w' (mkN s b i k v (avlTag i o) o) ∧ Ext w w'
theorem mkS_any (s : Bool) (w : World) (i p o : Tr) (hi : InH w i) (hp : InH w p) (ho : InH w o) : Calls Tryz.prog (mkF s) #[.pointer i.ptr, .pointer p.ptr, .pointer o.ptr] w (NewS s i p.key p.val o w) := by
  cases s
  · refine (left1_any w i p o hi hp ho).mono ?_
    rintro e w1 ⟨b, h1, h2, h3, h4⟩
    rw [avlTag_comm] at h1 h3
    exact ⟨b, h1, h2, h3, h4⟩
  · exact right1_any w i p o hi hp ho
/-- what a turn inward hands back. -/
def Inw (s : Bool) (t : Tr) (w : World) (e : Ending) (w' : World) : Prop :=
  ∃ b3 b4 T3 T4, e = .returned (.pointer (T4 : Tr).ptr) ∧ w.heap.size ≤ b3 ∧ w.heap.size ≤ b4 ∧
    T3 = mkN s b3 (inOf s t) t.key t.val (avlTag (inOf s t) (inOf s (outOf s t))) (inOf s (outOf s t)) ∧
    T4 = mkN s b4 T3 (outOf s t).key (outOf s t).val (avlTag T3 (outOf s (outOf s t))) (outOf s (outOf s t)) ∧ InH w' T4 ∧ Ext w w'
set_option maxHeartbeats 1000000 in
theorem inward_any (s : Bool) (w : World) (t : Tr) (ht : InH w t) : Calls Tryz.prog 129 #[sideV s, .pointer t.ptr] w (Inw s t w) := by
  have hfn : ∀ f, Fence.wide.fn f := fun _ => trivial
  unfold sideV
  have hci := call_in s
  have hco := call_out s
  have hcm := call_mk s
  have hbox := alloc_at w (.cells #[.func (.func (inF s)) #[] #[], .func (.func (outF s)) #[] #[], .func (.func (mkF s)) #[] #[]] 143) _ rfl
  have hE := (Ext.refl w).alloc (.cells #[.func (.func (inF s)) #[] #[], .func (.func (outF s)) #[] #[], .func (.func (mkF s)) #[] #[]] 143)
  go_enter Tryz.func129, Tryz.ntmps129
  obtain ⟨m⟩ : Nonempty Nat := ⟨0⟩
  refine (wpIn_wide (n := m)).1 ?_
  gi_wp2_with fail
  generalize w.alloc (.cells #[.func (.func (inF s)) #[] #[], .func (.func (outF s)) #[] #[], .func (.func (mkF s)) #[] #[]] 143) = w1 at *
  refine ⟨wide_room _, (callsIn_wide.2 (outS_any s w1 t (ht.ext hE))).mono ?_⟩
  rintro e w2 ⟨rfl, h2⟩
  have hb2 := (h2.block _ (lt_of hbox)).trans hbox
  have hE2 := hE.trans h2
  have HT := Lib.hid (ht.ext hE2)
  clear hbox hE h2 ht
  gi_wp2_with fail
  have hc0 := cell_all (cell_of hb2 0)
  have hc1 := cell_all (cell_of hb2 1)
  have hc2 := cell_all (cell_of hb2 2)
  have hx := Ext.drew w2
  clear hb2
  refine wpIn_region_G (fun j => !(List.contains (α := Nat) [19] j)) (by kernel_rfl) ?_
  refine batchG hfn (fuel := 6) [0, 1, 2, 3, 4, 5, 6, 8, 9, 10, 11, 14, 15, 16, 17] (by kernel_rfl) rfl ?_
  repeat (go_big_quiet_step ((fail)))
  refine wpQuiet_nil ?_
  refine wpAnyG_one (j := 7) (by kernel_rfl) rfl ?_
  gi_wp2_with fail
  refine ⟨wide_room _, (callsIn_wide.2 (inS_any s _ t (HT.out.ext hx))).mono ?_⟩
  rintro e w3 ⟨rfl, h3⟩
  gi_wp2_with fail
  refine onePost_ext (h3) ?_
  have h23 := hx.trans h3
  refine wpAnyG_one (j := 12) (by kernel_rfl) rfl ?_
  gi_wp2_with fail
  refine ⟨wide_room _, (callsIn_wide.2 (inS_any s _ (outOf s t) (out_ok (HT.out.ext h23)))).mono ?_⟩
  rintro e w4 ⟨rfl, h4⟩
  gi_wp2_with fail
  refine onePost_ext (h4) ?_
  have h24 := h23.trans h4
  refine wpAnyG_one (j := 13) (by kernel_rfl) rfl ?_
  gi_wp2_with fail
  refine ⟨wide_room _, (callsIn_wide.2 (mkS_any s _ (inOf s t) t (inOf s (outOf s t)) (in_ok (HT.out.ext h24)) (HT.out.ext h24) (in_ok (out_ok (HT.out.ext h24))))).mono ?_⟩
  rintro e w5 ⟨b3, rfl, hb3, hT3, h5⟩
  obtain ⟨T3, e3⟩ : ∃ T3, T3 = mkN s b3 (inOf s t) t.key t.val (avlTag (inOf s t) (inOf s (outOf s t))) (inOf s (outOf s t)) := ⟨_, rfl⟩
  rw [← e3] at hT3 ⊢
  have E3 := Lib.hid e3
  clear e3
  gi_wp2_with fail
  refine onePost_ext (h5) ?_
  have h25 := h24.trans h5
  refine wpAnyG_one (j := 18) (by kernel_rfl) rfl ?_
  gi_wp2_with fail
  refine ⟨wide_room _, (callsIn_wide.2 (outS_any s _ (outOf s t) (out_ok (HT.out.ext h25)))).mono ?_⟩
  rintro e w6 ⟨rfl, h6⟩
  gi_wp2_with fail
  refine onePost_ext (h6) ?_
  have h26 := h25.trans h6
  refine wpAnyG_one (j := 19) (by kernel_rfl) rfl ?_
  gi_wp2_with fail
  refine ⟨wide_room _, (callsIn_wide.2 (mkS_any s _ T3 (outOf s t) (outOf s (outOf s t)) (hT3.ext h6) (out_ok (HT.out.ext h26)) (out_ok (out_ok (HT.out.ext h26))))).mono ?_⟩
  rintro e w7 ⟨b4, rfl, hb4, hT4, h7⟩
  gi_wp2_with fail
  refine onePost_any (by kernel_rfl) ?_
  refine batchG hfn (fuel := 0) [20] (by kernel_rfl) rfl ?_
  repeat (go_big_quiet_step ((fail)))
  refine wpQuiet_nil ?_
  refine wpAnyG_done (by kernel_rfl) ?_
  refine calmQ_normal ?_
  gi_wp2
  go_ret
  exact ⟨b3, b4, T3, _, rfl, Nat.le_trans hE2.size (Nat.le_trans h24.size hb3), Nat.le_trans hE2.size (Nat.le_trans h26.size hb4), E3.out, rfl, hT4, hE2.trans (h26.trans h7)⟩
/-- what a turn outward hands back. -/
def Outw (s : Bool) (t : Tr) (w : World) (e : Ending) (w' : World) : Prop :=
  ∃ b3 b4 T3 T4, e = .returned (.pointer (T4 : Tr).ptr) ∧ w.heap.size ≤ b3 ∧ w.heap.size ≤ b4 ∧
    T3 = mkN s b3 (outOf s (inOf s t)) t.key t.val (avlTag (outOf s (inOf s t)) (outOf s t)) (outOf s t) ∧
    T4 = mkN s b4 (inOf s (inOf s t)) (inOf s t).key (inOf s t).val (avlTag (inOf s (inOf s t)) T3) T3 ∧ InH w' T4 ∧ Ext w w'
set_option maxHeartbeats 1000000 in
theorem outward_any (s : Bool) (w : World) (t : Tr) (ht : InH w t) : Calls Tryz.prog 130 #[sideV s, .pointer t.ptr] w (Outw s t w) := by
  have hfn : ∀ f, Fence.wide.fn f := fun _ => trivial
  unfold sideV
  have hci := call_in s
  have hco := call_out s
  have hcm := call_mk s
  have hbox := alloc_at w (.cells #[.func (.func (inF s)) #[] #[], .func (.func (outF s)) #[] #[], .func (.func (mkF s)) #[] #[]] 143) _ rfl
  have hE := (Ext.refl w).alloc (.cells #[.func (.func (inF s)) #[] #[], .func (.func (outF s)) #[] #[], .func (.func (mkF s)) #[] #[]] 143)
  go_enter Tryz.func130, Tryz.ntmps130
  obtain ⟨m⟩ : Nonempty Nat := ⟨0⟩
  refine (wpIn_wide (n := m)).1 ?_
  gi_wp2_with fail
  generalize w.alloc (.cells #[.func (.func (inF s)) #[] #[], .func (.func (outF s)) #[] #[], .func (.func (mkF s)) #[] #[]] 143) = w1 at *
  refine ⟨wide_room _, (callsIn_wide.2 (inS_any s w1 t (ht.ext hE))).mono ?_⟩
  rintro e w2 ⟨rfl, h2⟩
  have hb2 := (h2.block _ (lt_of hbox)).trans hbox
  have hE2 := hE.trans h2
  have HT := Lib.hid (ht.ext hE2)
  clear hbox hE h2 ht
  gi_wp2_with fail
  have hc0 := cell_all (cell_of hb2 0)
  have hc1 := cell_all (cell_of hb2 1)
  have hc2 := cell_all (cell_of hb2 2)
  have hx := Ext.drew w2
  clear hb2
  refine wpIn_region_G (fun j => !(List.contains (α := Nat) [19] j)) (by kernel_rfl) ?_
  refine batchG hfn (fuel := 6) [0, 1, 2, 3, 4, 6, 7, 8, 9, 10, 11, 13, 14, 15, 16] (by kernel_rfl) rfl ?_
  repeat (go_big_quiet_step ((fail)))
  refine wpQuiet_nil ?_
  refine wpAnyG_one (j := 5) (by kernel_rfl) rfl ?_
  gi_wp2_with fail
  refine ⟨wide_room _, (callsIn_wide.2 (inS_any s _ (inOf s t) (in_ok (HT.out.ext hx)))).mono ?_⟩
  rintro e w3 ⟨rfl, h3⟩
  gi_wp2_with fail
  refine onePost_ext (h3) ?_
  have h23 := hx.trans h3
  refine wpAnyG_one (j := 12) (by kernel_rfl) rfl ?_
  gi_wp2_with fail
  refine ⟨wide_room _, (callsIn_wide.2 (outS_any s _ (inOf s t) (in_ok (HT.out.ext h23)))).mono ?_⟩
  rintro e w4 ⟨rfl, h4⟩
  gi_wp2_with fail
  refine onePost_ext (h4) ?_
  have h24 := h23.trans h4
  refine wpAnyG_one (j := 17) (by kernel_rfl) rfl ?_
  gi_wp2_with fail
  refine ⟨wide_room _, (callsIn_wide.2 (outS_any s _ t (HT.out.ext h24))).mono ?_⟩
  rintro e w5 ⟨rfl, h5⟩
  gi_wp2_with fail
  refine onePost_ext (h5) ?_
  have h25 := h24.trans h5
  refine wpAnyG_one (j := 18) (by kernel_rfl) rfl ?_
  gi_wp2_with fail
  refine ⟨wide_room _, (callsIn_wide.2 (mkS_any s _ (outOf s (inOf s t)) t (outOf s t) (out_ok (in_ok (HT.out.ext h25))) (HT.out.ext h25) (out_ok (HT.out.ext h25)))).mono ?_⟩
  rintro e w6 ⟨b3, rfl, hb3, hT3, h6⟩
  obtain ⟨T3, e3⟩ : ∃ T3, T3 = mkN s b3 (outOf s (inOf s t)) t.key t.val (avlTag (outOf s (inOf s t)) (outOf s t)) (outOf s t) := ⟨_, rfl⟩
  rw [← e3] at hT3 ⊢
  have E3 := Lib.hid e3
  clear e3
  gi_wp2_with fail
  refine onePost_ext (h6) ?_
  have h26 := h25.trans h6
  refine wpAnyG_one (j := 19) (by kernel_rfl) rfl ?_
  gi_wp2_with fail
  refine ⟨wide_room _, (callsIn_wide.2 (mkS_any s _ (inOf s (inOf s t)) (inOf s t) T3 (in_ok (in_ok (HT.out.ext h26))) (in_ok (HT.out.ext h26)) hT3)).mono ?_⟩
  rintro e w7 ⟨b4, rfl, hb4, hT4, h7⟩
  gi_wp2_with fail
  refine onePost_any (by kernel_rfl) ?_
  refine batchG hfn (fuel := 0) [20] (by kernel_rfl) rfl ?_
  repeat (go_big_quiet_step ((fail)))
  refine wpQuiet_nil ?_
  refine wpAnyG_done (by kernel_rfl) ?_
  refine calmQ_normal ?_
  gi_wp2
  go_ret
  exact ⟨b3, b4, T3, _, rfl, Nat.le_trans hE2.size (Nat.le_trans h25.size hb3), Nat.le_trans hE2.size (Nat.le_trans h26.size hb4), E3.out, rfl, hT4, hE2.trans (h26.trans h7)⟩
end Go.Proofs.YtkkdobolloojjaaGreat
namespace Go.Proofs.YtkkdobolloojjaaGreat
open Go Go.RowKit

theorem rankH_any (w : World) (t : Tr) (h : Nat) (ht : InH w t) (ha : AvlH t h) (hh : h < 1000000) : Calls Tryz.prog 91 #[.pointer t.ptr] w (Ret (.int .i64 h) w) := by
  have := avlRank_any w t ht
  rwa [ha.tag, show wrap64 ((h : Nat) : Int) = h by unfold wrap64; omega] at this
/-- what hang hands back. -/
def Hangs (n : Nat) (s : Bool) (t low : Tr) (k v : Int) (w : World) (e : Ending) (w' : World) : Prop :=
  ∃ T : Tr, e = .returned (.pointer T.ptr) ∧ HangOk n s t low k v T ∧ InH w' T ∧ Ext w w'
def HangSpec (s : Bool) (n : Nat) (P low : Tr) (r : Nat) (t : Tr) : Prop :=
  ∀ (w : World) (h : Nat), n ≤ w.heap.size → InH w t → InH w P → InH w low → AvlH t h → r + 1 < h → h < 100000 → t.news n = 0 →
    Calls Tryz.prog 111 #[sideV s, .pointer t.ptr, .pointer P.ptr, .pointer low.ptr] w (Hangs n s t low P.key P.val w)
theorem avl_ne {T : Tr} {q : Nat} (h : AvlH T q) (hq : 0 < q) : T ≠ .nil := fun e => by
  rw [e] at h
  have : q = 0 := h
  omega
set_option maxHeartbeats 4000000 in
theorem hang_step (s : Bool) (n : Nat) (P low : Tr) (r : Nat) (hlow : AvlH low r) (nlow : low.news n = 0) (b : Nat) (i : Tr) (k v g : Int) (o : Tr) (IH : HangSpec s n P low r o) : HangSpec s n P low r (mkN s b i k v g o) := by
  intro w h hn ht hP hlw hA hlt hh hnw
  have hfn : ∀ f, Fence.wide.fn f := fun _ => trivial
  obtain ⟨p, q, hi, ho, e1, e2, b1, b2⟩ := (mk_avl _).1 hA
  rw [mk_news] at hnw
  have HNI := Lib.hid (show i.news n = 0 by omega)
  have HNO := Lib.hid (show o.news n = 0 by omega)
  have HNL := Lib.hid nlow
  have hq : q < 100000 := by omega
  have hp : p < 100000 := by omega
  have hr : r < 100000 := by omega
  have hrm : r + 1 < 1 + max p q := by omega
  clear hA e1 e2 hnw nlow hlt hh h
  obtain ⟨t, et⟩ : ∃ t, t = mkN s b i k v g o := ⟨_, rfl⟩
  rw [← et] at ht ⊢
  have HI := Lib.hid (show inOf s t = i by rw [et, inOf_mk])
  have HO := Lib.hid (show outOf s t = o by rw [et, outOf_mk])
  have HK := Lib.hid (show t.key = k ∧ t.val = v by rw [et, mk_key, mk_val]; exact ⟨rfl, rfl⟩)
  have ET := Lib.hid et
  have IHH := Lib.hid IH
  have AI := Lib.hid hi
  have AO := Lib.hid ho
  have AL := Lib.hid hlow
  clear et IH hi ho hlow
  unfold sideV
  have hci := call_in s
  have hco := call_out s
  have hcm := call_mk s
  have hbox := alloc_at w (.cells #[.func (.func (inF s)) #[] #[], .func (.func (outF s)) #[] #[], .func (.func (mkF s)) #[] #[]] 143) _ rfl
  have hE := (Ext.refl w).alloc (.cells #[.func (.func (inF s)) #[] #[], .func (.func (outF s)) #[] #[], .func (.func (mkF s)) #[] #[]] 143)
  go_enter Tryz.func111, Tryz.ntmps111
  obtain ⟨m⟩ : Nonempty Nat := ⟨0⟩
  refine (wpIn_wide (n := m)).1 ?_
  gi_wp2_with fail
  refine wpIn_scope_wide ?_
  generalize w.alloc (.cells #[.func (.func (inF s)) #[] #[], .func (.func (outF s)) #[] #[], .func (.func (mkF s)) #[] #[]] 143) = w1 at *
  have HT := Lib.hid (ht.ext hE)
  have HP := Lib.hid (hP.ext hE)
  have HL := Lib.hid (hlw.ext hE)
  have hc0 := cell_all (cell_of hbox 0)
  have hc1 := cell_all (cell_of hbox 1)
  have hx := Ext.drew w1
  gi_wp2_with fail
  refine wpIn_region_G (fun j => !(List.contains (α := Nat) [7] j)) (by kernel_rfl) ?_
  refine batchG hfn (fuel := 4) [0, 1, 2, 4, 5, 6] (by kernel_rfl) rfl ?_
  repeat (go_big_quiet_step ((fail)))
  refine wpQuiet_nil ?_
  refine wpAnyG_one (j := 3) (by kernel_rfl) rfl ?_
  gi_wp2_with fail
  refine ⟨wide_room _, (callsIn_wide.2 (inS_any s _ t (HT.out.ext hx))).mono ?_⟩
  rw [HI.out]
  rintro e w2 ⟨rfl, h2⟩
  gi_wp2_with fail
  refine onePost_ext (h2) ?_
  have h12 := hx.trans h2
  refine wpAnyG_one (j := 7) (by kernel_rfl) rfl ?_
  gi_wp2_with fail
  refine ⟨wide_room _, (callsIn_wide.2 (outS_any s _ t (HT.out.ext h12))).mono ?_⟩
  rw [HO.out]
  rintro e w3 ⟨rfl, h3⟩
  gi_wp2_with fail
  refine onePost_any (by kernel_rfl) ?_
  refine batchG hfn (fuel := 0) [8, 9] (by kernel_rfl) rfl ?_
  repeat (go_big_quiet_step ((fail)))
  refine wpQuiet_nil ?_
  refine wpAnyG_done (by kernel_rfl) ?_
  refine calmQ_normal ?_
  have h13 := h12.trans h3
  have hN := Nat.le_trans hn hE.size
  have HI1 : Hid (InH w1 i) := Lib.hid (by have := in_ok (s := s) HT.out; rwa [HI.out] at this)
  have HO1 : Hid (InH w1 o) := Lib.hid (by have := out_ok (s := s) HT.out; rwa [HO.out] at this)
  have hb3 := (h13.block _ (lt_of hbox)).trans hbox
  clear hc0 hc1 hx h2 h12 h3 ht hP hlw
  obtain ⟨op, hop⟩ : ∃ op, o.ptr = op := ⟨_, rfl⟩
  have HMK : Hid (∀ W, Ext w1 W → Calls Tryz.prog (mkF s) #[.pointer op, .pointer P.ptr, .pointer low.ptr] W (NewS s o P.key P.val low W)) := Lib.hid (fun W h => by
    rw [← hop]; exact mkS_any s W o P low (HO1.out.ext h) (HP.out.ext h) (HL.out.ext h))
  have HRK : Hid (∀ W, Ext w1 W → Calls Tryz.prog 91 #[.pointer op] W (Ret (.int .i64 q) W)) := Lib.hid (fun W h => by
    rw [← hop]; exact rankH_any W o q (HO1.out.ext h) AO.out (by omega))
  have HRC : Hid (r + 1 < q → ∀ W, Ext w1 W → Calls Tryz.prog 111 #[sideV s, .pointer op, .pointer P.ptr, .pointer low.ptr] W (Hangs n s o low P.key P.val W)) := Lib.hid (fun hlt W h => by
    rw [← hop]; exact IHH.out W q (Nat.le_trans hN h.size) (HO1.out.ext h) (HP.out.ext h) (HL.out.ext h) AO.out hlt hq HNO.out)
  have HNIL : Hid (op = none → q = 0) := Lib.hid (fun h => by
    rw [h] at hop
    have := AO.out
    cases o with
    | nil => exact this
    | node => simp [Tr.ptr] at hop)
  rw [hop]
  clear hop IHH
  have hc2 := cell_of hb3 2
  simp at hc2
  by_cases hqr : q ≤ r + 1
  · have hqi : (q : Int) ≤ (r : Int) + 1 := by omega
    have hrq : r ≤ q := by omega
    cases op with
    | none =>
      gi_wp2_with fail
      refine ⟨wide_room _, (callsIn_wide.2 (HMK.out w3 h13)).mono ?_⟩
      rintro e w4 ⟨bx, rfl, hbx, hX, h4⟩
      have h14 := h13.trans h4
      have hnX : n ≤ bx := Nat.le_trans hN (Nat.le_trans h13.size hbx)
      clear h13 h4 hc2 hb3 hbx
      obtain ⟨X, eX⟩ : ∃ X, X = mkN s bx o P.key P.val (avlTag o low) low := ⟨_, rfl⟩
      rw [← eX] at hX ⊢
      obtain ⟨x1, x2, x3, x4⟩ := hang_base (s := s) (n := n) (pk := P.key) (pv := P.val) bx AO.out AL.out (by omega) (by omega) hqr hrq HNO.out HNL.out hnX
      rw [← eX] at x1 x2 x3 x4
      have X1 := Lib.hid x1
      have X2 := Lib.hid x2
      have X3 := Lib.hid x3
      have X4 := Lib.hid x4
      have EX := Lib.hid eX
      clear x1 x2 x3 x4 eX
      gi_wp2_with fail
      refine wpIn_label ?_
      gi_wp2_with fail
      refine ⟨wide_room _, (callsIn_wide.2 (rankH_any w4 X (q + 1) hX X1.out (by omega))).mono ?_⟩
      rintro e w5 ⟨rfl, h5⟩
      gi_wp2_with fail
      refine ⟨wide_room _, (callsIn_wide.2 (rankH_any w5 i p (HI1.out.ext (h14.trans h5)) AI.out (by omega))).mono ?_⟩
      rintro e w6 ⟨rfl, h6⟩
      have h56 := h5.trans h6
      have h16 := Ext.trans h14 h56
      have hX6 := hX.ext h56
      have hb6 := (h16.block _ (lt_of hbox)).trans hbox
      have hn6 := Nat.le_trans hN h16.size
      clear h5 h6 h56
      by_cases hle : q + 1 ≤ p + 1
      · have hle' : ((q + 1 : Nat) : Int) ≤ (p : Int) + 1 := by omega
        have hc2 := cell_of hb6 2
        simp at hc2
        gi_wp2_with fail
        refine ⟨wide_room _, (callsIn_wide.2 (mkS_any s w6 i t X (HI1.out.ext h16) (HT.out.ext h16) hX6)).mono ?_⟩
        rw [HK.out.1, HK.out.2]
        rintro e w7 ⟨bt, rfl, hbt, hT7, h7⟩
        gi_wp2
        (try rw [Exit.noGoto_ret])
        go_ret
        refine ⟨_, rfl, ?_, hT7, hE.trans (h16.trans h7)⟩
        rw [ET.out]
        exact hang_plain bt AI.out AO.out AL.out b1 b2 hp X1.out hle (.inr rfl) X2.out X3.out X4.out HNI.out (by omega)
      · have hle' : ¬ ((q + 1 : Nat) : Int) ≤ (p : Int) + 1 := by omega
        gi_wp2_with fail
        have hc0 := cell_all (cell_of hb6 0)
        have hc1 := cell_all (cell_of hb6 1)
        have hc2 := cell_all (cell_of hb6 2)
        have hx := Ext.drew w6
        clear hb6 hbox
        refine wpIn_region_G (fun j => !(List.contains (α := Nat) [9] j)) (by kernel_rfl) ?_
        refine batchG hfn (fuel := 4) [0, 1, 2, 3, 4, 5, 6] (by kernel_rfl) rfl ?_
        repeat (go_big_quiet_step ((fail)))
        refine wpQuiet_nil ?_
        refine wpAnyG_one (j := 7) (by kernel_rfl) rfl ?_
        gi_wp2_with fail
        refine ⟨wide_room _, (callsIn_wide.2 (outward_any s _ X (hX6.ext hx))).mono ?_⟩
        rintro e w7 ⟨b3, b4, T3, T4, rfl, hb3, hb4, e3, e4, hT4, h7⟩
        have E34 := Lib.hid (And.intro e3 e4)
        clear e3 e4
        gi_wp2_with fail
        refine onePost_ext (h7) ?_
        have h67 := hx.trans h7
        have h17 := h16.trans h67
        refine wpAnyG_one (j := 8) (by kernel_rfl) rfl ?_
        gi_wp2_with fail
        refine ⟨wide_room _, (callsIn_wide.2 (mkS_any s _ i t T4 (HI1.out.ext h17) (HT.out.ext h17) hT4)).mono ?_⟩
        rw [HK.out.1, HK.out.2]
        rintro e w8 ⟨b5, rfl, hb5, hZ, h8⟩
        obtain ⟨Z, eZ⟩ : ∃ Z, Z = mkN s b5 i k v (avlTag i T4) T4 := ⟨_, rfl⟩
        rw [← eZ] at hZ ⊢
        have EZ := Lib.hid eZ
        clear eZ
        gi_wp2_with fail
        refine onePost_ext (h8) ?_
        have h68 := h67.trans h8
        refine wpAnyG_one (j := 9) (by kernel_rfl) rfl ?_
        gi_wp2_with fail
        refine ⟨wide_room _, (callsIn_wide.2 (inward_any s _ Z hZ)).mono ?_⟩
        rintro e w9 ⟨b6, b7, T6, T7, rfl, hb6, hb7, e6, e7, hT7, h9⟩
        have E67 := Lib.hid (And.intro e6 e7)
        clear e6 e7
        gi_wp2_with fail
        refine onePost_any (by kernel_rfl) ?_
        refine batchG hfn (fuel := 0) [10] (by kernel_rfl) rfl ?_
        repeat (go_big_quiet_step ((fail)))
        refine wpQuiet_nil ?_
        refine wpAnyG_done (by kernel_rfl) ?_
        refine calmQ_normal ?_
        gi_wp2
        (try rw [Exit.noGoto_ret])
        go_ret
        refine ⟨_, rfl, ?_, hT7, hE.trans (h16.trans (h68.trans h9))⟩
        rw [ET.out]
        have s3 := hx.size
        have s4 := h68.size
        obtain ⟨bo, oi, ok, ov, og, oo, eo⟩ := sides_ne s (avl_ne AO.out (by omega))
        have ho := AO.out
        have hno := HNO.out
        obtain ⟨e3, e4⟩ := E34.out
        obtain ⟨e6, e7⟩ := E67.out
        have eZ := EZ.out
        have eX := EX.out
        rw [e7, e6, eZ]
        simp only [inOf_mk, outOf_mk, mk_key, mk_val]
        rw [e4, e3, eX]
        simp only [inOf_mk, outOf_mk, mk_key, mk_val]
        rw [eo] at ho hno ⊢
        simp only [inOf_mk, outOf_mk, mk_key, mk_val]
        exact hang_two b3 b6 b7 AI.out ho AL.out b1 b2 hp hrm hqr (by omega) HNI.out hno HNL.out (by omega) (by omega) (by omega)
    | some a =>
      gi_wp2_with fail
      refine ⟨wide_room _, (callsIn_wide.2 (HRK.out w3 h13)).mono ?_⟩
      rintro e w4' ⟨rfl, h4'⟩
      have h14' := h13.trans h4'
      gi_wp2_with fail
      refine ⟨wide_room _, (callsIn_wide.2 (rankH_any w4' low r (HL.out.ext h14') AL.out (by omega))).mono ?_⟩
      rintro e w4'' ⟨rfl, h4''⟩
      have h14'' := h14'.trans h4''
      have hb4 := (h14''.block _ (lt_of hbox)).trans hbox
      have hc2 := cell_of hb4 2
      simp at hc2
      clear h14' h4' h13 hb3
      gi_wp2_with fail
      refine ⟨wide_room _, (callsIn_wide.2 (HMK.out w4'' h14'')).mono ?_⟩
      rintro e w4 ⟨bx, rfl, hbx, hX, h4⟩
      have h14 := h14''.trans h4
      have hnX : n ≤ bx := Nat.le_trans hN (Nat.le_trans h14''.size hbx)
      clear h14'' h4 hc2 hb4 h4''
      obtain ⟨X, eX⟩ : ∃ X, X = mkN s bx o P.key P.val (avlTag o low) low := ⟨_, rfl⟩
      rw [← eX] at hX ⊢
      obtain ⟨x1, x2, x3, x4⟩ := hang_base (s := s) (n := n) (pk := P.key) (pv := P.val) bx AO.out AL.out (by omega) (by omega) hqr hrq HNO.out HNL.out hnX
      rw [← eX] at x1 x2 x3 x4
      have X1 := Lib.hid x1
      have X2 := Lib.hid x2
      have X3 := Lib.hid x3
      have X4 := Lib.hid x4
      have EX := Lib.hid eX
      clear x1 x2 x3 x4 eX
      gi_wp2_with fail
      refine wpIn_label ?_
      gi_wp2_with fail
      refine ⟨wide_room _, (callsIn_wide.2 (rankH_any w4 X (q + 1) hX X1.out (by omega))).mono ?_⟩
      rintro e w5 ⟨rfl, h5⟩
      gi_wp2_with fail
      refine ⟨wide_room _, (callsIn_wide.2 (rankH_any w5 i p (HI1.out.ext (h14.trans h5)) AI.out (by omega))).mono ?_⟩
      rintro e w6 ⟨rfl, h6⟩
      have h56 := h5.trans h6
      have h16 := Ext.trans h14 h56
      have hX6 := hX.ext h56
      have hb6 := (h16.block _ (lt_of hbox)).trans hbox
      have hn6 := Nat.le_trans hN h16.size
      clear h5 h6 h56
      by_cases hle : q + 1 ≤ p + 1
      · have hle' : ((q + 1 : Nat) : Int) ≤ (p : Int) + 1 := by omega
        have hc2 := cell_of hb6 2
        simp at hc2
        gi_wp2_with fail
        refine ⟨wide_room _, (callsIn_wide.2 (mkS_any s w6 i t X (HI1.out.ext h16) (HT.out.ext h16) hX6)).mono ?_⟩
        rw [HK.out.1, HK.out.2]
        rintro e w7 ⟨bt, rfl, hbt, hT7, h7⟩
        gi_wp2
        (try rw [Exit.noGoto_ret])
        go_ret
        refine ⟨_, rfl, ?_, hT7, hE.trans (h16.trans h7)⟩
        rw [ET.out]
        exact hang_plain bt AI.out AO.out AL.out b1 b2 hp X1.out hle (.inr rfl) X2.out X3.out X4.out HNI.out (by omega)
      · have hle' : ¬ ((q + 1 : Nat) : Int) ≤ (p : Int) + 1 := by omega
        gi_wp2_with fail
        have hc0 := cell_all (cell_of hb6 0)
        have hc1 := cell_all (cell_of hb6 1)
        have hc2 := cell_all (cell_of hb6 2)
        have hx := Ext.drew w6
        clear hb6 hbox
        refine wpIn_region_G (fun j => !(List.contains (α := Nat) [9] j)) (by kernel_rfl) ?_
        refine batchG hfn (fuel := 4) [0, 1, 2, 3, 4, 5, 6] (by kernel_rfl) rfl ?_
        repeat (go_big_quiet_step ((fail)))
        refine wpQuiet_nil ?_
        refine wpAnyG_one (j := 7) (by kernel_rfl) rfl ?_
        gi_wp2_with fail
        refine ⟨wide_room _, (callsIn_wide.2 (outward_any s _ X (hX6.ext hx))).mono ?_⟩
        rintro e w7 ⟨b3, b4, T3, T4, rfl, hb3, hb4, e3, e4, hT4, h7⟩
        have E34 := Lib.hid (And.intro e3 e4)
        clear e3 e4
        gi_wp2_with fail
        refine onePost_ext (h7) ?_
        have h67 := hx.trans h7
        have h17 := h16.trans h67
        refine wpAnyG_one (j := 8) (by kernel_rfl) rfl ?_
        gi_wp2_with fail
        refine ⟨wide_room _, (callsIn_wide.2 (mkS_any s _ i t T4 (HI1.out.ext h17) (HT.out.ext h17) hT4)).mono ?_⟩
        rw [HK.out.1, HK.out.2]
        rintro e w8 ⟨b5, rfl, hb5, hZ, h8⟩
        obtain ⟨Z, eZ⟩ : ∃ Z, Z = mkN s b5 i k v (avlTag i T4) T4 := ⟨_, rfl⟩
        rw [← eZ] at hZ ⊢
        have EZ := Lib.hid eZ
        clear eZ
        gi_wp2_with fail
        refine onePost_ext (h8) ?_
        have h68 := h67.trans h8
        refine wpAnyG_one (j := 9) (by kernel_rfl) rfl ?_
        gi_wp2_with fail
        refine ⟨wide_room _, (callsIn_wide.2 (inward_any s _ Z hZ)).mono ?_⟩
        rintro e w9 ⟨b6, b7, T6, T7, rfl, hb6, hb7, e6, e7, hT7, h9⟩
        have E67 := Lib.hid (And.intro e6 e7)
        clear e6 e7
        gi_wp2_with fail
        refine onePost_any (by kernel_rfl) ?_
        refine batchG hfn (fuel := 0) [10] (by kernel_rfl) rfl ?_
        repeat (go_big_quiet_step ((fail)))
        refine wpQuiet_nil ?_
        refine wpAnyG_done (by kernel_rfl) ?_
        refine calmQ_normal ?_
        gi_wp2
        (try rw [Exit.noGoto_ret])
        go_ret
        refine ⟨_, rfl, ?_, hT7, hE.trans (h16.trans (h68.trans h9))⟩
        rw [ET.out]
        have s3 := hx.size
        have s4 := h68.size
        obtain ⟨bo, oi, ok, ov, og, oo, eo⟩ := sides_ne s (avl_ne AO.out (by omega))
        have ho := AO.out
        have hno := HNO.out
        obtain ⟨e3, e4⟩ := E34.out
        obtain ⟨e6, e7⟩ := E67.out
        have eZ := EZ.out
        have eX := EX.out
        rw [e7, e6, eZ]
        simp only [inOf_mk, outOf_mk, mk_key, mk_val]
        rw [e4, e3, eX]
        simp only [inOf_mk, outOf_mk, mk_key, mk_val]
        rw [eo] at ho hno ⊢
        simp only [inOf_mk, outOf_mk, mk_key, mk_val]
        exact hang_two b3 b6 b7 AI.out ho AL.out b1 b2 hp hrm hqr (by omega) HNI.out hno HNL.out (by omega) (by omega) (by omega)
  · have hqi : ¬ (q : Int) ≤ (r : Int) + 1 := by omega
    cases op with
    | none => have := HNIL.out rfl; omega
    | some a =>
      gi_wp2_with fail
      refine ⟨wide_room _, (callsIn_wide.2 (HRK.out w3 h13)).mono ?_⟩
      rintro e w4' ⟨rfl, h4'⟩
      have h14' := h13.trans h4'
      gi_wp2_with fail
      refine ⟨wide_room _, (callsIn_wide.2 (rankH_any w4' low r (HL.out.ext h14') AL.out (by omega))).mono ?_⟩
      rintro e w4'' ⟨rfl, h4''⟩
      have h14'' := h14'.trans h4''
      have hb4 := (h14''.block _ (lt_of hbox)).trans hbox
      have hc0 := cell_of hb4 0
      have hc1 := cell_of hb4 1
      have hc2 := cell_of hb4 2
      simp at hc0 hc1 hc2
      clear h14' h4' h13 hb3 h4''
      gi_wp2_with fail
      refine ⟨wide_room _, (callsIn_wide.2 (HRC.out (by omega) w4'' h14'')).mono ?_⟩
      rintro e w4 ⟨X, rfl, hok, hX, h4⟩
      have h14 := h14''.trans h4
      clear h14'' h4 hc0 hc1 hc2 hb4
      obtain ⟨⟨hx', x1, x2, x3⟩, xk, xo, xt, xn⟩ := hok
      rw [AO.out.ht] at x2 x3
      rw [AL.out.ht] at x3
      have hx2 : hx' = q ∨ hx' = q + 1 := by omega
      have X1 := Lib.hid x1
      have X2 := Lib.hid x2
      have X3 := Lib.hid x3
      have XK := Lib.hid xk
      have XO := Lib.hid xo
      have XN := Lib.hid xn
      have XT := Lib.hid xt
      clear x1 x2 x3 xk xo xn xt
      gi_wp2_with fail
      refine wpIn_label ?_
      gi_wp2_with fail
      refine ⟨wide_room _, (callsIn_wide.2 (rankH_any w4 X hx' hX X1.out (by omega))).mono ?_⟩
      rintro e w5 ⟨rfl, h5⟩
      gi_wp2_with fail
      refine ⟨wide_room _, (callsIn_wide.2 (rankH_any w5 i p (HI1.out.ext (h14.trans h5)) AI.out (by omega))).mono ?_⟩
      rintro e w6 ⟨rfl, h6⟩
      have h56 := h5.trans h6
      have h16 := Ext.trans h14 h56
      have hX6 := hX.ext h56
      have hb6 := (h16.block _ (lt_of hbox)).trans hbox
      have hn6 := Nat.le_trans hN h16.size
      clear h5 h6 h56
      by_cases hle : hx' ≤ p + 1
      · have hle' : (hx' : Int) ≤ (p : Int) + 1 := by omega
        have HX2 := Lib.hid hx2
        clear hx2
        have hc2 := cell_of hb6 2
        simp at hc2
        gi_wp2_with fail
        refine ⟨wide_room _, (callsIn_wide.2 (mkS_any s w6 i t X (HI1.out.ext h16) (HT.out.ext h16) hX6)).mono ?_⟩
        rw [HK.out.1, HK.out.2]
        rintro e w7 ⟨bt, rfl, hbt, hT7, h7⟩
        gi_wp2
        (try rw [Exit.noGoto_ret])
        go_ret
        refine ⟨_, rfl, ?_, hT7, hE.trans (h16.trans h7)⟩
        rw [ET.out]
        exact hang_plain bt AI.out AO.out AL.out b1 b2 hp X1.out hle HX2.out X3.out XK.out XO.out HNI.out (by omega)
      · have hle' : ¬ (hx' : Int) ≤ (p : Int) + 1 := by omega
        clear hx2
        gi_wp2_with fail
        have hc0 := cell_all (cell_of hb6 0)
        have hc1 := cell_all (cell_of hb6 1)
        have hc2 := cell_all (cell_of hb6 2)
        have hx := Ext.drew w6
        clear hb6 hbox
        refine wpIn_region_G (fun j => !(List.contains (α := Nat) [7] j)) (by kernel_rfl) ?_
        refine batchG hfn (fuel := 3) [0, 1, 2, 3, 4, 5] (by kernel_rfl) rfl ?_
        repeat (go_big_quiet_step ((fail)))
        refine wpQuiet_nil ?_
        refine wpAnyG_one (j := 6) (by kernel_rfl) rfl ?_
        gi_wp2_with fail
        have h17 := h16.trans hx
        refine ⟨wide_room _, (callsIn_wide.2 (mkS_any s _ i t X (HI1.out.ext h17) (HT.out.ext h17) (hX6.ext hx))).mono ?_⟩
        rw [HK.out.1, HK.out.2]
        rintro e w8 ⟨b5, rfl, hb5, hZ, h8⟩
        obtain ⟨Z, eZ⟩ : ∃ Z, Z = mkN s b5 i k v (avlTag i X) X := ⟨_, rfl⟩
        rw [← eZ] at hZ ⊢
        have EZ := Lib.hid eZ
        clear eZ
        gi_wp2_with fail
        refine onePost_ext (h8) ?_
        have h68 := hx.trans h8
        refine wpAnyG_one (j := 7) (by kernel_rfl) rfl ?_
        gi_wp2_with fail
        refine ⟨wide_room _, (callsIn_wide.2 (inward_any s _ Z hZ)).mono ?_⟩
        rintro e w9 ⟨b6, b7, T6, T7, rfl, hb6, hb7, e6, e7, hT7, h9⟩
        have E67 := Lib.hid (And.intro e6 e7)
        clear e6 e7
        gi_wp2_with fail
        refine onePost_any (by kernel_rfl) ?_
        refine batchG hfn (fuel := 0) [8] (by kernel_rfl) rfl ?_
        repeat (go_big_quiet_step ((fail)))
        refine wpQuiet_nil ?_
        refine wpAnyG_done (by kernel_rfl) ?_
        refine calmQ_normal ?_
        gi_wp2
        (try rw [Exit.noGoto_ret])
        go_ret
        refine ⟨_, rfl, ?_, hT7, hE.trans (h16.trans (h68.trans h9))⟩
        rw [ET.out]
        have s4 := h68.size
        obtain ⟨bx, xi, xk, xv, xg, xo, ex⟩ := sides_ne s XN.out
        have x1 := X1.out
        have x2 := X2.out
        have x3 := X3.out
        have xkv := XK.out
        have xol := XO.out
        have xt := XT.out
        obtain ⟨e6, e7⟩ := E67.out
        have eZ := EZ.out
        rw [e7, e6, eZ]
        simp only [inOf_mk, outOf_mk, mk_key, mk_val]
        rw [ex] at x1 x2 x3 xkv xol xt ⊢
        simp only [inOf_mk, outOf_mk, mk_key, mk_val, mk_blk] at x2 xt ⊢
        exact hang_turn b6 b7 AI.out AO.out AL.out b1 b2 hp x1 (by omega) x2 x3 xt xkv xol HNI.out (by omega) (by omega)
/-- **hang**, at any tree that may be and a lower one. -/
theorem hang_any (s : Bool) (n : Nat) (P low : Tr) (r : Nat) (hlow : AvlH low r) (nlow : low.news n = 0) : ∀ t : Tr, HangSpec s n P low r t := by
  intro t
  induction t with
  | nil =>
    intro w h _ _ _ _ hA hlt
    have : h = 0 := hA
    omega
  | node b l k v g rr ihl ihr =>
    rw [mk_sides s b l k v g rr]
    refine hang_step s n P low r hlow nlow b _ k v g _ ?_
    cases s
    · exact ihl
    · exact ihr
end Go.Proofs.YtkkdobolloojjaaGreat
namespace Go.Proofs.YtkkdobolloojjaaGreat
open Go Go.RowKit

/-- a pair's two cells. -/
def pcells (z : Int × Int) : List Value := [.int .i64 z.1, .int .i64 z.2]
def pairCells (zs : List (Int × Int)) : List Value := zs.flatMap pcells
theorem pairCells_len : ∀ zs : List (Int × Int), (pairCells zs).length = zs.length * 2
  | [] => rfl
  | z :: zs => by
    have := pairCells_len zs
    rw [pairCells] at this ⊢
    rw [List.flatMap_cons, List.length_append, this, List.length_cons]
    show 2 + _ = _
    omega
theorem pairCells_at : ∀ (zs : List (Int × Int)) (i : Nat) (z : Int × Int) (j : Nat), zs[i]? = some z → j < 2 → (pairCells zs)[i * 2 + j]? = (pcells z)[j]?
  | [], i, z, j, h, _ => by simp at h
  | y :: zs, 0, z, j, h, hj => by
    obtain rfl : y = z := by simpa using h
    rw [pairCells, List.flatMap_cons, List.getElem?_append_left (show 0 * 2 + j < 2 by omega), Nat.zero_mul, Nat.zero_add]
  | y :: zs, i + 1, z, j, h, hj => by
    have ih := pairCells_at zs i z j (by simpa using h) hj
    rw [pairCells] at ih ⊢
    rw [List.flatMap_cons, List.getElem?_append_right (show 2 ≤ (i + 1) * 2 + j by omega), show (i + 1) * 2 + j - (pcells y).length = i * 2 + j from by show _ - 2 = _; omega, ih]
theorem pairCells_append (a b : List (Int × Int)) : pairCells (a ++ b) = pairCells a ++ pairCells b := by simp [pairCells]
theorem pairCells_one (zs : List (Int × Int)) : ∀ u ∈ pairCells zs, u.oneCell' = true := by
  intro u h
  obtain ⟨z, _, hz⟩ := List.mem_flatMap.1 h
  simp only [pcells, List.mem_cons, List.not_mem_nil, or_false] at hz
  rcases hz with rfl | rfl <;> rfl
/-- a row of pairs: empty, whatever its address; or laid at an address. -/
def PRow (w : World) (v : Value) (zs : List (Int × Int)) : Prop :=
  (zs = [] ∧ ∃ a c, v = .slice a 0 c) ∨ ∃ b o c, v = .slice (some ⟨b, o, none⟩) zs.length c ∧ zs ≠ [] ∧ zs.length ≤ c ∧ w.rangeAt b o (pairCells zs)
theorem pair_cell {w : World} {b o : Nat} {zs : List (Int × Int)} (h : w.rangeAt b o (pairCells zs)) {i : Nat} {z : Int × Int} (hi : zs[i]? = some z) {j : Nat} {u : Value} (hj : (pcells z)[j]? = some u) : w.cell? ⟨b, o + i * 2 + j, none⟩ = some u := by
  have hlt : j < 2 := (List.getElem?_eq_some_iff.1 hj).1
  rw [Nat.add_assoc]
  exact h (i * 2 + j) u (by rw [pairCells_at zs i z j hi hlt, hj])
theorem PRow.ext {w w' : World} {v : Value} {zs : List (Int × Int)} (h : PRow w v zs) (e : Ext w w') : PRow w' v zs := by
  rcases h with h | ⟨b, o, c, rfl, h1, h2, h3⟩
  · exact .inl h
  · exact .inr ⟨b, o, c, rfl, h1, h2, rangeAt_ext h3 e⟩
theorem prow_slice {w : World} {v : Value} {zs : List (Int × Int)} (h : PRow w v zs) : ∃ a c, v = .slice a zs.length c := by
  rcases h with ⟨rfl, a, c, rfl⟩ | ⟨b, o, c, rfl, hne, hc, hr⟩
  · exact ⟨a, c, rfl⟩
  · exact ⟨_, c, rfl⟩
section
variable {F : Fence} {n : Nat} {ops : Array Oper} {rest : List Oper} {o : Oper} {a : Act} {Q : Exit → Act → World → Prop}
end
end Go.Proofs.YtkkdobolloojjaaGreat
namespace Go.Proofs.YtkkdobolloojjaaGreat
open Go Go.RowKit

theorem results_agg3 {fn : Func} {p : Tmp} {ty : TypeId} (h : fn.results = #[.cell p ty]) (tmps : Array Value) (w : World) {x : Value} {a : Addr} (hp : tmps.getD p undef = .pointer (some a))
    (hl : (loadVar ty a).run Tryz.prog w = .ok x w) : (results fn tmps).run Tryz.prog w = .ok x w := by
  simp only [Array.getD_eq_getD_getElem?] at hp
  simp [results, h, hp, hl, asAddr]
set_option maxHeartbeats 400000 in
theorem right_any15 (w : World) : Calls Tryz.prog 110 #[] w (Ret (sideV true) w) := by
  go_enter Tryz.func110, Tryz.ntmps110
  go_wp2
  exact bodyPost_ret (v := sideV true) (by simp [results, Tryz.results110, go_sem]; rfl) rfl (Ret.mk ((Ext.refl w).alloc _))
set_option maxHeartbeats 400000 in
theorem left_any15 (w : World) : Calls Tryz.prog 112 #[] w (Ret (sideV false) w) := by
  go_enter Tryz.func112, Tryz.ntmps112
  go_wp2
  exact bodyPost_ret (v := sideV false) (by simp [results, Tryz.results112, go_sem]; rfl) rfl (Ret.mk ((Ext.refl w).alloc _))
/-- what a join hands back. -/
def Joins (n : Nat) (l r : Tr) (k v : Int) (w : World) (e : Ending) (w' : World) : Prop :=
  ∃ T : Tr, e = .returned (.pointer T.ptr) ∧ JoinOk n l r k v T ∧ InH w' T ∧ Ext w w'
set_option maxHeartbeats 1000000 in
theorem avlJoin_any (n : Nat) (w : World) (l r : Tr) (k v : Int) (p q : Nat) (hn : n ≤ w.heap.size) (hl : InH w l) (hr : InH w r) (al : AvlH l p) (ar : AvlH r q) (hp : p < 99999) (hq : q < 99999) (nl : l.news n = 0) (nr : r.news n = 0) :
    Calls Tryz.prog 88 #[.pointer l.ptr, .int .i64 k, .int .i64 v, .pointer r.ptr] w (Joins n l r k v w) := by
  have AL := Lib.hid al
  have AR := Lib.hid ar
  have NL := Lib.hid nl
  have NR := Lib.hid nr
  clear al ar nl nr
  go_enter Tryz.func88, Tryz.ntmps88
  go_wp2_with fail
  refine (avlMake_any w .nil .nil k v trivial trivial).mono ?_
  rintro e w1 ⟨b, rfl, hb, hP, h1⟩
  obtain ⟨P, eP⟩ : ∃ P, P = Tr.node b .nil k v (avlTag .nil .nil) .nil := ⟨_, rfl⟩
  rw [← eP] at hP ⊢
  have HPK := Lib.hid (show P.key = k ∧ P.val = v by rw [eP]; exact ⟨rfl, rfl⟩)
  clear eP
  go_wp2_with fail
  refine (rankH_any w1 l p (hl.ext h1) AL.out (by omega)).mono ?_
  rintro e w2 ⟨rfl, h2⟩
  have h02 := h1.trans h2
  go_wp2_with fail
  refine (rankH_any w2 r q (hr.ext h02) AR.out (by omega)).mono ?_
  rintro e w3 ⟨rfl, h3⟩
  have h03 := h02.trans h3
  have hP3 := (hP.ext h2).ext h3
  have hn3 := Nat.le_trans hn h03.size
  clear h1 h2 h02 h3 hP
  by_cases c1 : q + 1 < p
  · have c1' : (q : Int) + 1 < (p : Int) := by omega
    go_wp2_with fail
    refine (right_any15 _).mono ?_
    rintro e w4 ⟨rfl, h4⟩
    have h04 := h03.trans h4
    go_wp2_with fail
    refine (hang_any true n P r q AR.out NR.out l w4 p (Nat.le_trans hn h04.size) (hl.ext h04) (hP3.ext h4) (hr.ext h04) AL.out (by omega) (by omega) NL.out).mono ?_
    rw [HPK.out.1, HPK.out.2]
    rintro e w5 ⟨T, rfl, hok, hT, h5⟩
    have HOK := Lib.hid hok
    clear hok
    go_wp2
    go_ret
    exact ⟨T, rfl, join_right HOK.out (by rw [AL.out.ht, AR.out.ht]; omega), hT, h04.trans h5⟩
  · have c1' : ¬ (q : Int) + 1 < (p : Int) := by omega
    by_cases c2 : p + 1 < q
    · have c2' : (p : Int) + 1 < (q : Int) := by omega
      go_wp2_with fail
      refine (left_any15 _).mono ?_
      rintro e w4 ⟨rfl, h4⟩
      have h04 := h03.trans h4
      go_wp2_with fail
      refine (hang_any false n P l p AL.out NL.out r w4 q (Nat.le_trans hn h04.size) (hr.ext h04) (hP3.ext h4) (hl.ext h04) AR.out (by omega) (by omega) NR.out).mono ?_
      rw [HPK.out.1, HPK.out.2]
      rintro e w5 ⟨T, rfl, hok, hT, h5⟩
      have HOK := Lib.hid hok
      clear hok
      go_wp2
      go_ret
      exact ⟨T, rfl, join_left HOK.out (by rw [AL.out.ht, AR.out.ht]; omega), hT, h04.trans h5⟩
    · have c2' : ¬ (p : Int) + 1 < (q : Int) := by omega
      go_wp2_with fail
      refine (avlMake_any _ l r k v (hl.ext h03) (hr.ext h03)).mono ?_
      rintro e w4 ⟨b4, rfl, hb4, hT, h4⟩
      go_wp2
      go_ret
      exact ⟨_, rfl, join_even b4 AL.out AR.out (by omega) (by omega) (by omega) NL.out NR.out (Nat.le_trans hn3 hb4), hT, h03.trans h4⟩
set_option maxHeartbeats 400000 in
theorem avlMost_any (w : World) (l r : Tr) (p q : Nat) (hl : InH w l) (hr : InH w r) (al : AvlH l p) (ar : AvlH r q) (hp : p < 99999) (hq : q < 99999) :
    Calls Tryz.prog 92 #[.pointer l.ptr, .pointer r.ptr] w (Ret (.int .i64 ((max p q : Nat) - (min p q : Nat) + 1)) w) := by
  have AL := Lib.hid al
  have AR := Lib.hid ar
  clear al ar
  obtain ⟨M, hM⟩ : ∃ M : Int, M = ((max p q : Nat) - (min p q : Nat) + 1 : Int) := ⟨_, rfl⟩
  rw [← hM]
  have HM := Lib.hid hM
  clear hM
  go_enter Tryz.func92, Tryz.ntmps92
  go_wp2_with fail
  refine (rankH_any w l p hl AL.out (by omega)).mono ?_
  rintro e w1 ⟨rfl, h1⟩
  go_wp2_with fail
  refine (rankH_any w1 r q (hr.ext h1) AR.out (by omega)).mono ?_
  rintro e w2 ⟨rfl, h2⟩
  go_wp2
  all_goals
    go_ret
    exact ⟨ret_int (by rw [HM.out]; omega), h1.trans h2⟩
end Go.Proofs.YtkkdobolloojjaaGreat
namespace Go.Proofs.YtkkdobolloojjaaGreat
open Go Go.RowKit

theorem AvlH.least : ∀ {T : Tr} {h : Nat}, AvlH T h → leastN h ≤ T.count
  | .nil, _, e => by rw [show _ = 0 from e]; exact Nat.le_refl _
  | .node b l k v g r, h, ⟨p, q, hp, hq, e, eg, h1, h2⟩ => by
    have l1 := AvlH.least hp
    have r1 := AvlH.least hq
    rw [Tr.count_node, e]
    rcases Nat.le_total p q with hh | hh
    · rw [Nat.max_eq_right hh]
      rcases Nat.eq_zero_or_pos q with h0 | h0
      · rw [h0]; show 1 ≤ _; omega
      · obtain ⟨z, rfl⟩ : ∃ z, q = z + 1 := ⟨q - 1, by omega⟩
        have := leastN_mono (a := z) (b := p) (by omega)
        rw [show 1 + (z + 1) = z + 2 by omega, leastN]
        omega
    · rw [Nat.max_eq_left hh]
      rcases Nat.eq_zero_or_pos p with h0 | h0
      · rw [h0]; show 1 ≤ _; omega
      · obtain ⟨z, rfl⟩ : ∃ z, p = z + 1 := ⟨p - 1, by omega⟩
        have := leastN_mono (a := z) (b := q) (by omega)
        rw [show 1 + (z + 1) = z + 2 by omega, leastN]
        omega
theorem AvlH.most : ∀ {T : Tr} {h : Nat}, AvlH T h → T.count + 1 ≤ 2 ^ h
  | .nil, _, e => by rw [show _ = 0 from e]; decide
  | .node b l k v g r, h, ⟨p, q, hp, hq, e, eg, h1, h2⟩ => by
    have l1 := AvlH.most hp
    have r1 := AvlH.most hq
    have l2 : 2 ^ p ≤ 2 ^ max p q := Nat.pow_le_pow_right (by decide) (by omega)
    have r2 : 2 ^ q ≤ 2 ^ max p q := Nat.pow_le_pow_right (by decide) (by omega)
    rw [Tr.count_node, e, Nat.add_comm 1, Nat.pow_succ]
    omega
/-- some tree that has been joined. -/
theorem join_facts {n : Nat} {l r T : Tr} {k v : Int} (h : JoinOk n l r k v T) : T.count = l.count + 1 + r.count ∧ T.size = wrap64 (T.count : Int) ∧ AvlH T T.ht := by
  obtain ⟨⟨x, h1, h2, h3⟩, h4, h5, h6, h7⟩ := h
  refine ⟨?_, T.size_count, by rw [h1.ht]; exact h1⟩
  rw [← Tr.kvs_count, h4, ← Tr.kvs_count, ← Tr.kvs_count]; simp; omega
theorem fits_avlMay : ∀ {t : BT} {A B : Tr}, t.fits A → t.fits B → avlMay A = avlMay B
  | .nil, .nil, .nil, _, _ => rfl
  | .nil, .node .., _, h, _ => h.elim
  | .nil, .nil, .node .., _, h => h.elim
  | .node .., .nil, _, h, _ => h.elim
  | .node .., .node .., .nil, _, h => h.elim
  | .node k v s n g l r, .node _ L _ _ _ R, .node _ L' _ _ _ R', h, h' => by
    rw [avlMay_node, avlMay_node, fits_avlMay h.2.2.2.1 h'.2.2.2.1, fits_avlMay h.2.2.2.2 h'.2.2.2.2]
    simp only [avlBadTag, avlBadTree, Tr.tag_node, Tr.left_node, Tr.right_node, ← BT.fits_tag h.2.2.2.1, ← BT.fits_tag h.2.2.2.2, ← BT.fits_tag h'.2.2.2.1, ← BT.fits_tag h'.2.2.2.2, ← h.2.2.1, ← h'.2.2.1]
/-- a row of beads of a tree that may be, and is not too long. -/
def Good (zs : List BeadL) (t : BT) : Prop := t.enc = zs ∧ zs.length ≤ 400 ∧ avlMay t.tr = true
/-- what is known of a tree that is made of such a row. -/
theorem good_tree {zs : List BeadL} {t : BT} {A : Tr} (hg : Good zs t) (hf : t.fits A) (hz : ∀ z ∈ zs, z.wf) : AvlH A A.ht ∧ A.ht ≤ 400 ∧ A.count ≤ 400 := by
  obtain ⟨rfl, h1, h2⟩ := hg
  have hc : A.count ≤ 400 := by unfold Tr.count; rw [BT.fits_len hf]; exact h1
  have := Tr.ht_count A
  exact ⟨AvlH.of_may (by rw [fits_avlMay hf t.tr_fits]; exact h2) (fits_tagsOk t A hf hz) (by omega), by omega, hc⟩
end Go.Proofs.YtkkdobolloojjaaGreat
namespace Go.Proofs.YtkkdobolloojjaaGreat
open Go Go.RowKit
theorem ptr_same (p : Option Addr) (w : World) : (binOp .eql 28 (.pointer p) (.pointer p)).run Tryz.prog w = .ok (.bool true) w := by
  obtain ⟨j, hj⟩ : ∃ j, Tryz.prog.info? 104 = some j := by
    have h : (Tryz.prog.info? 104).isSome = true := by kernel_rfl
    exact Option.isSome_iff_exists.1 h
  cases p with
  | none =>
    have := run_eql_pointer_nil (P := Tryz.prog) w 28 none (by kernel_rfl)
    simpa using this
  | some a => exact run_eql_ptr_same w a Tryz.underlying28 hj
end Go.Proofs.YtkkdobolloojjaaGreat
namespace Go.Proofs.YtkkdobolloojjaaGreat
open Go Go.RowKit

theorem u64_mod (a : Int) : IntKind.u64.wrap a = a % 18446744073709551616 := by
  have : (2 : Int) ^ 64 = 18446744073709551616 := by decide
  simp only [IntKind.wrap, IntKind.bits, IntKind.signed, this]
  simp
theorem tag_ok {T : Tr} (h : TagsOk T) : 0 ≤ T.tag ∧ T.tag < 18446744073709551616 := by
  cases T with
  | nil => exact ⟨by decide, by decide⟩
  | node b l k v g r => exact ⟨h.1, h.2.1⟩
theorem tags_left {T : Tr} (h : TagsOk T) : TagsOk T.left := by
  cases T with
  | nil => exact h
  | node b l k v g r => exact h.2.2.1
theorem tags_right {T : Tr} (h : TagsOk T) : TagsOk T.right := by
  cases T with
  | nil => exact h
  | node b l k v g r => exact h.2.2.2
/-- a struct of two numbers. -/
def whatV (c h : Int) : Value := .agg #[.int .u64 c, .int .u64 h]
def col (t : Tr) : Int := t.tag % 2
def hi (t : Tr) : Int := t.tag / 2
theorem set2 {w : World} {N : Nat} {T : TypeId} {a0 a1 : Value} (h : w.heap[N]? = some (.cells #[a0, a1] T (0, 0))) (b0 b1 : Value) :
    ((w.setCell ⟨N, 0, none⟩ b0).setCell ⟨N, 1, none⟩ b1).heap[N]? = some (.cells #[b0, b1] T (0, 0)) := by
  simp [World.setCell, Array.getElem?_modify, h]
theorem load_what {w : World} {N : Nat} {c h : Int} (hh : w.heap[N]? = some (.cells #[.int .u64 c, .int .u64 h] 163 (0, 0))) : (loadVar 163 ⟨N, 0, none⟩).run Tryz.prog w = .ok (whatV c h) w := by
  refine run_loadVar_mid w N 0 _ [.int .u64 c, .int .u64 h] _ (fun j v hj => ?_) Tryz.underlying163 rfl (by kernel_rfl)
  rw [Nat.zero_add, cell_of hh j]
  simpa using hj
theorem results_row1 {fn : Func} {p : Tmp} {ty : TypeId} (h : fn.results = #[.cell p ty]) (tmps : Array Value) (w : World) {x : Value} {a : Addr} (hp : tmps.getD p undef = .pointer (some a))
    (hl : (loadVar ty a).run Tryz.prog w = .ok x w) : (results fn tmps).run Tryz.prog w = .ok x w := by
  simp only [Array.getD_eq_getD_getElem?] at hp
  simp [results, h, hp, hl, asAddr]
theorem hi_div {t : Tr} (h : TagsOk t) : IntKind.u64.wrap (t.tag.tdiv 2) = hi t := by
  have := tag_ok h
  rw [Int.tdiv_eq_ediv_of_nonneg this.1, u64_mod]
  unfold hi
  omega
set_option maxHeartbeats 1000000 in
theorem rbOf_any (w : World) (t : Tr) (ht : InH w t) (ho : TagsOk t) : Calls Tryz.prog 138 #[.pointer t.ptr] w (Ret (whatV (col t) (hi t)) w) := by
  have HC := Lib.hid (show t.tag % 2 = col t from rfl)
  have HD := Lib.hid (hi_div ho)
  have h0 := (tag_ok ho).1
  have hnew := alloc_at w (.cells #[.int .u64 0, .int .u64 0] 163) _ rfl
  have hE := (Ext.refl w).alloc (.cells #[.int .u64 0, .int .u64 0] 163)
  clear ho
  go_enter Tryz.func138, Tryz.ntmps138
  go_wp2_with fail
  refine (tag_any _ t (ht.ext hE)).mono ?_
  rintro e w1 ⟨rfl, h1⟩
  go_wp2_with fail
  refine (tag_any _ t (ht.ext (hE.trans h1))).mono ?_
  rintro e w2 ⟨rfl, h2⟩
  have h02 := h1.trans h2
  have hnew2 := (h02.block _ (lt_of hnew)).trans hnew
  have hE2 := hE.trans h02
  have hn0 := cell_of hnew2 0
  have hn1 := cell_of hnew2 1
  have hf0 := frozen_of hnew2 0
  have hf1 := frozen_of hnew2 1
  simp at hn0 hn1
  clear hE hnew h1 h2 h02
  go_wp2
  rw [HC.out, HD.out]
  exact bodyPost_ret (results_row1 rfl _ _ rfl (load_what (set2 hnew2 _ _))) rfl (Ret.mk (Ext.put (Ext.put hE2 0 _) 1 _))
theorem alloc_set2 (w : World) (T : TypeId) (a0 a1 : Value) : (w.alloc (.cells #[a0, a1] T)).heap[w.heap.size]? = some (.cells #[a0, a1] T (0, 0)) := alloc_at _ _ _ rfl
/-- what a node may be over one of a black height. -/
def overV (h : Int) (is : Bool) : Value := if is then whatV 1 h else whatV 0 (IntKind.u64.wrap (h + 1))
set_option maxHeartbeats 400000 in
theorem rbOver_any (w : World) (h : Int) (is : Bool) : Calls Tryz.prog 137 #[.int .u64 h, .bool is] w (Ret (overV h is) w) := by
  cases is with
  | true =>
    rw [show overV h true = whatV 1 h from rfl]
    go_enter Tryz.func137, Tryz.ntmps137
    go_wp2
    exact bodyPost_ret (results_row1 rfl _ _ rfl (load_what (alloc_at _ _ _ rfl))) rfl (Ret.mk ((Ext.refl w).alloc _))
  | false =>
    rw [show overV h false = whatV 0 (IntKind.u64.wrap (h + 1)) from rfl]
    go_enter Tryz.func137, Tryz.ntmps137
    go_wp2
    exact bodyPost_ret (results_row1 rfl _ _ rfl (load_what (alloc_at _ _ _ rfl))) rfl (Ret.mk ((Ext.refl w).alloc _))
set_option maxHeartbeats 400000 in
theorem rbTag_any (w : World) (c h : Int) : Calls Tryz.prog 139 #[whatV c h] w (Ret (.int .u64 (IntKind.u64.wrap (IntKind.u64.wrap (2 * h) + c))) w) := by
  unfold whatV
  go_enter Tryz.func139, Tryz.ntmps139
  go_wp2
  go_ret
  exact Ret.mk ((Ext.refl w).alloc _)
/-- the tag of a red node, or of a black one, over a tree. -/
def rbTag (l : Tr) (is : Bool) : Int := IntKind.u64.wrap (if is then 2 * hi l + 1 else 2 * hi l + 2)
theorem rbTag_red (l : Tr) : IntKind.u64.wrap (IntKind.u64.wrap (2 * hi l) + 1) = rbTag l true := by
  unfold rbTag; simp only [u64_mod]; simp
theorem rbTag_black (l : Tr) : IntKind.u64.wrap (IntKind.u64.wrap (2 * IntKind.u64.wrap (hi l + 1)) + 0) = rbTag l false := by
  unfold rbTag; simp only [u64_mod]; simp; omega
theorem rbOverTag_any (w : World) (l : Tr) (is : Bool) : Calls Tryz.prog 139 #[overV (hi l) is] w (Ret (.int .u64 (rbTag l is)) w) := by
  cases is with
  | true => rw [← rbTag_red]; exact rbTag_any w 1 (hi l)
  | false => rw [← rbTag_black]; exact rbTag_any w 0 (IntKind.u64.wrap (hi l + 1))
set_option maxHeartbeats 400000 in
theorem rbMake_any (w : World) (l r : Tr) (k v : Int) (is : Bool) (hl : InH w l) (hr : InH w r) (hol : TagsOk l) : Calls Tryz.prog 115 #[.pointer l.ptr, .int .i64 k, .int .i64 v, .bool is, .pointer r.ptr] w (New l k v (rbTag l is) r w) := by
  have hx := Ext.refl w
  have hfld := fun (a b : Value) (w : World) => (by kernel_rfl : (Instr.field 163 (.agg #[a, b]) 1).run Tryz.prog w = .ok b w)
  have HO := Lib.hid (fun W (h : InH W l) => rbOf_any W l h hol)
  unfold whatV at HO
  go_enter Tryz.func115, Tryz.ntmps115
  go_wp2_with fail
  refine (HO.out _ hl).mono ?_
  rintro e w1 ⟨rfl, hS⟩
  replace hx := hx.trans hS
  replace hl := hl.ext hS
  replace hr := hr.ext hS
  clear hS
  go_wp2_with fail
  refine (rbOver_any _ _ is).mono ?_
  rintro e w2 ⟨rfl, hS⟩
  replace hx := hx.trans hS
  replace hl := hl.ext hS
  replace hr := hr.ext hS
  clear hS
  go_wp2_with fail
  refine (rbOverTag_any _ l is).mono ?_
  rintro e w3 ⟨rfl, hS⟩
  replace hx := hx.trans hS
  replace hl := hl.ext hS
  replace hr := hr.ext hS
  clear hS
  go_wp2_with fail
  refine (new_any _ l r k v _ hl hr).mono ?_
  rintro e w4 ⟨b, rfl, hb, ht, h4⟩
  go_wp2
  go_ret
  exact ⟨b, rfl, Nat.le_trans hx.size hb, ht, hx.trans h4⟩
/-- is it red? -/
def rbRed (t : Tr) : Bool := col t == 1
set_option maxHeartbeats 400000 in
theorem rbRed_any (w : World) (t : Tr) (ht : InH w t) (ho : TagsOk t) : Calls Tryz.prog 119 #[.pointer t.ptr] w (Ret (.bool (rbRed t)) w) := by
  have hfld := fun (a b : Value) (w : World) => (by kernel_rfl : (Instr.field 163 (.agg #[a, b]) 0).run Tryz.prog w = .ok a w)
  have H := Lib.hid (rbOf_any w t ht ho)
  have HR := Lib.hid (show rbRed t = (col t == 1) from rfl)
  unfold whatV at H
  clear ho
  go_enter Tryz.func119, Tryz.ntmps119
  go_wp2_with fail
  refine (H.out).mono ?_
  rintro e w1 ⟨rfl, hS⟩
  go_wp2
  go_ret
  exact ⟨ret_bool (by rw [HR.out]), hS⟩
set_option maxHeartbeats 400000 in
theorem rbHigh_any (w : World) (t : Tr) (ht : InH w t) (ho : TagsOk t) : Calls Tryz.prog 116 #[.pointer t.ptr] w (Ret (.int .i64 (hi t)) w) := by
  have hfld := fun (a b : Value) (w : World) => (by kernel_rfl : (Instr.field 163 (.agg #[a, b]) 1).run Tryz.prog w = .ok b w)
  have H := Lib.hid (rbOf_any w t ht ho)
  have HR := Lib.hid (show wrap64 (hi t) = hi t by have := tag_ok ho; unfold hi wrap64; omega)
  unfold whatV at H
  clear ho
  go_enter Tryz.func116, Tryz.ntmps116
  go_wp2_with fail
  refine (H.out).mono ?_
  rintro e w1 ⟨rfl, hS⟩
  go_wp2
  go_ret
  exact ⟨ret_int (by rw [HR.out]), hS⟩
/-- what becomes of a tree that is to be black. -/
def Blackens (n : Nat) (t : Tr) (w : World) (e : Ending) (w' : World) : Prop :=
  ∃ u : Tr, e = .returned (.pointer u.ptr) ∧ InH w' u ∧ Ext w w' ∧
    ((rbRed t = false ∧ u = t) ∨ (rbRed t = true ∧ ∃ b, n ≤ b ∧ u = .node b t.left t.key t.val (IntKind.u64.wrap (t.tag + 1)) t.right))
set_option maxHeartbeats 400000 in
theorem rbBlacken_any (w : World) (t : Tr) (ht : InH w t) (ho : TagsOk t) : Calls Tryz.prog 99 #[.pointer t.ptr] w (Blackens w.heap.size t w) := by
  have H := Lib.hid (rbRed_any w t ht ho)
  have hx := Ext.refl w
  clear ho
  cases hr : rbRed t with
  | false =>
    rw [hr] at H
    have HR := Lib.hid hr
    clear hr
    go_enter Tryz.func99, Tryz.ntmps99
    go_wp2_with fail
    refine (H.out).mono ?_
    rintro e w1 ⟨rfl, hS⟩
    replace hx := hx.trans hS
    replace ht := ht.ext hS
    clear hS
    go_wp2
    go_ret
    exact ⟨t, rfl, ht, hx, .inl ⟨HR.out, rfl⟩⟩
  | true =>
    rw [hr] at H
    have HR := Lib.hid hr
    clear hr
    go_enter Tryz.func99, Tryz.ntmps99
    go_wp2_with fail
    refine (H.out).mono ?_
    rintro e w1 ⟨rfl, hS⟩
    replace hx := hx.trans hS
    replace ht := ht.ext hS
    clear hS
    go_wp2_with fail
    refine (left_any _ t ht).mono ?_
    rintro e w2 ⟨rfl, hS⟩
    replace hx := hx.trans hS
    replace ht := ht.ext hS
    clear hS
    go_wp2_with fail
    refine (key_any _ t ht).mono ?_
    rintro e w3 ⟨rfl, hS⟩
    replace hx := hx.trans hS
    replace ht := ht.ext hS
    clear hS
    go_wp2_with fail
    refine (val_any _ t ht).mono ?_
    rintro e w4 ⟨rfl, hS⟩
    replace hx := hx.trans hS
    replace ht := ht.ext hS
    clear hS
    go_wp2_with fail
    refine (tag_any _ t ht).mono ?_
    rintro e w5 ⟨rfl, hS⟩
    replace hx := hx.trans hS
    replace ht := ht.ext hS
    clear hS
    go_wp2_with fail
    refine (right_any _ t ht).mono ?_
    rintro e w6 ⟨rfl, hS⟩
    replace hx := hx.trans hS
    replace ht := ht.ext hS
    clear hS
    go_wp2_with fail
    refine (new_any _ t.left t.right _ _ _ (left_ok ht) (right_ok ht)).mono ?_
    rintro e w7 ⟨b, rfl, hb, hu, hS⟩
    go_wp2
    go_ret
    exact ⟨_, rfl, hu, hx.trans hS, .inr ⟨HR.out, b, Nat.le_trans hx.size hb, rfl⟩⟩
end Go.Proofs.YtkkdobolloojjaaGreat
namespace Go.Proofs.YtkkdobolloojjaaGreat
open Go Go.RowKit

theorem what_neq (a b c d : Int) (w : World) : (binOp .neq 163 (.agg #[.int .u64 a, .int .u64 b]) (.agg #[.int .u64 c, .int .u64 d])).run Tryz.prog w = .ok (.bool (!(a == c && b == d))) w := by
  have h := Tryz.underlying163
  simp only [Bool.not_and]
  by_cases h1 : a = c <;> by_cases h2 : b = d <;> simp [go_sem, h, h1, h2]
/-- is the tag wrong? -/
def rbBadTag (t : Tr) : Bool := t.tag == 0 || (!(col t == 1 && hi t == hi t.left) && t.tag != rbTag t.left false)
def rbBadTree (t : Tr) : Bool := hi t.left != hi t.right || (col t == 1 && (col t.left == 1 || col t.right == 1))
def rbOne (t : Tr) : Int := if rbBadTag t then 140 else if rbBadTree t then 8 else 0
theorem rbBadTree_eq (t : Tr) (a b c d : Bool) (h1 : (hi t.left != hi t.right) = a) (h2 : (col t == 1) = b) (h3 : (col t.left == 1) = c) (h4 : (col t.right == 1) = d) : rbBadTree t = (a || (b && (c || d))) := by
  unfold rbBadTree
  rw [h1, h2, h3, h4]
theorem three {w : World} {A B C : Array Value} {T : TypeId} : (((w.alloc (.cells A T)).alloc (.cells B T)).alloc (.cells C T)).heap[w.heap.size]? = some (.cells A T (0, 0)) ∧
    (((w.alloc (.cells A T)).alloc (.cells B T)).alloc (.cells C T)).heap[w.heap.size + 1]? = some (.cells B T (0, 0)) ∧ (((w.alloc (.cells A T)).alloc (.cells B T)).alloc (.cells C T)).heap[w.heap.size + 1 + 1]? = some (.cells C T (0, 0)) := by
  refine ⟨?_, ?_, ?_⟩ <;> (repeat (first | exact alloc_at _ _ _ (by simp) | rw [alloc_lt _ _ _ (by simp <;> omega)]))
set_option maxHeartbeats 4000000 in
theorem rbOne_any (w : World) (t : Tr) (ht : InH w t) (ho : TagsOk t) : Calls Tryz.prog 153 #[.pointer t.ptr] w (Ret (.int .i64 (rbOne t)) w) := by
  have hfn : ∀ f, Fence.wide.fn f := fun _ => trivial
  have hx := Ext.refl w
  obtain ⟨X, eX⟩ : ∃ X, X = rbOne t := ⟨_, rfl⟩
  have hX : X = if rbBadTag t = true then 140 else if rbBadTree t = true then 8 else 0 := eX
  rw [← eX]
  have HX := Lib.hid hX
  have HL := Lib.hid (fun W h => rbOf_any W t.left h (tags_left ho))
  have HR := Lib.hid (fun W h => rbOf_any W t.right h (tags_right ho))
  have HM := Lib.hid (fun W h => rbOf_any W t h ho)
  have HBT := Lib.hid (show rbBadTag t = (t.tag == 0 || (!(col t == 1 && hi t == hi t.left) && t.tag != rbTag t.left false)) from rfl)
  clear eX hX ho
  unfold whatV at HL HR HM
  go_enter Tryz.func153, Tryz.ntmps153
  obtain ⟨m⟩ : Nonempty Nat := ⟨0⟩
  refine (wpIn_wide (n := m)).1 ?_
  gi_wp2_with fail
  refine ⟨wide_room _, (callsIn_wide.2 (left_any _ t ht)).mono ?_⟩
  rintro e w1 ⟨rfl, hS⟩
  replace hx := hx.trans hS
  replace ht := ht.ext hS
  clear hS
  gi_wp2_with fail
  refine ⟨wide_room _, (callsIn_wide.2 (HL.out _ (left_ok ht))).mono ?_⟩
  rintro e w2 ⟨rfl, hS⟩
  replace hx := hx.trans hS
  replace ht := ht.ext hS
  clear hS
  gi_wp2_with fail
  refine ⟨wide_room _, (callsIn_wide.2 (right_any _ t ht)).mono ?_⟩
  rintro e w3 ⟨rfl, hS⟩
  replace hx := hx.trans hS
  replace ht := ht.ext hS
  clear hS
  gi_wp2_with fail
  refine ⟨wide_room _, (callsIn_wide.2 (HR.out _ (right_ok ht))).mono ?_⟩
  rintro e w4 ⟨rfl, hS⟩
  replace hx := hx.trans hS
  replace ht := ht.ext hS
  clear hS
  gi_wp2_with fail
  refine ⟨wide_room _, (callsIn_wide.2 (HM.out _ ht)).mono ?_⟩
  rintro e w5 ⟨rfl, hS⟩
  replace hx := hx.trans hS
  replace ht := ht.ext hS
  clear hS
  gi_wp2_with fail
  have hE := ((((Ext.refl w5).alloc (.cells #[.int .u64 (col t.left), .int .u64 (hi t.left)] 163)).alloc (.cells #[.int .u64 (col t.right), .int .u64 (hi t.right)] 163)).alloc (.cells #[.int .u64 (col t), .int .u64 (hi t)] 163))
  obtain ⟨hbl, hbr, hbm⟩ := three (w := w5) (A := #[.int .u64 (col t.left), .int .u64 (hi t.left)]) (B := #[.int .u64 (col t.right), .int .u64 (hi t.right)]) (C := #[.int .u64 (col t), .int .u64 (hi t)]) (T := 163)
  replace ht := ht.ext hE
  replace hx := hx.trans hE
  clear hE HL HR HM
  generalize (((w5.alloc (.cells #[.int .u64 (col t.left), .int .u64 (hi t.left)] 163)).alloc (.cells #[.int .u64 (col t.right), .int .u64 (hi t.right)] 163)).alloc (.cells #[.int .u64 (col t), .int .u64 (hi t)] 163)) = w6 at *
  generalize w5.heap.size = N at *
  refine ⟨wide_room _, (callsIn_wide.2 (tag_any w6 t ht)).mono ?_⟩
  rintro e w7 ⟨rfl, hS⟩
  by_cases c0 : t.tag = 0
  · have HB := Lib.hid (show rbBadTag t = true by rw [HBT.out, c0]; rfl)
    have c1 := beq_iff_eq.2 c0
    clear c0
    gi_wp2
    go_ret
    exact ⟨ret_int (by rw [HX.out, if_pos HB.out]), hx.trans hS⟩
  · have c0' := beq_eq_false_iff_ne.2 c0
    clear c0
    replace hx := hx.trans hS
    replace ht := ht.ext hS
    replace hbl := (hS.block _ (lt_of hbl)).trans hbl
    replace hbr := (hS.block _ (lt_of hbr)).trans hbr
    replace hbm := (hS.block _ (lt_of hbm)).trans hbm
    clear hS
    gi_wp2_with fail
    have hl1 := cell_all (cell_of hbl 1)
    have hm0 := cell_all (cell_of hbm 0)
    have hm1 := cell_all (cell_of hbm 1)
    have hxd := Ext.drew w7
    cases ce : (col t == 1 && hi t == hi t.left) with
    | true =>
      have HB := Lib.hid (show rbBadTag t = false by rw [HBT.out, c0', ce]; rfl)
      have hneq := fun W => what_neq (col t) (hi t) 1 (hi t.left) W
      rw [ce] at hneq
      simp only [Bool.not_true] at hneq
      clear ce
      refine wpIn_region_G (fun j => !(List.contains (α := Nat) [10, 11] j)) (by kernel_rfl) ?_
      refine batchG hfn (fuel := 12) [0, 1, 2] (by kernel_rfl) rfl ?_
      repeat (go_big_quiet_step ((fail)))
      refine wpQuiet_nil ?_
      refine wpAnyG_one (j := 3) (by kernel_rfl) rfl ?_
      gi_wp2_with fail
      refine ⟨wide_room _, (callsIn_wide.2 (rbOver_any _ (hi t.left) true)).mono ?_⟩
      rw [show overV (hi t.left) true = .agg #[.int .u64 1, .int .u64 (hi t.left)] from rfl]
      rintro e w8 ⟨rfl, h8⟩
      gi_wp2_with fail
      refine onePost_ext (h8) ?_
      have hk := hxd.trans h8
      replace hx := hx.trans hk
      clear hl1 hm0 hm1
      refine batchG hfn (fuel := 6) [4, 5, 6, 8, 9] (by kernel_rfl) rfl ?_
      repeat (go_big_quiet_step ((fail)))
      refine wpQuiet_nil ?_
      refine wpAnyG_skip hfn (j := 7) (by kernel_rfl) rfl rfl ?_
      simp only [Act.put, List.setIfInBounds_toArray, List.set_cons_zero, List.set_cons_succ]
      refine wpAnyG_skip hfn (j := 10) (by kernel_rfl) rfl rfl ?_
      simp only [Act.put, List.setIfInBounds_toArray, List.set_cons_zero, List.set_cons_succ]
      refine wpAnyG_skip hfn (j := 11) (by kernel_rfl) rfl rfl ?_
      simp only [Act.put, List.setIfInBounds_toArray, List.set_cons_zero, List.set_cons_succ]
      refine batchG hfn (fuel := 0) [12, 13, 14] (by kernel_rfl) rfl ?_
      repeat (go_big_quiet_step ((fail)))
      refine wpQuiet_nil ?_
      refine wpAnyG_done (by kernel_rfl) ?_
      refine calmQ_normal ?_
      clear hneq hxd h8
      have bl := (hk.block _ (lt_of hbl)).trans hbl
      have br := (hk.block _ (lt_of hbr)).trans hbr
      have bm := (hk.block _ (lt_of hbm)).trans hbm
      have hl0 := cell_of bl 0
      have hl1 := cell_of bl 1
      have hr0 := cell_of br 0
      have hr1 := cell_of br 1
      have hm0 := cell_of bm 0
      simp at hl0 hl1 hr0 hr1 hm0
      clear hbl hbr hbm bl br bm
      cases h1 : (hi t.left != hi t.right) <;> cases h2 : (col t == 1) <;> cases h3 : (col t.left == 1) <;> cases h4 : (col t.right == 1)
      all_goals
        have HT := Lib.hid (rbBadTree_eq t _ _ _ _ h1 h2 h3 h4)
        gi_wp2
        go_ret
        exact ⟨ret_int (by rw [HX.out, HB.out, HT.out]; rfl), hx⟩
    | false =>
      have hneq := fun W => what_neq (col t) (hi t) 1 (hi t.left) W
      rw [ce] at hneq
      simp only [Bool.not_false] at hneq
      refine wpIn_region_G (fun j => !(List.contains (α := Nat) [10, 11] j)) (by kernel_rfl) ?_
      refine batchG hfn (fuel := 12) [0, 1, 2] (by kernel_rfl) rfl ?_
      repeat (go_big_quiet_step ((fail)))
      refine wpQuiet_nil ?_
      refine wpAnyG_one (j := 3) (by kernel_rfl) rfl ?_
      gi_wp2_with fail
      refine ⟨wide_room _, (callsIn_wide.2 (rbOver_any _ (hi t.left) true)).mono ?_⟩
      rw [show overV (hi t.left) true = .agg #[.int .u64 1, .int .u64 (hi t.left)] from rfl]
      rintro e w8 ⟨rfl, h8⟩
      gi_wp2_with fail
      refine onePost_ext (h8) ?_
      have hk0 := hxd.trans h8
      clear hl1 hm0 hm1
      have hl1 := cell_all (cell_of ((hk0.block _ (lt_of hbl)).trans hbl) 1)
      have hx8 := Ext.refl w8
      refine batchG hfn (fuel := 6) [4, 5, 6, 8, 9] (by kernel_rfl) rfl ?_
      repeat (go_big_quiet_step ((fail)))
      refine wpQuiet_nil ?_
      refine wpAnyG_one (j := 7) (by kernel_rfl) rfl ?_
      gi_wp2_with fail
      refine ⟨wide_room _, (callsIn_wide.2 (tag_any _ t (ht.ext hk0))).mono ?_⟩
      rintro e w9 ⟨rfl, h9⟩
      gi_wp2_with fail
      refine onePost_ext (h9) ?_
      clear hl1 hneq hxd hx8
      refine wpAnyG_one (j := 10) (by kernel_rfl) rfl ?_
      gi_wp2_with fail
      refine ⟨wide_room _, (callsIn_wide.2 (rbOver_any _ (hi t.left) false)).mono ?_⟩
      rintro e w10 ⟨rfl, h10⟩
      gi_wp2_with fail
      refine onePost_any (by kernel_rfl) ?_
      refine wpAnyG_one (j := 11) (by kernel_rfl) rfl ?_
      gi_wp2_with fail
      refine ⟨wide_room _, (callsIn_wide.2 (rbOverTag_any _ t.left false)).mono ?_⟩
      rintro e w11 ⟨rfl, h11⟩
      gi_wp2_with fail
      refine onePost_any (by kernel_rfl) ?_
      have hk := ((hk0.trans h9).trans h10).trans h11
      replace hx := hx.trans hk
      cases ct : (t.tag != rbTag t.left false) with
      | true =>
        have HB := Lib.hid (show rbBadTag t = true by rw [HBT.out, c0', ce, ct]; rfl)
        clear ce h8 hk0 h9 h10 h11
        refine batchG hfn (fuel := 0) [12, 13, 14] (by kernel_rfl) rfl ?_
        repeat (go_big_quiet_step ((fail)))
        refine wpQuiet_nil ?_
        refine wpAnyG_done (by kernel_rfl) ?_
        refine calmQ_normal ?_
        gi_wp2
        go_ret
        exact ⟨ret_int (by rw [HX.out, if_pos HB.out]), hx⟩
      | false =>
        have HB := Lib.hid (show rbBadTag t = false by rw [HBT.out, c0', ce, ct]; rfl)
        clear ce h8 hk0 h9 h10 h11
        refine batchG hfn (fuel := 0) [12, 13, 14] (by kernel_rfl) rfl ?_
        repeat (go_big_quiet_step ((fail)))
        refine wpQuiet_nil ?_
        refine wpAnyG_done (by kernel_rfl) ?_
        refine calmQ_normal ?_
        have bl := (hk.block _ (lt_of hbl)).trans hbl
        have br := (hk.block _ (lt_of hbr)).trans hbr
        have bm := (hk.block _ (lt_of hbm)).trans hbm
        have hl0 := cell_of bl 0
        have hl1 := cell_of bl 1
        have hr0 := cell_of br 0
        have hr1 := cell_of br 1
        have hm0 := cell_of bm 0
        simp at hl0 hl1 hr0 hr1 hm0
        clear hbl hbr hbm bl br bm
        cases h1 : (hi t.left != hi t.right) <;> cases h2 : (col t == 1) <;> cases h3 : (col t.left == 1) <;> cases h4 : (col t.right == 1)
        all_goals
          have HT := Lib.hid (rbBadTree_eq t _ _ _ _ h1 h2 h3 h4)
          gi_wp2
          go_ret
          exact ⟨ret_int (by rw [HX.out, HB.out, HT.out]; rfl), hx⟩
end Go.Proofs.YtkkdobolloojjaaGreat
namespace Go.Proofs.YtkkdobolloojjaaGreat
open Go Go.RowKit Go.Shelf
attribute [local go_sem] Oper.semAt_some

set_option maxRecDepth 100000 in
set_option maxHeartbeats 2000000 in
theorem rbOn_in (M : Nat → Prop) (Px : Tr → Prop) (l N by_ bo : Nat) (J Jx : List Tr → World → Prop) (hy0 : ¬ M by_) (ho0 : ¬ M bo)
    (hY : ∀ m pre x W, Px x → J pre W → pre.length < N → YieldAt Fence.wide m Tryz.prog l #[.int .i64 (rbOne x)] W fun e W' =>
      (e = .returned (.bool true) ∧ J (pre ++ [x]) W' ∧ Keep M W W') ∨ (e = .returned (.bool false) ∧ Jx (pre ++ [x]) W'))
    (hJE : ∀ pre W W', J pre W → Ext W W' → J pre W')
    (T : Tr) :
    ∀ (n : Nat) (pre : List Tr) (W : World), InH W T → TagsOk T → Off M T → (∀ x ∈ T.pre, Px x) → J pre W → pre.length + T.pre.length ≤ N →
      Boxed W by_ 178 (.func (.yield l) #[] #[]) → Boxed W bo 45 (.func (.func 152) #[] #[.pointer (some ⟨by_, 0, none⟩), .pointer (some ⟨bo, 0, none⟩)]) →
      CallsIn Fence.wide n Tryz.prog 152 #[.pointer T.ptr, .pointer (some ⟨by_, 0, none⟩), .pointer (some ⟨bo, 0, none⟩)] W fun e W' =>
        (e = .returned (.bool true) ∧ J (pre ++ T.pre) W' ∧ Keep M W W') ∨ (e = .returned (.bool false) ∧ ∃ q, q <+: T.pre ∧ Jx (pre ++ q) W') := by
  have hfn : ∀ f, Fence.wide.fn f := fun _ => trivial
  induction T with
  | nil =>
    intro n pre W _ _ _ _ hJ _ _ _
    rw [Tr.ptr_nil]
    refine callsIn_of_wp Tryz.func152 rfl trivial ?_ rfl
    simp only [Tryz.ntmps152, List.size_toArray, List.length_cons, List.length_nil, Nat.reduceAdd, Nat.reduceSub, Array.replicate_succ, Array.replicate_zero, List.push_toArray, List.append_toArray, List.nil_append, List.cons_append]
    gi_wp2_with fail
    refine wpIn_region_G (fun j => !(List.contains (α := Nat) [6, 11, 17] j)) (by kernel_rfl) ?_
    refine batchG hfn (fuel := 16) [0, 1, 2, 3, 4] (by kernel_rfl) rfl ?_
    repeat (go_big_quiet_step ((fail)))
    refine wpQuiet_nil ?_
    refine wpAnyG_skip hfn (j := 5) (by kernel_rfl) rfl rfl ?_
    simp only [Act.put, List.setIfInBounds_toArray, List.set_cons_zero, List.set_cons_succ]
    refine wpAnyG_skip hfn (j := 6) (by kernel_rfl) rfl rfl ?_
    simp only [Act.put, List.setIfInBounds_toArray, List.set_cons_zero, List.set_cons_succ]
    refine batchG hfn (fuel := 11) [7, 8, 9] (by kernel_rfl) rfl ?_
    repeat (go_big_quiet_step ((fail)))
    refine wpQuiet_nil ?_
    refine wpAnyG_skip hfn (j := 10) (by kernel_rfl) rfl rfl ?_
    simp only [Act.put, List.setIfInBounds_toArray, List.set_cons_zero, List.set_cons_succ]
    refine wpAnyG_skip hfn (j := 11) (by kernel_rfl) rfl rfl ?_
    simp only [Act.put, List.setIfInBounds_toArray, List.set_cons_zero, List.set_cons_succ]
    refine batchG hfn (fuel := 5) [12, 13, 14, 15] (by kernel_rfl) rfl ?_
    repeat (go_big_quiet_step ((fail)))
    refine wpQuiet_nil ?_
    refine wpAnyG_skip hfn (j := 16) (by kernel_rfl) rfl rfl ?_
    simp only [Act.put, List.setIfInBounds_toArray, List.set_cons_zero, List.set_cons_succ]
    refine wpAnyG_skip hfn (j := 17) (by kernel_rfl) rfl rfl ?_
    simp only [Act.put, List.setIfInBounds_toArray, List.set_cons_zero, List.set_cons_succ]
    refine batchG hfn (fuel := 0) [18, 19, 20] (by kernel_rfl) rfl ?_
    repeat (go_big_quiet_step ((fail)))
    refine wpQuiet_nil ?_
    refine wpAnyG_done (by kernel_rfl) ?_
    refine calmQ_normal ?_
    gi_wp2
    go_ret
    exact .inl ⟨rfl, by simpa [Tr.pre] using hJE _ _ _ hJ (Ext.drew W), Keep.drew W⟩
  | node b tl k v g tr ihl ihr =>
    intro n pre W ht hto ho hP hJ hN hy hbo
    simp only [Tr.pre, List.length_cons, List.length_append] at hN
    have Hl := Lib.hid ihl
    have Hr := Lib.hid ihr
    clear ihl ihr
    have HP := Lib.hid hP
    clear hP
    have hcy := cell_all hy.cell
    have hx0 := Ext.drew W
    rw [Tr.ptr_node]
    refine callsIn_of_wp Tryz.func152 rfl trivial ?_ rfl
    simp only [Tryz.ntmps152, List.size_toArray, List.length_cons, List.length_nil, Nat.reduceAdd, Nat.reduceSub, Array.replicate_succ, Array.replicate_zero, List.push_toArray, List.append_toArray, List.nil_append, List.cons_append]
    gi_wp2_with fail
    refine wpIn_region_G (fun j => !(List.contains (α := Nat) [6, 11, 17] j)) (by kernel_rfl) ?_
    refine batchG hfn (fuel := 16) [0, 1, 2, 3, 4] (by kernel_rfl) rfl ?_
    repeat (go_big_quiet_step ((fail)))
    refine wpQuiet_nil ?_
    clear hcy
    refine wpAnyG_one (j := 5) (by kernel_rfl) rfl ?_
    gi_wp2_with fail
    refine ⟨wide_room _, (callsIn_wide.2 (rbOne_any _ (.node b tl k v g tr) (ht.ext hx0) hto)).mono ?_⟩
    rintro e W0 ⟨rfl, h0⟩
    gi_wp2_with fail
    refine onePost_ext (h0) ?_
    have h00 := hx0.trans h0
    obtain ⟨fn, tmps, assign, body, hy1, hR⟩ := hY n pre (.node b tl k v g tr) W0 (HP.out _ (List.mem_cons_self ..)) (hJE _ _ _ hJ h00) (by omega)
    have HR := Lib.hid hR
    clear hR hY
    refine wpAnyG_one (j := 6) (by kernel_rfl) rfl ?_
    gi_wp2_with fail
    clear hy1
    refine ⟨wide_room _, (RoundIn.any HR.out).mono ?_⟩
    rintro e W1 (⟨rfl, hJ1, hk1⟩ | ⟨rfl, hJx1⟩)
    · have hk01 := (Keep.ext (M := M) h00).trans hk1
      have ht1 := InH.keep hk01 ho ht
      have hy1 := hk01.boxed hy0 hy
      have hb1 := hk01.boxed ho0 hbo
      clear hy hbo ht hJ hk1
      have hco := cell_all hb1.cell
      have hx1 := Ext.refl W1
      gi_wp2_with fail
      refine onePost_any (by kernel_rfl) ?_
      refine batchG hfn (fuel := 11) [7, 8, 9] (by kernel_rfl) rfl ?_
      repeat (go_big_quiet_step ((fail)))
      refine wpQuiet_nil ?_
      refine wpAnyG_one (j := 10) (by kernel_rfl) rfl ?_
      gi_wp2_with fail
      rw [← Tr.ptr_node b tl k v g tr]
      clear hco hx1
      refine ⟨wide_room _, (callsIn_wide.2 (left_any _ _ ht1)).mono ?_⟩
      rintro e W2 ⟨rfl, h2⟩
      gi_wp2_with fail
      refine onePost_ext (h2) ?_
      refine wpAnyG_one (j := 11) (by kernel_rfl) rfl ?_
      gi_wp2_with fail
      simp only [Tr.left_node]
      have ht2 := ht1.ext h2
      have hb2 := (Keep.ext (M := M) h2).boxed ho0 hb1
      have hy2 := (Keep.ext (M := M) h2).boxed hy0 hy1
      have hJ2 := hJE _ _ _ hJ1 h2
      have hk02 := hk01.trans (Keep.ext h2)
      clear ht1 hb1 hy1 hJ1 hk01
      refine ⟨wide_room _, (Hl.out (n - 1) _ W2 ht2.2.1 hto.2.2.1 ho.2.1 (fun x hx => HP.out x (List.mem_cons_of_mem _ (List.mem_append_left _ hx))) hJ2 (by simp; omega) hy2 hb2).mono ?_⟩
      rintro e W3 (⟨rfl, hJ3, hk3⟩ | ⟨rfl, q, hq, hJx3⟩)
      · have ht3 := InH.keep hk3 ho ht2
        have hy3 := hk3.boxed hy0 hy2
        have hb3 := hk3.boxed ho0 hb2
        have hk03 := hk02.trans hk3
        clear hk3 hk02 hJ2 hb2 hy2 ht2
        have hco := cell_all hb3.cell
        have hx3 := Ext.refl W3
        gi_wp2_with fail
        refine onePost_any (by kernel_rfl) ?_
        refine batchG hfn (fuel := 5) [12, 13, 14, 15] (by kernel_rfl) rfl ?_
        repeat (go_big_quiet_step ((fail)))
        refine wpQuiet_nil ?_
        refine wpAnyG_one (j := 16) (by kernel_rfl) rfl ?_
        gi_wp2_with fail
        clear hco hx3
        refine ⟨wide_room _, (callsIn_wide.2 (right_any _ _ ht3)).mono ?_⟩
        rintro e W4 ⟨rfl, h4⟩
        gi_wp2_with fail
        refine onePost_ext (h4) ?_
        refine wpAnyG_one (j := 17) (by kernel_rfl) rfl ?_
        gi_wp2_with fail
        simp only [Tr.right_node]
        have ht4 := ht3.ext h4
        have hb4 := (Keep.ext (M := M) h4).boxed ho0 hb3
        have hy4 := (Keep.ext (M := M) h4).boxed hy0 hy3
        have hJ4 := hJE _ _ _ hJ3 h4
        have hk04 := hk03.trans (Keep.ext h4)
        clear ht3 hb3 hy3 hJ3 hk03
        refine ⟨wide_room _, (Hr.out (n - 1) _ W4 ht4.2.2 hto.2.2.2 ho.2.2 (fun x hx => HP.out x (List.mem_cons_of_mem _ (List.mem_append_right _ hx))) hJ4 (by simp; omega) hy4 hb4).mono ?_⟩
        rintro e W5 (⟨rfl, hJ5, hk5⟩ | ⟨rfl, q, hq, hJx5⟩)
        · gi_wp2_with fail
          refine onePost_any (by kernel_rfl) ?_
          refine batchG hfn (fuel := 0) [18, 19, 20] (by kernel_rfl) rfl ?_
          repeat (go_big_quiet_step ((fail)))
          refine wpQuiet_nil ?_
          refine wpAnyG_done (by kernel_rfl) ?_
          refine calmQ_normal ?_
          gi_wp2
          go_ret
          exact .inl ⟨rfl, by simpa [Tr.pre, List.append_assoc] using hJ5, hk04.trans hk5⟩
        · gi_wp2_with fail
          refine onePost_any (by kernel_rfl) ?_
          refine batchG hfn (fuel := 0) [18, 19, 20] (by kernel_rfl) rfl ?_
          repeat (go_big_quiet_step ((fail)))
          refine wpQuiet_nil ?_
          refine wpAnyG_done (by kernel_rfl) ?_
          refine calmQ_normal ?_
          gi_wp2
          go_ret
          obtain ⟨r', hr'⟩ := hq
          exact .inr ⟨rfl, .node b tl k v g tr :: (tl.pre ++ q), ⟨r', by simp [Tr.pre, ← hr']⟩, by simpa [List.append_assoc] using hJx5⟩
      · gi_wp2_with fail
        refine onePost_any (by kernel_rfl) ?_
        refine batchG hfn (fuel := 5) [12, 13, 14, 15] (by kernel_rfl) rfl ?_
        repeat (go_big_quiet_step ((fail)))
        refine wpQuiet_nil ?_
        refine wpAnyG_skip hfn (j := 16) (by kernel_rfl) rfl rfl ?_
        simp only [Act.put, List.setIfInBounds_toArray, List.set_cons_zero, List.set_cons_succ]
        refine wpAnyG_skip hfn (j := 17) (by kernel_rfl) rfl rfl ?_
        simp only [Act.put, List.setIfInBounds_toArray, List.set_cons_zero, List.set_cons_succ]
        refine batchG hfn (fuel := 0) [18, 19, 20] (by kernel_rfl) rfl ?_
        repeat (go_big_quiet_step ((fail)))
        refine wpQuiet_nil ?_
        refine wpAnyG_done (by kernel_rfl) ?_
        refine calmQ_normal ?_
        gi_wp2
        go_ret
        obtain ⟨r', hr'⟩ := hq
        exact .inr ⟨rfl, .node b tl k v g tr :: q, ⟨r' ++ tr.pre, by simp [Tr.pre, ← hr']⟩, by simpa [List.append_assoc] using hJx3⟩
    · gi_wp2_with fail
      refine onePost_any (by kernel_rfl) ?_
      refine batchG hfn (fuel := 11) [7, 8, 9] (by kernel_rfl) rfl ?_
      repeat (go_big_quiet_step ((fail)))
      refine wpQuiet_nil ?_
      refine wpAnyG_skip hfn (j := 10) (by kernel_rfl) rfl rfl ?_
      simp only [Act.put, List.setIfInBounds_toArray, List.set_cons_zero, List.set_cons_succ]
      refine wpAnyG_skip hfn (j := 11) (by kernel_rfl) rfl rfl ?_
      simp only [Act.put, List.setIfInBounds_toArray, List.set_cons_zero, List.set_cons_succ]
      refine batchG hfn (fuel := 5) [12, 13, 14, 15] (by kernel_rfl) rfl ?_
      repeat (go_big_quiet_step ((fail)))
      refine wpQuiet_nil ?_
      refine wpAnyG_skip hfn (j := 16) (by kernel_rfl) rfl rfl ?_
      simp only [Act.put, List.setIfInBounds_toArray, List.set_cons_zero, List.set_cons_succ]
      refine wpAnyG_skip hfn (j := 17) (by kernel_rfl) rfl rfl ?_
      simp only [Act.put, List.setIfInBounds_toArray, List.set_cons_zero, List.set_cons_succ]
      refine batchG hfn (fuel := 0) [18, 19, 20] (by kernel_rfl) rfl ?_
      repeat (go_big_quiet_step ((fail)))
      refine wpQuiet_nil ?_
      refine wpAnyG_done (by kernel_rfl) ?_
      refine calmQ_normal ?_
      gi_wp2
      go_ret
      exact .inr ⟨rfl, [.node b tl k v g tr], ⟨tl.pre ++ tr.pre, rfl⟩, hJx1⟩
end Go.Proofs.YtkkdobolloojjaaGreat
namespace Go.Proofs.YtkkdobolloojjaaGreat
open Go Go.RowKit Go.Shelf
attribute [local go_sem] Oper.semAt_some

set_option maxHeartbeats 1000000 in
/-- **rb.wrong(t) hands back what goes over what is wrong with t's nodes, each ahead of its sides.** -/
theorem rbWrong_stops (M : Nat → Prop) (n Bt : Nat) (T : Tr) (w : World) (hM : ∀ i, M i → i < w.heap.size) (hBt : Boxed w Bt 28 (.pointer T.ptr)) (hT : InH w T) (hto : TagsOk T) (ho : Off M T) :
    SeqStopsK Fence.wide n Tryz.prog 151 #[.pointer (some ⟨Bt, 0, none⟩)] (fun x : Tr => #[Value.int .i64 (rbOne x)]) (Keep M) (fun ys => ys = T.pre) (fun q => q <+: T.pre) T.pre.length w := by
  intro l J Jx W hW hJ hJx hY h0
  have hsz : w.heap.size ≤ W.heap.size := hW.size
  have hE : Ext w W := hW
  have hW2 : Ext W ((W.alloc (.cells #[.func (.yield l) #[] #[]] 178)).alloc (.cells #[.func (.func 152) #[] #[.pointer (some ⟨W.heap.size, 0, none⟩), .pointer (some ⟨W.heap.size + 1, 0, none⟩)]] 45)) := ((Ext.refl W).alloc _).alloc _
  have hon := (rbOn_in M (fun _ => True) l T.pre.length W.heap.size (W.heap.size + 1) J Jx (fun h => by have := hM _ h; omega) (fun h => by have := hM _ h; omega)
    (fun m pre x W _ hj hl => YieldAt.any m (hY pre x W hj hl))
    (fun pre W W' h hE => ext_of_abides hJ h hE) T (n - 1) [] _ ((hT.ext hE).ext hW2) hto ho (fun _ _ => trivial) (ext_of_abides hJ h0 hW2) (by simp)
    ((Boxed.new W _ _).alloc _) (by have := Boxed.new (W.alloc (.cells #[.func (.yield l) #[] #[]] 178)) 45 (.func (.func 152) #[] #[.pointer (some ⟨W.heap.size, 0, none⟩), .pointer (some ⟨W.heap.size + 1, 0, none⟩)]); simpa using this))
  have Hon := Lib.hid hon
  clear hon hY
  have hcb := (show Boxed W Bt _ _ from hE.get hBt).cell
  have hlb := (show Boxed W Bt _ _ from hE.get hBt).lt
  have hfn : ∀ f, Fence.wide.fn f := fun _ => trivial
  refine callsIn_of_wp Tryz.func151 rfl trivial ?_ rfl
  simp only [Tryz.ntmps151, List.size_toArray, List.length_cons, List.length_nil, Nat.reduceAdd, Nat.reduceSub, Array.replicate_succ, Array.replicate_zero, List.push_toArray, List.append_toArray, List.nil_append, List.cons_append]
  gi_wp2_with fail
  refine ⟨wide_room _, Hon.out.mono ?_⟩
  rintro e W1 (⟨rfl, hJ1, -⟩ | ⟨rfl, q, hq, hJ1⟩)
  · gi_wp2
    go_end0
    exact ⟨⟨_, rfl⟩, .inl ⟨_, rfl, by simpa using hJ1⟩⟩
  · gi_wp2
    go_end0
    exact ⟨⟨_, rfl⟩, .inr ⟨q, hq, by simpa using hJ1⟩⟩
theorem rbWrong_any (w : World) (p : Option Addr) : Calls Tryz.prog 140 #[.pointer p] w fun e w' => e = .returned (.func (.func 151) #[] #[.pointer (some ⟨w.heap.size, 0, none⟩)]) ∧ w' = w.alloc (.cells #[.pointer p] 28) := by
  go_enter Tryz.func140, Tryz.ntmps140
  go_wp2
  go_ret
  exact ⟨rfl, rfl⟩
theorem firstOf_good {one : Tr → Int} : ∀ {l : List Tr}, (∀ t ∈ l, one t = 0) → firstOf one l = (l.length, 0)
  | [], _ => rfl
  | t :: l, h => by
    rw [firstOf_cons, if_pos (h t (List.mem_cons_self ..)), firstOf_good (l := l) (fun x hx => h x (List.mem_cons_of_mem _ hx))]
    rfl
theorem firstOf_bad {one : Tr → Int} {x : Tr} {l r : List Tr} (h : ∀ t ∈ l, one t = 0) (hx : one x ≠ 0) : firstOf one (l ++ x :: r) = (l.length, one x) := by
  rw [firstOf_append, firstOf_good h, firstOf_cons, if_neg hx]
  simp
theorem two_end0 {w W0 W : World} {N D : Nat} {t u : TypeId} {a b : Value} (hN : w.heap.size = N) (hE : Ext w W0) (hb : Below N W0 W) (hD : W0.heap.size ≤ D) (hK : W.heap[D]? = some (.deferred (some []))) (h1 : Boxed W N t a) (h2 : Boxed W (N + 1) u b) (hs : N + 2 ≤ W0.heap.size) :
    (W.putObj D (.deferred none)).cell? ⟨N, 0, none⟩ = some a ∧ (W.putObj D (.deferred none)).cell? ⟨N + 1, 0, none⟩ = some b ∧ Ext w (W.putObj D (.deferred none)) := by
  refine ⟨(Boxed.kept h1 (grownBy_putObj' _ D _) (by simp; omega)).cell, (Boxed.kept h2 (grownBy_putObj' _ D _) (by simp; omega)).cell, ?_⟩
  have hB : Below N w W0 := by have := hE; unfold Ext at this; rwa [hN] at this
  have := (hB.trans hb).trans (belowK_b (w := W0) (n₀ := N) (by omega) _ D _ (.deferred none) hD hK rfl rfl)
  unfold Ext
  rwa [hN]
/-- the world ahead of first's loop. -/
def fstW (w : World) (p : Option Addr) : World := ((w.alloc (.cells #[.int .i64 0] 3)).alloc (.cells #[.int .i64 0] 34)).alloc (.cells #[.pointer p] 28)
theorem fstW_all (w : World) (p : Option Addr) : Ext w (fstW w p) ∧ (fstW w p).heap.size = w.heap.size + 3 ∧ Boxed (fstW w p) w.heap.size 3 (.int .i64 0) ∧ Boxed (fstW w p) (w.heap.size + 1) 34 (.int .i64 0) ∧
    Boxed (fstW w p) (w.heap.size + 1 + 1) 28 (.pointer p) := by
  refine ⟨(((Ext.refl w).alloc _).alloc _).alloc _, by simp [fstW], ?_, ?_, ?_⟩ <;> unfold fstW <;> (try unfold Boxed) <;> (repeat (first | exact alloc_at _ _ _ (by simp) | rw [alloc_lt _ _ _ (by simp <;> omega)]))
set_option maxRecDepth 100000 in
set_option maxHeartbeats 2000000 in
theorem rbFirst_in (n : Nat) (hn : Hid (1 ≤ n)) (T : Tr) (w : World) (hT : InH w T) (hto : TagsOk T) :
    CallsIn Fence.wide n Tryz.prog 118 #[.pointer T.ptr] w (Ret (.tuple #[.int .i64 (wrap64 (firstOf rbOne T.pre).1), .int .i64 (firstOf rbOne T.pre).2]) w) := by
  have hfn : ∀ f, Fence.wide.fn f := fun _ => trivial
  refine callsIn_of_wp_marks Tryz.func118 rfl trivial ?_ rfl
  simp only [Tryz.ntmps118, List.size_toArray, List.length_cons, List.length_nil, Nat.reduceAdd, Nat.reduceSub, Array.replicate_succ, Array.replicate_zero, List.push_toArray, List.append_toArray, List.nil_append, List.cons_append]
  gi_wp2_with fail
  refine ⟨wide_room _, (callsIn_wide.2 (rbWrong_any _ _)).mono ?_⟩
  rintro e w2 ⟨rfl, rfl⟩
  gi_wp2_with fail
  change Code.wpIn _ _ _ _ _ _ (fstW w T.ptr)
  obtain ⟨hE, hsz, hat, he, htb⟩ := fstW_all w T.ptr
  generalize fstW w T.ptr = W0 at *
  generalize hN : w.heap.size = N at *
  have HN := Lib.hid hN
  clear hN
  refine wpIn_rangeFunc_ownG rfl (n := n) (w := W0) hn.out (gf := 151) (lb := #[.pointer (some ⟨N + 1 + 1, 0, none⟩)]) rfl trivial (enters_of Tryz.func151 (by kernel_rfl) rfl)
    (rbWrong_stops (fun i => i = N ∨ i = N + 1) (n - 1) _ T W0 (by omega) htb (hT.ext hE) hto (InH.off (fun i h => by rw [HN.out]; omega) hT))
    (fun h k => Keep.trans h k) (fun W l o o' _ h ho _ => Keep.putObj W l o o' h ho) (RowKit.Below.refl _ _) (fun _ => rfl)
    (fun pre W => Boxed W N 3 (.int .i64 (wrap64 pre.length)) ∧ Boxed W (N + 1) 34 (.int .i64 0) ∧ (∀ y ∈ pre, rbOne y = 0) ∧ Keep (fun i => i = N ∨ i = N + 1) W0 W ∧ Below N W0 W)
    (fun c pre W => c = .ret ∧ ∃ q x, pre = q ++ [x] ∧ (∀ y ∈ q, rbOne y = 0) ∧ rbOne x ≠ 0 ∧ Boxed W N 3 (.int .i64 (wrap64 q.length)) ∧ Boxed W (N + 1) 34 (.int .i64 (rbOne x)) ∧ Below N W0 W)
    ?own ?ownx ⟨(by simpa [wrap64] using hat), he, by simp, Keep.refl _ _, Below.refl _ _⟩ (fun x => { tmps := #[Value.pointer T.ptr, undef, Value.pointer (some ⟨N, 0, none⟩), Value.pointer (some ⟨N + 1, 0, none⟩), Value.int .i64 (rbOne x), Value.pointer T.ptr, Value.func (Fn.func 151) #[] #[Value.pointer (some ⟨N + 1 + 1, 0, none⟩)], Value.int .i64 (rbOne x), undef, undef, undef, undef, undef, undef, undef], defers := [] }) ?assign ?body ?done ?stop
  case own =>
    rintro s A A' row ⟨h1, h2, h3, h4, h5⟩ hg hr
    exact ⟨boxed_grown h1 hg hr, boxed_grown h2 hg hr, h3, keep_grown h4 hg hr, below_grown (by omega) (by omega) h5 hg hr⟩
  case ownx =>
    rintro c s A A' row ⟨h0, q, x, h1, h2, hx, h3, h4, h5⟩ hg hr
    exact ⟨h0, q, x, h1, h2, hx, boxed_grown h3 hg hr, boxed_grown h4 hg hr, below_grown (by omega) (by omega) h5 hg hr⟩
  case assign =>
    intro l x W K hK
    gi_wp2
    exact hK
  case body =>
    rintro l pre x W ⟨hat, he, hg, hk, hb⟩ _
    have hg' := Lib.hid hg
    have hat' := hat
    have he' := he
    have hca := hat.cell
    have hfa := hat.frozen
    have hce := he.cell
    have hfe := he.frozen
    clear hg hsz hat he htb
    by_cases e1 : rbOne x = 0
    · have HE1 := Lib.hid e1
      have e2 : (rbOne x != 0) = false := by simpa using e1
      clear e1
      gi_wp2
      have hbx := hat'.set (.int .i64 (wrap64 (wrap64 pre.length + 1)))
      have hBf := hb.setCell (p := ⟨N, 0, none⟩) (Nat.le_refl N) (.int .i64 (wrap64 (wrap64 pre.length + 1)))
      rw [wrap64_succ] at hbx hBf ⊢
      refine ⟨keepsFrom_set _ _ _, Keep.setCell _ _ _ (.inl rfl), ?_, he'.other (by omega) _, ?_, hk.trans (Keep.setCell _ _ _ (.inl rfl)), hBf⟩
      · rw [List.length_append]; exact hbx
      · intro y hy
        rcases List.mem_append.1 hy with hy | hy
        · exact hg'.out y hy
        · obtain rfl : y = x := by simpa using hy
          exact HE1.out
    · have HE1 := Lib.hid e1
      have e2 : (rbOne x != 0) = true := by simpa using e1
      clear e1
      gi_wp2
      have b1 : Boxed ((W.setCell ⟨N, 0, none⟩ (.int .i64 (wrap64 pre.length))).setCell ⟨N + 1, 0, none⟩ (.int .i64 (rbOne x))) N 3 (.int .i64 (wrap64 pre.length)) := (hat'.set (.int .i64 (wrap64 pre.length))).other (by omega) _
      have b2 : Boxed ((W.setCell ⟨N, 0, none⟩ (.int .i64 (wrap64 pre.length))).setCell ⟨N + 1, 0, none⟩ (.int .i64 (rbOne x))) (N + 1) 34 (.int .i64 (rbOne x)) := (he'.other (by omega) (.int .i64 (wrap64 pre.length))).set (.int .i64 (rbOne x))
      have hBf := (hb.setCell (p := ⟨N, 0, none⟩) (Nat.le_refl N) (.int .i64 (wrap64 pre.length))).setCell (p := ⟨N + 1, 0, none⟩) (Nat.le_succ N) (.int .i64 (rbOne x))
      exact ⟨(keepsFrom_set _ _ _).trans (keepsFrom_set _ _ _), rfl, pre, x, rfl, hg'.out, HE1.out, b1, b2, hBf⟩
  case done =>
    rintro D ys W hD hys ⟨hat, he, hg, hk, hb⟩ hK
    clear htb
    have hca := hat.cell
    have hfa := hat.frozen
    have hce := he.cell
    have hfe := he.frozen
    gi_wp2
    have h1 : Boxed ((W.setCell ⟨N, 0, none⟩ (.int .i64 (wrap64 ys.length))).setCell ⟨N + 1, 0, none⟩ (.int .i64 0)) N 3 (.int .i64 (wrap64 ys.length)) := (hat.set _).other (by omega) _
    have h2 : Boxed ((W.setCell ⟨N, 0, none⟩ (.int .i64 (wrap64 ys.length))).setCell ⟨N + 1, 0, none⟩ (.int .i64 0)) (N + 1) 34 (.int .i64 0) := (he.other (by omega) _).set _
    have hk : ((W.setCell ⟨N, 0, none⟩ (.int .i64 (wrap64 ys.length))).setCell ⟨N + 1, 0, none⟩ (.int .i64 0)).heap[D]? = some (.deferred (some [])) := ((KeepsOthers.setCell _ _ _).trans (KeepsOthers.setCell _ _ _)).same D _ hK rfl
    obtain ⟨f2, f3, f4⟩ := two_end0 HN.out hE ((hb.setCell (p := ⟨N, 0, none⟩) (Nat.le_refl N) (.int .i64 (wrap64 ys.length))).setCell (p := ⟨N + 1, 0, none⟩) (Nat.le_succ N) (.int .i64 0)) hD hk h1 h2 (by omega)
    have e1 : firstOf rbOne T.pre = (ys.length, 0) := by rw [← hys]; exact firstOf_good hg
    subst hys
    rw [e1]
    refine ⟨by simp, .inl ⟨_, _, rfl, run_takeDeferred hk, ?_⟩⟩
    exact ⟨_, results_cells2 rfl _ _ rfl rfl (fun _ => by kernel_rfl) (fun _ => by kernel_rfl) f2 f3, rfl, f4⟩
  case stop =>
    rintro D c q W hD hq ⟨rfl, q', x, hqx, hg, hx, hat, he, hb⟩ hK
    clear htb
    obtain ⟨r, hr⟩ := hq
    have hca := hat.cell
    have hfa := hat.frozen
    have hce := he.cell
    have hfe := he.frozen
    gi_wp2
    obtain ⟨f2, f3, f4⟩ := two_end0 HN.out hE hb hD hK hat he (by omega)
    have e1 : firstOf rbOne T.pre = (q'.length, rbOne x) := by
      rw [← hr, hqx, List.append_assoc]
      exact firstOf_bad hg hx
    rw [e1]
    refine ⟨by simp, .inl ⟨_, _, rfl, run_takeDeferred hK, ?_⟩⟩
    exact ⟨_, results_cells2 rfl _ _ rfl rfl (fun _ => by kernel_rfl) (fun _ => by kernel_rfl) f2 f3, rfl, f4⟩
theorem rbFirst_any (w : World) (T : Tr) (hT : InH w T) (hto : TagsOk T) : Calls Tryz.prog 118 #[.pointer T.ptr] w (Ret (.tuple #[.int .i64 (wrap64 (firstOf rbOne T.pre).1), .int .i64 (firstOf rbOne T.pre).2]) w) :=
  callsIn_wide.1 (rbFirst_in 9 (Lib.hid (by omega)) T w hT hto)
/-- is it a part? may it be? -/
def rbPart (T : Tr) : Bool := mayOf rbOne T
def rbMay (T : Tr) : Bool := rbPart T && !rbRed T
set_option maxHeartbeats 400000 in
theorem rbPart_any (w : World) (T : Tr) (hT : InH w T) (hto : TagsOk T) : Calls Tryz.prog 96 #[.pointer T.ptr] w (Ret (.bool (rbPart T)) w) := by
  have H := Lib.hid (rbFirst_any w T hT hto)
  clear hto
  go_enter Tryz.func96, Tryz.ntmps96
  go_wp2_with fail
  refine (H.out).mono ?_
  rintro e w1 ⟨rfl, hS⟩
  go_wp2
  go_ret
  exact ⟨rfl, hS⟩
/-- what rb.Check says. -/
def rbChk (T : Tr) : Nat × Int := if (firstOf rbOne T.pre).2 = 0 ∧ rbRed T = true then (0, 8) else firstOf rbOne T.pre
set_option maxHeartbeats 1000000 in
theorem rbCheck_any (w : World) (T : Tr) (hT : InH w T) (hto : TagsOk T) (hc : T.pre.length ≤ 100000) : Calls Tryz.prog 95 #[.pointer T.ptr] w (Ret (.tuple #[.int .i64 (rbChk T).1, .int .i64 (rbChk T).2]) w) := by
  have H := Lib.hid (rbFirst_any w T hT hto)
  have HR := Lib.hid (fun W h => rbRed_any W T h hto)
  have hle := Nat.le_trans (firstOf_le (one := rbOne) T.pre) hc
  rw [show wrap64 ((firstOf rbOne T.pre).1 : Int) = ((firstOf rbOne T.pre).1 : Int) by unfold wrap64; omega] at H
  have HC := Lib.hid (show rbChk T = if (firstOf rbOne T.pre).2 = 0 ∧ rbRed T = true then (0, 8) else firstOf rbOne T.pre from rfl)
  have hx := Ext.refl w
  clear hto hle hc
  obtain ⟨C, eC⟩ : ∃ C, C = rbChk T := ⟨_, rfl⟩
  rw [← eC] at HC ⊢
  clear eC
  generalize firstOf rbOne T.pre = F at *
  obtain ⟨fn, fe⟩ := F
  simp only at H HC
  by_cases c0 : fe = 0
  · subst c0
    cases hr : rbRed T
    all_goals
      rw [hr] at HR HC
      clear hr
      go_enter Tryz.func95, Tryz.ntmps95
      go_wp2_with fail
      refine (H.out).mono ?_
      rintro e w1 ⟨rfl, hS⟩
      replace hx := hx.trans hS
      replace hT := hT.ext hS
      clear hS
      go_wp2_with fail
      refine (HR.out _ hT).mono ?_
      rintro e w2 ⟨rfl, hS⟩
      replace hx := hx.trans hS
      clear hS
      go_wp2
      go_ret2
      exact ⟨ret_two (by rw [HC.out]; simp) (by rw [HC.out]; simp), hx⟩
  · have HC0 := Lib.hid c0
    have c1 := beq_eq_false_iff_ne.2 c0
    clear c0
    go_enter Tryz.func95, Tryz.ntmps95
    go_wp2_with fail
    refine (H.out).mono ?_
    rintro e w1 ⟨rfl, hS⟩
    replace hx := hx.trans hS
    replace hT := hT.ext hS
    clear hS
    go_wp2
    go_ret2
    exact ⟨ret_two (by rw [HC.out, if_neg (fun h => HC0.out h.1)]) (by rw [HC.out, if_neg (fun h => HC0.out h.1)]), hx⟩
end Go.Proofs.YtkkdobolloojjaaGreat
