/- AVL trees by their heights; a side of a node; what becomes of a tree on whose outer side another one hangs (plain, no program). -/
import Derived.Test.YtkbndpemljommaaShape
import Derived.Test.YtkbndpemljommaaAvlHigh
namespace Go.Proofs.Ytkbndpemljommaa
open Go Go.RowKit

/-- a tree in balance, of a height, well tagged. -/
def AvlH : Tr → Nat → Prop
  | .nil, h => h = 0
  | .node _ l _ _ g r, h => ∃ p q, AvlH l p ∧ AvlH r q ∧ h = 1 + max p q ∧ g = h ∧ p ≤ q + 1 ∧ q ≤ p + 1
theorem AvlH.ht : ∀ {t : Tr} {h : Nat}, AvlH t h → t.ht = h
  | .nil, _, e => e.symm
  | .node _ l _ _ g r, h, ⟨p, q, hp, hq, e, _⟩ => by rw [Tr.ht, AvlH.ht hp, AvlH.ht hq, e]
theorem AvlH.tag : ∀ {t : Tr} {h : Nat}, AvlH t h → t.tag = h
  | .nil, _, e => by rw [show _ = 0 from e]; rfl
  | .node _ l _ _ g r, h, ⟨p, q, hp, hq, e, eg, _⟩ => eg
theorem AvlH.may : ∀ {t : Tr} {h : Nat}, AvlH t h → h < 1000000 → avlMay t = true ∧ TagsOk t
  | .nil, _, _, _ => ⟨rfl, trivial⟩
  | .node b l k v g r, h, ⟨p, q, hp, hq, e, eg, h1, h2⟩, hh => by
    obtain ⟨m1, o1⟩ := AvlH.may hp (by omega)
    obtain ⟨m2, o2⟩ := AvlH.may hq (by omega)
    refine ⟨?_, by omega, by omega, o1, o2⟩
    have t1 := hp.tag
    have t2 := hq.tag
    have e1 : avlBadTag (.node b l k v g r) = false := by
      simp only [avlBadTag, Tr.tag_node, Tr.left_node, Tr.right_node, t1, t2]
      rw [u64_small (by omega) (by omega)]
      simp; omega
    have e2 : avlBadTree (.node b l k v g r) = false := by
      simp only [avlBadTree, Tr.left_node, Tr.right_node, t1, t2]
      rw [u64_small (by omega) (by omega)]
      simp; omega
    rw [avlMay_node, m1, m2, e1, e2]
    rfl
theorem AvlH.of_may : ∀ {t : Tr}, avlMay t = true → TagsOk t → t.count < 1000000 → AvlH t t.ht
  | .nil, _, _, _ => rfl
  | .node b l k v g r, hm, ho, hc => by
    obtain ⟨e, -, h3⟩ := may_ht (.node b l k v g r) hm ho hc
    rw [avlMay_node] at hm
    simp only [Bool.and_eq_true] at hm
    rw [Tr.count_node] at hc
    have h4 := h3 (by simp)
    simp only [Tr.left_node, Tr.right_node] at h4
    exact ⟨l.ht, r.ht, AvlH.of_may hm.1.2 ho.2.2.1 (by omega), AvlH.of_may hm.2 ho.2.2.2 (by omega), rfl, e, by omega, by omega⟩

theorem mk_avl {s : Bool} {b : Nat} {i o : Tr} {k v g : Int} (h : Nat) : AvlH (mkN s b i k v g o) h ↔ ∃ p q, AvlH i p ∧ AvlH o q ∧ h = 1 + max p q ∧ g = h ∧ p ≤ q + 1 ∧ q ≤ p + 1 := by
  cases s
  · constructor
    · rintro ⟨p, q, h1, h2, h3, h4, h5, h6⟩; exact ⟨q, p, h2, h1, by omega, h4, h6, h5⟩
    · rintro ⟨p, q, h1, h2, h3, h4, h5, h6⟩; exact ⟨q, p, h2, h1, by omega, h4, h6, h5⟩
  · exact Iff.rfl
theorem avlTag_comm (l r : Tr) : avlTag l r = avlTag r l := by unfold avlTag; rw [Int.max_comm]
theorem avlTag_h {l r : Tr} {p q : Nat} (hl : AvlH l p) (hr : AvlH r q) (hp : p < 1000000) (hq : q < 1000000) : avlTag l r = ((1 + max p q : Nat) : Int) := by
  unfold avlTag
  rw [hl.tag, hr.tag, u64_small (by omega) (by omega)]
  omega
/-- a node of two trees in balance. -/
theorem mk_bal {s : Bool} {b : Nat} {i o : Tr} {k v : Int} {p q : Nat} (hi : AvlH i p) (ho : AvlH o q) (h1 : p ≤ q + 1) (h2 : q ≤ p + 1) (hp : p < 1000000) (hq : q < 1000000) :
    AvlH (mkN s b i k v (avlTag i o) o) (1 + max p q) := (mk_avl _).2 ⟨p, q, hi, ho, rfl, avlTag_h hi ho hp hq, h1, h2⟩

/-- what becomes of a tree t, if a pair and a lower one hang on its outer side. -/
structure HangOk (n : Nat) (s : Bool) (t low : Tr) (k v : Int) (T : Tr) : Prop where
  ex : ∃ h, AvlH T h ∧ (h = t.ht ∨ (h = t.ht + 1 ∧ (inOf s T).ht < (outOf s T).ht)) ∧ T.news n + low.ht ≤ t.ht + 1
  kvs : T.kvs = both s t.kvs [(k, v)] low.kvs
  old : ∀ x ∈ T.pre, x.blk < n → x ∈ t.pre ∨ x ∈ low.pre
  top : n ≤ T.blk
  nn : T ≠ .nil

section
variable {n : Nat} {s : Bool} {b : Nat} {i o low : Tr} {k v g pk pv : Int} {p q r : Nat}
/-- at the bottom: the pair and the lower tree, under what lay outward. -/
theorem hang_base (bx : Nat) (ho : AvlH o q) (hl : AvlH low r) (hq : q < 1000000) (hr : r < 1000000) (h1 : q ≤ r + 1) (h2 : r ≤ q) (no : o.news n = 0) (nl : low.news n = 0) (hb : n ≤ bx) :
    AvlH (mkN s bx o pk pv (avlTag o low) low) (q + 1) ∧ (mkN s bx o pk pv (avlTag o low) low).news n + r ≤ q + 1 ∧ (mkN s bx o pk pv (avlTag o low) low).kvs = both s o.kvs [(pk, pv)] low.kvs ∧
    ∀ x ∈ (mkN s bx o pk pv (avlTag o low) low).pre, x.blk < n → x ∈ o.pre ∨ x ∈ low.pre := by
  refine ⟨?_, ?_, mk_kvs, fun x hx hn => ?_⟩
  · have := mk_bal (s := s) (b := bx) (k := pk) (v := pv) ho hl h1 (by omega) hq hr
    rwa [show 1 + max q r = q + 1 by omega] at this
  · rw [mk_news, no, nl, if_pos hb]; omega
  · rcases (mk_pre x).1 hx with rfl | h | h
    · rw [mk_blk] at hn; omega
    · exact .inl h
    · exact .inr h
/-- no turn. -/
theorem hang_plain {x : Tr} {hx : Nat} (bt : Nat) (hi : AvlH i p) (ho : AvlH o q) (hl : AvlH low r) (h1 : p ≤ q + 1) (h2 : q ≤ p + 1) (hp : p < 100000) (hxx : AvlH x hx) (hle : hx ≤ p + 1) (hor : hx = q ∨ hx = q + 1)
    (hn : x.news n + r ≤ q + 1) (hk : x.kvs = both s o.kvs [(pk, pv)] low.kvs) (hold : ∀ y ∈ x.pre, y.blk < n → y ∈ o.pre ∨ y ∈ low.pre) (ni : i.news n = 0) (hb : n ≤ bt) :
    HangOk n s (mkN s b i k v g o) low pk pv (mkN s bt i k v (avlTag i x) x) := by
  have hm := mk_bal (s := s) (b := bt) (k := k) (v := v) hi hxx (by omega) hle (by omega) (by omega)
  refine ⟨⟨_, hm, ?_, ?_⟩, ?_, fun y hy hyn => ?_, by rw [mk_blk]; exact hb, mk_nn⟩
  · rw [mk_ht, inOf_mk, outOf_mk, hi.ht, ho.ht, hxx.ht]; omega
  · rw [mk_news, ni, if_pos hb, mk_ht, hi.ht, ho.ht, hl.ht]; omega
  · rw [mk_kvs, mk_kvs, hk, both_out]
  · rcases (mk_pre y).1 hy with rfl | h | h
    · rw [mk_blk] at hyn; omega
    · exact .inl ((mk_pre y).2 (.inr (.inl h)))
    · rcases hold y h hyn with h | h
      · exact .inl ((mk_pre y).2 (.inr (.inr h)))
      · exact .inr h
/-- one turn. -/
theorem hang_turn {xi xo : Tr} {xk xv xg : Int} {bx hx : Nat} (b3 b4 : Nat) (hi : AvlH i p) (ho : AvlH o q) (hl : AvlH low r) (h1 : p ≤ q + 1) (h2 : q ≤ p + 1) (hp : p < 100000) (hxx : AvlH (mkN s bx xi xk xv xg xo) hx) (hgt : p + 1 < hx)
    (hor : hx = q ∨ (hx = q + 1 ∧ xi.ht < xo.ht)) (hn : (mkN s bx xi xk xv xg xo).news n + r ≤ q + 1) (hbx : n ≤ bx) (hk : (mkN s bx xi xk xv xg xo).kvs = both s o.kvs [(pk, pv)] low.kvs)
    (hold : ∀ y ∈ (mkN s bx xi xk xv xg xo).pre, y.blk < n → y ∈ o.pre ∨ y ∈ low.pre) (ni : i.news n = 0) (hb3 : n ≤ b3) (hb4 : n ≤ b4) :
    HangOk n s (mkN s b i k v g o) low pk pv (mkN s b4 (mkN s b3 i k v (avlTag i xi) xi) xk xv (avlTag (mkN s b3 i k v (avlTag i xi) xi) xo) xo) := by
  obtain ⟨a, c, ha, hc, e1, e2, e3, e4⟩ := (mk_avl _).1 hxx
  have hac : hx = q + 1 ∧ a < c := by
    rcases hor with h | ⟨h, h'⟩
    · omega
    · rw [ha.ht, hc.ht] at h'; exact ⟨h, h'⟩
  obtain ⟨hq1, hlt⟩ := hac
  have m3 := mk_bal (s := s) (b := b3) (k := k) (v := v) hi ha (by omega) (by omega) (by omega) (by omega)
  have m4 := mk_bal (s := s) (b := b4) (k := xk) (v := xv) m3 hc (by omega) (by omega) (by omega) (by omega)
  rw [mk_news, if_pos hbx] at hn
  refine ⟨⟨_, m4, ?_, ?_⟩, ?_, fun y hy hyn => ?_, by rw [mk_blk]; exact hb4, mk_nn⟩
  · rw [mk_ht, hi.ht, ho.ht]; omega
  · rw [mk_news, mk_news, ni, if_pos hb3, if_pos hb4, mk_ht, hi.ht, ho.ht, hl.ht]; omega
  · rw [mk_kvs] at hk
    rw [mk_kvs, mk_kvs, mk_kvs, ← both_out, hk, both_out]
  · have hin : ∀ z, z ∈ xi.pre ∨ z ∈ xo.pre → z.blk < n → z ∈ (mkN s b i k v g o).pre ∨ z ∈ low.pre := fun z hz hzn => by
      rcases hold z ((mk_pre z).2 (.inr hz)) hzn with h | h
      · exact .inl ((mk_pre z).2 (.inr (.inr h)))
      · exact .inr h
    rcases (mk_pre y).1 hy with rfl | h | h
    · rw [mk_blk] at hyn; omega
    · rcases (mk_pre y).1 h with rfl | h | h
      · rw [mk_blk] at hyn; omega
      · exact .inl ((mk_pre y).2 (.inr (.inl h)))
      · exact hin y (.inl h) hyn
    · exact hin y (.inr h) hyn
/-- two turns, at the bottom. -/
theorem hang_two {oi oo : Tr} {ok ov og : Int} {bo : Nat} (b3 b4 b5 : Nat) (hi : AvlH i p) (ho : AvlH (mkN s bo oi ok ov og oo) q) (hl : AvlH low r) (h1 : p ≤ q + 1) (h2 : q ≤ p + 1) (hp : p < 100000) (hr : r + 1 < 1 + max p q) (hbase : q ≤ r + 1) (hgt : p + 1 < q + 1)
    (ni : i.news n = 0) (no : (mkN s bo oi ok ov og oo).news n = 0) (nl : low.news n = 0) (hb3 : n ≤ b3) (hb4 : n ≤ b4) (hb5 : n ≤ b5) :
    HangOk n s (mkN s b i k v g (mkN s bo oi ok ov og oo)) low pk pv (mkN s b5 (mkN s b4 i k v (avlTag i oi) oi) ok ov (avlTag (mkN s b4 i k v (avlTag i oi) oi) (mkN s b3 oo pk pv (avlTag oo low) low)) (mkN s b3 oo pk pv (avlTag oo low) low)) := by
  have hot := ho.ht
  obtain ⟨a, c, ha, hc, e1, e2, e3, e4⟩ := (mk_avl _).1 ho
  have m3 := mk_bal (s := s) (b := b3) (k := pk) (v := pv) hc hl (by omega) (by omega) (by omega) (by omega)
  have m4 := mk_bal (s := s) (b := b4) (k := k) (v := v) hi ha (by omega) (by omega) (by omega) (by omega)
  have m5 := mk_bal (s := s) (b := b5) (k := ok) (v := ov) m4 m3 (by omega) (by omega) (by omega) (by omega)
  rw [mk_news] at no
  refine ⟨⟨_, m5, ?_, ?_⟩, ?_, fun y hy hyn => ?_, by rw [mk_blk]; exact hb5, mk_nn⟩
  · rw [mk_ht, hi.ht, hot]; omega
  · rw [mk_news, mk_news, mk_news, ni, nl, if_pos hb3, if_pos hb4, if_pos hb5, mk_ht, hi.ht, hot, hl.ht]; omega
  · simp only [mk_kvs, both_out]
  · have hin : ∀ z, z ∈ oi.pre ∨ z ∈ oo.pre → z ∈ (mkN s b i k v g (mkN s bo oi ok ov og oo)).pre ∨ z ∈ low.pre := fun z hz =>
      .inl ((mk_pre z).2 (.inr (.inr ((mk_pre z).2 (.inr hz)))))
    rcases (mk_pre y).1 hy with rfl | h | h
    · rw [mk_blk] at hyn; omega
    · rcases (mk_pre y).1 h with rfl | h | h
      · rw [mk_blk] at hyn; omega
      · exact .inl ((mk_pre y).2 (.inr (.inl h)))
      · exact hin y (.inl h)
    · rcases (mk_pre y).1 h with rfl | h | h
      · rw [mk_blk] at hyn; omega
      · exact hin y (.inr h)
      · exact .inr h
end

/-- what a join of two trees is. -/
structure JoinOk (n : Nat) (l r : Tr) (k v : Int) (T : Tr) : Prop where
  ex : ∃ h, AvlH T h ∧ (h = max l.ht r.ht ∨ h = max l.ht r.ht + 1) ∧ T.news n + min l.ht r.ht ≤ max l.ht r.ht + 1
  kvs : T.kvs = l.kvs ++ (k, v) :: r.kvs
  old : ∀ x ∈ T.pre, x.blk < n → x ∈ l.pre ∨ x ∈ r.pre
  top : n ≤ T.blk
  nn : T ≠ .nil
theorem join_right {n : Nat} {l r : Tr} {k v : Int} {T : Tr} (h : HangOk n true l r k v T) (hlt : r.ht + 1 < l.ht) : JoinOk n l r k v T := by
  obtain ⟨⟨x, h1, h2, h3⟩, h4, h5, h6, h7⟩ := h
  exact ⟨⟨x, h1, by omega, by omega⟩, by rw [h4]; simp [both], h5, h6, h7⟩
theorem join_left {n : Nat} {l r : Tr} {k v : Int} {T : Tr} (h : HangOk n false r l k v T) (hlt : l.ht + 1 < r.ht) : JoinOk n l r k v T := by
  obtain ⟨⟨x, h1, h2, h3⟩, h4, h5, h6, h7⟩ := h
  exact ⟨⟨x, h1, by omega, by omega⟩, by rw [h4]; simp [both], fun y hy hn => (h5 y hy hn).symm, h6, h7⟩
theorem join_even {n : Nat} {l r : Tr} {k v : Int} {p q : Nat} (b : Nat) (hl : AvlH l p) (hr : AvlH r q) (h1 : p ≤ q + 1) (h2 : q ≤ p + 1) (hp : p < 100000) (nl : l.news n = 0) (nr : r.news n = 0) (hb : n ≤ b) : JoinOk n l r k v (.node b l k v (avlTag l r) r) := by
  have hm := mk_bal (s := true) (b := b) (k := k) (v := v) hl hr h1 h2 (by omega) (by omega)
  refine ⟨⟨_, hm, by rw [hl.ht, hr.ht]; omega, ?_⟩, by simp [Tr.kvs], fun x hx hn => ?_, hb, by simp⟩
  · rw [Tr.news, nl, nr, if_pos hb, hl.ht, hr.ht]; omega
  · rcases (mk_pre (s := true) x).1 hx with rfl | h | h
    · have : (mkN true b l k v (avlTag l r) r).blk = b := mk_blk
      omega
    · exact .inl h
    · exact .inr h
end Go.Proofs.Ytkbndpemljommaa
