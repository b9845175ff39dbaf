/- AVL trees by their heights; a side of a node; what becomes of a tree on whose outer side another one hangs (plain, no program). avljoin: its sides, the turns, hang, Join, Most. -/
import Derived.Test.YtoiohjifjmejkaaGreatM3
import Derived.Test.YtoiohjifjmejkaaGreatM9
import Derived.Test.YtoiohjifjmejkaaGreatM10
namespace Go.Proofs.YtoiohjifjmejkaaGreat
open Go Go.RowKit

/-- a tree in balance, of a height, well tagged. -/
def AvlH : Tr → Nat → Prop
  | .nil, h => h = 0
  | .node _ l _ _ g r, h => ∃ p q, AvlH l p ∧ AvlH r q ∧ h = 1 + max p q ∧ g = h ∧ p ≤ q + 1 ∧ q ≤ p + 1
theorem AvlH.ht : ∀ {t : Tr} {h : Nat}, AvlH t h → t.ht = h
  | .nil, _, e => e.symm
  | .node _ l _ _ g r, h, ⟨p, q, hp, hq, e, _⟩ => by rw [Tr.ht, AvlH.ht hp, AvlH.ht hq, e]
theorem AvlH.tag : ∀ {t : Tr} {h : Nat}, AvlH t h → t.tag = h
  | .nil, _, e => by rw [show _ = 0 from e]; rfl
  | .node _ l _ _ g r, h, ⟨p, q, hp, hq, e, eg, _⟩ => eg
theorem AvlH.may : ∀ {t : Tr} {h : Nat}, AvlH t h → h < 1000000 → avlMay t = true ∧ TagsOk t
  | .nil, _, _, _ => ⟨rfl, trivial⟩
  | .node b l k v g r, h, ⟨p, q, hp, hq, e, eg, h1, h2⟩, hh => by
    obtain ⟨m1, o1⟩ := AvlH.may hp (by omega)
    obtain ⟨m2, o2⟩ := AvlH.may hq (by omega)
    refine ⟨?_, by omega, by omega, o1, o2⟩
    have t1 := hp.tag
    have t2 := hq.tag
    have e1 : avlBadTag (.node b l k v g r) = false := by
      simp only [avlBadTag, Tr.tag_node, Tr.left_node, Tr.right_node, t1, t2]
      rw [u64_small (by omega) (by omega)]
      simp; omega
    have e2 : avlBadTree (.node b l k v g r) = false := by
      simp only [avlBadTree, Tr.left_node, Tr.right_node, t1, t2]
      rw [u64_small (by omega) (by omega)]
      simp; omega
    rw [avlMay_node, m1, m2, e1, e2]
    rfl
theorem AvlH.of_may : ∀ {t : Tr}, avlMay t = true → TagsOk t → t.count < 1000000 → AvlH t t.ht
  | .nil, _, _, _ => rfl
  | .node b l k v g r, hm, ho, hc => by
    obtain ⟨e, -, h3⟩ := may_ht (.node b l k v g r) hm ho hc
    rw [avlMay_node] at hm
    simp only [Bool.and_eq_true] at hm
    rw [Tr.count_node] at hc
    have h4 := h3 (by simp)
    simp only [Tr.left_node, Tr.right_node] at h4
    exact ⟨l.ht, r.ht, AvlH.of_may hm.1.2 ho.2.2.1 (by omega), AvlH.of_may hm.2 ho.2.2.2 (by omega), rfl, e, by omega, by omega⟩

theorem mk_avl {s : Bool} {b : Nat} {i o : Tr} {k v g : Int} (h : Nat) : AvlH (mkN s b i k v g o) h ↔ ∃ p q, AvlH i p ∧ AvlH o q ∧ h = 1 + max p q ∧ g = h ∧ p ≤ q + 1 ∧ q ≤ p + 1 := by
  cases s
  · constructor
    · rintro ⟨p, q, h1, h2, h3, h4, h5, h6⟩; exact ⟨q, p, h2, h1, by omega, h4, h6, h5⟩
    · rintro ⟨p, q, h1, h2, h3, h4, h5, h6⟩; exact ⟨q, p, h2, h1, by omega, h4, h6, h5⟩
  · exact Iff.rfl
theorem avlTag_comm (l r : Tr) : avlTag l r = avlTag r l := by unfold avlTag; rw [Int.max_comm]
theorem avlTag_h {l r : Tr} {p q : Nat} (hl : AvlH l p) (hr : AvlH r q) (hp : p < 1000000) (hq : q < 1000000) : avlTag l r = ((1 + max p q : Nat) : Int) := by
  unfold avlTag
  rw [hl.tag, hr.tag, u64_small (by omega) (by omega)]
  omega
/-- a node of two trees in balance. -/
theorem mk_bal {s : Bool} {b : Nat} {i o : Tr} {k v : Int} {p q : Nat} (hi : AvlH i p) (ho : AvlH o q) (h1 : p ≤ q + 1) (h2 : q ≤ p + 1) (hp : p < 1000000) (hq : q < 1000000) :
    AvlH (mkN s b i k v (avlTag i o) o) (1 + max p q) := (mk_avl _).2 ⟨p, q, hi, ho, rfl, avlTag_h hi ho hp hq, h1, h2⟩

/-- what becomes of a tree t, if a pair and a lower one hang on its outer side. -/
structure HangOk (n : Nat) (s : Bool) (t low : Tr) (k v : Int) (T : Tr) : Prop where
  ex : ∃ h, AvlH T h ∧ (h = t.ht ∨ (h = t.ht + 1 ∧ (inOf s T).ht < (outOf s T).ht)) ∧ T.news n + low.ht ≤ t.ht + 1
  kvs : T.kvs = both s t.kvs [(k, v)] low.kvs
  old : ∀ x ∈ T.pre, x.blk < n → x ∈ t.pre ∨ x ∈ low.pre
  top : n ≤ T.blk
  nn : T ≠ .nil

section
variable {n : Nat} {s : Bool} {b : Nat} {i o low : Tr} {k v g pk pv : Int} {p q r : Nat}
/-- at the bottom: the pair and the lower tree, under what lay outward. -/
theorem hang_base (bx : Nat) (ho : AvlH o q) (hl : AvlH low r) (hq : q < 1000000) (hr : r < 1000000) (h1 : q ≤ r + 1) (h2 : r ≤ q) (no : o.news n = 0) (nl : low.news n = 0) (hb : n ≤ bx) :
    AvlH (mkN s bx o pk pv (avlTag o low) low) (q + 1) ∧ (mkN s bx o pk pv (avlTag o low) low).news n + r ≤ q + 1 ∧ (mkN s bx o pk pv (avlTag o low) low).kvs = both s o.kvs [(pk, pv)] low.kvs ∧
    ∀ x ∈ (mkN s bx o pk pv (avlTag o low) low).pre, x.blk < n → x ∈ o.pre ∨ x ∈ low.pre := by
  refine ⟨?_, ?_, mk_kvs, fun x hx hn => ?_⟩
  · have := mk_bal (s := s) (b := bx) (k := pk) (v := pv) ho hl h1 (by omega) hq hr
    rwa [show 1 + max q r = q + 1 by omega] at this
  · rw [mk_news, no, nl, if_pos hb]; omega
  · rcases (mk_pre x).1 hx with rfl | h | h
    · rw [mk_blk] at hn; omega
    · exact .inl h
    · exact .inr h
/-- no turn. -/
theorem hang_plain {x : Tr} {hx : Nat} (bt : Nat) (hi : AvlH i p) (ho : AvlH o q) (hl : AvlH low r) (h1 : p ≤ q + 1) (h2 : q ≤ p + 1) (hp : p < 100000) (hxx : AvlH x hx) (hle : hx ≤ p + 1) (hor : hx = q ∨ hx = q + 1)
    (hn : x.news n + r ≤ q + 1) (hk : x.kvs = both s o.kvs [(pk, pv)] low.kvs) (hold : ∀ y ∈ x.pre, y.blk < n → y ∈ o.pre ∨ y ∈ low.pre) (ni : i.news n = 0) (hb : n ≤ bt) :
    HangOk n s (mkN s b i k v g o) low pk pv (mkN s bt i k v (avlTag i x) x) := by
  have hm := mk_bal (s := s) (b := bt) (k := k) (v := v) hi hxx (by omega) hle (by omega) (by omega)
  refine ⟨⟨_, hm, ?_, ?_⟩, ?_, fun y hy hyn => ?_, by rw [mk_blk]; exact hb, mk_nn⟩
  · rw [mk_ht, inOf_mk, outOf_mk, hi.ht, ho.ht, hxx.ht]; omega
  · rw [mk_news, ni, if_pos hb, mk_ht, hi.ht, ho.ht, hl.ht]; omega
  · rw [mk_kvs, mk_kvs, hk, both_out]
  · rcases (mk_pre y).1 hy with rfl | h | h
    · rw [mk_blk] at hyn; omega
    · exact .inl ((mk_pre y).2 (.inr (.inl h)))
    · rcases hold y h hyn with h | h
      · exact .inl ((mk_pre y).2 (.inr (.inr h)))
      · exact .inr h
/-- one turn. -/
theorem hang_turn {xi xo : Tr} {xk xv xg : Int} {bx hx : Nat} (b3 b4 : Nat) (hi : AvlH i p) (ho : AvlH o q) (hl : AvlH low r) (h1 : p ≤ q + 1) (h2 : q ≤ p + 1) (hp : p < 100000) (hxx : AvlH (mkN s bx xi xk xv xg xo) hx) (hgt : p + 1 < hx)
    (hor : hx = q ∨ (hx = q + 1 ∧ xi.ht < xo.ht)) (hn : (mkN s bx xi xk xv xg xo).news n + r ≤ q + 1) (hbx : n ≤ bx) (hk : (mkN s bx xi xk xv xg xo).kvs = both s o.kvs [(pk, pv)] low.kvs)
    (hold : ∀ y ∈ (mkN s bx xi xk xv xg xo).pre, y.blk < n → y ∈ o.pre ∨ y ∈ low.pre) (ni : i.news n = 0) (hb3 : n ≤ b3) (hb4 : n ≤ b4) :
    HangOk n s (mkN s b i k v g o) low pk pv (mkN s b4 (mkN s b3 i k v (avlTag i xi) xi) xk xv (avlTag (mkN s b3 i k v (avlTag i xi) xi) xo) xo) := by
  obtain ⟨a, c, ha, hc, e1, e2, e3, e4⟩ := (mk_avl _).1 hxx
  have hac : hx = q + 1 ∧ a < c := by
    rcases hor with h | ⟨h, h'⟩
    · omega
    · rw [ha.ht, hc.ht] at h'; exact ⟨h, h'⟩
  obtain ⟨hq1, hlt⟩ := hac
  have m3 := mk_bal (s := s) (b := b3) (k := k) (v := v) hi ha (by omega) (by omega) (by omega) (by omega)
  have m4 := mk_bal (s := s) (b := b4) (k := xk) (v := xv) m3 hc (by omega) (by omega) (by omega) (by omega)
  rw [mk_news, if_pos hbx] at hn
  refine ⟨⟨_, m4, ?_, ?_⟩, ?_, fun y hy hyn => ?_, by rw [mk_blk]; exact hb4, mk_nn⟩
  · rw [mk_ht, hi.ht, ho.ht]; omega
  · rw [mk_news, mk_news, ni, if_pos hb3, if_pos hb4, mk_ht, hi.ht, ho.ht, hl.ht]; omega
  · rw [mk_kvs] at hk
    rw [mk_kvs, mk_kvs, mk_kvs, ← both_out, hk, both_out]
  · have hin : ∀ z, z ∈ xi.pre ∨ z ∈ xo.pre → z.blk < n → z ∈ (mkN s b i k v g o).pre ∨ z ∈ low.pre := fun z hz hzn => by
      rcases hold z ((mk_pre z).2 (.inr hz)) hzn with h | h
      · exact .inl ((mk_pre z).2 (.inr (.inr h)))
      · exact .inr h
    rcases (mk_pre y).1 hy with rfl | h | h
    · rw [mk_blk] at hyn; omega
    · rcases (mk_pre y).1 h with rfl | h | h
      · rw [mk_blk] at hyn; omega
      · exact .inl ((mk_pre y).2 (.inr (.inl h)))
      · exact hin y (.inl h) hyn
    · exact hin y (.inr h) hyn
/-- two turns, at the bottom. -/
theorem hang_two {oi oo : Tr} {ok ov og : Int} {bo : Nat} (b3 b4 b5 : Nat) (hi : AvlH i p) (ho : AvlH (mkN s bo oi ok ov og oo) q) (hl : AvlH low r) (h1 : p ≤ q + 1) (h2 : q ≤ p + 1) (hp : p < 100000) (hr : r + 1 < 1 + max p q) (hbase : q ≤ r + 1) (hgt : p + 1 < q + 1)
    (ni : i.news n = 0) (no : (mkN s bo oi ok ov og oo).news n = 0) (nl : low.news n = 0) (hb3 : n ≤ b3) (hb4 : n ≤ b4) (hb5 : n ≤ b5) :
    HangOk n s (mkN s b i k v g (mkN s bo oi ok ov og oo)) low pk pv (mkN s b5 (mkN s b4 i k v (avlTag i oi) oi) ok ov (avlTag (mkN s b4 i k v (avlTag i oi) oi) (mkN s b3 oo pk pv (avlTag oo low) low)) (mkN s b3 oo pk pv (avlTag oo low) low)) := by
  have hot := ho.ht
  obtain ⟨a, c, ha, hc, e1, e2, e3, e4⟩ := (mk_avl _).1 ho
  have m3 := mk_bal (s := s) (b := b3) (k := pk) (v := pv) hc hl (by omega) (by omega) (by omega) (by omega)
  have m4 := mk_bal (s := s) (b := b4) (k := k) (v := v) hi ha (by omega) (by omega) (by omega) (by omega)
  have m5 := mk_bal (s := s) (b := b5) (k := ok) (v := ov) m4 m3 (by omega) (by omega) (by omega) (by omega)
  rw [mk_news] at no
  refine ⟨⟨_, m5, ?_, ?_⟩, ?_, fun y hy hyn => ?_, by rw [mk_blk]; exact hb5, mk_nn⟩
  · rw [mk_ht, hi.ht, hot]; omega
  · rw [mk_news, mk_news, mk_news, ni, nl, if_pos hb3, if_pos hb4, if_pos hb5, mk_ht, hi.ht, hot, hl.ht]; omega
  · simp only [mk_kvs, both_out]
  · have hin : ∀ z, z ∈ oi.pre ∨ z ∈ oo.pre → z ∈ (mkN s b i k v g (mkN s bo oi ok ov og oo)).pre ∨ z ∈ low.pre := fun z hz =>
      .inl ((mk_pre z).2 (.inr (.inr ((mk_pre z).2 (.inr hz)))))
    rcases (mk_pre y).1 hy with rfl | h | h
    · rw [mk_blk] at hyn; omega
    · rcases (mk_pre y).1 h with rfl | h | h
      · rw [mk_blk] at hyn; omega
      · exact .inl ((mk_pre y).2 (.inr (.inl h)))
      · exact hin y (.inl h)
    · rcases (mk_pre y).1 h with rfl | h | h
      · rw [mk_blk] at hyn; omega
      · exact hin y (.inr h)
      · exact .inr h
end

/-- what a join of two trees is. -/
structure JoinOk (n : Nat) (l r : Tr) (k v : Int) (T : Tr) : Prop where
  ex : ∃ h, AvlH T h ∧ (h = max l.ht r.ht ∨ h = max l.ht r.ht + 1) ∧ T.news n + min l.ht r.ht ≤ max l.ht r.ht + 1
  kvs : T.kvs = l.kvs ++ (k, v) :: r.kvs
  old : ∀ x ∈ T.pre, x.blk < n → x ∈ l.pre ∨ x ∈ r.pre
  top : n ≤ T.blk
  nn : T ≠ .nil
theorem join_right {n : Nat} {l r : Tr} {k v : Int} {T : Tr} (h : HangOk n true l r k v T) (hlt : r.ht + 1 < l.ht) : JoinOk n l r k v T := by
  obtain ⟨⟨x, h1, h2, h3⟩, h4, h5, h6, h7⟩ := h
  exact ⟨⟨x, h1, by omega, by omega⟩, by rw [h4]; simp [both], h5, h6, h7⟩
theorem join_left {n : Nat} {l r : Tr} {k v : Int} {T : Tr} (h : HangOk n false r l k v T) (hlt : l.ht + 1 < r.ht) : JoinOk n l r k v T := by
  obtain ⟨⟨x, h1, h2, h3⟩, h4, h5, h6, h7⟩ := h
  exact ⟨⟨x, h1, by omega, by omega⟩, by rw [h4]; simp [both], fun y hy hn => (h5 y hy hn).symm, h6, h7⟩
theorem join_even {n : Nat} {l r : Tr} {k v : Int} {p q : Nat} (b : Nat) (hl : AvlH l p) (hr : AvlH r q) (h1 : p ≤ q + 1) (h2 : q ≤ p + 1) (hp : p < 100000) (nl : l.news n = 0) (nr : r.news n = 0) (hb : n ≤ b) : JoinOk n l r k v (.node b l k v (avlTag l r) r) := by
  have hm := mk_bal (s := true) (b := b) (k := k) (v := v) hl hr h1 h2 (by omega) (by omega)
  refine ⟨⟨_, hm, by rw [hl.ht, hr.ht]; omega, ?_⟩, by simp [Tr.kvs], fun x hx hn => ?_, hb, by simp⟩
  · rw [Tr.news, nl, nr, if_pos hb, hl.ht, hr.ht]; omega
  · rcases (mk_pre (s := true) x).1 hx with rfl | h | h
    · have : (mkN true b l k v (avlTag l r) r).blk = b := mk_blk
      omega
    · exact .inl h
    · exact .inr h
end Go.Proofs.YtoiohjifjmejkaaGreat
namespace Go.Proofs.YtoiohjifjmejkaaGreat
open Go Go.RowKit

/-- the functions of a side, as the code tells them. -/
def inF (s : Bool) : Nat := if s then 36 else 37
def outF (s : Bool) : Nat := if s then 37 else 36
def mkF (s : Bool) : Nat := if s then 132 else 135
def sideV (s : Bool) : Value := .agg #[.func (.func (inF s)) #[] #[], .func (.func (outF s)) #[] #[], .func (.func (mkF s)) #[] #[]]
theorem call_in (s : Bool) (a : Array Value) (w : World) : (callFunc (inF s) a).run Tryz.prog w = .ok (.enter (inF s) a) w := by cases s <;> kernel_rfl
theorem call_out (s : Bool) (a : Array Value) (w : World) : (callFunc (outF s) a).run Tryz.prog w = .ok (.enter (outF s) a) w := by cases s <;> kernel_rfl
theorem call_mk (s : Bool) (a : Array Value) (w : World) : (callFunc (mkF s) a).run Tryz.prog w = .ok (.enter (mkF s) a) w := by cases s <;> kernel_rfl
theorem inS_any (s : Bool) (w : World) (t : Tr) (ht : InH w t) : Calls Tryz.prog (inF s) #[.pointer t.ptr] w (Ret (.pointer (inOf s t).ptr) w) := by
  cases s
  · exact right_any w t ht
  · exact left_any w t ht
theorem outS_any (s : Bool) (w : World) (t : Tr) (ht : InH w t) : Calls Tryz.prog (outF s) #[.pointer t.ptr] w (Ret (.pointer (outOf s t).ptr) w) := by
  cases s
  · exact left_any w t ht
  · exact right_any w t ht
theorem in_ok {w : World} {s : Bool} {t : Tr} (h : InH w t) : InH w (inOf s t) := by
  cases s
  · exact right_ok h
  · exact left_ok h
theorem out_ok {w : World} {s : Bool} {t : Tr} (h : InH w t) : InH w (outOf s t) := by
  cases s
  · exact left_ok h
  · exact right_ok h
set_option maxHeartbeats 400000 in
theorem right1_any (w : World) (i p o : Tr) (hi : InH w i) (hp : InH w p) (ho : InH w o) : Calls Tryz.prog 132 #[.pointer i.ptr, .pointer p.ptr, .pointer o.ptr] w (New i p.key p.val (avlTag i o) o w) := by
  go_enter Tryz.func132, Tryz.ntmps132
  go_wp2_with fail
  refine (key_any _ p hp).mono ?_
  rintro e w1 ⟨rfl, h1⟩
  go_wp2_with fail
  refine (val_any _ p (hp.ext h1)).mono ?_
  rintro e w2 ⟨rfl, h2⟩
  have h := h1.trans h2
  go_wp2_with fail
  refine (avlMake_any _ i o p.key p.val (hi.ext h) (ho.ext h)).mono ?_
  rintro e w3 ⟨b, rfl, hb, ht, h3⟩
  go_wp2
  go_ret
  exact ⟨b, rfl, Nat.le_trans h.size hb, ht, h.trans h3⟩
set_option maxHeartbeats 400000 in
theorem left1_any (w : World) (i p o : Tr) (hi : InH w i) (hp : InH w p) (ho : InH w o) : Calls Tryz.prog 135 #[.pointer i.ptr, .pointer p.ptr, .pointer o.ptr] w (New o p.key p.val (avlTag o i) i w) := by
  go_enter Tryz.func135, Tryz.ntmps135
  go_wp2_with fail
  refine (key_any _ p hp).mono ?_
  rintro e w1 ⟨rfl, h1⟩
  go_wp2_with fail
  refine (val_any _ p (hp.ext h1)).mono ?_
  rintro e w2 ⟨rfl, h2⟩
  have h := h1.trans h2
  go_wp2_with fail
  refine (avlMake_any _ o i p.key p.val (ho.ext h) (hi.ext h)).mono ?_
  rintro e w3 ⟨b, rfl, hb, ht, h3⟩
  go_wp2
  go_ret
  exact ⟨b, rfl, Nat.le_trans h.size hb, ht, h.trans h3⟩
/-- a new node of a side. -/
def NewS (s : Bool) (i : Tr) (k v : Int) (o : Tr) (w : World) (e : Ending) (w' : World) : Prop :=
  ∃ b, e = .returned (.pointer (mkN s b i k v (avlTag i o) o).ptr) ∧ w.heap.size ≤ b ∧ InH w' (mkN s b i k v (avlTag i o) o) ∧ Ext w w'
theorem mkS_any (s : Bool) (w : World) (i p o : Tr) (hi : InH w i) (hp : InH w p) (ho : InH w o) : Calls Tryz.prog (mkF s) #[.pointer i.ptr, .pointer p.ptr, .pointer o.ptr] w (NewS s i p.key p.val o w) := by
  cases s
  · refine (left1_any w i p o hi hp ho).mono ?_
    rintro e w1 ⟨b, h1, h2, h3, h4⟩
    rw [avlTag_comm] at h1 h3
    exact ⟨b, h1, h2, h3, h4⟩
  · exact right1_any w i p o hi hp ho
/-- what a turn inward hands back. -/
def Inw (s : Bool) (t : Tr) (w : World) (e : Ending) (w' : World) : Prop :=
  ∃ b3 b4 T3 T4, e = .returned (.pointer (T4 : Tr).ptr) ∧ w.heap.size ≤ b3 ∧ w.heap.size ≤ b4 ∧
    T3 = mkN s b3 (inOf s t) t.key t.val (avlTag (inOf s t) (inOf s (outOf s t))) (inOf s (outOf s t)) ∧
    T4 = mkN s b4 T3 (outOf s t).key (outOf s t).val (avlTag T3 (outOf s (outOf s t))) (outOf s (outOf s t)) ∧ InH w' T4 ∧ Ext w w'
set_option maxHeartbeats 1000000 in
theorem inward_any (s : Bool) (w : World) (t : Tr) (ht : InH w t) : Calls Tryz.prog 133 #[sideV s, .pointer t.ptr] w (Inw s t w) := by
  have hfn : ∀ f, Fence.wide.fn f := fun _ => trivial
  unfold sideV
  have hci := call_in s
  have hco := call_out s
  have hcm := call_mk s
  have hbox := alloc_at w (.cells #[.func (.func (inF s)) #[] #[], .func (.func (outF s)) #[] #[], .func (.func (mkF s)) #[] #[]] 162) _ rfl
  have hE := (Ext.refl w).alloc (.cells #[.func (.func (inF s)) #[] #[], .func (.func (outF s)) #[] #[], .func (.func (mkF s)) #[] #[]] 162)
  go_enter Tryz.func133, Tryz.ntmps133
  obtain ⟨m⟩ : Nonempty Nat := ⟨0⟩
  refine (wpIn_wide (n := m)).1 ?_
  gi_wp2_with fail
  generalize w.alloc (.cells #[.func (.func (inF s)) #[] #[], .func (.func (outF s)) #[] #[], .func (.func (mkF s)) #[] #[]] 162) = w1 at *
  refine ⟨wide_room _, (callsIn_wide.2 (outS_any s w1 t (ht.ext hE))).mono ?_⟩
  rintro e w2 ⟨rfl, h2⟩
  have hb2 := (h2.block _ (lt_of hbox)).trans hbox
  have hE2 := hE.trans h2
  have HT := Lib.hid (ht.ext hE2)
  clear hbox hE h2 ht
  gi_wp2_with fail
  have hc0 := cell_all (cell_of hb2 0)
  have hc1 := cell_all (cell_of hb2 1)
  have hc2 := cell_all (cell_of hb2 2)
  have hx := Ext.drew w2
  clear hb2
  refine wpIn_region_G (fun j => !(List.contains (α := Nat) [19] j)) (by kernel_rfl) ?_
  refine batchG hfn (fuel := 6) [0, 1, 2, 3, 4, 5, 6, 8, 9, 10, 11, 14, 15, 16, 17] (by kernel_rfl) rfl ?_
  repeat (go_big_quiet_step ((fail)))
  refine wpQuiet_nil ?_
  refine wpAnyG_one (j := 7) (by kernel_rfl) rfl ?_
  gi_wp2_with fail
  refine ⟨wide_room _, (callsIn_wide.2 (inS_any s _ t (HT.out.ext hx))).mono ?_⟩
  rintro e w3 ⟨rfl, h3⟩
  gi_wp2_with fail
  refine onePost_ext (h3) ?_
  have h23 := hx.trans h3
  refine wpAnyG_one (j := 12) (by kernel_rfl) rfl ?_
  gi_wp2_with fail
  refine ⟨wide_room _, (callsIn_wide.2 (inS_any s _ (outOf s t) (out_ok (HT.out.ext h23)))).mono ?_⟩
  rintro e w4 ⟨rfl, h4⟩
  gi_wp2_with fail
  refine onePost_ext (h4) ?_
  have h24 := h23.trans h4
  refine wpAnyG_one (j := 13) (by kernel_rfl) rfl ?_
  gi_wp2_with fail
  refine ⟨wide_room _, (callsIn_wide.2 (mkS_any s _ (inOf s t) t (inOf s (outOf s t)) (in_ok (HT.out.ext h24)) (HT.out.ext h24) (in_ok (out_ok (HT.out.ext h24))))).mono ?_⟩
  rintro e w5 ⟨b3, rfl, hb3, hT3, h5⟩
  obtain ⟨T3, e3⟩ : ∃ T3, T3 = mkN s b3 (inOf s t) t.key t.val (avlTag (inOf s t) (inOf s (outOf s t))) (inOf s (outOf s t)) := ⟨_, rfl⟩
  rw [← e3] at hT3 ⊢
  have E3 := Lib.hid e3
  clear e3
  gi_wp2_with fail
  refine onePost_ext (h5) ?_
  have h25 := h24.trans h5
  refine wpAnyG_one (j := 18) (by kernel_rfl) rfl ?_
  gi_wp2_with fail
  refine ⟨wide_room _, (callsIn_wide.2 (outS_any s _ (outOf s t) (out_ok (HT.out.ext h25)))).mono ?_⟩
  rintro e w6 ⟨rfl, h6⟩
  gi_wp2_with fail
  refine onePost_ext (h6) ?_
  have h26 := h25.trans h6
  refine wpAnyG_one (j := 19) (by kernel_rfl) rfl ?_
  gi_wp2_with fail
  refine ⟨wide_room _, (callsIn_wide.2 (mkS_any s _ T3 (outOf s t) (outOf s (outOf s t)) (hT3.ext h6) (out_ok (HT.out.ext h26)) (out_ok (out_ok (HT.out.ext h26))))).mono ?_⟩
  rintro e w7 ⟨b4, rfl, hb4, hT4, h7⟩
  gi_wp2_with fail
  refine onePost_any (by kernel_rfl) ?_
  refine batchG hfn (fuel := 0) [20] (by kernel_rfl) rfl ?_
  repeat (go_big_quiet_step ((fail)))
  refine wpQuiet_nil ?_
  refine wpAnyG_done (by kernel_rfl) ?_
  refine calmQ_normal ?_
  gi_wp2
  go_ret
  exact ⟨b3, b4, T3, _, rfl, Nat.le_trans hE2.size (Nat.le_trans h24.size hb3), Nat.le_trans hE2.size (Nat.le_trans h26.size hb4), E3.out, rfl, hT4, hE2.trans (h26.trans h7)⟩
/-- what a turn outward hands back. -/
def Outw (s : Bool) (t : Tr) (w : World) (e : Ending) (w' : World) : Prop :=
  ∃ b3 b4 T3 T4, e = .returned (.pointer (T4 : Tr).ptr) ∧ w.heap.size ≤ b3 ∧ w.heap.size ≤ b4 ∧
    T3 = mkN s b3 (outOf s (inOf s t)) t.key t.val (avlTag (outOf s (inOf s t)) (outOf s t)) (outOf s t) ∧
    T4 = mkN s b4 (inOf s (inOf s t)) (inOf s t).key (inOf s t).val (avlTag (inOf s (inOf s t)) T3) T3 ∧ InH w' T4 ∧ Ext w w'
set_option maxHeartbeats 1000000 in
theorem outward_any (s : Bool) (w : World) (t : Tr) (ht : InH w t) : Calls Tryz.prog 134 #[sideV s, .pointer t.ptr] w (Outw s t w) := by
  have hfn : ∀ f, Fence.wide.fn f := fun _ => trivial
  unfold sideV
  have hci := call_in s
  have hco := call_out s
  have hcm := call_mk s
  have hbox := alloc_at w (.cells #[.func (.func (inF s)) #[] #[], .func (.func (outF s)) #[] #[], .func (.func (mkF s)) #[] #[]] 162) _ rfl
  have hE := (Ext.refl w).alloc (.cells #[.func (.func (inF s)) #[] #[], .func (.func (outF s)) #[] #[], .func (.func (mkF s)) #[] #[]] 162)
  go_enter Tryz.func134, Tryz.ntmps134
  obtain ⟨m⟩ : Nonempty Nat := ⟨0⟩
  refine (wpIn_wide (n := m)).1 ?_
  gi_wp2_with fail
  generalize w.alloc (.cells #[.func (.func (inF s)) #[] #[], .func (.func (outF s)) #[] #[], .func (.func (mkF s)) #[] #[]] 162) = w1 at *
  refine ⟨wide_room _, (callsIn_wide.2 (inS_any s w1 t (ht.ext hE))).mono ?_⟩
  rintro e w2 ⟨rfl, h2⟩
  have hb2 := (h2.block _ (lt_of hbox)).trans hbox
  have hE2 := hE.trans h2
  have HT := Lib.hid (ht.ext hE2)
  clear hbox hE h2 ht
  gi_wp2_with fail
  have hc0 := cell_all (cell_of hb2 0)
  have hc1 := cell_all (cell_of hb2 1)
  have hc2 := cell_all (cell_of hb2 2)
  have hx := Ext.drew w2
  clear hb2
  refine wpIn_region_G (fun j => !(List.contains (α := Nat) [19] j)) (by kernel_rfl) ?_
  refine batchG hfn (fuel := 6) [0, 1, 2, 3, 4, 6, 7, 8, 9, 10, 11, 13, 14, 15, 16] (by kernel_rfl) rfl ?_
  repeat (go_big_quiet_step ((fail)))
  refine wpQuiet_nil ?_
  refine wpAnyG_one (j := 5) (by kernel_rfl) rfl ?_
  gi_wp2_with fail
  refine ⟨wide_room _, (callsIn_wide.2 (inS_any s _ (inOf s t) (in_ok (HT.out.ext hx)))).mono ?_⟩
  rintro e w3 ⟨rfl, h3⟩
  gi_wp2_with fail
  refine onePost_ext (h3) ?_
  have h23 := hx.trans h3
  refine wpAnyG_one (j := 12) (by kernel_rfl) rfl ?_
  gi_wp2_with fail
  refine ⟨wide_room _, (callsIn_wide.2 (outS_any s _ (inOf s t) (in_ok (HT.out.ext h23)))).mono ?_⟩
  rintro e w4 ⟨rfl, h4⟩
  gi_wp2_with fail
  refine onePost_ext (h4) ?_
  have h24 := h23.trans h4
  refine wpAnyG_one (j := 17) (by kernel_rfl) rfl ?_
  gi_wp2_with fail
  refine ⟨wide_room _, (callsIn_wide.2 (outS_any s _ t (HT.out.ext h24))).mono ?_⟩
  rintro e w5 ⟨rfl, h5⟩
  gi_wp2_with fail
  refine onePost_ext (h5) ?_
  have h25 := h24.trans h5
  refine wpAnyG_one (j := 18) (by kernel_rfl) rfl ?_
  gi_wp2_with fail
  refine ⟨wide_room _, (callsIn_wide.2 (mkS_any s _ (outOf s (inOf s t)) t (outOf s t) (out_ok (in_ok (HT.out.ext h25))) (HT.out.ext h25) (out_ok (HT.out.ext h25)))).mono ?_⟩
  rintro e w6 ⟨b3, rfl, hb3, hT3, h6⟩
  obtain ⟨T3, e3⟩ : ∃ T3, T3 = mkN s b3 (outOf s (inOf s t)) t.key t.val (avlTag (outOf s (inOf s t)) (outOf s t)) (outOf s t) := ⟨_, rfl⟩
  rw [← e3] at hT3 ⊢
  have E3 := Lib.hid e3
  clear e3
  gi_wp2_with fail
  refine onePost_ext (h6) ?_
  have h26 := h25.trans h6
  refine wpAnyG_one (j := 19) (by kernel_rfl) rfl ?_
  gi_wp2_with fail
  refine ⟨wide_room _, (callsIn_wide.2 (mkS_any s _ (inOf s (inOf s t)) (inOf s t) T3 (in_ok (in_ok (HT.out.ext h26))) (in_ok (HT.out.ext h26)) hT3)).mono ?_⟩
  rintro e w7 ⟨b4, rfl, hb4, hT4, h7⟩
  gi_wp2_with fail
  refine onePost_any (by kernel_rfl) ?_
  refine batchG hfn (fuel := 0) [20] (by kernel_rfl) rfl ?_
  repeat (go_big_quiet_step ((fail)))
  refine wpQuiet_nil ?_
  refine wpAnyG_done (by kernel_rfl) ?_
  refine calmQ_normal ?_
  gi_wp2
  go_ret
  exact ⟨b3, b4, T3, _, rfl, Nat.le_trans hE2.size (Nat.le_trans h25.size hb3), Nat.le_trans hE2.size (Nat.le_trans h26.size hb4), E3.out, rfl, hT4, hE2.trans (h26.trans h7)⟩
end Go.Proofs.YtoiohjifjmejkaaGreat
