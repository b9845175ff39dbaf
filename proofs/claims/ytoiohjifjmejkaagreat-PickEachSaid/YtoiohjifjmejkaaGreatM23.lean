/- Weight-balanced trees; what becomes of a tree on whose outer side a lighter one hangs (plain, no program). wbjoin: its sides, make, once, twice. -/
import Derived.Test.YtoiohjifjmejkaaGreatM3
import Derived.Test.YtoiohjifjmejkaaGreatM22
namespace Go.Proofs.YtoiohjifjmejkaaGreat
open Go Go.RowKit

/-- two weights are alike. -/
def lk (a b : Nat) : Prop := 29 * (a + b) ≤ 100 * a ∧ 29 * (a + b) ≤ 100 * b
theorem likeB_lk {a b : Nat} (ha : 1 ≤ a) (hb : 1 ≤ b) (ha' : a ≤ 1000000) (hb' : b ≤ 1000000) : likeB (a : Int) (b : Int) = true ↔ lk a b := by
  unfold likeB withinB lk
  simp only [Bool.and_eq_true, decide_eq_true_eq]
  omega
theorem likeB_not {a b : Nat} (ha : 1 ≤ a) (hb : 1 ≤ b) (ha' : a ≤ 1000000) (hb' : b ≤ 1000000) (h : ¬ lk a b) : likeB (a : Int) (b : Int) = false := by
  cases hl : likeB (a : Int) (b : Int) with
  | false => rfl
  | true => exact (h ((likeB_lk ha hb ha' hb').1 hl)).elim
/-- a tree in balance by weights. -/
def WbH : Tr → Prop
  | .nil => True
  | .node _ l _ _ g r => g = 0 ∧ WbH l ∧ WbH r ∧ lk (l.count + 1) (r.count + 1)
theorem WbH.may : ∀ {T : Tr}, WbH T → T.count ≤ 100000 → wbMay T = true
  | .nil, _, _ => rfl
  | .node b l k v g r, ⟨hg, hl, hr, hk⟩, hc => by
    rw [Tr.count_node] at hc
    rw [wbMay_node, WbH.may hl (by omega), WbH.may hr (by omega)]
    have e : wbOne (.node b l k v g r) = if g = 0 then (if likeB (wt l) (wt r) then 0 else 8) else 140 := rfl
    rw [e, if_pos hg, wt_count l (by omega), wt_count r (by omega), if_pos ((likeB_lk (by omega) (by omega) (by omega) (by omega)).2 hk)]
    rfl
theorem WbH.of_may : ∀ {T : Tr}, wbMay T = true → T.count ≤ 100000 → WbH T
  | .nil, _, _ => trivial
  | .node b l k v g r, hm, hc => by
    obtain ⟨h0, h1, h2, h3⟩ := wb_sides hm
    rw [Tr.count_node] at hc
    rw [wt_count l (by omega), wt_count r (by omega)] at h1
    exact ⟨h0, WbH.of_may h2 (by omega), WbH.of_may h3 (by omega), (likeB_lk (by omega) (by omega) (by omega) (by omega)).1 h1⟩
theorem lk_comm {a b : Nat} (h : lk a b) : lk b a := ⟨by have := h.2; omega, by have := h.1; omega⟩
section
variable {s : Bool} {b : Nat} {i o : Tr} {k v g : Int}
theorem mk_wb : WbH (mkN s b i k v g o) ↔ g = 0 ∧ WbH i ∧ WbH o ∧ lk (i.count + 1) (o.count + 1) := by
  cases s
  · exact ⟨fun ⟨h0, h1, h2, h3⟩ => ⟨h0, h2, h1, lk_comm h3⟩, fun ⟨h0, h1, h2, h3⟩ => ⟨h0, h2, h1, lk_comm h3⟩⟩
  · exact Iff.rfl
end
/-- so many levels down. -/
def Lev (k L W : Nat) : Prop := k = 0 ∨ 71 * (L * 100 ^ (k - 1)) < 29 * (W * 71 ^ (k - 1))
theorem lev_up {k L W o : Nat} (h : Lev k L o) (ho : 100 * o ≤ 71 * W) (hL : 71 * L < 29 * W) : Lev (k + 1) L W := by
  right
  rw [Nat.add_sub_cancel]
  rcases h with rfl | h
  · simpa using hL
  · rcases Nat.eq_zero_or_pos k with rfl | hk
    · simpa using hL
    · obtain ⟨j, rfl⟩ : ∃ j, k = j + 1 := ⟨k - 1, by omega⟩
      rw [Nat.add_sub_cancel] at h
      have h1 : 100 * (o * 71 ^ j) ≤ 71 * (W * 71 ^ j) := by
        rw [← Nat.mul_assoc, ← Nat.mul_assoc]; exact Nat.mul_le_mul_right _ ho
      have e1 : L * 100 ^ (j + 1) = 100 * (L * 100 ^ j) := by rw [Nat.pow_succ, ← Nat.mul_assoc, Nat.mul_comm]
      have e2 : W * 71 ^ (j + 1) = 71 * (W * 71 ^ j) := by rw [Nat.pow_succ, ← Nat.mul_assoc, Nat.mul_comm]
      rw [e1, e2]
      omega
/-- what becomes of a tree t, if a pair and a lighter one hang on its outer side. -/
structure WHang (n : Nat) (s : Bool) (t low : Tr) (k v : Int) (T : Tr) : Prop where
  wb : WbH T
  news : ∃ d, T.news n ≤ 2 * d + 1 ∧ Lev d (low.count + 1) (t.count + 1)
  kvs : T.kvs = both s t.kvs [(k, v)] low.kvs
  old : ∀ x ∈ T.pre, x.blk < n → x ∈ t.pre ∨ x ∈ low.pre
  top : n ≤ T.blk
  nn : T ≠ .nil
theorem WHang.count {n : Nat} {s : Bool} {t low T : Tr} {k v : Int} (h : WHang n s t low k v T) : T.count = t.count + low.count + 1 := by
  rw [← Tr.kvs_count, h.kvs, ← Tr.kvs_count, ← Tr.kvs_count]
  cases s <;> simp [both] <;> omega
section
variable {n : Nat} {s : Bool} {b : Nat} {i o low : Tr} {k v g pk pv : Int}
theorem whang_base {t : Tr} (bx : Nat) (ht : WbH t) (hl : WbH low) (hk : lk (t.count + 1) (low.count + 1)) (nt : t.news n = 0) (nl : low.news n = 0) (hb : n ≤ bx) : WHang n s t low pk pv (mkN s bx t pk pv 0 low) := by
  refine ⟨mk_wb.2 ⟨rfl, ht, hl, hk⟩, ⟨0, ?_, .inl rfl⟩, mk_kvs, fun x hx hn => ?_, by rw [mk_blk]; exact hb, mk_nn⟩
  · rw [mk_news, nt, nl, if_pos hb]; omega
  · rcases (mk_pre x).1 hx with rfl | h | h
    · rw [mk_blk] at hn; omega
    · exact .inl h
    · exact .inr h
theorem side_lev {x : Tr} (hio : lk (i.count + 1) (o.count + 1)) (hx : WHang n s o low pk pv x) (hL : 71 * (low.count + 1) < 29 * (i.count + 1 + (o.count + 1))) : ∃ d, x.news n ≤ 2 * d + 1 ∧ Lev (d + 1) (low.count + 1) ((mkN s b i k v g o).count + 1) := by
  obtain ⟨d, h1, h2⟩ := hx.news
  refine ⟨d, h1, lev_up h2 ?_ ?_⟩
  · rw [mk_count]; have := hio.1; omega
  · rw [mk_count]; omega
theorem whang_plain {x : Tr} (bt : Nat) (hi : WbH i) (hio : lk (i.count + 1) (o.count + 1)) (hx : WHang n s o low pk pv x) (hL : 71 * (low.count + 1) < 29 * (i.count + 1 + (o.count + 1))) (hlk : lk (i.count + 1) (x.count + 1)) (ni : i.news n = 0) (hb : n ≤ bt) :
    WHang n s (mkN s b i k v g o) low pk pv (mkN s bt i k v 0 x) := by
  obtain ⟨d, h1, h2⟩ := side_lev (b := b) (k := k) (v := v) (g := g) hio hx hL
  refine ⟨mk_wb.2 ⟨rfl, hi, hx.wb, hlk⟩, ⟨d + 1, ?_, h2⟩, ?_, fun y hy hyn => ?_, by rw [mk_blk]; exact hb, mk_nn⟩
  · rw [mk_news, ni, if_pos hb]; omega
  · rw [mk_kvs, mk_kvs, hx.kvs, both_out]
  · rcases (mk_pre y).1 hy with rfl | h | h
    · rw [mk_blk] at hyn; omega
    · exact .inl ((mk_pre y).2 (.inr (.inl h)))
    · rcases hx.old y h hyn with h | h
      · exact .inl ((mk_pre y).2 (.inr (.inr h)))
      · exact .inr h
theorem whang_once {xi xo : Tr} {xk xv xg : Int} {bx : Nat} (b3 b4 : Nat) (hi : WbH i) (hio : lk (i.count + 1) (o.count + 1)) (hx : WHang n s o low pk pv (mkN s bx xi xk xv xg xo)) (hL : 71 * (low.count + 1) < 29 * (i.count + 1 + (o.count + 1)))
    (h1 : lk (i.count + 1) (xi.count + 1)) (h2 : lk (i.count + 1 + (xi.count + 1)) (xo.count + 1)) (ni : i.news n = 0) (hbx : n ≤ bx) (hb3 : n ≤ b3) (hb4 : n ≤ b4) :
    WHang n s (mkN s b i k v g o) low pk pv (mkN s b4 (mkN s b3 i k v 0 xi) xk xv 0 xo) := by
  obtain ⟨d, d1, d2⟩ := side_lev (b := b) (k := k) (v := v) (g := g) hio hx hL
  obtain ⟨-, x1, x2, -⟩ := mk_wb.1 hx.wb
  rw [mk_news, if_pos hbx] at d1
  refine ⟨mk_wb.2 ⟨rfl, mk_wb.2 ⟨rfl, hi, x1, h1⟩, x2, by rw [mk_count, show i.count + 1 + xi.count + 1 = i.count + 1 + (xi.count + 1) by omega]; exact h2⟩, ⟨d + 1, ?_, d2⟩, ?_, fun y hy hyn => ?_, by rw [mk_blk]; exact hb4, mk_nn⟩
  · rw [mk_news, mk_news, ni, if_pos hb3, if_pos hb4]; omega
  · have hk := hx.kvs
    simp only [mk_kvs] at hk ⊢
    rw [← both_out, hk, both_out]
  · have hin : ∀ z, z ∈ xi.pre ∨ z ∈ xo.pre → z.blk < n → z ∈ (mkN s b i k v g o).pre ∨ z ∈ low.pre := fun z hz hzn => by
      rcases hx.old z ((mk_pre z).2 (.inr hz)) hzn with h | h
      · exact .inl ((mk_pre z).2 (.inr (.inr h)))
      · exact .inr h
    rcases (mk_pre y).1 hy with rfl | h | h
    · rw [mk_blk] at hyn; omega
    · rcases (mk_pre y).1 h with rfl | h | h
      · rw [mk_blk] at hyn; omega
      · exact .inl ((mk_pre y).2 (.inr (.inl h)))
      · exact hin y (.inl h) hyn
    · exact hin y (.inr h) hyn
theorem wb_two (w o L a1 a2 b : Nat) (h1 : 29 * (w + o) ≤ 100 * w) (h2 : 29 * (w + o) ≤ 100 * o) (hL : 71 * L < 29 * (w + o)) (h4 : 29 * (w + (o + L)) > 100 * w ∨ 29 * (w + (o + L)) > 100 * (o + L)) (e : a1 + a2 + b = o + L)
    (h5 : 29 * (a1 + a2 + b) ≤ 100 * (a1 + a2)) (h6 : 29 * (a1 + a2 + b) ≤ 100 * b) (h7 : 29 * (a1 + a2) ≤ 100 * a1) (h8 : 29 * (a1 + a2) ≤ 100 * a2) (p1 : 1 ≤ w) (p2 : 1 ≤ o) (p3 : 1 ≤ L) (p4 : 1 ≤ a1) (p6 : 1 ≤ b)
    (h9 : 29 * (w + (a1 + a2)) > 100 * w ∨ 29 * (w + (a1 + a2)) > 100 * (a1 + a2) ∨ 29 * (w + (a1 + a2) + b) > 100 * (w + (a1 + a2)) ∨ 29 * (w + (a1 + a2) + b) > 100 * b) :
    29 * (w + a1) ≤ 100 * w ∧ 29 * (w + a1) ≤ 100 * a1 ∧ 29 * (a2 + b) ≤ 100 * a2 ∧ 29 * (a2 + b) ≤ 100 * b ∧ 29 * (w + a1 + (a2 + b)) ≤ 100 * (w + a1) ∧ 29 * (w + a1 + (a2 + b)) ≤ 100 * (a2 + b) := by
  refine ⟨?_, ?_, ?_, ?_, ?_, ?_⟩ <;> rcases h4 with h4 | h4 <;> rcases h9 with h9 | h9 | h9 | h9 <;> omega
theorem not_lk {a b : Nat} (h : ¬ lk a b) : 29 * (a + b) > 100 * a ∨ 29 * (a + b) > 100 * b := by unfold lk at h; omega
theorem wb_wide (w o L a b : Nat) (h1 : 29 * (w + o) ≤ 100 * w) (h2 : 29 * (w + o) ≤ 100 * o) (hL : 71 * L < 29 * (w + o)) (h4 : 29 * (w + (o + L)) > 100 * w ∨ 29 * (w + (o + L)) > 100 * (o + L)) (e : a + b = o + L)
    (h5 : 29 * (a + b) ≤ 100 * a) (p1 : 1 ≤ w) (p3 : 1 ≤ L) (h9 : 29 * (w + a) > 100 * w ∨ 29 * (w + a) > 100 * a ∨ 29 * (w + a + b) > 100 * (w + a) ∨ 29 * (w + a + b) > 100 * b) : 2 ≤ a := by
  rcases h4 with h4 | h4 <;> rcases h9 with h9 | h9 | h9 | h9 <;> omega
theorem four {a c w : Nat} (h : ¬ (lk w a ∧ lk (w + a) c)) : 29 * (w + a) > 100 * w ∨ 29 * (w + a) > 100 * a ∨ 29 * (w + a + c) > 100 * (w + a) ∨ 29 * (w + a + c) > 100 * c := by unfold lk at h; omega
/-- the inner side of what came up is a node, if one turn does not do. -/
theorem whang_mid {xi xo : Tr} {xk xv xg : Int} {bx : Nat} (hio : lk (i.count + 1) (o.count + 1)) (hx : WHang n s o low pk pv (mkN s bx xi xk xv xg xo)) (hL : 71 * (low.count + 1) < 29 * (i.count + 1 + (o.count + 1))) (hno : ¬ lk (i.count + 1) ((mkN s bx xi xk xv xg xo).count + 1))
    (h9 : ¬ (lk (i.count + 1) (xi.count + 1) ∧ lk (i.count + 1 + (xi.count + 1)) (xo.count + 1))) : xi ≠ .nil := fun h => by
  have hc := hx.count
  rw [mk_count] at hc
  rw [mk_count] at hno
  obtain ⟨-, x1, x2, x3⟩ := mk_wb.1 hx.wb
  have := wb_wide (i.count + 1) (o.count + 1) (low.count + 1) (xi.count + 1) (xo.count + 1) hio.1 hio.2 hL (by have := not_lk hno; rw [show o.count + 1 + (low.count + 1) = xi.count + 1 + xo.count + 1 by omega]; exact this) (by omega) x3.1 (by omega) (by omega) (four h9)
  rw [h] at this
  simp [Tr.count, Tr.pre] at this
theorem whang_twice {m1 m2 xo : Tr} {xk xv xg mk_ mv mg : Int} {bx bm : Nat} (b3 b4 b5 : Nat) (hi : WbH i) (hio : lk (i.count + 1) (o.count + 1)) (hx : WHang n s o low pk pv (mkN s bx (mkN s bm m1 mk_ mv mg m2) xk xv xg xo)) (hL : 71 * (low.count + 1) < 29 * (i.count + 1 + (o.count + 1)))
    (hno : ¬ lk (i.count + 1) ((mkN s bx (mkN s bm m1 mk_ mv mg m2) xk xv xg xo).count + 1)) (h9 : ¬ (lk (i.count + 1) ((mkN s bm m1 mk_ mv mg m2).count + 1) ∧ lk (i.count + 1 + ((mkN s bm m1 mk_ mv mg m2).count + 1)) (xo.count + 1)))
    (ni : i.news n = 0) (hbx : n ≤ bx) (hb3 : n ≤ b3) (hb4 : n ≤ b4) (hb5 : n ≤ b5) :
    WHang n s (mkN s b i k v g o) low pk pv (mkN s b5 (mkN s b3 i k v 0 m1) mk_ mv 0 (mkN s b4 m2 xk xv 0 xo)) := by
  obtain ⟨d, d1, d2⟩ := side_lev (b := b) (k := k) (v := v) (g := g) hio hx hL
  have hc := hx.count
  obtain ⟨-, x1, x2, x3⟩ := mk_wb.1 hx.wb
  obtain ⟨-, y1, y2, y3⟩ := mk_wb.1 x1
  rw [mk_count, mk_count] at hc hno
  rw [mk_count] at x3 h9
  rw [mk_news, if_pos hbx, mk_news] at d1
  have hno' := not_lk hno
  have h9' := four h9
  unfold lk at x3 y3 hio
  have key := wb_two (i.count + 1) (o.count + 1) (low.count + 1) (m1.count + 1) (m2.count + 1) (xo.count + 1) hio.1 hio.2 hL (by rw [show o.count + 1 + (low.count + 1) = m1.count + 1 + m2.count + 1 + xo.count + 1 by omega]; exact hno') (by omega)
    (by omega) (by omega) y3.1 y3.2 (by omega) (by omega) (by omega) (by omega) (by omega) (by rw [show m1.count + 1 + (m2.count + 1) = m1.count + 1 + m2.count + 1 by omega]; exact h9')
  obtain ⟨k1, k2, k3, k4, k5, k6⟩ := key
  refine ⟨mk_wb.2 ⟨rfl, mk_wb.2 ⟨rfl, hi, y1, k1, k2⟩, mk_wb.2 ⟨rfl, y2, x2, k3, k4⟩, ?_⟩, ⟨d + 1, ?_, d2⟩, ?_, fun y hy hyn => ?_, by rw [mk_blk]; exact hb5, mk_nn⟩
  · rw [mk_count, mk_count]; unfold lk; omega
  · rw [mk_news, mk_news, mk_news, ni, if_pos hb3, if_pos hb4, if_pos hb5]; split at d1 <;> omega
  · have hk := hx.kvs
    simp only [mk_kvs] at hk ⊢
    rw [← both_out s i.kvs [(k, v)] m1.kvs, ← both_out s i.kvs [(k, v)] o.kvs, ← hk, both_out s m1.kvs]
  · have hin : ∀ z, z ∈ m1.pre ∨ z ∈ m2.pre ∨ z ∈ xo.pre → z.blk < n → z ∈ (mkN s b i k v g o).pre ∨ z ∈ low.pre := fun z hz hzn => by
      have hz' : z ∈ (mkN s bx (mkN s bm m1 mk_ mv mg m2) xk xv xg xo).pre := (mk_pre z).2 (.inr (by
        rcases hz with h | h | h
        · exact .inl ((mk_pre z).2 (.inr (.inl h)))
        · exact .inl ((mk_pre z).2 (.inr (.inr h)))
        · exact .inr h))
      rcases hx.old z hz' hzn with h | h
      · exact .inl ((mk_pre z).2 (.inr (.inr h)))
      · exact .inr h
    rcases (mk_pre y).1 hy with rfl | h | h
    · rw [mk_blk] at hyn; omega
    · rcases (mk_pre y).1 h with rfl | h | h
      · rw [mk_blk] at hyn; omega
      · exact .inl ((mk_pre y).2 (.inr (.inl h)))
      · exact hin y (.inl h) hyn
    · rcases (mk_pre y).1 h with rfl | h | h
      · rw [mk_blk] at hyn; omega
      · exact hin y (.inr (.inl h)) hyn
      · exact hin y (.inr (.inr h)) hyn
end
/-- what a join of two trees is. -/
structure WJoinOk (n : Nat) (l r : Tr) (k v : Int) (T : Tr) : Prop where
  wb : WbH T
  news : ∃ d, T.news n ≤ 2 * d + 1 ∧ Lev d (min l.count r.count + 1) (max l.count r.count + 1)
  kvs : T.kvs = l.kvs ++ (k, v) :: r.kvs
  old : ∀ x ∈ T.pre, x.blk < n → x ∈ l.pre ∨ x ∈ r.pre
  top : n ≤ T.blk
  nn : T ≠ .nil
theorem wjoin_right {n : Nat} {l r : Tr} {k v : Int} {T : Tr} (h : WHang n true l r k v T) (hle : r.count ≤ l.count) : WJoinOk n l r k v T := by
  obtain ⟨h1, h2, h4, h5, h6, h7⟩ := h
  exact ⟨h1, by rw [Nat.min_eq_right hle, Nat.max_eq_left hle]; exact h2, by rw [h4]; simp [both], h5, h6, h7⟩
theorem wjoin_left {n : Nat} {l r : Tr} {k v : Int} {T : Tr} (h : WHang n false r l k v T) (hle : l.count ≤ r.count) : WJoinOk n l r k v T := by
  obtain ⟨h1, h2, h4, h5, h6, h7⟩ := h
  exact ⟨h1, by rw [Nat.min_eq_left hle, Nat.max_eq_right hle]; exact h2, by rw [h4]; simp [both], fun y hy hn => (h5 y hy hn).symm, h6, h7⟩
end Go.Proofs.YtoiohjifjmejkaaGreat
namespace Go.Proofs.YtoiohjifjmejkaaGreat
open Go Go.RowKit

/-- a side, as the code tells it. -/
def wsideV (s : Bool) : Value := .int .i64 (if s then 1 else 0)
theorem pset2 {w : World} {N : Nat} {T : TypeId} {a0 a1 : Value} (h : w.heap[N]? = some (.cells #[a0, a1] T (0, 0))) (b0 b1 : Value) :
    ((w.setCell ⟨N, 0, none⟩ b0).setCell ⟨N, 1, none⟩ b1).heap[N]? = some (.cells #[b0, b1] T (0, 0)) := by
  simp [World.setCell, Array.getElem?_modify, h]
theorem pext {w w1 : World} (h : Ext w w1) (j : Nat) (u : Value) : Ext w (w1.setCell ⟨w.heap.size, j, none⟩ u) := Below.setCell (B := w.heap.size) h (Nat.le_refl _) u
theorem pload2 {w : World} {N : Nat} {a b : Option Addr} (hh : w.heap[N]? = some (.cells #[.pointer a, .pointer b] 202 (0, 0))) : (loadVar 202 ⟨N, 0, none⟩).run Tryz.prog w = .ok (.agg #[.pointer a, .pointer b]) w := by
  refine run_loadVar_mid w N 0 _ [.pointer a, .pointer b] _ (fun j v hj => ?_) Tryz.underlying202 rfl (by kernel_rfl)
  rw [Nat.zero_add, cell_of hh j]
  simpa using hj
theorem presults {fn : Func} {p : Tmp} {ty : TypeId} (h : fn.results = #[.cell p ty]) (tmps : Array Value) (w : World) {x : Value} {a : Addr} (hp : tmps.getD p undef = .pointer (some a))
    (hl : (loadVar ty a).run Tryz.prog w = .ok x w) : (results fn tmps).run Tryz.prog w = .ok x w := by
  simp only [Array.getD_eq_getD_getElem?] at hp
  simp [results, h, hp, hl, asAddr]
theorem pindex0 (a b : Option Addr) (w : World) : (Instr.index 202 (.agg #[.pointer a, .pointer b]) (.int .i64 0)).run Tryz.prog w = .ok (.pointer a) w := by kernel_rfl
theorem pindex1 (a b : Option Addr) (w : World) : (Instr.index 202 (.agg #[.pointer a, .pointer b]) (.int .i64 1)).run Tryz.prog w = .ok (.pointer b) w := by kernel_rfl
theorem wbOf_any (w : World) (t : Tr) (ht : InH w t) : Calls Tryz.prog 163 #[.pointer t.ptr] w (Ret (.agg #[.pointer t.left.ptr, .pointer t.right.ptr]) w) := by
  have hnew := alloc_at w (.cells #[.pointer none, .pointer none] 202) _ rfl
  have hE := (Ext.refl w).alloc (.cells #[.pointer none, .pointer none] 202)
  go_enter Tryz.func163, Tryz.ntmps163
  go_wp2_with fail
  refine (left_any _ t (ht.ext hE)).mono ?_
  rintro e w1 ⟨rfl, h1⟩
  go_wp2_with fail
  refine (right_any _ t (ht.ext (hE.trans h1))).mono ?_
  rintro e w2 ⟨rfl, h2⟩
  have h02 := h1.trans h2
  have hnew2 := (h02.block _ (lt_of hnew)).trans hnew
  have hE2 := hE.trans h02
  have hn0 := cell_of hnew2 0
  have hn1 := cell_of hnew2 1
  have hf0 := frozen_of hnew2 0
  have hf1 := frozen_of hnew2 1
  simp at hn0 hn1
  clear hE hnew h1 h2 h02
  go_wp2
  exact bodyPost_ret (presults rfl _ _ rfl (pload2 (pset2 hnew2 _ _))) rfl (Ret.mk (pext (pext hE2 0 _) 1 _))
theorem wbAt_any (s : Bool) (w : World) (t : Tr) (ht : InH w t) : Calls Tryz.prog 147 #[wsideV s, .pointer t.ptr] w (Ret (.pointer (outOf s t).ptr) w) := by
  have hi0 := pindex0
  have hi1 := pindex1
  unfold wsideV
  cases s
  · rw [if_neg (by simp)]
    go_enter Tryz.func147, Tryz.ntmps147
    go_wp2_with fail
    refine (wbOf_any w t ht).mono ?_
    rintro e w1 ⟨rfl, h1⟩
    go_wp2
    go_ret
    exact Ret.mk h1
  · rw [if_pos rfl]
    go_enter Tryz.func147, Tryz.ntmps147
    go_wp2_with fail
    refine (wbOf_any w t ht).mono ?_
    rintro e w1 ⟨rfl, h1⟩
    go_wp2
    go_ret
    exact Ret.mk h1
theorem wbOther_any (s : Bool) (w : World) : Calls Tryz.prog 146 #[wsideV s] w (Ret (wsideV (!s)) w) := by
  unfold wsideV
  cases s
  · go_enter Tryz.func146, Tryz.ntmps146
    go_wp2
    go_ret
    exact Ret.mk (Ext.refl w)
  · go_enter Tryz.func146, Tryz.ntmps146
    go_wp2
    go_ret
    exact Ret.mk (Ext.refl w)
/-- a new node of a side. -/
def NewW (s : Bool) (i : Tr) (k v : Int) (o : Tr) (w : World) (e : Ending) (w' : World) : Prop :=
  ∃ b, e = .returned (.pointer (mkN s b i k v 0 o).ptr) ∧ w.heap.size ≤ b ∧ InH w' (mkN s b i k v 0 o) ∧ Ext w w'
theorem wbOtherL (w : World) : Calls Tryz.prog 146 #[.int .i64 0] w (Ret (.int .i64 1) w) := wbOther_any false w
theorem wbOtherR (w : World) : Calls Tryz.prog 146 #[.int .i64 1] w (Ret (.int .i64 0) w) := wbOther_any true w
set_option maxHeartbeats 1000000 in
theorem wbMk_any (s : Bool) (w : World) (i p o : Tr) (hi : InH w i) (hp : InH w p) (ho : InH w o) : Calls Tryz.prog 145 #[wsideV s, .pointer i.ptr, .pointer p.ptr, .pointer o.ptr] w (NewW s i p.key p.val o w) := by
  have hfn : ∀ f, Fence.wide.fn f := fun _ => trivial
  have hb := alloc_at w (.cells #[.pointer i.ptr, .pointer o.ptr] 202) _ rfl
  have hE2 := (Ext.refl w).alloc (.cells #[.pointer i.ptr, .pointer o.ptr] 202)
  cases s
  · unfold wsideV
    rw [if_neg (by simp)]
    go_enter Tryz.func145, Tryz.ntmps145
    obtain ⟨m⟩ : Nonempty Nat := ⟨0⟩
    refine (wpIn_wide (n := m)).1 ?_
    gi_wp2_with fail
    generalize w.alloc (.cells #[.pointer i.ptr, .pointer o.ptr] 202) = w1 at *
    have hc0 := cell_all (cell_of hb 0)
    have hc1 := cell_all (cell_of hb 1)
    have hx := Ext.drew w1
    refine wpIn_region_G (fun j => !(List.contains (α := Nat) [11] j)) (by kernel_rfl) ?_
    refine batchG hfn (fuel := 7) [0, 4, 6, 8, 9, 10] (by kernel_rfl) rfl ?_
    repeat (go_big_quiet_step ((fail)))
    refine wpQuiet_nil ?_
    refine wpAnyG_one (j := 1) (by kernel_rfl) rfl ?_
    gi_wp2_with fail
    refine ⟨wide_room _, (callsIn_wide.2 (wbOtherL _)).mono ?_⟩
    rintro e w2 ⟨rfl, h2⟩
    gi_wp2_with fail
    refine onePost_ext (h2) ?_
    have h12 := hx.trans h2
    refine batchG hfn (fuel := 4) [2, 3] (by kernel_rfl) rfl ?_
    repeat (go_big_quiet_step ((fail)))
    refine wpQuiet_nil ?_
    refine wpAnyG_one (j := 5) (by kernel_rfl) rfl ?_
    gi_wp2_with fail
    refine ⟨wide_room _, (callsIn_wide.2 (key_any _ p (hp.ext (hE2.trans h12)))).mono ?_⟩
    rintro e w3 ⟨rfl, h3⟩
    gi_wp2_with fail
    refine onePost_ext (h3) ?_
    have h13 := h12.trans h3
    refine wpAnyG_one (j := 7) (by kernel_rfl) rfl ?_
    gi_wp2_with fail
    refine ⟨wide_room _, (callsIn_wide.2 (val_any _ p (hp.ext (hE2.trans h13)))).mono ?_⟩
    rintro e w4 ⟨rfl, h4⟩
    gi_wp2_with fail
    refine onePost_ext (h4) ?_
    have h14 := h13.trans h4
    refine wpAnyG_one (j := 11) (by kernel_rfl) rfl ?_
    gi_wp2_with fail
    refine ⟨wide_room _, (callsIn_wide.2 (wbMake_any _ o i p.key p.val (ho.ext (hE2.trans h14)) (hi.ext (hE2.trans h14)))).mono ?_⟩
    rintro e w5 ⟨bn, rfl, hbn, hT, h5⟩
    gi_wp2_with fail
    refine onePost_any (by kernel_rfl) ?_
    refine batchG hfn (fuel := 0) [12] (by kernel_rfl) rfl ?_
    repeat (go_big_quiet_step ((fail)))
    refine wpQuiet_nil ?_
    refine wpAnyG_done (by kernel_rfl) ?_
    refine calmQ_normal ?_
    gi_wp2
    go_ret
    exact ⟨bn, rfl, Nat.le_trans (hE2.trans h14).size hbn, hT, (hE2.trans h14).trans h5⟩
  · unfold wsideV
    rw [if_pos rfl]
    go_enter Tryz.func145, Tryz.ntmps145
    obtain ⟨m⟩ : Nonempty Nat := ⟨0⟩
    refine (wpIn_wide (n := m)).1 ?_
    gi_wp2_with fail
    generalize w.alloc (.cells #[.pointer i.ptr, .pointer o.ptr] 202) = w1 at *
    have hc0 := cell_all (cell_of hb 0)
    have hc1 := cell_all (cell_of hb 1)
    have hx := Ext.drew w1
    refine wpIn_region_G (fun j => !(List.contains (α := Nat) [11] j)) (by kernel_rfl) ?_
    refine batchG hfn (fuel := 7) [0, 4, 6, 8, 9, 10] (by kernel_rfl) rfl ?_
    repeat (go_big_quiet_step ((fail)))
    refine wpQuiet_nil ?_
    refine wpAnyG_one (j := 1) (by kernel_rfl) rfl ?_
    gi_wp2_with fail
    refine ⟨wide_room _, (callsIn_wide.2 (wbOtherR _)).mono ?_⟩
    rintro e w2 ⟨rfl, h2⟩
    gi_wp2_with fail
    refine onePost_ext (h2) ?_
    have h12 := hx.trans h2
    refine batchG hfn (fuel := 4) [2, 3] (by kernel_rfl) rfl ?_
    repeat (go_big_quiet_step ((fail)))
    refine wpQuiet_nil ?_
    refine wpAnyG_one (j := 5) (by kernel_rfl) rfl ?_
    gi_wp2_with fail
    refine ⟨wide_room _, (callsIn_wide.2 (key_any _ p (hp.ext (hE2.trans h12)))).mono ?_⟩
    rintro e w3 ⟨rfl, h3⟩
    gi_wp2_with fail
    refine onePost_ext (h3) ?_
    have h13 := h12.trans h3
    refine wpAnyG_one (j := 7) (by kernel_rfl) rfl ?_
    gi_wp2_with fail
    refine ⟨wide_room _, (callsIn_wide.2 (val_any _ p (hp.ext (hE2.trans h13)))).mono ?_⟩
    rintro e w4 ⟨rfl, h4⟩
    gi_wp2_with fail
    refine onePost_ext (h4) ?_
    have h14 := h13.trans h4
    refine wpAnyG_one (j := 11) (by kernel_rfl) rfl ?_
    gi_wp2_with fail
    refine ⟨wide_room _, (callsIn_wide.2 (wbMake_any _ i o p.key p.val (hi.ext (hE2.trans h14)) (ho.ext (hE2.trans h14)))).mono ?_⟩
    rintro e w5 ⟨bn, rfl, hbn, hT, h5⟩
    gi_wp2_with fail
    refine onePost_any (by kernel_rfl) ?_
    refine batchG hfn (fuel := 0) [12] (by kernel_rfl) rfl ?_
    repeat (go_big_quiet_step ((fail)))
    refine wpQuiet_nil ?_
    refine wpAnyG_done (by kernel_rfl) ?_
    refine calmQ_normal ?_
    gi_wp2
    go_ret
    exact ⟨bn, rfl, Nat.le_trans (hE2.trans h14).size hbn, hT, (hE2.trans h14).trans h5⟩
end Go.Proofs.YtoiohjifjmejkaaGreat
