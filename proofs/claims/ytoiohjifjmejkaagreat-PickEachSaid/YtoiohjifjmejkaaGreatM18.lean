/- Red-black trees by their black heights; what becomes of a tree on whose outer side another one hangs (plain, no program). -/
import Derived.Test.YtoiohjifjmejkaaGreatM17
namespace Go.Proofs.YtoiohjifjmejkaaGreat
open Go Go.RowKit

/-- a part, of a black height, red or black, well tagged. -/
def RbH : Tr → Nat → Bool → Prop
  | .nil, b, c => b = 0 ∧ c = false
  | .node _ l _ _ g r, b, true => RbH l b false ∧ RbH r b false ∧ g = 2 * b + 1
  | .node _ l _ _ g r, b, false => ∃ d cl cr, b = d + 1 ∧ RbH l d cl ∧ RbH r d cr ∧ g = 2 * b
theorem RbH.tag : ∀ {T : Tr} {b : Nat} {c : Bool}, RbH T b c → T.tag = 2 * b + (if c then 1 else 0)
  | .nil, b, c, ⟨h1, h2⟩ => by subst h1 h2; rfl
  | .node _ l _ _ g r, b, true, h => by rw [Tr.tag_node, h.2.2]; rfl
  | .node _ l _ _ g r, b, false, ⟨d, cl, cr, h⟩ => by rw [Tr.tag_node, h.2.2.2]; simp
theorem RbH.hi {T : Tr} {b : Nat} {c : Bool} (h : RbH T b c) : Proofs.YtoiohjifjmejkaaGreat.hi T = b := by
  unfold Proofs.YtoiohjifjmejkaaGreat.hi
  rw [h.tag]
  cases c <;> simp <;> omega
theorem RbH.red {T : Tr} {b : Nat} {c : Bool} (h : RbH T b c) : rbRed T = c := by
  unfold rbRed col
  rw [h.tag]
  cases c
  · rw [beq_eq_false_iff_ne]; simp
  · rw [beq_iff_eq]; simp
theorem RbH.tags : ∀ {T : Tr} {b : Nat} {c : Bool}, RbH T b c → b < 1000000 → TagsOk T
  | .nil, _, _, _, _ => trivial
  | .node _ l _ _ g r, b, true, ⟨h1, h2, h3⟩, hb => ⟨by omega, by omega, RbH.tags h1 hb, RbH.tags h2 hb⟩
  | .node _ l _ _ g r, b, false, ⟨d, cl, cr, h0, h1, h2, h3⟩, hb => ⟨by omega, by omega, RbH.tags h1 (by omega), RbH.tags h2 (by omega)⟩
theorem hi_tag {l : Tr} {b : Nat} {c : Bool} (h : RbH l b c) (hb : b < 1000000) (is : Bool) : rbTag l is = if is then 2 * (b : Int) + 1 else 2 * (b : Int) + 2 := by
  have e := h.hi
  rw [rbTag_small (by rw [e]; omega) (by rw [e]; omega), e]
theorem RbH.part : ∀ {T : Tr} {b : Nat} {c : Bool}, RbH T b c → b < 1000000 → rbPart T = true
  | .nil, _, _, _, _ => rfl
  | .node bb l k v g r, b, true, ⟨h1, h2, h3⟩, hb => by
    have p1 := RbH.part h1 hb
    have p2 := RbH.part h2 hb
    have r1 := h1.red
    have r2 := h2.red
    have e : g = rbTag l true := by rw [hi_tag h1 hb, h3]; rfl
    rw [rbPart_node, p1, p2, Bool.and_true, Bool.and_true]
    have o : rbOne (.node bb l k v g r) = 0 := rbOne_zero.2 ⟨by
      unfold rbBadTag col Proofs.YtoiohjifjmejkaaGreat.hi
      have := h1.hi
      unfold Proofs.YtoiohjifjmejkaaGreat.hi at this
      simp only [Tr.tag_node, Tr.left_node, this, h3]
      have a1 : ((2 * (b : Int) + 1) % 2 == 1) = true := by simp
      have a2 : ((2 * (b : Int) + 1) / 2 == (b : Int)) = true := by simp; omega
      have a3 : ((2 * (b : Int) + 1) == 0) = false := by simp; omega
      rw [a1, a2, a3]; rfl, by
      unfold rbBadTree
      simp only [Tr.left_node, Tr.right_node, h1.hi, h2.hi]
      have c1 : (col l == 1) = false := r1
      have c2 : (col r == 1) = false := r2
      rw [c1, c2]; simp⟩
    rw [o]; rfl
  | .node bb l k v g r, b, false, ⟨d, cl, cr, h0, h1, h2, h3⟩, hb => by
    have p1 := RbH.part h1 (by omega)
    have p2 := RbH.part h2 (by omega)
    have e : g = rbTag l false := by rw [hi_tag h1 (by omega), h3, h0]; simp; omega
    rw [rbPart_node, p1, p2, Bool.and_true, Bool.and_true]
    have o : rbOne (.node bb l k v g r) = 0 := rbOne_zero.2 ⟨by
      unfold rbBadTag
      simp only [Tr.tag_node, Tr.left_node]
      rw [← e, bne_self_eq_false, Bool.and_false, Bool.or_false, beq_eq_false_iff_ne]
      omega, by
      unfold rbBadTree
      simp only [Tr.left_node, Tr.right_node, h1.hi, h2.hi]
      have c1 : (col (.node bb l k v g r) == 1) = false := by
        show (g % 2 == 1) = false
        rw [beq_eq_false_iff_ne, h3]; omega
      rw [c1]; simp⟩
    rw [o]; rfl
theorem RbH.may {T : Tr} {b : Nat} (h : RbH T b false) (hb : b < 1000000) : rbMay T = true := by
  unfold rbMay
  rw [h.part hb, h.red]; rfl
theorem RbH.of_part : ∀ {T : Tr}, rbPart T = true → TagsOk T → T.count < 1000000 → RbH T (Proofs.YtoiohjifjmejkaaGreat.hi T).toNat (rbRed T)
  | .nil, _, _, _ => ⟨by decide +kernel, by decide +kernel⟩
  | .node b l k v g r, hp, ho, hc => by
    obtain ⟨p1, p2, h0, hg, he, hr⟩ := rb_sides hp
    rw [Tr.count_node] at hc
    have l1 := RbH.of_part p1 ho.2.2.1 (by omega)
    have r1 := RbH.of_part p2 ho.2.2.2 (by omega)
    obtain ⟨f1, f2, -, -⟩ := part_facts l p1 ho.2.2.1 (by omega)
    have hhi : Proofs.YtoiohjifjmejkaaGreat.hi (.node b l k v g r) = g / 2 := rfl
    rcases hg with hg | hg
    · obtain ⟨c1, c2⟩ := hr (by omega)
      have hred : rbRed (.node b l k v g r) = true := by show (g % 2 == 1) = true; simp; omega
      have e : (Proofs.YtoiohjifjmejkaaGreat.hi (.node b l k v g r)).toNat = (Proofs.YtoiohjifjmejkaaGreat.hi l).toNat := by rw [hhi]; omega
      have rl : rbRed l = false := by unfold rbRed; simpa using c1
      have rr : rbRed r = false := by unfold rbRed; simpa using c2
      rw [rl] at l1
      rw [rr, ← he] at r1
      rw [hred, e]
      exact ⟨l1, r1, by omega⟩
    · rw [u64_mod] at hg
      have hred : rbRed (.node b l k v g r) = false := by show (g % 2 == 1) = false; rw [beq_eq_false_iff_ne]; omega
      have e : (Proofs.YtoiohjifjmejkaaGreat.hi (.node b l k v g r)).toNat = (Proofs.YtoiohjifjmejkaaGreat.hi l).toNat + 1 := by rw [hhi]; omega
      rw [← he] at r1
      rw [hred, e]
      exact ⟨_, _, _, rfl, l1, r1, by omega⟩
section
variable {s : Bool} {b : Nat} {i o : Tr} {k v g : Int}
theorem mk_red {q : Nat} : RbH (mkN s b i k v g o) q true ↔ RbH i q false ∧ RbH o q false ∧ g = 2 * q + 1 := by
  cases s
  · exact ⟨fun ⟨h1, h2, h3⟩ => ⟨h2, h1, h3⟩, fun ⟨h1, h2, h3⟩ => ⟨h2, h1, h3⟩⟩
  · exact Iff.rfl
theorem mk_black {q : Nat} : RbH (mkN s b i k v g o) q false ↔ ∃ d ci co, q = d + 1 ∧ RbH i d ci ∧ RbH o d co ∧ g = 2 * q := by
  cases s
  · exact ⟨fun ⟨d, cl, cr, h0, h1, h2, h3⟩ => ⟨d, cr, cl, h0, h2, h1, h3⟩, fun ⟨d, cl, cr, h0, h1, h2, h3⟩ => ⟨d, cr, cl, h0, h2, h1, h3⟩⟩
  · exact Iff.rfl
end
/-- the tag of a node of a side. -/
def sTag (s : Bool) (i : Tr) (is : Bool) (o : Tr) : Int := if s then rbTag i is else rbTag o is
theorem sTag_red {s : Bool} {i o : Tr} {q : Nat} {ci co : Bool} (hi : RbH i q ci) (ho : RbH o q co) (hq : q < 1000000) : sTag s i true o = 2 * (q : Int) + 1 := by
  cases s
  · exact hi_tag ho hq true
  · exact hi_tag hi hq true
theorem sTag_black {s : Bool} {i o : Tr} {q : Nat} {ci co : Bool} (hi : RbH i q ci) (ho : RbH o q co) (hq : q < 1000000) : sTag s i false o = 2 * ((q + 1 : Nat) : Int) := by
  cases s
  · have := hi_tag ho hq false
    simp only [Bool.false_eq_true, if_false] at this
    show rbTag o false = _
    omega
  · have := hi_tag hi hq false
    simp only [Bool.false_eq_true, if_false] at this
    show rbTag i false = _
    omega
/-- what becomes of a tree t, if a pair and a lower one hang on its outer side. -/
structure RHang (n : Nat) (s : Bool) (t low : Tr) (b : Nat) (c : Bool) (q : Nat) (k v : Int) (T : Tr) : Prop where
  black : c = false → ∃ cx, RbH T b cx ∧ (cx = true → T.news n = 1 + (inOf s T).news n + (outOf s T).news n)
  red : c = true → ∃ bx i kx vx gx o co, T = mkN s bx i kx vx gx o ∧ n ≤ bx ∧ RbH i b false ∧ RbH o b co ∧ gx = 2 * (b : Int) + 1 ∧ (co = true → o.news n = 1 + (inOf s o).news n + (outOf s o).news n)
  news : T.news n + 2 * q ≤ 2 * b + (if c then 1 else 0) + 1 + low.news n
  kvs : T.kvs = both s t.kvs [(k, v)] low.kvs
  old : ∀ x ∈ T.pre, x.blk < n → x ∈ t.pre ∨ x ∈ low.pre
  top : n ≤ T.blk
  nn : T ≠ .nil
theorem news_top {s : Bool} {n bx : Nat} {i o : Tr} {k v g : Int} (hb : n ≤ bx) : (mkN s bx i k v g o).news n = 1 + (inOf s (mkN s bx i k v g o)).news n + (outOf s (mkN s bx i k v g o)).news n := by
  rw [mk_news, inOf_mk, outOf_mk, if_pos hb]
section
variable {n : Nat} {s : Bool} {b : Nat} {i o low : Tr} {k v g pk pv : Int} {p q : Nat}
/-- at the bottom: a red one of both. -/
theorem rhang_base {t : Tr} (bx : Nat) (ht : RbH t p false) (hl : RbH low q false) (hp : p < 100000) (hpq : p = q) (nt : t.news n = 0) (hb : n ≤ bx) : RHang n s t low p false q pk pv (mkN s bx t pk pv (sTag s t true low) low) := by
  subst hpq
  refine ⟨fun _ => ⟨true, mk_red.2 ⟨ht, hl, sTag_red ht hl (by omega)⟩, fun _ => news_top hb⟩, fun h => (by cases h), ?_, mk_kvs, fun x hx hn => ?_, by rw [mk_blk]; exact hb, mk_nn⟩
  · rw [mk_news, nt, if_pos hb]; simp; omega
  · rcases (mk_pre x).1 hx with rfl | h | h
    · rw [mk_blk] at hn; omega
    · exact .inl h
    · exact .inr h
theorem old_node {x : Tr} {bt : Nat} {kk vv gg : Int} (hold : ∀ y ∈ x.pre, y.blk < n → y ∈ o.pre ∨ y ∈ low.pre) (hb : n ≤ bt) : ∀ y ∈ (mkN s bt i kk vv gg x).pre, y.blk < n → y ∈ (mkN s b i k v g o).pre ∨ y ∈ low.pre := fun y hy hyn => by
  rcases (mk_pre y).1 hy with rfl | h | h
  · rw [mk_blk] at hyn; omega
  · exact .inl ((mk_pre y).2 (.inr (.inl h)))
  · rcases hold y h hyn with h | h
    · exact .inl ((mk_pre y).2 (.inr (.inr h)))
    · exact .inr h
/-- a red one: what came up hangs under it. -/
theorem rhang_red {x : Tr} (bt : Nat) (hi : RbH i p false) (hx : RHang n s o low p false q pk pv x) (hp : p < 100000) (ni : i.news n = 0) (hb : n ≤ bt) : RHang n s (mkN s b i k v g o) low p true q pk pv (mkN s bt i k v (sTag s i true x) x) := by
  obtain ⟨cx, h1, h2⟩ := hx.black rfl
  have hnew := hx.news
  refine ⟨fun h => (by cases h), fun _ => ⟨bt, i, k, v, _, x, cx, rfl, hb, hi, h1, sTag_red hi h1 (by omega), h2⟩, ?_, ?_, old_node hx.old hb, by rw [mk_blk]; exact hb, mk_nn⟩
  · rw [mk_news, ni, if_pos hb]; simp at hnew ⊢; omega
  · rw [mk_kvs, mk_kvs, hx.kvs, both_out]
/-- a black one, and what came up may stand under it. -/
theorem rhang_black {x : Tr} {c : Bool} (bt : Nat) {ci : Bool} (hi : RbH i p ci) (hx : RHang n s o low p c q pk pv x) (hp : p < 100000) (hok : ∃ cx, RbH x p cx) (ni : i.news n = 0) (hb : n ≤ bt) : RHang n s (mkN s b i k v g o) low (p + 1) false q pk pv (mkN s bt i k v (sTag s i false x) x) := by
  obtain ⟨cx, h1⟩ := hok
  have hnew := hx.news
  refine ⟨fun _ => ⟨false, mk_black.2 ⟨p, ci, cx, rfl, hi, h1, sTag_black hi h1 (by omega)⟩, fun h => (by cases h)⟩, fun h => (by cases h), ?_, ?_, old_node hx.old hb, by rw [mk_blk]; exact hb, mk_nn⟩
  · rw [mk_news, ni, if_pos hb]
    cases c <;> simp at hnew ⊢ <;> omega
  · rw [mk_kvs, mk_kvs, hx.kvs, both_out]
/-- a black one, and a red one above a red one came up: a turn. -/
theorem rhang_turn {xi yi yo : Tr} {xk xv xg yk yv yg : Int} {bx by_ : Nat} (b3 b4 b5 : Nat) {ci : Bool} (hi : RbH i p ci) (hx : RHang n s o low p true q pk pv (mkN s bx xi xk xv xg (mkN s by_ yi yk yv yg yo))) (hp : p < 100000)
    (hxi : RbH xi p false) (hy : RbH (mkN s by_ yi yk yv yg yo) p true) (hbx : n ≤ bx) (hyn : (mkN s by_ yi yk yv yg yo).news n = 1 + yi.news n + yo.news n) (ni : i.news n = 0) (hb3 : n ≤ b3) (hb4 : n ≤ b4) (hb5 : n ≤ b5) :
    RHang n s (mkN s b i k v g o) low (p + 1) false q pk pv (mkN s b5 (mkN s b3 i k v (sTag s i false xi) xi) xk xv (sTag s (mkN s b3 i k v (sTag s i false xi) xi) true (mkN s b4 yi yk yv (IntKind.u64.wrap (yg + 1)) yo)) (mkN s b4 yi yk yv (IntKind.u64.wrap (yg + 1)) yo)) := by
  obtain ⟨y1, y2, y3⟩ := mk_red.1 hy
  have hnew := hx.news
  rw [mk_news, if_pos hbx, hyn] at hnew
  have m3 : RbH (mkN s b3 i k v (sTag s i false xi) xi) (p + 1) false := mk_black.2 ⟨p, ci, false, rfl, hi, hxi, sTag_black hi hxi (by omega)⟩
  have m4 : RbH (mkN s b4 yi yk yv (IntKind.u64.wrap (yg + 1)) yo) (p + 1) false := mk_black.2 ⟨p, false, false, rfl, y1, y2, by rw [u64_mod, y3]; omega⟩
  refine ⟨fun _ => ⟨true, mk_red.2 ⟨m3, m4, sTag_red m3 m4 (by omega)⟩, fun _ => news_top hb5⟩, fun h => (by cases h), ?_, ?_, fun z hz hzn => ?_, by rw [mk_blk]; exact hb5, mk_nn⟩
  · rw [mk_news, mk_news, mk_news, ni, if_pos hb3, if_pos hb4, if_pos hb5]; simp at hnew ⊢; omega
  · have hk := hx.kvs
    simp only [mk_kvs] at hk ⊢
    rw [← both_out s i.kvs [(k, v)] xi.kvs, hk, both_out]
  · have hin : ∀ y, y ∈ xi.pre ∨ y ∈ (mkN s by_ yi yk yv yg yo).pre → y.blk < n → y ∈ (mkN s b i k v g o).pre ∨ y ∈ low.pre := fun y hy hyn => by
      rcases hx.old y ((mk_pre y).2 (.inr hy)) hyn with h | h
      · exact .inl ((mk_pre y).2 (.inr (.inr h)))
      · exact .inr h
    rcases (mk_pre z).1 hz with rfl | h | h
    · rw [mk_blk] at hzn; omega
    · rcases (mk_pre z).1 h with rfl | h | h
      · rw [mk_blk] at hzn; omega
      · exact .inl ((mk_pre z).2 (.inr (.inl h)))
      · exact hin z (.inl h) hzn
    · rcases (mk_pre z).1 h with rfl | h | h
      · rw [mk_blk] at hzn; omega
      · exact hin z (.inr ((mk_pre z).2 (.inr (.inl h)))) hzn
      · exact hin z (.inr ((mk_pre z).2 (.inr (.inr h)))) hzn
end
end Go.Proofs.YtoiohjifjmejkaaGreat
