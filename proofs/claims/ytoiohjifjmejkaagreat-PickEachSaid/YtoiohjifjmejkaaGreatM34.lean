/- All four schemes as one: what their functions do, and what a scheme's methods do. cut (plain): what is left when an item is taken off a part at one end; two parts made into one. scheme: what no scheme answers; joinerylaw22.Of, nothing, alive. -/
import Derived.Test.YtoiohjifjmejkaaGreatM27
import Derived.Test.YtoiohjifjmejkaaGreatM30
import Derived.Test.YtoiohjifjmejkaaGreatM33
namespace Go.Proofs.YtoiohjifjmejkaaGreat
open Go Go.RowKit

theorem fourC {c : Nat} (h : 1 ≤ c ∧ c ≤ 4) : c = 1 ∨ c = 2 ∨ c = 3 ∨ c = 4 := by omega
theorem ckC_any (c : Nat) (h4 : 1 ≤ c ∧ c ≤ 4) (w : World) (T : Tr) (hT : InH w T) (ho : c = 2 → TagsOk T) (hc : T.pre.length ≤ 4000) : Calls Tryz.prog (ckF c) #[.pointer T.ptr] w (Ret (.tuple #[.int .i64 (ckV c T).1, .int .i64 (ckV c T).2]) w) := by
  obtain rfl | rfl | rfl | rfl := fourC h4
  · have := avlCheck_any w T hT
    have hle : (avlFirst T.pre).1 ≤ 4000 := Nat.le_trans (avlFirst_le T.pre) hc
    rw [show wrap64 ((avlFirst T.pre).1 : Int) = ((avlFirst T.pre).1 : Int) by unfold wrap64; omega] at this
    exact this
  · exact rbCheck_any w T hT (ho rfl) (by omega)
  · exact wbCheck_any w T hT hc
  · exact tpCheck_any w T hT (by omega)
theorem ptC_any (c : Nat) (h4 : 1 ≤ c ∧ c ≤ 4) (w : World) (T : Tr) (hT : InH w T) (ho : c = 2 → TagsOk T) (hc : T.pre.length ≤ 4000) : Calls Tryz.prog (ptF c) #[.pointer T.ptr] w (Ret (.bool (ptV c T)) w) := by
  obtain rfl | rfl | rfl | rfl := fourC h4
  · exact avlMay_any w T hT
  · exact rbPart_any w T hT (ho rfl)
  · exact wbMay_any w T hT hc
  · exact tpMay_any w T hT (by omega)
theorem tpRank_any (w : World) (p : Value) : Calls Tryz.prog 208 #[.agg #[], p] w (Ret (.int .i64 0) w) := by
  go_enter Tryz.func208, Tryz.ntmps208
  go_wp2
  go_ret
  exact Ret.mk ((Ext.refl _).alloc _)
def rkV' (c : Nat) (T : Tr) : Int := if c = 1 then wrap64 T.tag else if c = 2 then wrap64 (2 * hiB T) else if c = 3 then (Nat.log2 (T.count + 1) : Nat) else 0
theorem rkC_any (c : Nat) (h4 : 1 ≤ c ∧ c ≤ 4) (w : World) (T : Tr) (hT : InH w T) (ho : c = 2 → TagsOk T) (hc : T.count ≤ 4000) : Calls Tryz.prog (rkF c) (if c = 4 then #[.agg #[], .pointer T.ptr] else #[.pointer T.ptr]) w (Ret (.int .i64 (rkV' c T)) w) := by
  obtain rfl | rfl | rfl | rfl := fourC h4
  · exact avlRank_any w T hT
  · exact rbRank_any w T hT (ho rfl)
  · exact wbRank_any w T (T.count + 1) hT (by rw [wt_count T (by omega)]) (by omega) (by omega)
  · exact tpRank_any w _
theorem msC_any (c : Nat) (h4 : 1 ≤ c ∧ c ≤ 4) (w : World) (L R : Tr) (hl : InH w L) (hr : InH w R) (pl : PartC c L) (pr : PartC c R) (hc : L.count + R.count ≤ 20000) : Calls Tryz.prog (msF c) #[.pointer L.ptr, .pointer R.ptr] w (Ret (.int .i64 (mostC c L R : Nat)) w) := by
  obtain rfl | rfl | rfl | rfl := fourC h4
  · have := avlMost_any w L R L.ht R.ht hl hr pl pr (by have := L.ht_count; omega) (by have := R.ht_count; omega)
    rw [show ((mostC 1 L R : Nat) : Int) = ((max L.ht R.ht : Nat) : Int) - ((min L.ht R.ht : Nat) : Int) + 1 by show ((max L.ht R.ht - min L.ht R.ht + 1 : Nat) : Int) = _; omega]
    exact this
  · obtain ⟨p, cl, pl⟩ := pl
    obtain ⟨q, cr, pr⟩ := pr
    have h1 := pl.le
    have h2 := pr.le
    have := rbMost_any w L R p q cl cr hl hr pl pr (by omega) (by omega) _ _ rfl rfl
    rw [show ((mostC 2 L R : Nat) : Int) = 2 * ((max (p + if cl then 1 else 0) (q + if cr then 1 else 0) : Nat) : Int) - 2 * ((min (p + if cl then 1 else 0) (q + if cr then 1 else 0) : Nat) : Int) + 3 by
      show ((2 * max (hiB L).toNat (hiB R).toNat - 2 * min (hiB L).toNat (hiB R).toNat + 3 : Nat) : Int) = _
      rw [pl.hiB (by omega), pr.hiB (by omega), Int.toNat_natCast, Int.toNat_natCast]
      omega]
    exact this
  · have := wbMost_any w L R hl hr (by omega) _ _ rfl rfl
    rw [show ((mostC 3 L R : Nat) : Int) = 6 * (((max (Nat.log2 (L.count + 1)) (Nat.log2 (R.count + 1)) : Nat) : Int) - ((min (Nat.log2 (L.count + 1)) (Nat.log2 (R.count + 1)) : Nat) : Int)) + 1 by
      show ((6 * (max (Nat.log2 (L.count + 1)) (Nat.log2 (R.count + 1)) - min (Nat.log2 (L.count + 1)) (Nat.log2 (R.count + 1))) + 1 : Nat) : Int) = _
      omega]
    exact this
  · exact tpMost_any w L R hl hr (by omega) (by omega)
/-- what a join gives. -/
def JoinsC (n c : Nat) (L R : Tr) (k v g : Int) (x : Value) (w : World) : Prop := ∃ T, x = .pointer T.ptr ∧ InH w T ∧ JoinC n c L R k v g T
theorem joC_any (c n : Nat) (h4 : 1 ≤ c ∧ c ≤ 4) (w : World) (L R : Tr) (k v g : Int) (hn : n ≤ w.heap.size) (hl : InH w L) (hr : InH w R) (pl : PartC c L) (pr : PartC c R) (hc : L.count + R.count ≤ 20000) (nl : L.news n = 0) (nr : R.news n = 0) :
    Calls Tryz.prog (joF c) (joP c ++ #[.pointer L.ptr, .agg #[.int .i64 k, .int .i64 v, .int .u64 g], .pointer R.ptr]) w (fun e w2 => ∃ x, e = .returned x ∧ Ext w w2 ∧ JoinsC n c L R k v g x w2) := by
  by_cases h : c = 4
  · subst h
    refine (tpJoin_any n w L R k v g hn hl hr).mono ?_
    rintro e w2 ⟨T, rfl, i, ok, hX⟩
    exact ⟨_, rfl, hX, T, rfl, i, ok.toC pl pr⟩
  · refine plainJoin_by c h4.1 (by omega) w _ _ k v g (JoinsC n c L R k v g) fun w1 h1 => ?_
    have hn1 := Nat.le_trans hn h1.size
    obtain rfl | rfl | rfl : c = 1 ∨ c = 2 ∨ c = 3 := by omega
    · refine (avlJoin_any n w1 L R k v L.ht R.ht hn1 (hl.ext h1) (hr.ext h1) pl pr (by have := L.ht_count; omega) (by have := R.ht_count; omega) nl nr).mono ?_
      rintro e w2 ⟨T, rfl, ok, i, hX⟩
      exact ⟨_, rfl, hX, T, rfl, i, ok.toC g⟩
    · obtain ⟨p, cl, pl⟩ := pl
      obtain ⟨q, cr, pr⟩ := pr
      have q1 := pl.le
      have q2 := pr.le
      refine (rbJoin_any n w1 L R k v p q cl cr hn1 (hl.ext h1) (hr.ext h1) pl pr (by omega) (by omega) nl nr).mono ?_
      rintro e w2 ⟨T, rfl, ok, i, hX⟩
      exact ⟨_, rfl, hX, T, rfl, i, ok.toC g pl pr (by omega) (by omega)⟩
    · refine (wbJoin_any n w1 L R k v hn1 (hl.ext h1) (hr.ext h1) pl pr (by omega) nl nr).mono ?_
      rintro e w2 ⟨T, rfl, ok, i, hX⟩
      exact ⟨_, rfl, hX, T, rfl, i, ok.toC g⟩
/-- what Whole gives. -/
structure WholeC (n c : Nat) (T u : Tr) : Prop where
  may : MayC c u
  its : itsC c u = itsC c T
  news : u.news n ≤ T.news n + 1
  same : MayC c T → u = T
  tags : TagsOk T → T.count < 100000 → TagsOk u
  old : ∀ x ∈ u.pre, x.blk < n → x ∈ T.pre
theorem whSame_any (w : World) (p : Value) : Calls Tryz.prog 74 #[p] w (Ret p w) := by
  go_enter Tryz.func74, Tryz.ntmps74
  go_wp2
  go_ret
  exact Ret.mk (Ext.refl _)
theorem itsC_2 {T u : Tr} (h : u.kvs = T.kvs) : itsC 2 u = itsC 2 T := by rw [itsC_kvs (by decide), itsC_kvs (by decide), h]
theorem part_may {c : Nat} (h4 : 1 ≤ c ∧ c ≤ 4) (h : c ≠ 2) {T : Tr} (p : PartC c T) : MayC c T := by
  obtain rfl | rfl | rfl | rfl := fourC h4
  · exact p
  · exact (h rfl).elim
  · exact p
  · exact p
theorem black_C {n : Nat} {T u : Tr} (p : PartC 2 T) (hc : T.count ≤ 20000) (hu : BlackOf n T u) : WholeC n 2 T u := by
  obtain ⟨b, d, h⟩ := p
  have hb := h.le
  have h2 := black_h h (by omega) hu
  refine ⟨⟨_, h2⟩, itsC_2 (black_kvs hu), ?_, ?_, fun _ hc => h2.tags (by split <;> omega), black_old hu⟩
  · rcases hu with ⟨-, rfl⟩ | ⟨-, b', -, rfl⟩
    · omega
    · cases T with
      | nil => rw [Tr.news]; simp [Tr.left, Tr.right, Tr.news]
               split <;> omega
      | node tb tl tk tv tg tr => rw [Tr.news, Tr.news, Tr.left_node, Tr.right_node]; split <;> omega
  · rintro ⟨b', h'⟩
    have hb' := h'.le
    have := h'.red
    rcases hu with ⟨-, rfl⟩ | ⟨h1, -⟩
    · rfl
    · rw [this] at h1; cases h1
theorem whC_any (c : Nat) (h4 : 1 ≤ c ∧ c ≤ 4) (w : World) (T : Tr) (hT : InH w T) (p : PartC c T) (hc : T.count ≤ 20000) (n : Nat) (hn : n ≤ w.heap.size) :
    Calls Tryz.prog (whF c) #[.pointer T.ptr] w (fun e w2 => ∃ x, e = .returned x ∧ Ext w w2 ∧ ∃ u, x = .pointer u.ptr ∧ InH w2 u ∧ WholeC n c T u) := by
  by_cases h : c = 2
  · subst h
    refine (rbBlacken_any w T hT (p.tags (by decide) h4 (by omega))).mono ?_
    rintro e w2 ⟨u, rfl, hu, hX, hb⟩
    exact ⟨_, rfl, hX, u, rfl, hu, black_C p hc (blackOf_mono hb hn)⟩
  · rw [show whF c = 74 by obtain rfl | rfl | rfl | rfl := fourC h4 <;> first | rfl | exact (h rfl).elim]
    refine (whSame_any w _).mono ?_
    rintro e w2 ⟨rfl, hX⟩
    exact ⟨_, rfl, hX, T, rfl, hT.ext hX, part_may h4 h p, rfl, by omega, fun _ => rfl, fun h _ => h, fun x hx _ => hx⟩
/- what a scheme's methods do. -/
section
variable {P c : Nat} {n : Int} {w : World}
theorem Sch.four (h : Sch P c n w) : 1 ≤ c ∧ c ≤ 4 := ⟨h.1, h.2.1⟩
theorem schWhole_any (h : Sch P c n w) {T : Tr} (hT : InH w T) (p : PartC c T) (hc : T.count ≤ 20000) (m : Nat) (hm : m ≤ w.heap.size) :
    Calls Tryz.prog 63 #[.pointer (some ⟨P, 0, none⟩), .pointer T.ptr] w (Does P c n (fun v w2 => ∃ u, v = .pointer u.ptr ∧ InH w2 u ∧ WholeC m c T u) w) :=
  schWhole_by P c n w _ _ h fun w1 B => whC_any c h.four w1 T (h.inh B hT) p hc m (Nat.le_trans hm B.size)
theorem schJoin_any (h : Sch P c n w) {L R : Tr} (k v g : Int) (hl : InH w L) (hr : InH w R) (pl : PartC c L) (pr : PartC c R) (hc : L.count + R.count ≤ 20000) (m : Nat) (hm : m ≤ w.heap.size) (nl : L.news m = 0) (nr : R.news m = 0) :
    Calls Tryz.prog 31 #[.pointer (some ⟨P, 0, none⟩), .pointer L.ptr, itV k v g, .pointer R.ptr] w (Does P c (IntKind.u64.wrap (n + 1)) (JoinsC m c L R k v g) w) :=
  schJoin_by P c n w _ _ k v g _ h fun w1 B => joC_any c m h.four w1 L R k v g (Nat.le_trans hm B.size) (h.inh B hl) (h.inh B hr) pl pr hc nl nr
end
end Go.Proofs.YtoiohjifjmejkaaGreat
namespace Go.Proofs.YtoiohjifjmejkaaGreat
open Go Go.RowKit

theorem partC_sides {c b : Nat} {l r : Tr} {k v g : Int} (h4 : 1 ≤ c ∧ c ≤ 4) (h : PartC c (.node b l k v g r)) : PartC c l ∧ PartC c r := by
  obtain rfl | rfl | rfl | rfl := fourC h4
  · obtain ⟨p, q, h1, h2, -⟩ := h
    exact ⟨by show AvlH l l.ht; rw [h1.ht]; exact h1, by show AvlH r r.ht; rw [h2.ht]; exact h2⟩
  · obtain ⟨b, d, h⟩ := h
    cases d with
    | true => exact ⟨⟨_, _, h.1⟩, ⟨_, _, h.2.1⟩⟩
    | false =>
      obtain ⟨d, cl, cr, -, h1, h2, -⟩ := h
      exact ⟨⟨_, _, h1⟩, ⟨_, _, h2⟩⟩
  · exact ⟨h.2.1, h.2.2.1⟩
  · exact ⟨h.2.2.1, h.2.2.2⟩
/-- an item and all others, the item at one end (true: the last one). -/
def endAt (d : Bool) (xs : List (Int × Int × Int)) (z : Int × Int × Int) : List (Int × Int × Int) := if d then xs ++ [z] else z :: xs
/-- what is left of a part, and the item that was taken off. -/
structure EndOk (c : Nat) (d : Bool) (T R : Tr) (z : Int × Int × Int) : Prop where
  may : MayC c R
  its : itsC c T = endAt d (itsC c R) z
  tags : TagsOk T → T.count < 100000 → TagsOk R
  item : itC c z = z
  ok : TagsOk T → 0 ≤ z.2.2 ∧ z.2.2 < 18446744073709551616
theorem EndOk.count {c : Nat} {d : Bool} {T R : Tr} {z : Int × Int × Int} (h : EndOk c d T R z) : T.count = R.count + 1 := by
  have := congrArg List.length h.its
  rw [itsC_len] at this
  unfold endAt at this
  split at this <;> simp [itsC_len] at this <;> exact this
/-- an item of a root, as the scheme has it. -/
def rootIt (c : Nat) (T : Tr) : Int × Int × Int := (T.key, T.val, if c = 4 then T.tag else 0)
theorem rootIt_item (c : Nat) (T : Tr) : itemV c T = itV (rootIt c T).1 (rootIt c T).2.1 (rootIt c T).2.2 := rfl
theorem rootIt_it (c b : Nat) (l : Tr) (k v g : Int) (r : Tr) : rootIt c (.node b l k v g r) = itC c (k, v, g) := rfl
theorem rootIt_idem (c : Nat) (T : Tr) : itC c (rootIt c T) = rootIt c T := by
  unfold itC rootIt
  split <;> rfl
theorem rootIt_tag {c : Nat} {T : Tr} (h : TagsOk T) : 0 ≤ (rootIt c T).2.2 ∧ (rootIt c T).2.2 < 18446744073709551616 := by
  unfold rootIt
  split
  · cases T with
    | nil => exact ⟨by decide, by decide⟩
    | node b l k v g r => exact ⟨h.1, h.2.1⟩
  · exact ⟨Int.le_refl 0, show (0 : Int) < 18446744073709551616 by decide⟩
/-- the end of the way. -/
theorem EndOk.here {n c b : Nat} {d : Bool} {l r R : Tr} {k v g : Int} (hn : (outOf d (.node b l k v g r)) = .nil) (h : WholeC n c (inOf d (.node b l k v g r)) R) : EndOk c d (.node b l k v g r) R (rootIt c (.node b l k v g r)) := by
  refine ⟨h.may, ?_, fun ht hc => h.tags ?_ ?_, rootIt_idem _ _, rootIt_tag⟩
  · rw [h.its, itsC_node, rootIt_it]
    cases d
    · obtain rfl : l = .nil := hn
      simp [inOf, endAt, itsC_nil, Tr.right]
    · obtain rfl : r = .nil := hn
      simp [inOf, endAt, itsC_nil, Tr.left]
  · cases d
    · exact ht.2.2.2
    · exact ht.2.2.1
  · rw [Tr.count_node] at hc
    cases d
    · show r.count < _; omega
    · show l.count < _; omega
/-- one step of the way: the others are joined with what is left of the side. -/
theorem EndOk.last {n c b : Nat} {l r S R : Tr} {k v g : Int} {z : Int × Int × Int} (hs : EndOk c true r S z) (h : JoinC n c l S k v (rootIt c (.node b l k v g r)).2.2 R) : EndOk c true (.node b l k v g r) R z := by
  have hr := rootIt_tag (c := c) (T := .node b l k v g r)
  refine ⟨h.may, ?_, fun ht hc => ?_, hs.item, fun ht => hs.ok ht.2.2.2⟩
  · rw [h.its, itsC_node, hs.its]
    have e : itC c (k, v, (rootIt c (.node b l k v g r)).2.2) = itC c (k, v, g) := rootIt_idem c (.node b l k v g r)
    rw [e]
    simp [endAt]
  · have hc2 := h.count
    have hc3 := hs.count
    rw [Tr.count_node] at hc
    exact h.tags (hr ht).1 (hr ht).2 ht.2.2.1 (hs.tags ht.2.2.2 (by omega)) (by omega)
theorem EndOk.first {n c b : Nat} {l r S R : Tr} {k v g : Int} {z : Int × Int × Int} (hs : EndOk c false l S z) (h : JoinC n c S r k v (rootIt c (.node b l k v g r)).2.2 R) : EndOk c false (.node b l k v g r) R z := by
  have hr := rootIt_tag (c := c) (T := .node b l k v g r)
  refine ⟨h.may, ?_, fun ht hc => ?_, hs.item, fun ht => hs.ok ht.2.2.1⟩
  · rw [h.its, itsC_node, hs.its]
    have e : itC c (k, v, (rootIt c (.node b l k v g r)).2.2) = itC c (k, v, g) := rootIt_idem c (.node b l k v g r)
    rw [e]
    simp [endAt]
  · have hc2 := h.count
    have hc3 := hs.count
    rw [Tr.count_node] at hc
    exact h.tags (hr ht).1 (hr ht).2 (hs.tags ht.2.2.1 (by omega)) ht.2.2.2 (by omega)
/-- two parts made into one. -/
structure BothC (c : Nat) (L R T : Tr) : Prop where
  may : MayC c T
  its : itsC c T = itsC c L ++ itsC c R
  tags : TagsOk L → TagsOk R → T.count < 100000 → TagsOk T
theorem BothC.count {c : Nat} {L R T : Tr} (h : BothC c L R T) : T.count = L.count + R.count := by
  have := congrArg List.length h.its
  rw [List.length_append, itsC_len, itsC_len, itsC_len] at this
  exact this
theorem BothC.whole {n c : Nat} {R T : Tr} (h : WholeC n c R T) : BothC c .nil R T :=
  ⟨h.may, by rw [h.its]; rfl, fun _ hr hc => h.tags hr (by have := congrArg List.length h.its; rw [itsC_len, itsC_len] at this; omega)⟩
theorem BothC.joined {n c : Nat} {L S R T : Tr} {z : Int × Int × Int} (hs : EndOk c true L S z) (h : JoinC n c S R z.1 z.2.1 z.2.2 T) : BothC c L R T := by
  refine ⟨h.may, ?_, fun hl hr hc => ?_⟩
  · rw [h.its, hs.its]
    have e : itC c (z.1, z.2.1, z.2.2) = z := hs.item
    rw [e]
    simp [endAt]
  · have hc2 := h.count
    have hc3 := hs.count
    exact h.tags (hs.ok hl).1 (hs.ok hl).2 (hs.tags hl (by omega)) hr hc
end Go.Proofs.YtoiohjifjmejkaaGreat
namespace Go.Proofs.YtoiohjifjmejkaaGreat
open Go Go.RowKit

/-- behind a call of a scheme's method: the scheme stands, and what was there ahead of it. -/
structure St (w : World) (P c : Nat) (n : Int) (W : World) : Prop where
  ext : Ext w W
  new : w.heap.size ≤ P
  sch : Sch P c n W
theorem St.does {w : World} {P c : Nat} {n : Int} {W W' : World} (h : St w P c n W) {m : Int} (B : Bt [P] W W') (s : Sch P c m W') : St w P c m W' :=
  ⟨Bt.out h.ext (by simp; exact h.new) B, h.new, s⟩
theorem St.more {w : World} {P c : Nat} {n : Int} {W W' : World} (h : St w P c n W) (e : Ext W W') : St w P c n W' :=
  ⟨h.ext.trans e, h.new, h.sch.ext e⟩
theorem St.lt {w : World} {P c : Nat} {n : Int} {W : World} (h : St w P c n W) : P < W.heap.size := h.sch.lt
theorem nilJoin_any (w : World) (p q : Value) (k v g : Int) : Calls Tryz.prog 31 #[.pointer none, p, .agg #[.int .i64 k, .int .i64 v, .int .u64 g], q] w (Ret (.pointer none) w) := by
  go_enter Tryz.func31, Tryz.ntmps31
  go_wp2
  go_ret
  exact Ret.mk ((Ext.refl _).alloc _)
theorem nilWhole_any (w : World) (p : Value) : Calls Tryz.prog 63 #[.pointer none, p] w (Ret (.pointer none) w) := by
  go_enter Tryz.func63, Tryz.ntmps63
  go_wp2
  go_ret
  exact Ret.mk (Ext.refl _)
theorem nilItem_any (w : World) (p : Value) : Calls Tryz.prog 38 #[.pointer none, p] w (Ret (.agg #[.int .i64 0, .int .i64 0, .int .u64 0]) w) := by
  go_enter Tryz.func38, Tryz.ntmps38
  go_wp2
  refine bodyPost_ret (v := .agg #[.int .i64 0, .int .i64 0, .int .u64 0]) (by simp [results, Tryz.results38, go_sem]) rfl (Ret.mk ((Ext.refl _).alloc _))
theorem of22_no (c : Nat) (hc : c < 256) (h : ¬ (1 ≤ c ∧ c ≤ 4)) (w : World) : Calls Tryz.prog 5 #[.int .u8 c] w (Ret (.tuple #[.pointer none, .bool false]) w) := by
  have hund : undef = Value.tuple #[] := rfl
  have H := Lib.hid (schOf_no c hc (by omega) w)
  clear h
  go_enter Tryz.func5, Tryz.ntmps5
  go_wp2_with fail
  refine (H.out).mono ?_
  rintro e w1 ⟨rfl, hS⟩
  go_wp2
  exact bodyPost_ret (v := .tuple #[.pointer none, .bool false]) (by simp [results, Tryz.results5, go_sem]) rfl (Ret.mk hS)
/-- a new scheme. -/
def Gets (c : Nat) (w : World) (e : Ending) (w' : World) : Prop := ∃ P, e = .returned (.tuple #[.pointer (some ⟨P, 0, none⟩), .bool true]) ∧ St w P c 0 w'
theorem of22_yes (c : Nat) (h4 : 1 ≤ c ∧ c ≤ 4) (w : World) : Calls Tryz.prog 5 #[.int .u8 c] w (Gets c w) := by
  have hund : undef = Value.tuple #[] := rfl
  have H := Lib.hid (schOf_yes c h4.1 h4.2 w)
  clear h4
  go_enter Tryz.func5, Tryz.ntmps5
  go_wp2_with fail
  refine H.out.mono ?_
  rintro e w1 ⟨P, rfl, h1, h2, h3⟩
  go_wp2
  exact bodyPost_ret (v := .tuple #[.pointer (some ⟨P, 0, none⟩), .bool true]) (by simp [results, Tryz.results5, go_sem]) rfl ⟨P, rfl, h3, h1, h2⟩
/-- a tree of one item. -/
theorem its_one {c : Nat} {T : Tr} {z : Int × Int × Int} (h : itsC c T = [z]) : ∃ b g, T = .node b .nil z.1 z.2.1 g .nil ∧ itC c (z.1, z.2.1, g) = z := by
  cases T with
  | nil => cases h
  | node b l k v g r =>
    rw [itsC_node] at h
    have hl : itsC c l = [] := by
      cases hh : itsC c l with
      | nil => rfl
      | cons x y => rw [hh] at h; simp at h
    rw [hl, List.nil_append, List.cons.injEq] at h
    have nl : l = .nil := by cases l with | nil => rfl | node => rw [itsC_node] at hl; simp at hl
    have nr : r = .nil := by cases r with | nil => rfl | node => have := h.2; rw [itsC_node] at this; simp at this
    subst nl nr
    obtain ⟨h1, -⟩ := h
    subst h1
    exact ⟨b, g, rfl, rfl⟩
end Go.Proofs.YtoiohjifjmejkaaGreat
