/- All four schemes as one: what their functions do, and what a scheme's methods do. scheme: what no scheme answers; joinerylaw22.Of, nothing, alive. Rows of integers; one more cell behind a row of one's own. -/
import Derived.Maps.AppendAt
import Derived.Test.YtjiiokhjajfhjaaGreatM5
import Derived.Test.YtjiiokhjajfhjaaGreatM29
import Derived.Test.YtjiiokhjajfhjaaGreatM32
import Derived.Test.YtjiiokhjajfhjaaGreatM34
namespace Go.Proofs.YtjiiokhjajfhjaaGreat
open Go Go.RowKit

theorem fourC {c : Nat} (h : 1 ≤ c ∧ c ≤ 4) : c = 1 ∨ c = 2 ∨ c = 3 ∨ c = 4 := by omega
theorem ckC_any (c : Nat) (h4 : 1 ≤ c ∧ c ≤ 4) (w : World) (T : Tr) (hT : InH w T) (ho : c = 2 → TagsOk T) (hc : T.pre.length ≤ 4000) : Calls Tryz.prog (ckF c) #[.pointer T.ptr] w (Ret (.tuple #[.int .i64 (ckV c T).1, .int .i64 (ckV c T).2]) w) := by
  obtain rfl | rfl | rfl | rfl := fourC h4
  · have := avlCheck_any w T hT
    have hle : (avlFirst T.pre).1 ≤ 4000 := Nat.le_trans (avlFirst_le T.pre) hc
    rw [show wrap64 ((avlFirst T.pre).1 : Int) = ((avlFirst T.pre).1 : Int) by unfold wrap64; omega] at this
    exact this
  · exact rbCheck_any w T hT (ho rfl) (by omega)
  · exact wbCheck_any w T hT hc
  · exact tpCheck_any w T hT (by omega)
theorem ptC_any (c : Nat) (h4 : 1 ≤ c ∧ c ≤ 4) (w : World) (T : Tr) (hT : InH w T) (ho : c = 2 → TagsOk T) (hc : T.pre.length ≤ 4000) : Calls Tryz.prog (ptF c) #[.pointer T.ptr] w (Ret (.bool (ptV c T)) w) := by
  obtain rfl | rfl | rfl | rfl := fourC h4
  · exact avlMay_any w T hT
  · exact rbPart_any w T hT (ho rfl)
  · exact wbMay_any w T hT hc
  · exact tpMay_any w T hT (by omega)
theorem tpRank_any (w : World) (p : Value) : Calls Tryz.prog 191 #[.agg #[], p] w (Ret (.int .i64 0) w) := by
  go_enter Tryz.func191, Tryz.ntmps191
  go_wp2
  go_ret
  exact Ret.mk ((Ext.refl _).alloc _)
def rkV' (c : Nat) (T : Tr) : Int := if c = 1 then wrap64 T.tag else if c = 2 then wrap64 (2 * hiB T) else if c = 3 then (Nat.log2 (T.count + 1) : Nat) else 0
theorem rkC_any (c : Nat) (h4 : 1 ≤ c ∧ c ≤ 4) (w : World) (T : Tr) (hT : InH w T) (ho : c = 2 → TagsOk T) (hc : T.count ≤ 4000) : Calls Tryz.prog (rkF c) (if c = 4 then #[.agg #[], .pointer T.ptr] else #[.pointer T.ptr]) w (Ret (.int .i64 (rkV' c T)) w) := by
  obtain rfl | rfl | rfl | rfl := fourC h4
  · exact avlRank_any w T hT
  · exact rbRank_any w T hT (ho rfl)
  · exact wbRank_any w T (T.count + 1) hT (by rw [wt_count T (by omega)]) (by omega) (by omega)
  · exact tpRank_any w _
theorem msC_any (c : Nat) (h4 : 1 ≤ c ∧ c ≤ 4) (w : World) (L R : Tr) (hl : InH w L) (hr : InH w R) (pl : PartC c L) (pr : PartC c R) (hc : L.count + R.count ≤ 20000) : Calls Tryz.prog (msF c) #[.pointer L.ptr, .pointer R.ptr] w (Ret (.int .i64 (mostC c L R : Nat)) w) := by
  obtain rfl | rfl | rfl | rfl := fourC h4
  · have := avlMost_any w L R L.ht R.ht hl hr pl pr (by have := L.ht_count; omega) (by have := R.ht_count; omega)
    rw [show ((mostC 1 L R : Nat) : Int) = ((max L.ht R.ht : Nat) : Int) - ((min L.ht R.ht : Nat) : Int) + 1 by show ((max L.ht R.ht - min L.ht R.ht + 1 : Nat) : Int) = _; omega]
    exact this
  · obtain ⟨p, cl, pl⟩ := pl
    obtain ⟨q, cr, pr⟩ := pr
    have h1 := pl.le
    have h2 := pr.le
    have := rbMost_any w L R p q cl cr hl hr pl pr (by omega) (by omega) _ _ rfl rfl
    rw [show ((mostC 2 L R : Nat) : Int) = 2 * ((max (p + if cl then 1 else 0) (q + if cr then 1 else 0) : Nat) : Int) - 2 * ((min (p + if cl then 1 else 0) (q + if cr then 1 else 0) : Nat) : Int) + 3 by
      show ((2 * max (hiB L).toNat (hiB R).toNat - 2 * min (hiB L).toNat (hiB R).toNat + 3 : Nat) : Int) = _
      rw [pl.hiB (by omega), pr.hiB (by omega), Int.toNat_natCast, Int.toNat_natCast]
      omega]
    exact this
  · have := wbMost_any w L R hl hr (by omega) _ _ rfl rfl
    rw [show ((mostC 3 L R : Nat) : Int) = 6 * (((max (Nat.log2 (L.count + 1)) (Nat.log2 (R.count + 1)) : Nat) : Int) - ((min (Nat.log2 (L.count + 1)) (Nat.log2 (R.count + 1)) : Nat) : Int)) + 1 by
      show ((6 * (max (Nat.log2 (L.count + 1)) (Nat.log2 (R.count + 1)) - min (Nat.log2 (L.count + 1)) (Nat.log2 (R.count + 1))) + 1 : Nat) : Int) = _
      omega]
    exact this
  · exact tpMost_any w L R hl hr (by omega) (by omega)
/-- what a join gives. -/
def JoinsC (n c : Nat) (L R : Tr) (k v g : Int) (x : Value) (w : World) : Prop := ∃ T, x = .pointer T.ptr ∧ InH w T ∧ JoinC n c L R k v g T
theorem joC_any (c n : Nat) (h4 : 1 ≤ c ∧ c ≤ 4) (w : World) (L R : Tr) (k v g : Int) (hn : n ≤ w.heap.size) (hl : InH w L) (hr : InH w R) (pl : PartC c L) (pr : PartC c R) (hc : L.count + R.count ≤ 20000) (nl : L.news n = 0) (nr : R.news n = 0) :
    Calls Tryz.prog (joF c) (joP c ++ #[.pointer L.ptr, .agg #[.int .i64 k, .int .i64 v, .int .u64 g], .pointer R.ptr]) w (fun e w2 => ∃ x, e = .returned x ∧ Ext w w2 ∧ JoinsC n c L R k v g x w2) := by
  by_cases h : c = 4
  · subst h
    refine (tpJoin_any n w L R k v g hn hl hr).mono ?_
    rintro e w2 ⟨T, rfl, i, ok, hX⟩
    exact ⟨_, rfl, hX, T, rfl, i, ok.toC pl pr⟩
  · refine plainJoin_by c h4.1 (by omega) w _ _ k v g (JoinsC n c L R k v g) fun w1 h1 => ?_
    have hn1 := Nat.le_trans hn h1.size
    obtain rfl | rfl | rfl : c = 1 ∨ c = 2 ∨ c = 3 := by omega
    · refine (avlJoin_any n w1 L R k v L.ht R.ht hn1 (hl.ext h1) (hr.ext h1) pl pr (by have := L.ht_count; omega) (by have := R.ht_count; omega) nl nr).mono ?_
      rintro e w2 ⟨T, rfl, ok, i, hX⟩
      exact ⟨_, rfl, hX, T, rfl, i, ok.toC g⟩
    · obtain ⟨p, cl, pl⟩ := pl
      obtain ⟨q, cr, pr⟩ := pr
      have q1 := pl.le
      have q2 := pr.le
      refine (rbJoin_any n w1 L R k v p q cl cr hn1 (hl.ext h1) (hr.ext h1) pl pr (by omega) (by omega) nl nr).mono ?_
      rintro e w2 ⟨T, rfl, ok, i, hX⟩
      exact ⟨_, rfl, hX, T, rfl, i, ok.toC g pl pr (by omega) (by omega)⟩
    · refine (wbJoin_any n w1 L R k v hn1 (hl.ext h1) (hr.ext h1) pl pr (by omega) nl nr).mono ?_
      rintro e w2 ⟨T, rfl, ok, i, hX⟩
      exact ⟨_, rfl, hX, T, rfl, i, ok.toC g⟩
/-- what Whole gives. -/
structure WholeC (n c : Nat) (T u : Tr) : Prop where
  may : MayC c u
  its : itsC c u = itsC c T
  news : u.news n ≤ T.news n + 1
  same : MayC c T → u = T
  tags : TagsOk T → T.count < 100000 → TagsOk u
  old : ∀ x ∈ u.pre, x.blk < n → x ∈ T.pre
theorem whSame_any (w : World) (p : Value) : Calls Tryz.prog 93 #[p] w (Ret p w) := by
  go_enter Tryz.func93, Tryz.ntmps93
  go_wp2
  go_ret
  exact Ret.mk (Ext.refl _)
theorem itsC_2 {T u : Tr} (h : u.kvs = T.kvs) : itsC 2 u = itsC 2 T := by rw [itsC_kvs (by decide), itsC_kvs (by decide), h]
theorem part_may {c : Nat} (h4 : 1 ≤ c ∧ c ≤ 4) (h : c ≠ 2) {T : Tr} (p : PartC c T) : MayC c T := by
  obtain rfl | rfl | rfl | rfl := fourC h4
  · exact p
  · exact (h rfl).elim
  · exact p
  · exact p
theorem black_C {n : Nat} {T u : Tr} (p : PartC 2 T) (hc : T.count ≤ 20000) (hu : BlackOf n T u) : WholeC n 2 T u := by
  obtain ⟨b, d, h⟩ := p
  have hb := h.le
  have h2 := black_h h (by omega) hu
  refine ⟨⟨_, h2⟩, itsC_2 (black_kvs hu), ?_, ?_, fun _ hc => h2.tags (by split <;> omega), black_old hu⟩
  · rcases hu with ⟨-, rfl⟩ | ⟨-, b', -, rfl⟩
    · omega
    · cases T with
      | nil => rw [Tr.news]; simp [Tr.left, Tr.right, Tr.news]
               split <;> omega
      | node tb tl tk tv tg tr => rw [Tr.news, Tr.news, Tr.left_node, Tr.right_node]; split <;> omega
  · rintro ⟨b', h'⟩
    have hb' := h'.le
    have := h'.red
    rcases hu with ⟨-, rfl⟩ | ⟨h1, -⟩
    · rfl
    · rw [this] at h1; cases h1
theorem whC_any (c : Nat) (h4 : 1 ≤ c ∧ c ≤ 4) (w : World) (T : Tr) (hT : InH w T) (p : PartC c T) (hc : T.count ≤ 20000) (n : Nat) (hn : n ≤ w.heap.size) :
    Calls Tryz.prog (whF c) #[.pointer T.ptr] w (fun e w2 => ∃ x, e = .returned x ∧ Ext w w2 ∧ ∃ u, x = .pointer u.ptr ∧ InH w2 u ∧ WholeC n c T u) := by
  by_cases h : c = 2
  · subst h
    refine (rbBlacken_any w T hT (p.tags (by decide) h4 (by omega))).mono ?_
    rintro e w2 ⟨u, rfl, hu, hX, hb⟩
    exact ⟨_, rfl, hX, u, rfl, hu, black_C p hc (blackOf_mono hb hn)⟩
  · rw [show whF c = 93 by obtain rfl | rfl | rfl | rfl := fourC h4 <;> first | rfl | exact (h rfl).elim]
    refine (whSame_any w _).mono ?_
    rintro e w2 ⟨rfl, hX⟩
    exact ⟨_, rfl, hX, T, rfl, hT.ext hX, part_may h4 h p, rfl, by omega, fun _ => rfl, fun h _ => h, fun x hx _ => hx⟩
/- what a scheme's methods do. -/
section
variable {P c : Nat} {n : Int} {w : World}
theorem Sch.four (h : Sch P c n w) : 1 ≤ c ∧ c ≤ 4 := ⟨h.1, h.2.1⟩
theorem schCheck_any (h : Sch P c n w) {T : Tr} (hT : InH w T) (ho : c = 2 → TagsOk T) (hc : T.pre.length ≤ 4000) :
    Calls Tryz.prog 46 #[.pointer (some ⟨P, 0, none⟩), .pointer T.ptr] w (Does P c n (fun v _ => v = .tuple #[.int .i64 (ckV c T).1, .int .i64 (ckV c T).2]) w) :=
  schCheck_by P c n w _ _ _ h fun w1 B => ckC_any c h.four w1 T (h.inh B hT) ho hc
theorem schMost_any (h : Sch P c n w) {L R : Tr} (hl : InH w L) (hr : InH w R) (pl : PartC c L) (pr : PartC c R) (hc : L.count + R.count ≤ 20000) :
    Calls Tryz.prog 31 #[.pointer (some ⟨P, 0, none⟩), .pointer L.ptr, .pointer R.ptr] w (Does P c n (fun v _ => v = .int .i64 (mostC c L R : Nat)) w) :=
  schMost_by P c n w _ _ _ h fun w1 B => msC_any c h.four w1 L R (h.inh B hl) (h.inh B hr) pl pr hc
theorem schJoin_any (h : Sch P c n w) {L R : Tr} (k v g : Int) (hl : InH w L) (hr : InH w R) (pl : PartC c L) (pr : PartC c R) (hc : L.count + R.count ≤ 20000) (m : Nat) (hm : m ≤ w.heap.size) (nl : L.news m = 0) (nr : R.news m = 0) :
    Calls Tryz.prog 30 #[.pointer (some ⟨P, 0, none⟩), .pointer L.ptr, itV k v g, .pointer R.ptr] w (Does P c (IntKind.u64.wrap (n + 1)) (JoinsC m c L R k v g) w) :=
  schJoin_by P c n w _ _ k v g _ h fun w1 B => joC_any c m h.four w1 L R k v g (Nat.le_trans hm B.size) (h.inh B hl) (h.inh B hr) pl pr hc nl nr
end
end Go.Proofs.YtjiiokhjajfhjaaGreat
namespace Go.Proofs.YtjiiokhjajfhjaaGreat
open Go Go.RowKit

/-- behind a call of a scheme's method: the scheme stands, and what was there ahead of it. -/
structure St (w : World) (P c : Nat) (n : Int) (W : World) : Prop where
  ext : Ext w W
  new : w.heap.size ≤ P
  sch : Sch P c n W
theorem St.does {w : World} {P c : Nat} {n : Int} {W W' : World} (h : St w P c n W) {m : Int} (B : Bt [P] W W') (s : Sch P c m W') : St w P c m W' :=
  ⟨Bt.out h.ext (by simp; exact h.new) B, h.new, s⟩
theorem St.more {w : World} {P c : Nat} {n : Int} {W W' : World} (h : St w P c n W) (e : Ext W W') : St w P c n W' :=
  ⟨h.ext.trans e, h.new, h.sch.ext e⟩
theorem St.lt {w : World} {P c : Nat} {n : Int} {W : World} (h : St w P c n W) : P < W.heap.size := h.sch.lt
theorem nilCheck_any (w : World) (p : Value) : Calls Tryz.prog 46 #[.pointer none, p] w (Ret (.tuple #[.int .i64 0, .int .i64 1]) w) := by
  go_enter Tryz.func46, Tryz.ntmps46
  go_wp2
  exact bodyPost_ret (v := .tuple #[.int .i64 0, .int .i64 1]) (by simp [results, Tryz.results46, go_sem]) rfl (Ret.mk (Ext.refl _))
theorem nilJoin_any (w : World) (p q : Value) (k v g : Int) : Calls Tryz.prog 30 #[.pointer none, p, .agg #[.int .i64 k, .int .i64 v, .int .u64 g], q] w (Ret (.pointer none) w) := by
  go_enter Tryz.func30, Tryz.ntmps30
  go_wp2
  go_ret
  exact Ret.mk ((Ext.refl _).alloc _)
theorem nilMost_any (w : World) (p q : Value) : Calls Tryz.prog 31 #[.pointer none, p, q] w (Ret (.int .i64 0) w) := by
  go_enter Tryz.func31, Tryz.ntmps31
  go_wp2
  go_ret
  exact Ret.mk (Ext.refl _)
theorem of22_no (c : Nat) (hc : c < 256) (h : ¬ (1 ≤ c ∧ c ≤ 4)) (w : World) : Calls Tryz.prog 34 #[.int .u8 c] w (Ret (.tuple #[.pointer none, .bool false]) w) := by
  have hund : undef = Value.tuple #[] := rfl
  have H := Lib.hid (schOf_no c hc (by omega) w)
  clear h
  go_enter Tryz.func34, Tryz.ntmps34
  go_wp2_with fail
  refine (H.out).mono ?_
  rintro e w1 ⟨rfl, hS⟩
  go_wp2
  exact bodyPost_ret (v := .tuple #[.pointer none, .bool false]) (by simp [results, Tryz.results34, go_sem]) rfl (Ret.mk hS)
/-- a new scheme. -/
def Gets (c : Nat) (w : World) (e : Ending) (w' : World) : Prop := ∃ P, e = .returned (.tuple #[.pointer (some ⟨P, 0, none⟩), .bool true]) ∧ St w P c 0 w'
theorem of22_yes (c : Nat) (h4 : 1 ≤ c ∧ c ≤ 4) (w : World) : Calls Tryz.prog 34 #[.int .u8 c] w (Gets c w) := by
  have hund : undef = Value.tuple #[] := rfl
  have H := Lib.hid (schOf_yes c h4.1 h4.2 w)
  clear h4
  go_enter Tryz.func34, Tryz.ntmps34
  go_wp2_with fail
  refine H.out.mono ?_
  rintro e w1 ⟨P, rfl, h1, h2, h3⟩
  go_wp2
  exact bodyPost_ret (v := .tuple #[.pointer (some ⟨P, 0, none⟩), .bool true]) (by simp [results, Tryz.results34, go_sem]) rfl ⟨P, rfl, h3, h1, h2⟩
/-- a tree of one item. -/
theorem its_one {c : Nat} {T : Tr} {z : Int × Int × Int} (h : itsC c T = [z]) : ∃ b g, T = .node b .nil z.1 z.2.1 g .nil ∧ itC c (z.1, z.2.1, g) = z := by
  cases T with
  | nil => cases h
  | node b l k v g r =>
    rw [itsC_node] at h
    have hl : itsC c l = [] := by
      cases hh : itsC c l with
      | nil => rfl
      | cons x y => rw [hh] at h; simp at h
    rw [hl, List.nil_append, List.cons.injEq] at h
    have nl : l = .nil := by cases l with | nil => rfl | node => rw [itsC_node] at hl; simp at hl
    have nr : r = .nil := by cases r with | nil => rfl | node => have := h.2; rw [itsC_node] at this; simp at this
    subst nl nr
    obtain ⟨h1, -⟩ := h
    subst h1
    exact ⟨b, g, rfl, rfl⟩
end Go.Proofs.YtjiiokhjajfhjaaGreat
namespace Go.Proofs.YtjiiokhjajfhjaaGreat
open Go Go.RowKit

def ji64 (d : Nat) : Value := .int .i64 (d : Int)
/-- a row of integers: empty, whatever its address; or laid at an address. -/
def JRow (w : World) (v : Value) (xs : List Nat) : Prop :=
  (xs = [] ∧ ∃ a c, v = .slice a 0 c) ∨ ∃ b o c, v = .slice (some ⟨b, o, none⟩) xs.length c ∧ xs ≠ [] ∧ xs.length ≤ c ∧ w.rangeAt b o (xs.map ji64)
theorem JRow.ext {w w' : World} {v : Value} {xs : List Nat} (h : JRow w v xs) (e : Ext w w') : JRow w' v xs := by
  rcases h with h | ⟨b, o, c, h0, h1, h2, h3⟩
  · exact .inl h
  · exact .inr ⟨b, o, c, h0, h1, h2, rangeAt_ext h3 e⟩
/-- one more cell behind a row of one's own. -/
theorem wpList_append_cell {T E : TypeId} {zv : Value} {by' : Nat} (hT : Tryz.prog.underlying T = some (.slice E)) (hI : (Tryz.prog.info? E).map (fun i => (i.zero, i.size, i.bytes)) = some (some zv, 1, by')) (hzc : zv.cells.size = 1) (hby' : by' ≤ 8)
    {ops : Array Oper} {rest : List Oper} {o : Oper} {a : Act} {Q : Exit → Act → World → Prop} (hgd : o.guard = none) (s x : Operand) (ho : o.op = .call { callee := .builtin .append, args := #[s, x], argTypes := #[T, T] })
    {B : Nat} {w : World} {v u : Value} {n : Nat} {cs : List Value} {b : Nat} (hs : a.eval s = v) (hx : a.eval x = .slice (some ⟨b, 0, none⟩) 1 1) (hv : w.ownsRow B E 1 v n cs) (hb : w.cell? ⟨b, 0, none⟩ = some u) (hu : u.oneCell' = true) (hlen : n ≤ 20000) (hB : B ≤ w.heap.size)
    (h : ∀ v' w', w'.ownsRow B E 1 v' (n + 1) (cs ++ [u]) → w.grownBy w' v.ownBlock → (v'.ownBlock = v.ownBlock ∨ v'.ownBlock = some w.heap.size) → wpList Tryz.prog ops Q rest (a.put o.dst v') w') : wpList Tryz.prog ops Q (o :: rest) a w := by
  refine wpList_plain hgd fun K hK => ?_
  cases hi : Tryz.prog.info? E with
  | none => rw [hi] at hI; cases hI
  | some i =>
    rw [hi] at hI
    simp only [Option.map_some, Option.some.injEq, Prod.mk.injEq] at hI
    have hml : (20001 : Nat) ≤ maxLen := by decide
    have hmul : (n + 1) * by' ≤ 20001 * 8 := Nat.mul_le_mul (by omega) hby'
    obtain ⟨v', w', hr, h2, h3, _, h4⟩ := run_append_own_at (P := Tryz.prog) w B T o.type E i zv 1 by' hT hi hI.1 hI.2.1 hI.2.2 hzc (by omega) v n cs hv ⟨b, 0, none⟩ 1 1 [u] rfl
      (fun j u' hj => by
        rcases j with _ | j
        · simp at hj; subst hj; rw [Addr.add_mid]; exact hb
        · simp at hj) (fun u' hu' => by simp at hu'; subst hu'; exact hu) (by omega) (by omega) hB
    unfold Oper.wp execOp
    simp only [ho, resolve, invoke, builtin, Sem.run_bind, Sem.run_pure, Result.andThen_ok, List.map_toArray, List.map_cons, List.map_nil, hs, hx, hr]
    exact hK _ _ (h v' w' h2 h3 h4)
/-- a row of integers that was made since the heap had B blocks. -/
def JOwn (B : Nat) (w : World) (v : Value) (zs : List Nat) : Prop := w.ownsRow B 3 1 v zs.length (zs.map ji64)
theorem JOwn.nil (B : Nat) (w : World) : JOwn B w (.slice none 0 0) [] := ⟨rfl, .inl ⟨rfl, rfl⟩⟩
theorem JOwn.slice {B : Nat} {w : World} {v : Value} {zs : List Nat} (h : JOwn B w v zs) : ∃ a c, v = .slice a zs.length c := by
  obtain ⟨h1, ⟨rfl, h0⟩ | ⟨g, cap, cur, rfl, _⟩⟩ := h
  · exact ⟨none, 0, by rw [h0]⟩
  · exact ⟨_, _, rfl⟩
theorem JOwn.ext {B : Nat} {w w' : World} {v : Value} {zs : List Nat} (h : JOwn B w v zs) (e : Ext w w') : JOwn B w' v zs := by
  obtain ⟨h1, h | ⟨g, cap, cur, hv, hb, hg, hc⟩⟩ := h
  · exact ⟨h1, .inl h⟩
  · exact ⟨h1, .inr ⟨g, cap, cur, hv, hb, (e.block g (lt_of hg)).trans hg, hc⟩⟩
theorem JOwn.row {B : Nat} {w : World} {v : Value} {zs : List Nat} (h : JOwn B w v zs) : JRow w v zs := by
  obtain ⟨h1, ⟨rfl, h0⟩ | ⟨g, cap, cur, rfl, hb, hg, hc, hm, hs, ht⟩⟩ := h
  · exact .inl ⟨List.eq_nil_of_length_eq_zero h0, _, 0, rfl⟩
  · by_cases h0 : zs = []
    · subst h0; exact .inl ⟨rfl, _, _, rfl⟩
    · refine .inr ⟨g, 0, cap, rfl, h0, hc, fun j u hj => ?_⟩
      rw [Nat.zero_add, cell_of hg j]
      rw [← ht, List.getElem?_take] at hj
      split at hj
      · simpa using hj
      · cases hj
theorem JOwn.grown {w W W' : World} {v : Value} {zs : List Nat} (hE : Ext w W) (h : JOwn w.heap.size W v zs) (hg : W.grownBy W' v.ownBlock) : Ext w W' :=
  RowKit.Below.grown hE hg hE.size (fun k hk => ((World.ownsRow.lt h) k hk).1)
theorem wpList_append_j {ops : Array Oper} {rest : List Oper} {o : Oper} {a : Act} {Q : Exit → Act → World → Prop} (hgd : o.guard = none) (s x : Operand) (ho : o.op = .call { callee := .builtin .append, args := #[s, x], argTypes := #[29, 29] })
    {B : Nat} {w : World} {v : Value} {zs : List Nat} {d b : Nat} (hs : a.eval s = v) (hx : a.eval x = .slice (some ⟨b, 0, none⟩) 1 1) (hv : JOwn B w v zs) (hb : w.cell? ⟨b, 0, none⟩ = some (.int .i64 (d : Nat))) (hlen : zs.length ≤ 20000) (hB : B ≤ w.heap.size)
    (h : ∀ v' w', JOwn B w' v' (zs ++ [d]) → w.grownBy w' v.ownBlock → (v'.ownBlock = v.ownBlock ∨ v'.ownBlock = some w.heap.size) → wpList Tryz.prog ops Q rest (a.put o.dst v') w') : wpList Tryz.prog ops Q (o :: rest) a w :=
  wpList_append_cell (zv := .int .i64 0) (by' := 8) Tryz.underlying29 (by kernel_rfl) rfl (by decide) hgd s x ho hs hx hv hb rfl hlen hB fun v' w' h1 h2 h3 => h v' w' (by
    show w'.ownsRow _ _ _ _ _ _
    rw [List.length_append, List.map_append]
    exact h1) h2 h3
end Go.Proofs.YtjiiokhjajfhjaaGreat
