/- look.goes, as what goes over a tree; look.nodes, Count, Height. -/
import Derived.Test.YtkbndpemljommaaLook
namespace Go.Proofs.Ytkbndpemljommaa
open Go Go.RowKit Go.Shelf
attribute [local go_sem] Oper.semAt_some

theorem ext_abides {β : Type} {B : Nat} {J : β → World → Prop} (hJ : AbidesFrom B J) {s : β} {W W' : World} (h : J s W) (hE : Ext W W') : J s W' :=
  hJ s W W' none h ⟨hE.os, hE.tape, hE.output, Below.size hE, fun k hk _ => Below.block hE k hk⟩ (fun r e => by cases e)
/-- lists of what has a property, as lists. -/
def UnderP {Px : Tr → Prop} (J : List { x : Tr // Px x } → World → Prop) (l : List Tr) (W : World) : Prop := ∃ l' : List { x : Tr // Px x }, l'.map (·.1) = l ∧ J l' W
set_option maxHeartbeats 1000000 in
/-- what look.nodes hands back goes over a tree's nodes, from left to right. -/
theorem goesL_stops
 (M : Nat → Prop) (Px : Tr → Prop) (n ba bb bt : Nat) (T : Tr) (w : World) (hM : ∀ i, M i → i < w.heap.size) (hba : Boxed w ba 52 (.func (.func 23) #[] #[])) (hbb : Boxed w bb 52 (.func (.func 22) #[] #[])) (hbt : Boxed w bt 25 (.pointer T.ptr))
    (ha0 : ¬ M ba) (hb0 : ¬ M bb) (hT : InH w T) (ho : Off M T) (hP : ∀ x ∈ T.inl, Px x) :
    SeqStopsK Fence.wide n Try.prog 33 #[.pointer (some ⟨ba, 0, none⟩), .pointer (some ⟨bb, 0, none⟩), .pointer (some ⟨bt, 0, none⟩)] (fun x : { x : Tr // Px x } => #[Value.pointer x.1.ptr]) (Keep M) (fun ys => ys.map (·.1) = T.inl) (fun q => q.map (·.1) <+: T.inl) (T.inl).length w := by
  intro l J Jx W hW hJ hJx hY h0
  have hE : Ext w W := hW
  have hsz : w.heap.size ≤ W.heap.size := hW.size
  have hW2 : Ext W ((W.alloc (.cells #[.func (.yield l) #[] #[]] 64)).alloc (.cells #[.func (.func 34) #[] #[.pointer (some ⟨W.heap.size + 1, 0, none⟩), .pointer (some ⟨ba, 0, none⟩), .pointer (some ⟨W.heap.size, 0, none⟩), .pointer (some ⟨bb, 0, none⟩)]] 64)) := ((Ext.refl W).alloc _).alloc _
  have hon := (lookOnL_in M Px l (T.inl).length W.heap.size (W.heap.size + 1) ba bb (UnderP J) (UnderP Jx) (fun h => by have := hM _ h; omega) (fun h => by have := hM _ h; omega) ha0 hb0
    (fun m pre x W hx ⟨l', hl', hj⟩ hl => YieldAt.any m (YieldAt.mono (hY l' ⟨x, hx⟩ W hj (by rw [← hl'] at hl; simpa using hl)) fun e W' h => h.elim
      (fun ⟨he, h1, h2⟩ => .inl ⟨he, ⟨l' ++ [⟨x, hx⟩], by simp [hl'], h1⟩, h2⟩) (fun ⟨he, h1⟩ => .inr ⟨he, ⟨l' ++ [⟨x, hx⟩], by simp [hl'], h1⟩⟩)))
    (fun pre W W' ⟨l', hl', h⟩ hE => ⟨l', hl', ext_abides hJ h hE⟩) T (n - 1) [] _ ((hT.ext hE).ext hW2) ho hP ⟨[], rfl, ext_abides hJ h0 hW2⟩ (by simp)
    ((Boxed.new W _ _).alloc _) (by have := Boxed.new (W.alloc (.cells #[.func (.yield l) #[] #[]] 64)) 64 (.func (.func 34) #[] #[.pointer (some ⟨W.heap.size + 1, 0, none⟩), .pointer (some ⟨ba, 0, none⟩), .pointer (some ⟨W.heap.size, 0, none⟩), .pointer (some ⟨bb, 0, none⟩)]); simpa using this) ((hE.trans hW2).get hba) ((hE.trans hW2).get hbb))
  have Hon := Lib.hid hon
  clear hon hY hP
  have hcb := (show Boxed W bt _ _ from hE.get hbt).cell
  have hlb := (show Boxed W bt _ _ from hE.get hbt).lt
  have hfn : ∀ f, Fence.wide.fn f := fun _ => trivial
  refine callsIn_of_wp Try.func33 rfl trivial ?_ rfl
  simp only [Try.ntmps33, List.size_toArray, List.length_cons, List.length_nil, Nat.reduceAdd, Nat.reduceSub, Array.replicate_succ, Array.replicate_zero, List.push_toArray, List.append_toArray, List.nil_append, List.cons_append]
  gi_wp2_with fail
  refine ⟨wide_room _, Hon.out.mono ?_⟩
  rintro e W1 (⟨rfl, ⟨l', hl', hJ1⟩, -⟩ | ⟨rfl, q, hq, l', hl', hJ1⟩)
  · gi_wp2
    go_end0
    exact ⟨⟨_, rfl⟩, .inl ⟨_, by simpa using hl', hJ1⟩⟩
  · gi_wp2
    go_end0
    exact ⟨⟨_, rfl⟩, .inr ⟨l', by rw [hl']; simpa using hq, hJ1⟩⟩
set_option maxHeartbeats 1000000 in
theorem goesR_stops
 (M : Nat → Prop) (Px : Tr → Prop) (n ba bb bt : Nat) (T : Tr) (w : World) (hM : ∀ i, M i → i < w.heap.size) (hba : Boxed w ba 52 (.func (.func 22) #[] #[])) (hbb : Boxed w bb 52 (.func (.func 23) #[] #[])) (hbt : Boxed w bt 25 (.pointer T.ptr))
    (ha0 : ¬ M ba) (hb0 : ¬ M bb) (hT : InH w T) (ho : Off M T) (hP : ∀ x ∈ T.inr, Px x) :
    SeqStopsK Fence.wide n Try.prog 33 #[.pointer (some ⟨ba, 0, none⟩), .pointer (some ⟨bb, 0, none⟩), .pointer (some ⟨bt, 0, none⟩)] (fun x : { x : Tr // Px x } => #[Value.pointer x.1.ptr]) (Keep M) (fun ys => ys.map (·.1) = T.inr) (fun q => q.map (·.1) <+: T.inr) (T.inr).length w := by
  intro l J Jx W hW hJ hJx hY h0
  have hE : Ext w W := hW
  have hsz : w.heap.size ≤ W.heap.size := hW.size
  have hW2 : Ext W ((W.alloc (.cells #[.func (.yield l) #[] #[]] 64)).alloc (.cells #[.func (.func 34) #[] #[.pointer (some ⟨W.heap.size + 1, 0, none⟩), .pointer (some ⟨ba, 0, none⟩), .pointer (some ⟨W.heap.size, 0, none⟩), .pointer (some ⟨bb, 0, none⟩)]] 64)) := ((Ext.refl W).alloc _).alloc _
  have hon := (lookOnR_in M Px l (T.inr).length W.heap.size (W.heap.size + 1) ba bb (UnderP J) (UnderP Jx) (fun h => by have := hM _ h; omega) (fun h => by have := hM _ h; omega) ha0 hb0
    (fun m pre x W hx ⟨l', hl', hj⟩ hl => YieldAt.any m (YieldAt.mono (hY l' ⟨x, hx⟩ W hj (by rw [← hl'] at hl; simpa using hl)) fun e W' h => h.elim
      (fun ⟨he, h1, h2⟩ => .inl ⟨he, ⟨l' ++ [⟨x, hx⟩], by simp [hl'], h1⟩, h2⟩) (fun ⟨he, h1⟩ => .inr ⟨he, ⟨l' ++ [⟨x, hx⟩], by simp [hl'], h1⟩⟩)))
    (fun pre W W' ⟨l', hl', h⟩ hE => ⟨l', hl', ext_abides hJ h hE⟩) T (n - 1) [] _ ((hT.ext hE).ext hW2) ho hP ⟨[], rfl, ext_abides hJ h0 hW2⟩ (by simp)
    ((Boxed.new W _ _).alloc _) (by have := Boxed.new (W.alloc (.cells #[.func (.yield l) #[] #[]] 64)) 64 (.func (.func 34) #[] #[.pointer (some ⟨W.heap.size + 1, 0, none⟩), .pointer (some ⟨ba, 0, none⟩), .pointer (some ⟨W.heap.size, 0, none⟩), .pointer (some ⟨bb, 0, none⟩)]); simpa using this) ((hE.trans hW2).get hba) ((hE.trans hW2).get hbb))
  have Hon := Lib.hid hon
  clear hon hY hP
  have hcb := (show Boxed W bt _ _ from hE.get hbt).cell
  have hlb := (show Boxed W bt _ _ from hE.get hbt).lt
  have hfn : ∀ f, Fence.wide.fn f := fun _ => trivial
  refine callsIn_of_wp Try.func33 rfl trivial ?_ rfl
  simp only [Try.ntmps33, List.size_toArray, List.length_cons, List.length_nil, Nat.reduceAdd, Nat.reduceSub, Array.replicate_succ, Array.replicate_zero, List.push_toArray, List.append_toArray, List.nil_append, List.cons_append]
  gi_wp2_with fail
  refine ⟨wide_room _, Hon.out.mono ?_⟩
  rintro e W1 (⟨rfl, ⟨l', hl', hJ1⟩, -⟩ | ⟨rfl, q, hq, l', hl', hJ1⟩)
  · gi_wp2
    go_end0
    exact ⟨⟨_, rfl⟩, .inl ⟨_, by simpa using hl', hJ1⟩⟩
  · gi_wp2
    go_end0
    exact ⟨⟨_, rfl⟩, .inr ⟨l', by rw [hl']; simpa using hq, hJ1⟩⟩
/-- what look.goes lays into memory. -/
def goesW (w : World) (p : Option Addr) (fa fb : Value) : World := ((w.alloc (.cells #[.pointer p] 25)).alloc (.cells #[fa] 52)).alloc (.cells #[fb] 52)
def goesV (N : Nat) : Value := .func (.func 33) #[] #[.pointer (some ⟨N + 1, 0, none⟩), .pointer (some ⟨N + 1 + 1, 0, none⟩), .pointer (some ⟨N, 0, none⟩)]
theorem goesW_all (w : World) (p : Option Addr) (fa fb : Value) : Ext w (goesW w p fa fb) ∧ (goesW w p fa fb).heap.size = w.heap.size + 3 ∧ Boxed (goesW w p fa fb) w.heap.size 25 (.pointer p) ∧ Boxed (goesW w p fa fb) (w.heap.size + 1) 52 fa ∧ Boxed (goesW w p fa fb) (w.heap.size + 1 + 1) 52 fb := by
  refine ⟨(((Ext.refl w).alloc _).alloc _).alloc _, by simp [goesW], ?_, ?_, ?_⟩ <;> unfold goesW <;> (try unfold Boxed) <;> (repeat (first | exact alloc_at _ _ _ (by simp) | rw [alloc_lt _ _ _ (by simp <;> omega)]))
theorem goes_any (w : World) (p : Option Addr) (f g : Nat) : Calls Try.prog 21 #[.pointer p, .func (.func f) #[] #[], .func (.func g) #[] #[]] w fun e w' => e = .returned (goesV w.heap.size) ∧ w' = goesW w p (.func (.func f) #[] #[]) (.func (.func g) #[] #[]) := by
  go_enter Try.func21, Try.ntmps21
  go_wp2
  go_ret
  exact ⟨rfl, rfl⟩
theorem nodes_any (w : World) (p : Option Addr) : Calls Try.prog 20 #[.pointer p] w fun e w' => e = .returned (goesV w.heap.size) ∧ w' = goesW w p (.func (.func 23) #[] #[]) (.func (.func 22) #[] #[]) := by
  have HG := Lib.hid (goes_any w p 23 22)
  go_enter Try.func20, Try.ntmps20
  go_wp2_with fail
  refine HG.out.mono ?_
  rintro e w1 ⟨rfl, rfl⟩
  go_wp2
  go_ret
  exact ⟨rfl, rfl⟩
/-- how high a tree is. -/
def hgt : Tr → Int
  | .nil => 0
  | .node _ l _ _ _ r => wrap64 (1 + max (hgt l) (hgt r))
set_option maxHeartbeats 1000000 in
theorem lookHeight_any (t : Tr) : ∀ (w : World), InH w t → Calls Try.prog 16 #[.pointer t.ptr] w (Ret (.int .i64 (hgt t)) w) := by
  induction t with
  | nil =>
    intro w _
    rw [Tr.ptr_nil]
    go_enter Try.func16, Try.ntmps16
    go_wp2
    go_ret
    exact Ret.mk (Ext.refl _)
  | node b l k v g r ihl ihr =>
    intro w ht
    have Hl := Lib.hid ihl
    have Hr := Lib.hid ihr
    clear ihl ihr
    have HT := Lib.hid ht
    have e : hgt (.node b l k v g r) = wrap64 (1 + max (hgt l) (hgt r)) := rfl
    rw [e, Tr.ptr_node]
    clear e ht
    rcases Int.lt_or_le (hgt l) (hgt r) with c | c
    · have hm : max (hgt l) (hgt r) = hgt r := by omega
      have HM := Lib.hid hm
      clear hm
      go_enter Try.func16, Try.ntmps16
      go_wp2_with fail
      rw [← Tr.ptr_node b l k v g r]
      refine (left_any w (.node b l k v g r) HT.out).mono ?_
      rintro e w1 ⟨rfl, h1⟩
      rw [Tr.left_node, Tr.ptr_node]
      go_wp2_with fail
      refine (Hl.out w1 (HT.out.ext h1).2.1).mono ?_
      rintro e w2 ⟨rfl, h2⟩
      have h12 := h1.trans h2
      clear h1 h2
      go_wp2_with fail
      rw [← Tr.ptr_node b l k v g r]
      refine (right_any w2 (.node b l k v g r) (HT.out.ext h12)).mono ?_
      rintro e w3 ⟨rfl, h3⟩
      rw [Tr.right_node, Tr.ptr_node]
      have h13 := h12.trans h3
      clear h12 h3
      go_wp2_with fail
      refine (Hr.out w3 (HT.out.ext h13).2.2).mono ?_
      rintro e w4 ⟨rfl, h4⟩
      go_wp2
      go_ret
      exact ⟨by rw [HM.out]; rfl, h13.trans h4⟩
    · have hm : max (hgt l) (hgt r) = hgt l := by omega
      have HM := Lib.hid hm
      clear hm
      go_enter Try.func16, Try.ntmps16
      go_wp2_with fail
      rw [← Tr.ptr_node b l k v g r]
      refine (left_any w (.node b l k v g r) HT.out).mono ?_
      rintro e w1 ⟨rfl, h1⟩
      rw [Tr.left_node, Tr.ptr_node]
      go_wp2_with fail
      refine (Hl.out w1 (HT.out.ext h1).2.1).mono ?_
      rintro e w2 ⟨rfl, h2⟩
      have h12 := h1.trans h2
      clear h1 h2
      go_wp2_with fail
      rw [← Tr.ptr_node b l k v g r]
      refine (right_any w2 (.node b l k v g r) (HT.out.ext h12)).mono ?_
      rintro e w3 ⟨rfl, h3⟩
      rw [Tr.right_node, Tr.ptr_node]
      have h13 := h12.trans h3
      clear h12 h3
      go_wp2_with fail
      refine (Hr.out w3 (HT.out.ext h13).2.2).mono ?_
      rintro e w4 ⟨rfl, h4⟩
      go_wp2
      go_ret
      exact ⟨by rw [HM.out]; rfl, h13.trans h4⟩
theorem wrap64_up (a : Int) : wrap64 (wrap64 a + 1) = wrap64 (a + 1) := by unfold wrap64; omega
theorem results_box {fn : Func} {t : Tmp} {A : TypeId} (h : fn.results = #[.cell t A]) (tmps : Array Value) (w : World) {a : Value} {p : Addr} (ht : tmps.getD t undef = .pointer (some p))
    (hA : ∀ w : World, (isAgg A).run Try.prog w = .ok false w) (hp : w.cell? p = some a) :
    (results fn tmps).run Try.prog w = .ok a w := by
  simp only [Array.getD_eq_getD_getElem?] at ht
  simp [results, h, ht, loadVar, hA, asAddr, hp]
/-- a function's end, whose one result lies in a box of its own that has been written once more, behind a range over a function. -/
theorem one_end {w W0 W : World} {N D : Nat} {t : TypeId} {a : Value} (hN : w.heap.size = N) (hE : Ext w W0) (hb : Below N W0 W) (hD : W0.heap.size ≤ D) (hK : W.heap[D]? = some (.deferred (some []))) (h1 : Boxed W N t a) (hs : N + 1 ≤ W0.heap.size) :
    (W.setCell ⟨N, 0, none⟩ a).heap[D]? = some (.deferred (some [])) ∧ ((W.setCell ⟨N, 0, none⟩ a).putObj D (.deferred none)).cell? ⟨N, 0, none⟩ = some a ∧ Ext w ((W.setCell ⟨N, 0, none⟩ a).putObj D (.deferred none)) := by
  have hk : (W.setCell ⟨N, 0, none⟩ a).heap[D]? = some (.deferred (some [])) := (KeepsOthers.setCell _ _ _).same D _ hK rfl
  refine ⟨hk, (Boxed.kept (h1.set a) (grownBy_putObj' _ D _) (by simp; omega)).cell, ?_⟩
  have hB : Below N w W0 := by have := hE; unfold Ext at this; rwa [hN] at this
  have hB2 := (hB.trans hb).setCell (p := ⟨N, 0, none⟩) (Nat.le_refl N) a
  have := hB2.trans (belowK_b (w := W0) (n₀ := N) (by omega) _ D _ (.deferred none) hD hk rfl rfl)
  unfold Ext
  rwa [hN]
/-- the world ahead of Count's loop. -/
def cntW (w : World) (p : Option Addr) : World := goesW (w.alloc (.cells #[.int .i64 0] 3)) p (.func (.func 23) #[] #[]) (.func (.func 22) #[] #[])
theorem cntW_all (w : World) (p : Option Addr) : Ext w (cntW w p) ∧ (cntW w p).heap.size = w.heap.size + 4 ∧ Boxed (cntW w p) w.heap.size 3 (.int .i64 0) ∧ Boxed (cntW w p) (w.heap.size + 1) 25 (.pointer p) ∧
    Boxed (cntW w p) (w.heap.size + 1 + 1) 52 (.func (.func 23) #[] #[]) ∧ Boxed (cntW w p) (w.heap.size + 1 + 1 + 1) 52 (.func (.func 22) #[] #[]) := by
  refine ⟨((((Ext.refl w).alloc _).alloc _).alloc _).alloc _, by simp [cntW, goesW], ?_, ?_, ?_, ?_⟩ <;> unfold cntW goesW <;> (try unfold Boxed) <;> (repeat (first | exact alloc_at _ _ _ (by simp) | rw [alloc_lt _ _ _ (by simp <;> omega)]))
set_option maxRecDepth 100000 in
set_option maxHeartbeats 2000000 in
theorem lookCount_in (n : Nat) (hn : Hid (1 ≤ n)) (T : Tr) (w : World) (hT : InH w T) : CallsIn Fence.wide n Try.prog 17 #[.pointer T.ptr] w (Ret (.int .i64 (wrap64 T.inl.length)) w) := by
  have hfn : ∀ f, Fence.wide.fn f := fun _ => trivial
  refine callsIn_of_wp_marks Try.func17 rfl trivial ?_ rfl
  simp only [Try.ntmps17, List.size_toArray, List.length_cons, List.length_nil, Nat.reduceAdd, Nat.reduceSub, Array.replicate_succ, Array.replicate_zero, List.push_toArray, List.append_toArray, List.nil_append, List.cons_append]
  gi_wp2_with fail
  gi_wp2_with fail
  refine ⟨wide_room _, (callsIn_wide.2 (nodes_any _ _)).mono ?_⟩
  rintro e w1 ⟨rfl, rfl⟩
  gi_wp2_with fail
  change Code.wpIn _ _ _ _ _ _ (cntW w T.ptr)
  obtain ⟨hE, hsz, hat, htb, hba, hbb⟩ := cntW_all w T.ptr
  generalize cntW w T.ptr = W0 at *
  unfold goesV
  generalize hN : w.heap.size = N at *
  have HN := Lib.hid hN
  clear hN
  refine wpIn_rangeFunc_ownG rfl (n := n) (w := W0) hn.out (gf := 33) (lb := #[.pointer (some ⟨N + 1 + 1, 0, none⟩), .pointer (some ⟨N + 1 + 1 + 1, 0, none⟩), .pointer (some ⟨N + 1, 0, none⟩)]) rfl trivial (enters_of Try.func33 (by kernel_rfl) rfl)
    (goesL_stops (fun i => i = N) (fun _ => True) (n - 1) _ _ _ T W0 (by omega) hba hbb htb (by omega) (by omega) (hT.ext hE) (InH.off (fun i h => by rw [HN.out]; omega) hT) (fun _ _ => trivial))
    (fun h k => Keep.trans h k) (fun W l o o' _ h ho _ => Keep.putObj W l o o' h ho) (RowKit.Below.refl _ _) (fun _ => rfl)
    (fun pre W => Boxed W N 3 (.int .i64 (wrap64 pre.length)) ∧ Below N W0 W)
    (fun c pre W => False)
    ?own ?ownx ⟨(by simpa [wrap64] using hat), Below.refl _ _⟩ (fun x => { tmps := #[Value.pointer T.ptr, undef, Value.pointer (some ⟨N, 0, none⟩), Value.pointer T.ptr, Value.func (Fn.func 33) #[] #[.pointer (some ⟨N + 1 + 1, 0, none⟩), .pointer (some ⟨N + 1 + 1 + 1, 0, none⟩), .pointer (some ⟨N + 1, 0, none⟩)], Value.pointer x.1.ptr, undef, undef, undef], defers := [] }) ?assign ?body ?done ?stop
  case own =>
    rintro s A A' row ⟨h1, h5⟩ hg hr
    exact ⟨boxed_grown h1 hg hr, below_grown (by omega) (by omega) h5 hg hr⟩
  case ownx =>
    rintro c s A A' row h hg hr
    exact h
  case assign =>
    intro l x W K hK
    gi_wp2
    simpa using hK
  case body =>
    rintro l pre x W ⟨hat, hb⟩ _
    have HB := Lib.hid (And.intro hat hb)
    have hce := hat.cell
    have hfe := hat.frozen
    clear hat hb hsz htb hba hbb
    gi_wp2
    refine ⟨keepsFrom_set _ _ _, Keep.setCell _ _ _ rfl, ?_, HB.out.2.setCell (p := ⟨N, 0, none⟩) (Nat.le_refl N) _⟩
    have := HB.out.1.set (.int .i64 (wrap64 (wrap64 pre.length + 1)))
    rw [wrap64_up] at this ⊢
    rw [List.length_append]
    exact this
  case done =>
    rintro D ys W hD hys ⟨hat, hb⟩ hK
    have HB := Lib.hid (And.intro hat hb)
    have HD := Lib.hid (And.intro hD hK)
    have hce := hat.cell
    have hfe := hat.frozen
    clear hat hb htb hba hbb hD hK
    gi_wp2
    obtain ⟨f1, f2, f4⟩ := one_end HN.out hE HB.out.2 HD.out.1 HD.out.2 HB.out.1 (by omega)
    refine ⟨by simp, .inl ⟨_, _, rfl, run_takeDeferred f1, ?_⟩⟩
    refine ⟨_, results_box rfl _ _ rfl (fun _ => by kernel_rfl) f2, ?_, f4⟩
    have e : ys.length = T.inl.length := by rw [← hys, List.length_map]
    rw [e]
  case stop =>
    rintro D c q W hD hq h hK
    exact h.elim
/-- **look.Count**, of any tree. -/
theorem lookCount_any (w : World) (T : Tr) (hT : InH w T) : Calls Try.prog 17 #[.pointer T.ptr] w (Ret (.int .i64 (wrap64 T.inl.length)) w) :=
  callsIn_wide.1 (lookCount_in 9 (Lib.hid (by omega)) T w hT)
end Go.Proofs.Ytkbndpemljommaa
