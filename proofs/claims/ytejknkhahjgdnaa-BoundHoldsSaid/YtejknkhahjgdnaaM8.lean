/- look.goes, as what goes over a tree; look.nodes, Count, Height. joinerylaw34: sound; heights and counts as the program tells them; when a tree may be. joinerylaw34.BoundTight. joineryref34.Picker.Grow; how high trees may be that are so and so large, by heights, colours and weights. Arguments that are rows of bytes, opened to cells. joinerylaw34.BoundHolds. -/
import Derived.Test.YtejknkhahjgdnaaM7
import Derived.Deep.Slices
import Derived.Deep.Fields
import Derived.ChangeSame
import Derived.OpenShut
import Derived.ProofKit
namespace Go.Proofs.Ytejknkhahjgdnaa
open Go Go.RowKit Go.Shelf
attribute [local go_sem] Oper.semAt_some

theorem ext_abides {β : Type} {B : Nat} {J : β → World → Prop} (hJ : AbidesFrom B J) {s : β} {W W' : World} (h : J s W) (hE : Ext W W') : J s W' :=
  hJ s W W' none h ⟨hE.os, hE.tape, hE.output, Below.size hE, fun k hk _ => Below.block hE k hk⟩ (fun r e => by cases e)
/-- lists of what has a property, as lists. -/
def UnderP {Px : Tr → Prop} (J : List { x : Tr // Px x } → World → Prop) (l : List Tr) (W : World) : Prop := ∃ l' : List { x : Tr // Px x }, l'.map (·.1) = l ∧ J l' W
set_option maxHeartbeats 1000000 in
/-- what look.nodes hands back goes over a tree's nodes, from left to right. -/
theorem goesL_stops
 (M : Nat → Prop) (Px : Tr → Prop) (n ba bb bt : Nat) (T : Tr) (w : World) (hM : ∀ i, M i → i < w.heap.size) (hba : Boxed w ba 92 (.func (.func 43) #[] #[])) (hbb : Boxed w bb 92 (.func (.func 44) #[] #[])) (hbt : Boxed w bt 43 (.pointer T.ptr))
    (ha0 : ¬ M ba) (hb0 : ¬ M bb) (hT : InH w T) (ho : Off M T) (hP : ∀ x ∈ T.inl, Px x) :
    SeqStopsK Fence.wide n Try.prog 85 #[.pointer (some ⟨ba, 0, none⟩), .pointer (some ⟨bb, 0, none⟩), .pointer (some ⟨bt, 0, none⟩)] (fun x : { x : Tr // Px x } => #[Value.pointer x.1.ptr]) (Keep M) (fun ys => ys.map (·.1) = T.inl) (fun q => q.map (·.1) <+: T.inl) (T.inl).length w := by
  intro l J Jx W hW hJ hJx hY h0
  have hE : Ext w W := hW
  have hsz : w.heap.size ≤ W.heap.size := hW.size
  have hW2 : Ext W ((W.alloc (.cells #[.func (.yield l) #[] #[]] 76)).alloc (.cells #[.func (.func 86) #[] #[.pointer (some ⟨W.heap.size + 1, 0, none⟩), .pointer (some ⟨ba, 0, none⟩), .pointer (some ⟨W.heap.size, 0, none⟩), .pointer (some ⟨bb, 0, none⟩)]] 76)) := ((Ext.refl W).alloc _).alloc _
  have hon := (lookOnL_in M Px l (T.inl).length W.heap.size (W.heap.size + 1) ba bb (UnderP J) (UnderP Jx) (fun h => by have := hM _ h; omega) (fun h => by have := hM _ h; omega) ha0 hb0
    (fun m pre x W hx ⟨l', hl', hj⟩ hl => YieldAt.any m (YieldAt.mono (hY l' ⟨x, hx⟩ W hj (by rw [← hl'] at hl; simpa using hl)) fun e W' h => h.elim
      (fun ⟨he, h1, h2⟩ => .inl ⟨he, ⟨l' ++ [⟨x, hx⟩], by simp [hl'], h1⟩, h2⟩) (fun ⟨he, h1⟩ => .inr ⟨he, ⟨l' ++ [⟨x, hx⟩], by simp [hl'], h1⟩⟩)))
    (fun pre W W' ⟨l', hl', h⟩ hE => ⟨l', hl', ext_abides hJ h hE⟩) T (n - 1) [] _ ((hT.ext hE).ext hW2) ho hP ⟨[], rfl, ext_abides hJ h0 hW2⟩ (by simp)
    ((Boxed.new W _ _).alloc _) (by have := Boxed.new (W.alloc (.cells #[.func (.yield l) #[] #[]] 76)) 76 (.func (.func 86) #[] #[.pointer (some ⟨W.heap.size + 1, 0, none⟩), .pointer (some ⟨ba, 0, none⟩), .pointer (some ⟨W.heap.size, 0, none⟩), .pointer (some ⟨bb, 0, none⟩)]); simpa using this) ((hE.trans hW2).get hba) ((hE.trans hW2).get hbb))
  have Hon := Lib.hid hon
  clear hon hY hP
  have hcb := (show Boxed W bt _ _ from hE.get hbt).cell
  have hlb := (show Boxed W bt _ _ from hE.get hbt).lt
  have hfn : ∀ f, Fence.wide.fn f := fun _ => trivial
  refine callsIn_of_wp Try.func85 rfl trivial ?_ rfl
  simp only [Try.ntmps85, List.size_toArray, List.length_cons, List.length_nil, Nat.reduceAdd, Nat.reduceSub, Array.replicate_succ, Array.replicate_zero, List.push_toArray, List.append_toArray, List.nil_append, List.cons_append]
  gi_wp2_with fail
  refine ⟨wide_room _, Hon.out.mono ?_⟩
  rintro e W1 (⟨rfl, ⟨l', hl', hJ1⟩, -⟩ | ⟨rfl, q, hq, l', hl', hJ1⟩)
  · gi_wp2
    go_end0
    exact ⟨⟨_, rfl⟩, .inl ⟨_, by simpa using hl', hJ1⟩⟩
  · gi_wp2
    go_end0
    exact ⟨⟨_, rfl⟩, .inr ⟨l', by rw [hl']; simpa using hq, hJ1⟩⟩
set_option maxHeartbeats 1000000 in
theorem goesR_stops
 (M : Nat → Prop) (Px : Tr → Prop) (n ba bb bt : Nat) (T : Tr) (w : World) (hM : ∀ i, M i → i < w.heap.size) (hba : Boxed w ba 92 (.func (.func 44) #[] #[])) (hbb : Boxed w bb 92 (.func (.func 43) #[] #[])) (hbt : Boxed w bt 43 (.pointer T.ptr))
    (ha0 : ¬ M ba) (hb0 : ¬ M bb) (hT : InH w T) (ho : Off M T) (hP : ∀ x ∈ T.inr, Px x) :
    SeqStopsK Fence.wide n Try.prog 85 #[.pointer (some ⟨ba, 0, none⟩), .pointer (some ⟨bb, 0, none⟩), .pointer (some ⟨bt, 0, none⟩)] (fun x : { x : Tr // Px x } => #[Value.pointer x.1.ptr]) (Keep M) (fun ys => ys.map (·.1) = T.inr) (fun q => q.map (·.1) <+: T.inr) (T.inr).length w := by
  intro l J Jx W hW hJ hJx hY h0
  have hE : Ext w W := hW
  have hsz : w.heap.size ≤ W.heap.size := hW.size
  have hW2 : Ext W ((W.alloc (.cells #[.func (.yield l) #[] #[]] 76)).alloc (.cells #[.func (.func 86) #[] #[.pointer (some ⟨W.heap.size + 1, 0, none⟩), .pointer (some ⟨ba, 0, none⟩), .pointer (some ⟨W.heap.size, 0, none⟩), .pointer (some ⟨bb, 0, none⟩)]] 76)) := ((Ext.refl W).alloc _).alloc _
  have hon := (lookOnR_in M Px l (T.inr).length W.heap.size (W.heap.size + 1) ba bb (UnderP J) (UnderP Jx) (fun h => by have := hM _ h; omega) (fun h => by have := hM _ h; omega) ha0 hb0
    (fun m pre x W hx ⟨l', hl', hj⟩ hl => YieldAt.any m (YieldAt.mono (hY l' ⟨x, hx⟩ W hj (by rw [← hl'] at hl; simpa using hl)) fun e W' h => h.elim
      (fun ⟨he, h1, h2⟩ => .inl ⟨he, ⟨l' ++ [⟨x, hx⟩], by simp [hl'], h1⟩, h2⟩) (fun ⟨he, h1⟩ => .inr ⟨he, ⟨l' ++ [⟨x, hx⟩], by simp [hl'], h1⟩⟩)))
    (fun pre W W' ⟨l', hl', h⟩ hE => ⟨l', hl', ext_abides hJ h hE⟩) T (n - 1) [] _ ((hT.ext hE).ext hW2) ho hP ⟨[], rfl, ext_abides hJ h0 hW2⟩ (by simp)
    ((Boxed.new W _ _).alloc _) (by have := Boxed.new (W.alloc (.cells #[.func (.yield l) #[] #[]] 76)) 76 (.func (.func 86) #[] #[.pointer (some ⟨W.heap.size + 1, 0, none⟩), .pointer (some ⟨ba, 0, none⟩), .pointer (some ⟨W.heap.size, 0, none⟩), .pointer (some ⟨bb, 0, none⟩)]); simpa using this) ((hE.trans hW2).get hba) ((hE.trans hW2).get hbb))
  have Hon := Lib.hid hon
  clear hon hY hP
  have hcb := (show Boxed W bt _ _ from hE.get hbt).cell
  have hlb := (show Boxed W bt _ _ from hE.get hbt).lt
  have hfn : ∀ f, Fence.wide.fn f := fun _ => trivial
  refine callsIn_of_wp Try.func85 rfl trivial ?_ rfl
  simp only [Try.ntmps85, List.size_toArray, List.length_cons, List.length_nil, Nat.reduceAdd, Nat.reduceSub, Array.replicate_succ, Array.replicate_zero, List.push_toArray, List.append_toArray, List.nil_append, List.cons_append]
  gi_wp2_with fail
  refine ⟨wide_room _, Hon.out.mono ?_⟩
  rintro e W1 (⟨rfl, ⟨l', hl', hJ1⟩, -⟩ | ⟨rfl, q, hq, l', hl', hJ1⟩)
  · gi_wp2
    go_end0
    exact ⟨⟨_, rfl⟩, .inl ⟨_, by simpa using hl', hJ1⟩⟩
  · gi_wp2
    go_end0
    exact ⟨⟨_, rfl⟩, .inr ⟨l', by rw [hl']; simpa using hq, hJ1⟩⟩
/-- what look.goes lays into memory. -/
def goesW (w : World) (p : Option Addr) (fa fb : Value) : World := ((w.alloc (.cells #[.pointer p] 43)).alloc (.cells #[fa] 92)).alloc (.cells #[fb] 92)
def goesV (N : Nat) : Value := .func (.func 85) #[] #[.pointer (some ⟨N + 1, 0, none⟩), .pointer (some ⟨N + 1 + 1, 0, none⟩), .pointer (some ⟨N, 0, none⟩)]
theorem goesW_all (w : World) (p : Option Addr) (fa fb : Value) : Ext w (goesW w p fa fb) ∧ (goesW w p fa fb).heap.size = w.heap.size + 3 ∧ Boxed (goesW w p fa fb) w.heap.size 43 (.pointer p) ∧ Boxed (goesW w p fa fb) (w.heap.size + 1) 92 fa ∧ Boxed (goesW w p fa fb) (w.heap.size + 1 + 1) 92 fb := by
  refine ⟨(((Ext.refl w).alloc _).alloc _).alloc _, by simp [goesW], ?_, ?_, ?_⟩ <;> unfold goesW <;> (try unfold Boxed) <;> (repeat (first | exact alloc_at _ _ _ (by simp) | rw [alloc_lt _ _ _ (by simp <;> omega)]))
theorem goes_any (w : World) (p : Option Addr) (f g : Nat) : Calls Try.prog 66 #[.pointer p, .func (.func f) #[] #[], .func (.func g) #[] #[]] w fun e w' => e = .returned (goesV w.heap.size) ∧ w' = goesW w p (.func (.func f) #[] #[]) (.func (.func g) #[] #[]) := by
  go_enter Try.func66, Try.ntmps66
  go_wp2
  go_ret
  exact ⟨rfl, rfl⟩
theorem nodes_any (w : World) (p : Option Addr) : Calls Try.prog 45 #[.pointer p] w fun e w' => e = .returned (goesV w.heap.size) ∧ w' = goesW w p (.func (.func 43) #[] #[]) (.func (.func 44) #[] #[]) := by
  have HG := Lib.hid (goes_any w p 43 44)
  go_enter Try.func45, Try.ntmps45
  go_wp2_with fail
  refine HG.out.mono ?_
  rintro e w1 ⟨rfl, rfl⟩
  go_wp2
  go_ret
  exact ⟨rfl, rfl⟩
/-- how high a tree is. -/
def hgt : Tr → Int
  | .nil => 0
  | .node _ l _ _ _ r => wrap64 (1 + max (hgt l) (hgt r))
set_option maxHeartbeats 1000000 in
theorem lookHeight_any (t : Tr) : ∀ (w : World), InH w t → Calls Try.prog 20 #[.pointer t.ptr] w (Ret (.int .i64 (hgt t)) w) := by
  induction t with
  | nil =>
    intro w _
    rw [Tr.ptr_nil]
    go_enter Try.func20, Try.ntmps20
    go_wp2
    go_ret
    exact Ret.mk (Ext.refl _)
  | node b l k v g r ihl ihr =>
    intro w ht
    have Hl := Lib.hid ihl
    have Hr := Lib.hid ihr
    clear ihl ihr
    have HT := Lib.hid ht
    have e : hgt (.node b l k v g r) = wrap64 (1 + max (hgt l) (hgt r)) := rfl
    rw [e, Tr.ptr_node]
    clear e ht
    rcases Int.lt_or_le (hgt l) (hgt r) with c | c
    · have hm : max (hgt l) (hgt r) = hgt r := by omega
      have HM := Lib.hid hm
      clear hm
      go_enter Try.func20, Try.ntmps20
      go_wp2_with fail
      rw [← Tr.ptr_node b l k v g r]
      refine (left_any w (.node b l k v g r) HT.out).mono ?_
      rintro e w1 ⟨rfl, h1⟩
      rw [Tr.left_node, Tr.ptr_node]
      go_wp2_with fail
      refine (Hl.out w1 (HT.out.ext h1).2.1).mono ?_
      rintro e w2 ⟨rfl, h2⟩
      have h12 := h1.trans h2
      clear h1 h2
      go_wp2_with fail
      rw [← Tr.ptr_node b l k v g r]
      refine (right_any w2 (.node b l k v g r) (HT.out.ext h12)).mono ?_
      rintro e w3 ⟨rfl, h3⟩
      rw [Tr.right_node, Tr.ptr_node]
      have h13 := h12.trans h3
      clear h12 h3
      go_wp2_with fail
      refine (Hr.out w3 (HT.out.ext h13).2.2).mono ?_
      rintro e w4 ⟨rfl, h4⟩
      go_wp2
      go_ret
      exact ⟨by rw [HM.out]; rfl, h13.trans h4⟩
    · have hm : max (hgt l) (hgt r) = hgt l := by omega
      have HM := Lib.hid hm
      clear hm
      go_enter Try.func20, Try.ntmps20
      go_wp2_with fail
      rw [← Tr.ptr_node b l k v g r]
      refine (left_any w (.node b l k v g r) HT.out).mono ?_
      rintro e w1 ⟨rfl, h1⟩
      rw [Tr.left_node, Tr.ptr_node]
      go_wp2_with fail
      refine (Hl.out w1 (HT.out.ext h1).2.1).mono ?_
      rintro e w2 ⟨rfl, h2⟩
      have h12 := h1.trans h2
      clear h1 h2
      go_wp2_with fail
      rw [← Tr.ptr_node b l k v g r]
      refine (right_any w2 (.node b l k v g r) (HT.out.ext h12)).mono ?_
      rintro e w3 ⟨rfl, h3⟩
      rw [Tr.right_node, Tr.ptr_node]
      have h13 := h12.trans h3
      clear h12 h3
      go_wp2_with fail
      refine (Hr.out w3 (HT.out.ext h13).2.2).mono ?_
      rintro e w4 ⟨rfl, h4⟩
      go_wp2
      go_ret
      exact ⟨by rw [HM.out]; rfl, h13.trans h4⟩
theorem wrap64_up (a : Int) : wrap64 (wrap64 a + 1) = wrap64 (a + 1) := by unfold wrap64; omega
theorem results_box {fn : Func} {t : Tmp} {A : TypeId} (h : fn.results = #[.cell t A]) (tmps : Array Value) (w : World) {a : Value} {p : Addr} (ht : tmps.getD t undef = .pointer (some p))
    (hA : ∀ w : World, (isAgg A).run Try.prog w = .ok false w) (hp : w.cell? p = some a) :
    (results fn tmps).run Try.prog w = .ok a w := by
  simp only [Array.getD_eq_getD_getElem?] at ht
  simp [results, h, ht, loadVar, hA, asAddr, hp]
/-- a function's end, whose one result lies in a box of its own that has been written once more, behind a range over a function. -/
theorem one_end {w W0 W : World} {N D : Nat} {t : TypeId} {a : Value} (hN : w.heap.size = N) (hE : Ext w W0) (hb : Below N W0 W) (hD : W0.heap.size ≤ D) (hK : W.heap[D]? = some (.deferred (some []))) (h1 : Boxed W N t a) (hs : N + 1 ≤ W0.heap.size) :
    (W.setCell ⟨N, 0, none⟩ a).heap[D]? = some (.deferred (some [])) ∧ ((W.setCell ⟨N, 0, none⟩ a).putObj D (.deferred none)).cell? ⟨N, 0, none⟩ = some a ∧ Ext w ((W.setCell ⟨N, 0, none⟩ a).putObj D (.deferred none)) := by
  have hk : (W.setCell ⟨N, 0, none⟩ a).heap[D]? = some (.deferred (some [])) := (KeepsOthers.setCell _ _ _).same D _ hK rfl
  refine ⟨hk, (Boxed.kept (h1.set a) (grownBy_putObj' _ D _) (by simp; omega)).cell, ?_⟩
  have hB : Below N w W0 := by have := hE; unfold Ext at this; rwa [hN] at this
  have hB2 := (hB.trans hb).setCell (p := ⟨N, 0, none⟩) (Nat.le_refl N) a
  have := hB2.trans (belowK_b (w := W0) (n₀ := N) (by omega) _ D _ (.deferred none) hD hk rfl rfl)
  unfold Ext
  rwa [hN]
/-- the world ahead of Count's loop. -/
def cntW (w : World) (p : Option Addr) : World := goesW (w.alloc (.cells #[.int .i64 0] 3)) p (.func (.func 43) #[] #[]) (.func (.func 44) #[] #[])
theorem cntW_all (w : World) (p : Option Addr) : Ext w (cntW w p) ∧ (cntW w p).heap.size = w.heap.size + 4 ∧ Boxed (cntW w p) w.heap.size 3 (.int .i64 0) ∧ Boxed (cntW w p) (w.heap.size + 1) 43 (.pointer p) ∧
    Boxed (cntW w p) (w.heap.size + 1 + 1) 92 (.func (.func 43) #[] #[]) ∧ Boxed (cntW w p) (w.heap.size + 1 + 1 + 1) 92 (.func (.func 44) #[] #[]) := by
  refine ⟨((((Ext.refl w).alloc _).alloc _).alloc _).alloc _, by simp [cntW, goesW], ?_, ?_, ?_, ?_⟩ <;> unfold cntW goesW <;> (try unfold Boxed) <;> (repeat (first | exact alloc_at _ _ _ (by simp) | rw [alloc_lt _ _ _ (by simp <;> omega)]))
set_option maxRecDepth 100000 in
set_option maxHeartbeats 2000000 in
theorem lookCount_in (n : Nat) (hn : Hid (1 ≤ n)) (T : Tr) (w : World) (hT : InH w T) : CallsIn Fence.wide n Try.prog 21 #[.pointer T.ptr] w (Ret (.int .i64 (wrap64 T.inl.length)) w) := by
  have hfn : ∀ f, Fence.wide.fn f := fun _ => trivial
  refine callsIn_of_wp_marks Try.func21 rfl trivial ?_ rfl
  simp only [Try.ntmps21, List.size_toArray, List.length_cons, List.length_nil, Nat.reduceAdd, Nat.reduceSub, Array.replicate_succ, Array.replicate_zero, List.push_toArray, List.append_toArray, List.nil_append, List.cons_append]
  gi_wp2_with fail
  gi_wp2_with fail
  refine ⟨wide_room _, (callsIn_wide.2 (nodes_any _ _)).mono ?_⟩
  rintro e w1 ⟨rfl, rfl⟩
  gi_wp2_with fail
  change Code.wpIn _ _ _ _ _ _ (cntW w T.ptr)
  obtain ⟨hE, hsz, hat, htb, hba, hbb⟩ := cntW_all w T.ptr
  generalize cntW w T.ptr = W0 at *
  unfold goesV
  generalize hN : w.heap.size = N at *
  have HN := Lib.hid hN
  clear hN
  refine wpIn_rangeFunc_ownG rfl (n := n) (w := W0) hn.out (gf := 85) (lb := #[.pointer (some ⟨N + 1 + 1, 0, none⟩), .pointer (some ⟨N + 1 + 1 + 1, 0, none⟩), .pointer (some ⟨N + 1, 0, none⟩)]) rfl trivial (enters_of Try.func85 (by kernel_rfl) rfl)
    (goesL_stops (fun i => i = N) (fun _ => True) (n - 1) _ _ _ T W0 (by omega) hba hbb htb (by omega) (by omega) (hT.ext hE) (InH.off (fun i h => by rw [HN.out]; omega) hT) (fun _ _ => trivial))
    (fun h k => Keep.trans h k) (fun W l o o' _ h ho _ => Keep.putObj W l o o' h ho) (RowKit.Below.refl _ _) (fun _ => rfl)
    (fun pre W => Boxed W N 3 (.int .i64 (wrap64 pre.length)) ∧ Below N W0 W)
    (fun c pre W => False)
    ?own ?ownx ⟨(by simpa [wrap64] using hat), Below.refl _ _⟩ (fun x => { tmps := #[Value.pointer T.ptr, undef, Value.pointer (some ⟨N, 0, none⟩), Value.pointer T.ptr, Value.func (Fn.func 85) #[] #[.pointer (some ⟨N + 1 + 1, 0, none⟩), .pointer (some ⟨N + 1 + 1 + 1, 0, none⟩), .pointer (some ⟨N + 1, 0, none⟩)], Value.pointer x.1.ptr, undef, undef, undef], defers := [] }) ?assign ?body ?done ?stop
  case own =>
    rintro s A A' row ⟨h1, h5⟩ hg hr
    exact ⟨boxed_grown h1 hg hr, below_grown (by omega) (by omega) h5 hg hr⟩
  case ownx =>
    rintro c s A A' row h hg hr
    exact h
  case assign =>
    intro l x W K hK
    gi_wp2
    simpa using hK
  case body =>
    rintro l pre x W ⟨hat, hb⟩ _
    have HB := Lib.hid (And.intro hat hb)
    have hce := hat.cell
    have hfe := hat.frozen
    clear hat hb hsz htb hba hbb
    gi_wp2
    refine ⟨keepsFrom_set _ _ _, Keep.setCell _ _ _ rfl, ?_, HB.out.2.setCell (p := ⟨N, 0, none⟩) (Nat.le_refl N) _⟩
    have := HB.out.1.set (.int .i64 (wrap64 (wrap64 pre.length + 1)))
    rw [wrap64_up] at this ⊢
    rw [List.length_append]
    exact this
  case done =>
    rintro D ys W hD hys ⟨hat, hb⟩ hK
    have HB := Lib.hid (And.intro hat hb)
    have HD := Lib.hid (And.intro hD hK)
    have hce := hat.cell
    have hfe := hat.frozen
    clear hat hb htb hba hbb hD hK
    gi_wp2
    obtain ⟨f1, f2, f4⟩ := one_end HN.out hE HB.out.2 HD.out.1 HD.out.2 HB.out.1 (by omega)
    refine ⟨by simp, .inl ⟨_, _, rfl, run_takeDeferred f1, ?_⟩⟩
    refine ⟨_, results_box rfl _ _ rfl (fun _ => by kernel_rfl) f2, ?_, f4⟩
    have e : ys.length = T.inl.length := by rw [← hys, List.length_map]
    rw [e]
  case stop =>
    rintro D c q W hD hq h hK
    exact h.elim
/-- **look.Count**, of any tree. -/
theorem lookCount_any (w : World) (T : Tr) (hT : InH w T) : Calls Try.prog 21 #[.pointer T.ptr] w (Ret (.int .i64 (wrap64 T.inl.length)) w) :=
  callsIn_wide.1 (lookCount_in 9 (Lib.hid (by omega)) T w hT)
end Go.Proofs.Ytejknkhahjgdnaa
namespace Go.Proofs.Ytejknkhahjgdnaa
open Go Go.RowKit

def soundB (s : Int) (T : Tr) : Bool := if s = 1 then avlMay T else if s = 2 then rbMay T else wbMay T
set_option maxHeartbeats 1000000 in
theorem sound34_any (w : World) (s : Int) (T : Tr) (hT : InH w T) (ho : TagsOk T) (hc : T.count ≤ 4000) : Calls Try.prog 22 #[.int .u8 s, .pointer T.ptr] w (Ret (.bool (soundB s T)) w) := by
  have H := Lib.hid (And.intro hT (And.intro ho hc))
  obtain ⟨B, hB⟩ : ∃ B, soundB s T = B := ⟨_, rfl⟩
  rw [hB]
  unfold soundB at hB
  have HB := Lib.hid hB
  clear hT ho hc hB
  by_cases h1 : s = 1
  · subst h1
    go_enter Try.func22, Try.ntmps22
    go_wp2_with fail
    refine (avlMay_any w T H.out.1).mono ?_
    rintro e w1 ⟨rfl, h1⟩
    go_wp2
    go_ret
    exact ⟨by rw [← HB.out]; rfl, h1⟩
  · by_cases h2 : s = 2
    · subst h2
      go_enter Try.func22, Try.ntmps22
      go_wp2_with fail
      refine (rbMay_any w T H.out.1 H.out.2.1).mono ?_
      rintro e w1 ⟨rfl, h1⟩
      go_wp2
      go_ret
      exact ⟨by rw [← HB.out]; rfl, h1⟩
    · have k1 : (s == 1) = false := by simpa using h1
      have k2 : (s == 2) = false := by simpa using h2
      have E := Lib.hid (show (if s = 1 then avlMay T else if s = 2 then rbMay T else wbMay T) = wbMay T by rw [if_neg h1, if_neg h2])
      go_enter Try.func22, Try.ntmps22
      go_wp2_with fail
      refine (wbMay_any w T H.out.1 H.out.2.2).mono ?_
      rintro e w1 ⟨rfl, h1⟩
      go_wp2
      go_ret
      exact ⟨by rw [← HB.out, E.out]; rfl, h1⟩
theorem hgt_ht : ∀ T : Tr, T.ht < 4611686018427387904 → hgt T = T.ht
  | .nil, _ => rfl
  | .node b l k v g r, h => by
    rw [Tr.ht] at h ⊢
    rw [hgt, hgt_ht l (by omega), hgt_ht r (by omega)]
    unfold wrap64; omega
theorem inl_count : ∀ T : Tr, T.inl.length = T.count
  | .nil => rfl
  | .node b l k v g r => by
    rw [Tr.count_node, Tr.inl, List.length_append, List.length_cons, inl_count l, inl_count r]; omega
/-- look.Height and look.Count, of a tree that is not too large. -/
theorem height_small (w : World) (T : Tr) (hT : InH w T) (hc : T.count ≤ 100000) : Calls Try.prog 20 #[.pointer T.ptr] w (Ret (.int .i64 T.ht) w) := by
  have := lookHeight_any T w hT
  rwa [hgt_ht T (by have := Tr.ht_count T; omega)] at this
theorem count_small (w : World) (T : Tr) (hT : InH w T) (hc : T.count ≤ 100000) : Calls Try.prog 21 #[.pointer T.ptr] w (Ret (.int .i64 T.count) w) := by
  have := lookCount_any w T hT
  rwa [inl_count, show wrap64 (T.count : Nat) = T.count by unfold wrap64; omega] at this
/-- how high beads are. -/
def BT.ht : BT → Nat
  | .nil => 0
  | .node _ _ _ _ _ l r => 1 + max l.ht r.ht
theorem fits_ht : ∀ {t : BT} {T : Tr}, t.fits T → T.ht = t.ht
  | .nil, .nil, _ => rfl
  | .nil, .node .., h => h.elim
  | .node .., .nil, h => h.elim
  | .node .., .node .., h => by rw [Tr.ht, BT.ht, fits_ht h.2.2.2.1, fits_ht h.2.2.2.2]
theorem lean_all0 : ∀ s, s < 3 → ∀ h, h < 10 → (leanF (s + 1) 10 h).enc.length = lstS (s + 1) h ∧ (leanF (s + 1) 10 h).ht = h ∧ lstS (s + 1) h ≤ 100 ∧ lstS (s + 1) h < lstS (s + 1) (h + 1) ∧ (h = 0 ∨ (lstS (s + 1) (h - 1) < lstS (s + 1) h ∧ 1 ≤ lstS (s + 1) h)) := by decide +kernel
theorem lean_all (s : Nat) (hs : s < 4) (h1 : 1 ≤ s) (h : Nat) (hh : h < 10) : (leanF s 10 h).enc.length = lstS s h ∧ (leanF s 10 h).ht = h ∧ lstS s h ≤ 100 ∧ lstS s h < lstS s (h + 1) ∧ (h = 0 ∨ (lstS s (h - 1) < lstS s h ∧ 1 ≤ lstS s h)) := by
  obtain ⟨k, rfl⟩ : ∃ k, s = k + 1 := ⟨s - 1, by omega⟩
  exact lean_all0 k (by omega) h hh
theorem wb_tags : ∀ {T : Tr}, WbH T → TagsOk T
  | .nil, _ => trivial
  | .node _ l _ _ g r, ⟨h1, h2, h3, _⟩ => ⟨by omega, by omega, wb_tags h2, wb_tags h3⟩
/-- the leanest trees may be. -/
theorem lean_law {s h : Nat} {T : Tr} (hs1 : 1 ≤ s) (hs3 : s ≤ 3) (hh : h < 10) (ht : (leanF s 10 h).fits T) : soundB s T = true ∧ T.ht = h ∧ T.count = lstS s h ∧ TagsOk T := by
  obtain ⟨a1, a2, a3, -⟩ := lean_all s (by omega) hs1 h hh
  have hc := fits_count ht
  rw [a1] at hc
  refine ⟨?_, by rw [fits_ht ht, a2], hc, ?_⟩
  · have : s = 1 ∨ s = 2 ∨ s = 3 := by omega
    rcases this with rfl | rfl | rfl
    · exact ((leanF_avl 10 h T (by omega) ht).may (by omega)).1
    · exact (leanF_rb 10 h T (by omega) (by omega) ht).may (by omega)
    · exact (leanF_wb 10 h T (by omega) (by omega) ht).may (by omega)
  · have : s = 1 ∨ s = 2 ∨ s = 3 := by omega
    rcases this with rfl | rfl | rfl
    · exact ((leanF_avl 10 h T (by omega) ht).may (by omega)).2
    · exact (leanF_rb 10 h T (by omega) (by omega) ht).tags (by omega)
    · exact wb_tags (leanF_wb 10 h T (by omega) (by omega) ht)
end Go.Proofs.Ytejknkhahjgdnaa
namespace Go.Proofs.Ytejknkhahjgdnaa
open Go Go.RowKit

/-- just the least: the height itself is the greatest. -/
theorem most_tight {s h : Nat} (hs : 1 ≤ s ∧ s ≤ 3) (hh : h < 10) : IsMost s (lstS s h) h :=
  ⟨by omega, fun j _ hj => lstS_mono ⟨hs.1, by omega⟩ hj, .inr (lstS_up ⟨hs.1, by omega⟩)⟩
theorem most_below {s h : Nat} (hs : 1 ≤ s ∧ s ≤ 3) (hh : h < 10) : IsMost s (lstS s (h + 1) - 1) h := by
  have hu := lstS_up (s := s) (h := h) ⟨hs.1, by omega⟩
  refine ⟨by omega, fun j _ hj => ?_, .inr (by omega)⟩
  have := lstS_mono (s := s) ⟨hs.1, by omega⟩ hj
  omega
theorem may_below {s h : Nat} (hs : 1 ≤ s ∧ s ≤ 3) : bmayB s ((h + 1 : Nat) : Int) ((lstS s (h + 1) - 1 : Nat) : Int) = false := by
  have hu := lstS_up (s := s) (h := h) ⟨hs.1, by omega⟩
  have e : bwithinB s ((h + 1 : Nat) : Int) (lstS s (h + 1) - 1) = false := by
    unfold bwithinB
    cases k : okH s ((h + 1 : Nat) : Int) with
    | false => rfl
    | true => rw [(lst_ok k).2, Int.toNat_natCast, Int.toNat_natCast]; simp; omega
  unfold bmayB
  rw [Int.toNat_natCast, e]; simp
set_option maxRecDepth 100000 in
set_option maxHeartbeats 1500000 in
theorem boundTight_nat (x g : Nat) (w : World) (hx : x < 256) (hg : g < 256) :
    Calls Try.prog 6 #[.int .u8 (x : Nat), .int .u8 (g : Nat)] w (Ret (.bool true) w) := by
  obtain ⟨S, hS⟩ : ∃ S, S = 1 + x % 3 := ⟨_, rfl⟩
  obtain ⟨K, hK⟩ : ∃ K, K = g % 10 := ⟨_, rfl⟩
  have HS := Lib.hid (show 1 ≤ S ∧ S ≤ 3 by omega)
  have hS2 : 1 + (x : Int) % 3 = (S : Int) := by omega
  have hK2 : (g : Int) % 10 = (K : Int) := by omega
  have hK3 : K < 10 := by omega
  have hS3 : S ≤ 3 := HS.out.2
  have HK := Lib.hid hK3
  have HL := Lib.hid (lean_all S (by omega) HS.out.1 K hK3)
  have HOK := Lib.hid (okH_small (s := S) (h := K) ⟨HS.out.1, by omega⟩ (by omega))
  have HM1 := Lib.hid (most_tight HS.out hK3)
  have HN := Lib.hid (show K = 0 → lstS S K = 0 from fun h => by
    subst h
    have : ∀ s, s < 4 → lstS s 0 = 0 := by decide +kernel
    exact this S (by omega))
  have HM2 := Lib.hid (show 1 ≤ K → IsMost S (lstS S K - 1) (K - 1) ∧ bmayB S (K : Int) ((lstS S K - 1 : Nat) : Int) = false from fun h => by
    obtain ⟨k, rfl⟩ : ∃ k, K = k + 1 := ⟨K - 1, by omega⟩
    exact ⟨most_below HS.out (by omega), may_below HS.out⟩)
  have HQ := Lib.hid (show 1 ≤ K → 1 ≤ lstS S K from fun h => by rcases HL.out.2.2.2.2 with k | k <;> omega)
  have HLE := Lib.hid (fun w => lean_any S HS.out.1 HS.out.2 10 (K : Int) K w (by omega) (by omega) (by omega) (by omega))
  have HLL := Lib.hid (show (leanF S 10 K).enc.length ≤ 100 by rw [HL.out.1]; exact HL.out.2.2.1)
  have HLW := Lib.hid (fun T hF => lean_law (T := T) HS.out.1 HS.out.2 HK.out hF)
  replace HL := Lib.hid HL.out.2.2.1
  generalize leanF S 10 K = t at *
  clear hS hK
  go_enter Try.func6, Try.ntmps6
  go_wp2_with fail
  refine (HLE.out w).mono ?_
  rintro r w1 ⟨v1, rfl, o1, h1⟩
  have HB := Lib.hid o1.beads
  have HX := Lib.hid h1
  clear o1 h1
  go_wp2_with fail
  refine (beadsMake_any _ w1 v1 HB.out (by have := HLL.out; omega)).mono ?_
  rintro r w2 ⟨T, rfl, hT, hF, h2⟩
  replace HX := Lib.hid (HX.out.trans h2)
  obtain ⟨t1, t2, t3, t4⟩ := HLW.out T hF
  have HT := Lib.hid hT
  have HO := Lib.hid t4
  have HC := Lib.hid (show T.count ≤ 4000 by have := HL.out; omega)
  have HSO := Lib.hid t1
  have H2 := Lib.hid (And.intro t2 t3)
  clear hT hF h2 t1 t2 t3 t4 HB
  go_wp2_with fail
  refine (count_small w2 T HT.out (by have := HC.out; omega)).mono ?_
  rw [H2.out.2]
  rintro r w3 ⟨rfl, h3⟩
  replace HX := Lib.hid (HX.out.trans h3)
  replace HT := Lib.hid (HT.out.ext h3)
  clear h3
  have hn100 := HL.out
  have hnn := HN.out
  generalize hNN : lstS S K = n at *
  have HNN := Lib.hid hNN
  clear hNN
  go_wp2_with fail
  refine (least_ok w3 S K HOK.out).mono ?_
  rintro r w4 ⟨a, rfl, n4, h4⟩
  replace HX := Lib.hid (HX.out.trans h4)
  replace HT := Lib.hid (HT.out.ext h4)
  have HA := Lib.hid n4
  clear n4 h4
  go_wp2_with fail
  refine ((most_any w4 S n).mono fun _ _ k => mosts_is HS.out (by omega) k HM1.out).mono ?_
  rintro r w5 ⟨rfl, h5⟩
  replace HX := Lib.hid (HX.out.trans h5)
  replace HT := Lib.hid (HT.out.ext h5)
  replace HA := Lib.hid (HA.out.ext h5)
  clear h5
  go_wp2_with fail
  refine (sound34_any w5 S T HT.out HO.out HC.out).mono ?_
  rw [HSO.out]
  rintro r w6 ⟨rfl, h6⟩
  replace HX := Lib.hid (HX.out.trans h6)
  replace HT := Lib.hid (HT.out.ext h6)
  replace HA := Lib.hid (HA.out.ext h6)
  clear h6
  go_wp2_with fail
  refine (height_small w6 T HT.out (by have := HC.out; omega)).mono ?_
  rw [H2.out.1]
  rintro r w7 ⟨rfl, h7⟩
  replace HX := Lib.hid (HX.out.trans h7)
  replace HA := Lib.hid (HA.out.ext h7)
  clear h7
  go_wp2_with fail
  refine (from_any w7 n (by omega)).mono ?_
  rintro r w8 ⟨u, rfl, n8, h8⟩
  replace HX := Lib.hid (HX.out.trans h8)
  replace HA := Lib.hid (And.intro (HA.out.ext h8) n8)
  clear n8 h8
  go_wp2_with fail
  refine (sameN_num w8 a u n (by have := HA.out.1; rwa [HNN.out] at this) HA.out.2 (Nat.lt_of_le_of_lt hn100 (by decide +kernel))).mono ?_
  rintro r w9 ⟨rfl, h9⟩
  replace HX := Lib.hid (HX.out.trans h9)
  clear h9
  by_cases hk0 : K = 0
  · obtain rfl : n = 0 := hnn hk0
    go_wp2_with fail
    refine (alive34_any _).mono ?_
    rintro r w11 ⟨rfl, h11⟩
    go_wp2
    go_ret
    exact Ret.mk (HX.out.trans h11)
  · have hk1 : 1 ≤ K := by omega
    have hn1 := HQ.out hk1
    obtain ⟨m1, m2⟩ := HM2.out hk1
    have HM3 := Lib.hid m1
    have HM4 := Lib.hid m2
    clear m1 m2 hnn
    rw [show ((n - 1 : Nat) : Int) = (n : Int) - 1 by omega] at HM4
    go_wp2_with fail
    rw [show (n : Int) - 1 = ((n - 1 : Nat) : Int) by omega]
    refine ((most_any w9 S (n - 1 : Nat)).mono fun _ _ k => mosts_is HS.out (by omega) k HM3.out).mono ?_
    rw [show ((K - 1 : Nat) : Int) = (K : Int) - 1 by omega]
    rintro r w10 ⟨rfl, h10⟩
    replace HX := Lib.hid (HX.out.trans h10)
    clear h10
    go_wp2_with fail
    refine (mayN_any34 w10 S K ((n : Int) - 1) _ rfl).mono ?_
    rw [HM4.out]
    rintro r w11 ⟨rfl, h11⟩
    replace HX := Lib.hid (HX.out.trans h11)
    clear h11
    go_wp2_with fail
    refine (alive34_any _).mono ?_
    rintro r w12 ⟨rfl, h12⟩
    go_wp2
    go_ret
    exact Ret.mk (HX.out.trans h12)
theorem boundTight_walk (x g : Int) (w : World) (hx : (Lit.int .u8 x).wf = true) (hg : (Lit.int .u8 g).wf = true) :
    Calls Try.prog 6 #[.int .u8 x, .int .u8 g] w (Ret (.bool true) w) := by
  obtain ⟨x, rfl, x1⟩ := nat_of_u hx (m := 255) rfl rfl
  obtain ⟨g, rfl, g1⟩ := nat_of_u hg (m := 255) rfl rfl
  exact boundTight_nat x g w (by omega) (by omega)
end Go.Proofs.Ytejknkhahjgdnaa
namespace Go.Proofs.Ytejknkhahjgdnaa
open Go Go.RowKit

theorem count_pow : ∀ T : Tr, T.count < 2 ^ T.ht
  | .nil => by decide
  | .node b l k v g r => by
    rw [Tr.count_node, Tr.ht]
    have h1 := count_pow l
    have h2 := count_pow r
    have e1 : 2 ^ l.ht ≤ 2 ^ max l.ht r.ht := Nat.pow_le_pow_right (by decide) (by omega)
    have e2 : 2 ^ r.ht ≤ 2 ^ max l.ht r.ht := Nat.pow_le_pow_right (by decide) (by omega)
    rw [Nat.add_comm 1, Nat.pow_succ]
    omega
theorem leastN_fib : ∀ n, leastN n + 1 = fibN (n + 2) ∧ leastN (n + 1) + 1 = fibN (n + 3)
  | 0 => by decide
  | n + 1 => by
    obtain ⟨h1, h2⟩ := leastN_fib n
    refine ⟨h2, ?_⟩
    have e1 : leastN (n + 2) = leastN n + leastN (n + 1) + 1 := rfl
    have e2 : fibN (n + 4) = fibN (n + 2) + fibN (n + 3) := rfl
    show leastN (n + 2) + 1 = fibN (n + 4)
    omega
theorem leastN_lst (n : Nat) : lstS 1 n = leastN n := by
  have := (leastN_fib n).1
  show fibN (n + 2) - 1 = _
  omega
theorem wLeast_row : ∀ n, wLeast n = wrow n
  | 0 => rfl
  | n + 1 => by rw [wLeast, wLeast_row n, wrow_alt]
theorem lst2_even (k : Nat) : lstS 2 (2 * k) = 2 * 2 ^ k - 2 := by
  unfold lstS
  rw [if_neg (by decide), if_pos rfl, if_neg (by omega), show (2 * k + 1) / 2 = k by omega]
theorem lst2_odd (k : Nat) : lstS 2 (2 * k + 1) = 3 * 2 ^ k - 2 := by
  unfold lstS
  rw [if_neg (by decide), if_pos rfl, if_pos (by omega), show (2 * k + 1 + 1) / 2 - 1 = k by omega]
theorem lst2_step {m d : Nat} (h : m ≤ 2 * d + 1) : lstS 2 (m + 1) ≤ lstS 2 m + 2 ^ d := by
  obtain ⟨k, h0⟩ : ∃ k, m = 2 * k ∨ m = 2 * k + 1 := ⟨m / 2, by omega⟩
  have hk : 2 ^ k ≤ 2 ^ d := Nat.pow_le_pow_right (by decide) (by omega)
  have hp := Nat.pow_pos (n := k) (show 0 < 2 by decide)
  rcases h0 with rfl | rfl
  · rw [lst2_even, lst2_odd]; omega
  · rw [show 2 * k + 1 + 1 = 2 * (k + 1) by omega, lst2_even, lst2_odd, Nat.pow_succ]; omega
/-- how few nodes a part has, by its black height, its colour and its height. -/
def RbLow (T : Tr) (b : Nat) (c : Bool) : Prop := 2 ^ b ≤ T.count + 1 ∧ (c = false → T.ht ≤ 2 * b ∧ lstS 2 T.ht ≤ T.count) ∧ (c = true → T.ht ≤ 2 * b + 1 ∧ 1 ≤ T.ht ∧ lstS 2 (T.ht - 1) + 2 ^ b ≤ T.count)
theorem rb_side {x : Tr} {d : Nat} {c : Bool} (h : RbLow x d c) : x.ht ≤ 2 * d + 1 ∧ lstS 2 (x.ht + 1) ≤ x.count + 2 ^ d := by
  obtain ⟨h1, h2, h3⟩ := h
  cases c with
  | false =>
    obtain ⟨a1, a2⟩ := h2 rfl
    exact ⟨by omega, Nat.le_trans (lst2_step (d := d) (by omega)) (by omega)⟩
  | true =>
    obtain ⟨a1, a2, a3⟩ := h3 rfl
    refine ⟨a1, ?_⟩
    have e1 := lst2_step (m := x.ht) (d := d) a1
    have e2 := lst2_step (m := x.ht - 1) (d := d) (by omega)
    rw [show x.ht - 1 + 1 = x.ht by omega] at e2
    omega
theorem rb_low : ∀ {T : Tr} {b : Nat} {c : Bool}, RbH T b c → RbLow T b c
  | .nil, b, c, ⟨h1, h2⟩ => by subst h1 h2; exact ⟨by decide, fun _ => ⟨by decide, by decide⟩, fun h => by cases h⟩
  | .node _ l _ _ g r, b, true, h => by
    obtain ⟨l1, l2, -⟩ := rb_low h.1
    obtain ⟨r1, r2, -⟩ := rb_low h.2.1
    obtain ⟨l3, l4⟩ := l2 rfl
    obtain ⟨r3, r4⟩ := r2 rfl
    rw [RbLow, Tr.count_node, Tr.ht]
    refine ⟨by omega, fun h => by (cases h), fun _ => ⟨by omega, by omega, ?_⟩⟩
    rw [Nat.add_sub_cancel_left]
    rcases Nat.le_total l.ht r.ht with k | k
    · rw [Nat.max_eq_right k]; omega
    · rw [Nat.max_eq_left k]; omega
  | .node _ l _ _ g r, b, false, ⟨d, cl, cr, h0, h1, h2, h3⟩ => by
    subst h0
    have hl := rb_low h1
    have hr := rb_low h2
    obtain ⟨l3, l4⟩ := rb_side hl
    obtain ⟨r3, r4⟩ := rb_side hr
    have l1 := hl.1
    have r1 := hr.1
    rw [RbLow, Tr.count_node, Tr.ht]
    refine ⟨by rw [Nat.pow_succ]; omega, fun _ => ⟨by omega, ?_⟩, fun h => by cases h⟩
    rw [Nat.add_comm 1]
    rcases Nat.le_total l.ht r.ht with k | k
    · rw [Nat.max_eq_right k]; omega
    · rw [Nat.max_eq_left k]; omega
/-- what a tree is that a picker has grown. -/
def GQ (s : Nat) (t : BT) : Prop := t.enc.length ≤ 127 ∧ ∀ T, t.fits T → soundB s T = true ∧ TagsOk T ∧ lstS s T.ht ≤ T.count
theorem gq_avl {h : Nat} {t : BT} (hh : h ≤ 7) (q : AvlB h t) : GQ 1 t := by
  have e := pow_le (h := h) (k := 7) (m := 128) hh rfl
  have hl : t.enc.length ≤ 127 := by have := q.2; omega
  refine ⟨hl, fun T hT => ?_⟩
  obtain ⟨a1, a2⟩ := (q.1 T hT).may (by omega)
  have hc := fits_count hT
  have := (may_ht T a1 a2 (by omega)).2.1
  rw [leastN_lst]
  exact ⟨a1, a2, this⟩
theorem gq_rb {b : Nat} {t : BT} (hb : b ≤ 3) (q : RbB b false t) : GQ 2 t := by
  refine ⟨q.le hb, fun T hT => ?_⟩
  obtain ⟨c, h1, h2, -⟩ := q
  obtain rfl : c = false := by cases c; rfl; exact absurd (h2 rfl) (by decide)
  have h := h1 T hT
  exact ⟨h.may (by omega), h.tags (by omega), ((rb_low h).2.1 rfl).2⟩
theorem gq_wb {n : Nat} {t : BT} (hn : n ≤ 99) (q : WbB n t) : GQ 3 t := by
  have hl : t.enc.length ≤ 127 := by have := q.2; omega
  refine ⟨hl, fun T hT => ?_⟩
  have hc := fits_count hT
  have h := q.1 T hT
  have hm := h.may (by omega)
  have := wb_least T hm (by omega)
  rw [wLeast_row] at this
  exact ⟨hm, wb_tags h, by show wrow T.ht - 1 ≤ _; omega⟩
theorem grown_law {s : Nat} {t : BT} {T : Tr} (hs : 1 ≤ s ∧ s ≤ 3) (q : GQ s t) (hT : t.fits T) :
    soundB s T = true ∧ TagsOk T ∧ T.count ≤ 127 ∧ bmayB s T.ht T.count = true ∧ bmayB 4 T.ht T.count = true ∧ ∀ m : Nat, IsMost s T.count m → T.ht ≤ m := by
  obtain ⟨q1, q2⟩ := q
  obtain ⟨a1, a2, a3⟩ := q2 T hT
  have hc := fits_count hT
  have hp := count_pow T
  have hk := T.ht_count
  have h100 : T.ht < 100 := by
    rcases Nat.lt_or_ge T.ht 100 with h | h
    · exact h
    · have e := lstS_mono (s := s) ⟨hs.1, by omega⟩ h
      have l := least100
      have : s = 1 ∨ s = 2 ∨ s = 3 := by omega
      rcases this with rfl | rfl | rfl <;> omega
  have hpi : ((T.count : Nat) : Int) < 2 ^ T.ht := by
    have : ((T.count : Nat) : Int) < ((2 ^ T.ht : Nat) : Int) := by omega
    simpa using this
  have hok : okH s T.ht = true := by unfold okH; rw [if_neg (by omega)]; simp; omega
  have hok4 : okH 4 T.ht = true := by unfold okH; simp; omega
  refine ⟨a1, a2, by omega, ?_, ?_, fun m hm => ?_⟩
  · unfold bmayB bwithinB
    rw [hok, (lst_ok hok).2, Int.toNat_natCast, Int.toNat_natCast, Int.toNat_natCast, decide_eq_true a3, decide_eq_true hpi, decide_eq_true (p := ((T.count : Nat) : Int) ≤ 1099511627776) (by omega), decide_eq_true (p := 0 ≤ ((T.count : Nat) : Int)) (by omega), Bool.or_true]
    rfl
  · unfold bmayB bwithinB
    rw [hok4, (lst_ok hok4).2, Int.toNat_natCast, Int.toNat_natCast, decide_eq_true (p := lstS (Int.toNat 4) T.ht ≤ T.count) hk, decide_eq_true hpi, decide_eq_true (p := ((T.count : Nat) : Int) ≤ 1099511627776) (by omega), decide_eq_true (p := 0 ≤ ((T.count : Nat) : Int)) (by omega), Bool.or_true]
    rfl
  · rcases hm.2.2 with h | h
    · omega
    · rcases Nat.lt_or_ge m T.ht with k | k
      · have := lstS_mono (s := s) ⟨hs.1, by omega⟩ (show m + 1 ≤ T.ht from k); omega
      · exact k
theorem Grown.weaken {Q R : BT → Prop} {P : Nat} {w : World} {e : Ending} {w' : World} (h : Grown Q P w e w') (hr : ∀ t, Q t → R t) : Grown R P w e w' := by
  obtain ⟨v, t, h1, h2, h3, h4, h5⟩ := h
  exact ⟨v, t, h1, h2, hr t h3, h4, h5⟩
set_option maxHeartbeats 2000000 in
theorem grow_any (P S k : Nat) (w : World) (hS : 1 ≤ S ∧ S ≤ 3) (hk : k ≤ 7) (hP : PkOk P w) : Calls Try.prog 19 #[.pointer (some ⟨P, 0, none⟩), .int .u8 (S : Nat), .int .i64 (k : Nat)] w (Grown (GQ S) P w) := by
  have HP := Lib.hid hP
  clear hP
  have h3 : S = 1 ∨ S = 2 ∨ S = 3 := by omega
  rcases h3 with rfl | rfl | rfl
  · have H := Lib.hid ((pkAvl_any P k (k : Nat) w (by omega) (by omega) (by omega) HP.out).mono fun _ _ h => h.weaken (R := GQ 1) fun t q => gq_avl (by omega) q)
    clear HP
    go_enter Try.func19, Try.ntmps19
    go_wp2_with fail
    refine H.out.mono ?_
    rintro e w1 hg
    have HG := Lib.hid hg
    obtain ⟨v, t, rfl, -, -, -, -⟩ := hg
    go_wp2
    go_ret
    obtain ⟨v', t', hv, h2, h3, h4, h5⟩ := HG.out
    exact ⟨v', t', hv, h2, h3, h4, h5⟩
  · have H := Lib.hid ((pkRb_any P (2 * (k / 2) + 1) (k / 2 : Nat) false w (by rw [Int.toNat_natCast]; simp) (by omega) (by omega) HP.out).mono fun _ _ h => h.weaken (R := GQ 2) fun t q => gq_rb (by omega) q)
    clear HP
    go_enter Try.func19, Try.ntmps19
    go_wp2_with fail
    rw [show (k : Int) / 2 = ((k / 2 : Nat) : Int) by omega]
    refine H.out.mono ?_
    rintro e w1 hg
    have HG := Lib.hid hg
    obtain ⟨v, t, rfl, -, -, -, -⟩ := hg
    go_wp2
    go_ret
    obtain ⟨v', t', hv, h2, h3, h4, h5⟩ := HG.out
    exact ⟨v', t', hv, h2, h3, h4, h5⟩
  · have H := Lib.hid (fun n (h1 : 1 ≤ n) (hn : n ≤ 99) => (pkWb_any P n n w (Nat.le_refl _) h1 hn HP.out).mono fun _ _ h => h.weaken (R := GQ 3) fun t q => gq_wb hn q)
    clear HP
    have h8 : k = 0 ∨ k = 1 ∨ k = 2 ∨ k = 3 ∨ k = 4 ∨ k = 5 ∨ k = 6 ∨ k = 7 := by omega
    rcases h8 with rfl | rfl | rfl | rfl | rfl | rfl | rfl | rfl
    all_goals
      go_enter Try.func19, Try.ntmps19
      go_wp2_with fail
    · refine (H.out 1 (by omega) (by omega)).mono ?_
      rintro e w1 hg
      have HG := Lib.hid hg
      obtain ⟨v, t, rfl, -, -, -, -⟩ := hg
      go_wp2
      go_ret
      obtain ⟨v', t', hv, h2, h3, h4, h5⟩ := HG.out
      exact ⟨v', t', hv, h2, h3, h4, h5⟩
    · refine (H.out 3 (by omega) (by omega)).mono ?_
      rintro e w1 hg
      have HG := Lib.hid hg
      obtain ⟨v, t, rfl, -, -, -, -⟩ := hg
      go_wp2
      go_ret
      obtain ⟨v', t', hv, h2, h3, h4, h5⟩ := HG.out
      exact ⟨v', t', hv, h2, h3, h4, h5⟩
    · refine (H.out 9 (by omega) (by omega)).mono ?_
      rintro e w1 hg
      have HG := Lib.hid hg
      obtain ⟨v, t, rfl, -, -, -, -⟩ := hg
      go_wp2
      go_ret
      obtain ⟨v', t', hv, h2, h3, h4, h5⟩ := HG.out
      exact ⟨v', t', hv, h2, h3, h4, h5⟩
    · refine (H.out 19 (by omega) (by omega)).mono ?_
      rintro e w1 hg
      have HG := Lib.hid hg
      obtain ⟨v, t, rfl, -, -, -, -⟩ := hg
      go_wp2
      go_ret
      obtain ⟨v', t', hv, h2, h3, h4, h5⟩ := HG.out
      exact ⟨v', t', hv, h2, h3, h4, h5⟩
    · refine (H.out 33 (by omega) (by omega)).mono ?_
      rintro e w1 hg
      have HG := Lib.hid hg
      obtain ⟨v, t, rfl, -, -, -, -⟩ := hg
      go_wp2
      go_ret
      obtain ⟨v', t', hv, h2, h3, h4, h5⟩ := HG.out
      exact ⟨v', t', hv, h2, h3, h4, h5⟩
    · refine (H.out 51 (by omega) (by omega)).mono ?_
      rintro e w1 hg
      have HG := Lib.hid hg
      obtain ⟨v, t, rfl, -, -, -, -⟩ := hg
      go_wp2
      go_ret
      obtain ⟨v', t', hv, h2, h3, h4, h5⟩ := HG.out
      exact ⟨v', t', hv, h2, h3, h4, h5⟩
    · refine (H.out 73 (by omega) (by omega)).mono ?_
      rintro e w1 hg
      have HG := Lib.hid hg
      obtain ⟨v, t, rfl, -, -, -, -⟩ := hg
      go_wp2
      go_ret
      obtain ⟨v', t', hv, h2, h3, h4, h5⟩ := HG.out
      exact ⟨v', t', hv, h2, h3, h4, h5⟩
    · refine (H.out 99 (by omega) (by omega)).mono ?_
      rintro e w1 hg
      have HG := Lib.hid hg
      obtain ⟨v, t, rfl, -, -, -, -⟩ := hg
      go_wp2
      go_ret
      obtain ⟨v', t', hv, h2, h3, h4, h5⟩ := HG.out
      exact ⟨v', t', hv, h2, h3, h4, h5⟩
end Go.Proofs.Ytejknkhahjgdnaa
namespace Go.Proofs.Ytejknkhahjgdnaa
open Go Go.ChangeShapes Go.WideShapes Go.Deep

/-- a row of bytes in one block. -/
def BRow (b : Nat) (w : World) (a : Option Addr) (len cap : Nat) : Prop :=
  len = 0 ∨ ∃ o, a = some ⟨b, o, none⟩ ∧ len ≤ cap ∧ ∀ i, i < len → ∃ z : Nat, z < 256 ∧ w.cell? ⟨b, o + i, none⟩ = some (.int .u8 (z : Nat))
theorem open_bytes {H : Type} {enc : TypeId × Value → H} {w : World} {base : Nat} {spare : Nat → Bool} {held : Bool} {a : Option Addr} {len cap : Nat} {d : DataW H} {q : List MemPlace}
    (h : DataW.Trod enc Try.prog w base spare held 39 (.slice a len cap) d q) : ∃ b, BRow b w a len cap := by
  obtain ⟨fuel, hf⟩ := h
  rcases open_slice Try.underlying39 hf with ⟨hcs, _⟩ | ⟨x, l, c, m, n, D, Pl, hcs, _, hl, hm, hmm, _, hi⟩
  · simp [Value.cells] at hcs
    obtain ⟨rfl, rfl, rfl⟩ := hcs
    exact ⟨0, .inl rfl⟩
  · simp [Value.cells] at hcs
    obtain ⟨rfl, rfl, rfl⟩ := hcs
    rw [show Try.prog.cellsOf 5 = 1 by kernel_rfl] at hi
    have hlm : len ≤ m := by rw [hmm]; split <;> omega
    have hz : ∀ i, i < len → ∃ z : Nat, z < 256 ∧ w.cell? (x.add i) = some (.int .u8 (z : Nat)) := by
      intro i hil
      obtain ⟨cs', hc, ht⟩ := hi i (by omega)
      obtain ⟨_, _, hat⟩ := World.cells?_some hc
      obtain ⟨n0, h0, -, f0⟩ := DataW.trod_int (k := .u8) Try.underlying5 ht
      subst h0
      simp only [Lit.wf, Bool.and_eq_true, decide_eq_true_eq] at f0
      rw [show IntKind.u8.min = 0 from rfl, show IntKind.u8.max = 255 from rfl] at f0
      obtain ⟨z, rfl⟩ := Int.eq_ofNat_of_zero_le f0.1
      refine ⟨z, by omega, ?_⟩
      have := hat 0 (by decide)
      rw [Nat.mul_one, show (x.add i).add 0 = x.add i by simp [Addr.add]] at this
      exact this
    by_cases h0 : len = 0
    · exact ⟨0, .inl h0⟩
    · obtain ⟨b, off, spot⟩ := x
      obtain ⟨z0, -, hsp⟩ := hz 0 (by omega)
      obtain rfl : spot = none := by simpa [Addr.add] using World.cell?_spot hsp
      refine ⟨b, .inr ⟨off, rfl, by simpa using hl, fun i hi => ?_⟩⟩
      obtain ⟨z, h1, h2⟩ := hz i hi
      refine ⟨z, h1, ?_⟩
      rwa [Addr.add_mid] at h2
end Go.Proofs.Ytejknkhahjgdnaa
namespace Go.Proofs.Ytejknkhahjgdnaa
open Go Go.RowKit

set_option maxRecDepth 100000 in
set_option maxHeartbeats 1500000 in
theorem boundHolds_nat (x g : Nat) (a : Option Addr) (len cap z : Nat) (w : World) (hx : x < 256) (hg : g < 256) (hz : BRow z w a len cap) :
    Calls Try.prog 5 #[.int .u8 (x : Nat), .int .u8 (g : Nat), .slice a len cap] w (Ret (.bool true) w) := by
  by_cases hl : 600 < len
  · clear hz
    go_enter Try.func5, Try.ntmps5
    go_wp2_with fail
    refine (alive34_any _).mono ?_
    rintro r w11 ⟨rfl, h11⟩
    go_wp2
    go_ret
    exact Ret.mk h11
  obtain ⟨S, hS⟩ : ∃ S, S = 1 + x % 3 := ⟨_, rfl⟩
  obtain ⟨K, hK⟩ : ∃ K, K = g % 8 := ⟨_, rfl⟩
  have hS2 : 1 + (x : Int) % 3 = (S : Int) := by omega
  have hK2 : (g : Int) % 8 = (K : Int) := by omega
  have HS := Lib.hid (show 1 ≤ S ∧ S ≤ 3 by omega)
  have hK3 : K < 8 := by omega
  have hS3 : S ≤ 3 := HS.out.2
  have HK := Lib.hid hK3
  have hE := (Ext.refl w).alloc (.cells #[.slice a len cap] 42)
  have HPK := Lib.hid (show PkOk w.heap.size (w.alloc (.cells #[.slice a len cap] 42)) by
    refine ⟨a, len, cap, alloc_at _ _ _ rfl, by omega, ?_⟩
    rcases hz with h | ⟨o, h1, h2, h3⟩
    · exact .inl h
    · rcases Nat.eq_zero_or_pos len with h0 | h0
      · exact .inl h0
      · obtain ⟨c, -, hc⟩ := h3 0 h0
        refine .inr ⟨z, o, h1, (by have : z < _ := cell_lt hc; omega), h2, fun i hi => ?_⟩
        obtain ⟨c, hc1, hc⟩ := h3 i hi
        exact ⟨c, hc1, by rw [hE.cell (cell_lt hc)]; exact hc⟩)
  have HE := Lib.hid hE
  clear hS hK hE hz
  go_enter Try.func5, Try.ntmps5
  go_wp2_with fail
  refine (grow_any w.heap.size S K _ HS.out (by omega) HPK.out).mono ?_
  rintro r w1 ⟨v1, t, rfl, o1, q1, b1, p1⟩
  have HB := Lib.hid o1.beads
  have HX := Lib.hid (But.out HE.out (Nat.le_refl _) b1)
  have HQ := Lib.hid q1
  clear o1 q1 b1 p1 HPK HE
  go_wp2_with fail
  refine (beadsMake_any _ w1 v1 HB.out (by have := HQ.out.1; omega)).mono ?_
  rintro r w2 ⟨T, rfl, hT, hF, h2⟩
  replace HX := Lib.hid (HX.out.trans h2)
  have HL := Lib.hid (grown_law HS.out HQ.out hF)
  have HT := Lib.hid hT
  have HC := Lib.hid (HL.out.2.2.1)
  clear hT hF h2 HB HQ
  go_wp2_with fail
  refine (height_small w2 T HT.out (by have := HC.out; omega)).mono ?_
  rintro r w3 ⟨rfl, h3⟩
  replace HX := Lib.hid (HX.out.trans h3)
  replace HT := Lib.hid (HT.out.ext h3)
  clear h3
  go_wp2_with fail
  refine (count_small w3 T HT.out (by have := HC.out; omega)).mono ?_
  rintro r w4 ⟨rfl, h4⟩
  replace HX := Lib.hid (HX.out.trans h4)
  replace HT := Lib.hid (HT.out.ext h4)
  clear h4
  go_wp2_with fail
  refine (sound34_any w4 S T HT.out HL.out.2.1 (by have := HC.out; omega)).mono ?_
  rw [HL.out.1]
  rintro r w5 ⟨rfl, h5⟩
  replace HX := Lib.hid (HX.out.trans h5)
  replace HT := Lib.hid (HT.out.ext h5)
  clear h5
  have hh : T.ht ≤ 127 := by have := HC.out; have := T.ht_count; omega
  have hc : T.count ≤ 127 := HC.out
  have HR := Lib.hid HL.out.2.2.2
  clear HL
  generalize hgh : T.ht = H at *
  generalize hgn : T.count = n at *
  clear hgh hgn
  go_wp2_with fail
  refine (mayN_any34 w5 S H n _ rfl).mono ?_
  rw [HR.out.1]
  rintro r w6 ⟨rfl, h6⟩
  replace HX := Lib.hid (HX.out.trans h6)
  replace HT := Lib.hid (HT.out.ext h6)
  clear h6
  go_wp2_with fail
  refine (mayN_any34 w6 4 H n _ rfl).mono ?_
  rw [HR.out.2.1]
  rintro r w7 ⟨rfl, h7⟩
  replace HX := Lib.hid (HX.out.trans h7)
  replace HT := Lib.hid (HT.out.ext h7)
  clear h7
  go_wp2_with fail
  refine (most_any w7 S n).mono ?_
  rintro r w8 hm
  obtain ⟨m, hm1, rfl, h8⟩ : ∃ m : Nat, IsMost S n m ∧ Ret (.tuple #[.int .i64 (m : Nat), .int .i64 0]) w7 r w8 := by
    have hs := HS.out
    rcases hm with ⟨k, _⟩ | ⟨k, _⟩ | ⟨_, _, _, _, m, hm, hr⟩
    · exact absurd (by omega) k
    · omega
    · exact ⟨m, by simpa using hm, hr⟩
  clear hm
  replace HX := Lib.hid (HX.out.trans h8)
  have hle := HR.out.2.2 m hm1
  have hm100 := hm1.1
  clear h8 HT hm1
  go_wp2_with fail
  refine (alive34_any _).mono ?_
  rintro r w11 ⟨rfl, h11⟩
  go_wp2
  go_ret
  exact Ret.mk (HX.out.trans h11)
theorem boundHolds_walk (x g : Int) (a : Option Addr) (len cap z : Nat) (w : World) (hx : (Lit.int .u8 x).wf = true) (hg : (Lit.int .u8 g).wf = true) (hz : BRow z w a len cap) :
    Calls Try.prog 5 #[.int .u8 x, .int .u8 g, .slice a len cap] w (Ret (.bool true) w) := by
  obtain ⟨x, rfl, x1⟩ := nat_of_u hx (m := 255) rfl rfl
  obtain ⟨g, rfl, g1⟩ := nat_of_u hg (m := 255) rfl rfl
  exact boundHolds_nat x g a len cap z w (by omega) (by omega) hz
end Go.Proofs.Ytejknkhahjgdnaa
