/- avl.beads, as what goes over a tree; avl.Check, avl.May. avl.Check, avl.May. -/
import Derived.Test.YtjiiokhjajfhjaaGreatM6
namespace Go.Proofs.YtjiiokhjajfhjaaGreat
open Go Go.RowKit Go.Shelf
attribute [local go_sem] Oper.semAt_some

theorem ext_of_abides {β : Type} {B : Nat} {J : β → World → Prop} (hJ : AbidesFrom B J) {s : β} {W W' : World} (h : J s W) (hE : Ext W W') : J s W' :=
  hJ s W W' none h ⟨hE.os, hE.tape, hE.output, Below.size hE, fun k hk _ => Below.block hE k hk⟩ (fun r e => by cases e)
theorem inH_pre {w : World} : ∀ {t : Tr}, InH w t → ∀ x ∈ t.pre, InH w x
  | .nil, _, _, hx => by simp [Tr.pre] at hx
  | .node b l k v g r, h, x, hx => by
    simp only [Tr.pre, List.mem_cons, List.mem_append] at hx
    rcases hx with rfl | hx | hx
    · exact h
    · exact inH_pre h.2.1 x hx
    · exact inH_pre h.2.2 x hx
/-- lists of what has a property, as lists. -/
def Under {Px : Tr → Prop} (J : List { x : Tr // Px x } → World → Prop) (l : List Tr) (W : World) : Prop := ∃ l' : List { x : Tr // Px x }, l'.map (·.1) = l ∧ J l' W
set_option maxHeartbeats 1000000 in
/-- **avl.beads(t) hands back what goes over t's nodes, each ahead of its sides.** -/
theorem avlBeads_stops (M : Nat → Prop) (Px : Tr → Prop) (n Bt : Nat) (T : Tr) (w : World) (hM : ∀ i, M i → i < w.heap.size) (hBt : Boxed w Bt 27 (.pointer T.ptr)) (hT : InH w T) (ho : Off M T) (hP : ∀ x ∈ T.pre, Px x) :
    SeqStopsK Fence.wide n Tryz.prog 136 #[.pointer (some ⟨Bt, 0, none⟩)] (fun x : { x : Tr // Px x } => #[Value.pointer x.1.ptr]) (Keep M) (fun ys => ys.map (·.1) = T.pre) (fun q => q.map (·.1) <+: T.pre) T.pre.length w := by
  intro l J Jx W hW hJ hJx hY h0
  have hsz : w.heap.size ≤ W.heap.size := hW.size
  have hE : Ext w W := hW
  have hW2 : Ext W ((W.alloc (.cells #[.func (.yield l) #[] #[]] 108)).alloc (.cells #[.func (.func 137) #[] #[.pointer (some ⟨W.heap.size, 0, none⟩), .pointer (some ⟨W.heap.size + 1, 0, none⟩)]] 108)) := ((Ext.refl W).alloc _).alloc _
  have hon := (avlOn_in M Px l T.pre.length W.heap.size (W.heap.size + 1) (Under J) (Under Jx) (fun h => by have := hM _ h; omega) (fun h => by have := hM _ h; omega)
    (fun m pre x W hx ⟨l', hl', hj⟩ hl => YieldAt.any m (YieldAt.mono (hY l' ⟨x, hx⟩ W hj (by rw [← hl'] at hl; simpa using hl)) fun e W' h => h.elim
      (fun ⟨he, h1, h2⟩ => .inl ⟨he, ⟨l' ++ [⟨x, hx⟩], by simp [hl'], h1⟩, h2⟩) (fun ⟨he, h1⟩ => .inr ⟨he, ⟨l' ++ [⟨x, hx⟩], by simp [hl'], h1⟩⟩)))
    (fun pre W W' ⟨l', hl', h⟩ hE => ⟨l', hl', ext_of_abides hJ h hE⟩) T (n - 1) [] _ ((hT.ext hE).ext hW2) ho hP ⟨[], rfl, ext_of_abides hJ h0 hW2⟩ (by simp)
    ((Boxed.new W _ _).alloc _) (by have := Boxed.new (W.alloc (.cells #[.func (.yield l) #[] #[]] 108)) 108 (.func (.func 137) #[] #[.pointer (some ⟨W.heap.size, 0, none⟩), .pointer (some ⟨W.heap.size + 1, 0, none⟩)]); simpa using this))
  have Hon := Lib.hid hon
  clear hon hY hP
  have hcb := (show Boxed W Bt _ _ from hE.get hBt).cell
  have hlb := (show Boxed W Bt _ _ from hE.get hBt).lt
  have hfn : ∀ f, Fence.wide.fn f := fun _ => trivial
  refine callsIn_of_wp Tryz.func136 rfl trivial ?_ rfl
  simp only [Tryz.ntmps136, List.size_toArray, List.length_cons, List.length_nil, Nat.reduceAdd, Nat.reduceSub, Array.replicate_succ, Array.replicate_zero, List.push_toArray, List.append_toArray, List.nil_append, List.cons_append]
  gi_wp2_with fail
  refine ⟨wide_room _, Hon.out.mono ?_⟩
  rintro e W1 (⟨rfl, ⟨l', hl', hJ1⟩, -⟩ | ⟨rfl, q, hq, l', hl', hJ1⟩)
  · gi_wp2
    go_end0
    exact ⟨⟨_, rfl⟩, .inl ⟨_, by simpa using hl', hJ1⟩⟩
  · gi_wp2
    go_end0
    exact ⟨⟨_, rfl⟩, .inr ⟨l', by rw [hl']; simpa using hq, hJ1⟩⟩
theorem avlBeads_any (w : World) (p : Option Addr) : Calls Tryz.prog 115 #[.pointer p] w fun e w' => e = .returned (.func (.func 136) #[] #[.pointer (some ⟨w.heap.size, 0, none⟩)]) ∧ w' = w.alloc (.cells #[.pointer p] 27) := by
  go_enter Tryz.func115, Tryz.ntmps115
  go_wp2
  go_ret
  exact ⟨rfl, rfl⟩
/-- what avl.looks lays into memory. -/
def looksW (w : World) : World := (w.alloc (.cells #[.func (.func 133) #[] #[]] 186)).alloc
  (.cells #[.func (.func 134) #[] #[.pointer (some ⟨w.heap.size, 0, none⟩)], .int .i64 140, .func (.func 135) #[] #[.pointer (some ⟨w.heap.size, 0, none⟩)], .int .i64 8] 175)
set_option maxHeartbeats 400000 in
theorem looks_any (w : World) : Calls Tryz.prog 114 #[] w fun e w' => e = .returned (.slice (some ⟨w.heap.size + 1, 0, none⟩) 2 2) ∧ w' = looksW w := by
  go_enter Tryz.func114, Tryz.ntmps114
  go_wp2
  go_ret
  exact ⟨rfl, rfl⟩
set_option maxHeartbeats 400000 in
theorem tags_any (w : World) (t : Tr) (ht : InH w t) : Calls Tryz.prog 133 #[.pointer t.ptr] w (Ret (.tuple #[.int .u64 (min t.left.tag t.right.tag), .int .u64 (max t.left.tag t.right.tag)]) w) := by
  go_enter Tryz.func133, Tryz.ntmps133
  go_wp2_with fail
  refine (left_any _ t ht).mono ?_
  rintro e w1 ⟨rfl, h1⟩
  go_wp2_with fail
  refine (tag_any _ _ ((left_ok ht).ext h1)).mono ?_
  rintro e w2 ⟨rfl, h2⟩
  have h12 := h1.trans h2
  go_wp2_with fail
  refine (right_any _ t (ht.ext h12)).mono ?_
  rintro e w3 ⟨rfl, h3⟩
  go_wp2_with fail
  refine (tag_any _ _ ((right_ok ht).ext (h12.trans h3))).mono ?_
  rintro e w4 ⟨rfl, h4⟩
  have hE := (h12.trans h3).trans h4
  go_wp2
  all_goals
    go_ret2
    exact ⟨ret_two (by omega) (by omega), hE⟩
/-- the first thing that may be wrong with a node. -/
def avlBadTag (t : Tr) : Bool := t.tag == 0 || IntKind.u64.wrap (t.tag - 1) != max t.left.tag t.right.tag
/-- the second one. -/
def avlBadTree (t : Tr) : Bool := decide (1 < IntKind.u64.wrap (max t.left.tag t.right.tag - min t.left.tag t.right.tag))
set_option maxHeartbeats 400000 in
theorem wrong1_any (w : World) (t : Tr) (B : Nat) (ht : InH w t) (hB : Boxed w B 186 (.func (.func 133) #[] #[])) : Calls Tryz.prog 134 #[.pointer t.ptr, .pointer (some ⟨B, 0, none⟩)] w (Ret (.bool (avlBadTag t)) w) := by
  have hc := hB.cell
  go_enter Tryz.func134, Tryz.ntmps134
  go_wp2_with fail
  refine (tags_any _ t ht).mono ?_
  rintro e w1 ⟨rfl, h1⟩
  go_wp2_with fail
  refine (tag_any _ t (ht.ext h1)).mono ?_
  rintro e w2 ⟨rfl, h2⟩
  have h := h1.trans h2
  clear hc
  by_cases h0 : t.tag = 0
  · have e := beq_iff_eq.2 h0
    clear h0
    have hE := Lib.hid e
    go_wp2
    go_ret
    exact ⟨ret_bool (by simp [avlBadTag, hE.out]), h⟩
  · have e := beq_eq_false_iff_ne.2 h0
    have hE := Lib.hid e
    clear h0
    go_wp2_with fail
    refine (tag_any _ t (ht.ext h)).mono ?_
    rintro e w3 ⟨rfl, h3⟩
    go_wp2
    go_ret
    exact ⟨ret_bool (by simp [avlBadTag, hE.out]), h.trans h3⟩
set_option maxHeartbeats 400000 in
theorem wrong2_any (w : World) (t : Tr) (B : Nat) (ht : InH w t) (hB : Boxed w B 186 (.func (.func 133) #[] #[])) : Calls Tryz.prog 135 #[.pointer t.ptr, .pointer (some ⟨B, 0, none⟩)] w (Ret (.bool (avlBadTree t)) w) := by
  have hc := hB.cell
  go_enter Tryz.func135, Tryz.ntmps135
  go_wp2_with fail
  refine (tags_any _ t ht).mono ?_
  rintro e w1 ⟨rfl, h1⟩
  go_wp2
  go_ret
  exact ⟨ret_bool (by simp [avlBadTree]), h1⟩
end Go.Proofs.YtjiiokhjajfhjaaGreat
namespace Go.Proofs.YtjiiokhjajfhjaaGreat
open Go Go.RowKit Go.Shelf
attribute [local go_sem] Oper.semAt_some

/-- the first node that is wrong, and how. -/
def avlFirst : List Tr → Nat × Int
  | [] => (0, 0)
  | t :: r => if avlBadTag t then (0, 140) else if avlBadTree t then (0, 8) else ((avlFirst r).1 + 1, (avlFirst r).2)

theorem avlFirst_good : ∀ {l : List Tr}, (∀ t ∈ l, avlBadTag t = false ∧ avlBadTree t = false) → avlFirst l = (l.length, 0)
  | [], _ => rfl
  | t :: l, h => by
    have h0 := h t (List.mem_cons_self ..)
    have h1 := avlFirst_good (l := l) (fun x hx => h x (List.mem_cons_of_mem _ hx))
    simp [avlFirst, h0.1, h0.2, h1]
theorem avlFirst_bad {x : Tr} {r : List Tr} : ∀ {l : List Tr}, (∀ t ∈ l, avlBadTag t = false ∧ avlBadTree t = false) → avlFirst (l ++ x :: r) = (l.length + (avlFirst (x :: r)).1, (avlFirst (x :: r)).2)
  | [], _ => by simp
  | t :: l, h => by
    have h0 := h t (List.mem_cons_self ..)
    have h1 := avlFirst_bad (l := l) (x := x) (r := r) (fun x hx => h x (List.mem_cons_of_mem _ hx))
    rw [List.cons_append, avlFirst, if_neg (by simp [h0.1]), if_neg (by simp [h0.2]), h1]
    simp; omega
theorem wrap64_succ (a : Int) : wrap64 (wrap64 a + 1) = wrap64 (a + 1) := by unfold wrap64; omega
/-- the world ahead of Check's loop. -/
def chkW (w : World) (p : Option Addr) : World :=
  ((((((w.alloc (.cells #[.int .i64 0] 3)).alloc (.cells #[.int .i64 0] 30)).alloc (.cells #[.func (.func 133) #[] #[]] 186)).alloc
      (.cells #[.func (.func 134) #[] #[.pointer (some ⟨w.heap.size + 1 + 1, 0, none⟩)], .int .i64 140, .func (.func 135) #[] #[.pointer (some ⟨w.heap.size + 1 + 1, 0, none⟩)], .int .i64 8] 175)).alloc
      (.cells #[.slice (some ⟨w.heap.size + 1 + 1 + 1, 0, none⟩) 2 2] 172)).alloc (.cells #[.pointer p] 27))
/-- what of it stays through the loop. -/
structure ChkStays (N : Nat) (W : World) : Prop where
  tags : Boxed W (N + 1 + 1) 186 (.func (.func 133) #[] #[])
  looks : W.heap[N + 1 + 1 + 1]? = some (.cells #[.func (.func 134) #[] #[.pointer (some ⟨N + 1 + 1, 0, none⟩)], .int .i64 140, .func (.func 135) #[] #[.pointer (some ⟨N + 1 + 1, 0, none⟩)], .int .i64 8] 175 (0, 0))
  all : Boxed W (N + 1 + 1 + 1 + 1) 172 (.slice (some ⟨N + 1 + 1 + 1, 0, none⟩) 2 2)
theorem ChkStays.keep {N : Nat} {W W' : World} (h : ChkStays N W) (k : Keep (fun i => i = N ∨ i = N + 1) W W') : ChkStays N W' :=
  ⟨k.boxed (by omega) h.tags, k.cells _ _ _ _ (by omega) h.looks, k.boxed (by omega) h.all⟩
theorem chkW_all (w : World) (p : Option Addr) : Ext w (chkW w p) ∧ (chkW w p).heap.size = w.heap.size + 6 ∧ Boxed (chkW w p) w.heap.size 3 (.int .i64 0) ∧ Boxed (chkW w p) (w.heap.size + 1) 30 (.int .i64 0) ∧
    Boxed (chkW w p) (w.heap.size + 1 + 1 + 1 + 1 + 1) 27 (.pointer p) ∧ ChkStays w.heap.size (chkW w p) := by
  refine ⟨((((((Ext.refl w).alloc _).alloc _).alloc _).alloc _).alloc _).alloc _, by simp [chkW], ?_, ?_, ?_, ?_, ?_, ?_⟩ <;> unfold chkW <;> (try unfold Boxed) <;> (repeat (first | exact alloc_at _ _ _ (by simp) | rw [alloc_lt _ _ _ (by simp <;> omega)]))

theorem results_cells2 {fn : Func} {t u : Tmp} {A B : TypeId} (h : fn.results = #[.cell t A, .cell u B]) (tmps : Array Value) (w : World) {a b : Value} {p q : Addr} (ht : tmps.getD t undef = .pointer (some p)) (hu : tmps.getD u undef = .pointer (some q))
    (hA : ∀ w : World, (isAgg A).run Tryz.prog w = .ok false w) (hB : ∀ w : World, (isAgg B).run Tryz.prog w = .ok false w) (hp : w.cell? p = some a) (hq : w.cell? q = some b) :
    (results fn tmps).run Tryz.prog w = .ok (.tuple #[a, b]) w := by
  simp only [Array.getD_eq_getD_getElem?] at ht hu
  simp [results, h, ht, hu, loadVar, hA, hB, asAddr, hp, hq]
set_option maxRecDepth 100000 in
set_option maxHeartbeats 2000000 in
theorem avlCheck_in (n : Nat) (hn : Hid (1 ≤ n)) (T : Tr) (w : World) (hT : InH w T) :
    CallsIn Fence.wide n Tryz.prog 89 #[.pointer T.ptr] w (Ret (.tuple #[.int .i64 (wrap64 (avlFirst T.pre).1), .int .i64 (avlFirst T.pre).2]) w) := by
  have hfn : ∀ f, Fence.wide.fn f := fun _ => trivial
  refine callsIn_of_wp_marks Tryz.func89 rfl trivial ?_ rfl
  simp only [Tryz.ntmps89, List.size_toArray, List.length_cons, List.length_nil, Nat.reduceAdd, Nat.reduceSub, Array.replicate_succ, Array.replicate_zero, List.push_toArray, List.append_toArray, List.nil_append, List.cons_append]
  gi_wp2_with fail
  refine wpIn_scope_wide ?_
  gi_wp2_with fail
  refine ⟨wide_room _, (callsIn_wide.2 (looks_any _)).mono ?_⟩
  rintro e w1 ⟨rfl, rfl⟩
  unfold looksW
  gi_wp2_with fail
  refine wpIn_label ?_
  gi_wp2_with fail
  refine ⟨wide_room _, (callsIn_wide.2 (avlBeads_any _ _)).mono ?_⟩
  rintro e w2 ⟨rfl, rfl⟩
  gi_wp2_with fail
  change Code.wpIn _ _ _ _ _ _ (chkW w T.ptr)
  obtain ⟨hE, hsz, hat, he, htb, hst⟩ := chkW_all w T.ptr
  generalize chkW w T.ptr = W0 at *
  generalize hN : w.heap.size = N at *
  have HN := Lib.hid hN
  clear hN
  refine wpIn_rangeFunc_ownG rfl (n := n) (w := W0) hn.out (gf := 136) (lb := #[.pointer (some ⟨N + 1 + 1 + 1 + 1 + 1, 0, none⟩)]) rfl trivial (enters_of Tryz.func136 (by kernel_rfl) rfl)
    (avlBeads_stops (fun i => i = N ∨ i = N + 1) (InH w) (n - 1) _ T W0 (by omega) htb (hT.ext hE) (InH.off (fun i h => by rw [HN.out]; omega) hT) (fun x hx => inH_pre hT x hx))
    (fun h k => Keep.trans h k) (fun W l o o' _ h ho _ => Keep.putObj W l o o' h ho) (RowKit.Below.refl _ _) (fun _ => rfl)
    (fun pre W => Boxed W N 3 (.int .i64 (wrap64 pre.length)) ∧ Boxed W (N + 1) 30 (.int .i64 0) ∧ (∀ y ∈ pre, avlBadTag y.1 = false ∧ avlBadTree y.1 = false) ∧ Keep (fun i => i = N ∨ i = N + 1) W0 W ∧ Below N W0 W)
    (fun c pre W => c = .exit 0 ∧ ∃ q x, pre = q ++ [x] ∧ (∀ y ∈ q, avlBadTag y.1 = false ∧ avlBadTree y.1 = false) ∧ Boxed W N 3 (.int .i64 (wrap64 q.length)) ∧
      (avlBadTag x.1 = true ∧ Boxed W (N + 1) 30 (.int .i64 140) ∨ avlBadTag x.1 = false ∧ avlBadTree x.1 = true ∧ Boxed W (N + 1) 30 (.int .i64 8)) ∧ Below N W0 W)
    ?own ?ownx ⟨(by simpa [wrap64] using hat), he, by simp, Keep.refl _ _, Below.refl _ _⟩ (fun x => { tmps := #[Value.pointer T.ptr, undef, Value.pointer (some ⟨N, 0, none⟩), Value.pointer (some ⟨N + 1, 0, none⟩), Value.pointer (some ⟨N + 1 + 1 + 1 + 1, 0, none⟩), Value.pointer x.1.ptr, undef, undef, Value.slice (some ⟨N + 1 + 1 + 1, 0, none⟩) 2 2, Value.pointer T.ptr, Value.func (Fn.func 136) #[] #[Value.pointer (some ⟨N + 1 + 1 + 1 + 1 + 1, 0, none⟩)], Value.pointer x.1.ptr, undef, undef, undef, undef, undef, undef, undef, undef, undef, undef, undef, undef, undef, undef, undef, undef, undef], defers := [] }) ?assign ?body ?done ?stop
  case own =>
    rintro s A A' row ⟨h1, h2, h3, h4, h5⟩ hg hr
    exact ⟨boxed_grown h1 hg hr, boxed_grown h2 hg hr, h3, keep_grown h4 hg hr, below_grown (by omega) (by omega) h5 hg hr⟩
  case ownx =>
    rintro c s A A' row ⟨h0, q, x, h1, h2, h3, h4, h5⟩ hg hr
    exact ⟨h0, q, x, h1, h2, boxed_grown h3 hg hr, h4.imp (fun h => ⟨h.1, boxed_grown h.2 hg hr⟩) (fun h => ⟨h.1, h.2.1, boxed_grown h.2.2 hg hr⟩), below_grown (by omega) (by omega) h5 hg hr⟩
  case assign =>
    intro l x W K hK
    gi_wp2
    exact hK
  case body =>
    rintro l pre x W ⟨hat, he, hg, hk, hb⟩ _
    have hst' := hst.keep hk
    have hx := InH.keep hk (InH.off (fun i h => by rw [HN.out]; omega) x.2) (x.2.ext hE)
    have hle : N + 6 ≤ W.heap.size := by have := hk.size; omega
    have hal := hst'.all.cell
    have hl0 := cell_of hst'.looks 0
    have hl1 := cell_of hst'.looks 1
    have hl2 := cell_of hst'.looks 2
    have hl3 := cell_of hst'.looks 3
    simp at hl0 hl1 hl2 hl3
    have hg' := Lib.hid hg
    have hat' := hat
    have he' := he
    clear hg hsz hat he
    gi_wp2_with fail
    refine wpIn_loop_rounds 3 ?_
    rw [roundsIn_succ]
    gi_wp2_with fail
    have hB1 := hat'
    by_cases e1 : avlBadTag x.1 = true
    · refine ⟨wide_room _, (CallsIn.inRound l (callsIn_wide.2 (wrong1_any _ x.1 _ (hx.ext ((Ext.refl W).alloc _)) (hst'.tags.alloc _)))).mono ?_⟩
      rintro e W1 ⟨rfl, h1⟩
      have h01 : Ext W W1 := ((Ext.refl W).alloc _).trans h1
      have hcn := cell_keep h1 (cell_of (alloc_at W (.cells #[.func (.func 134) #[] #[.pointer (some ⟨N + 1 + 1, 0, none⟩)], .int .i64 140] 175) _ rfl) 1)
      have he1 := (Keep.ext (M := fun _ => False) h01).boxed (fun h => h) he'
      have hce := he1.cell
      have hfe := he1.frozen
      clear hl0 hl1 hl2 hl3 hal
      gi_wp2
      have hBe : Below N W0 W1 := hb.trans (RowKit.Below.mono h01 (by omega))
      exact ⟨(keepsFrom_ext h01).trans (keepsFrom_set _ _ _), rfl, pre, x, rfl, hg'.out, ((Keep.ext (M := fun _ => False) h01).boxed (fun h => h) hat').other (by omega) _, .inl ⟨e1, he1.set _⟩, hBe.setCell (p := ⟨N + 1, 0, none⟩) (Nat.le_succ N) _⟩
    · have e1' : avlBadTag x.1 = false := by simpa using e1
      clear e1
      refine ⟨wide_room _, (CallsIn.inRound l (callsIn_wide.2 (wrong1_any _ x.1 _ (hx.ext ((Ext.refl W).alloc _)) (hst'.tags.alloc _)))).mono ?_⟩
      rintro e W1 ⟨rfl, h1⟩
      have h01 : Ext W W1 := ((Ext.refl W).alloc _).trans h1
      clear hl0 hl1 hl2 hl3 hal h1
      have hst1 := hst'.keep (Keep.ext h01)
      have hl2 := cell_of hst1.looks 2
      have hl3 := cell_of hst1.looks 3
      simp at hl2 hl3
      have hlt1 : N + 6 ≤ W1.heap.size := Nat.le_trans hle h01.size
      gi_wp2_with fail
      rw [roundsIn_succ]
      gi_wp2_with fail
      refine ⟨wide_room _, (CallsIn.inRound l (callsIn_wide.2 (wrong2_any _ x.1 _ ((hx.ext h01).ext ((Ext.refl W1).alloc _)) (hst1.tags.alloc _)))).mono ?_⟩
      rintro e W2 ⟨rfl, h2⟩
      have h12 : Ext W1 W2 := ((Ext.refl W1).alloc _).trans h2
      have h02 := h01.trans h12
      have hcn := cell_keep h2 (cell_of (alloc_at W1 (.cells #[.func (.func 135) #[] #[.pointer (some ⟨N + 1 + 1, 0, none⟩)], .int .i64 8] 175) _ rfl) 1)
      have he2 := (Keep.ext (M := fun _ => False) h02).boxed (fun h => h) he'
      have hat2 := (Keep.ext (M := fun _ => False) h02).boxed (fun h => h) hat'
      have hBe : Below N W0 W2 := hb.trans (RowKit.Below.mono h02 (by omega))
      clear hl2 hl3 hst1 h2
      by_cases e2 : avlBadTree x.1 = true
      · have hce := he2.cell
        have hfe := he2.frozen
        gi_wp2
        exact ⟨(keepsFrom_ext h02).trans (keepsFrom_set _ _ _), rfl, pre, x, rfl, hg'.out, hat2.other (by omega) _, .inr ⟨e1', e2, he2.set _⟩, hBe.setCell (p := ⟨N + 1, 0, none⟩) (Nat.le_succ N) _⟩
      · have e2' : avlBadTree x.1 = false := by simpa using e2
        clear e2
        have hce := hat2.cell
        have hfe := hat2.frozen
        gi_wp2_with fail
        rw [roundsIn_succ]
        gi_wp2
        have hBf := hBe.setCell (p := ⟨N, 0, none⟩) (Nat.le_refl N) (.int .i64 (wrap64 (wrap64 pre.length + 1)))
        have hbx := hat2.set (.int .i64 (wrap64 (wrap64 pre.length + 1)))
        rw [wrap64_succ] at hbx hBf ⊢
        refine ⟨(keepsFrom_ext h02).trans (keepsFrom_set _ _ _), (Keep.ext h02).trans (Keep.setCell _ _ _ (.inl rfl)), ?_, he2.other (by omega) _, ?_, (hk.trans (Keep.ext h02)).trans (Keep.setCell _ _ _ (.inl rfl)), hBf⟩
        · rw [List.length_append]; exact hbx
        · intro y hy
          rcases List.mem_append.1 hy with hy | hy
          · exact hg'.out y hy
          · obtain rfl : y = x := by simpa using hy
            exact ⟨e1', e2'⟩
  case done =>
    rintro D ys W hD hys ⟨hat, he, hg, hk, hb⟩ hK
    clear hst htb
    have hca := hat.cell
    have hfa := hat.frozen
    have hce := he.cell
    have hfe := he.frozen
    gi_wp2_with fail
    gi_region
    gi_wp2
    obtain ⟨f1, f2, f3, f4⟩ := two_end HN.out hE hb hD hK hat he (by omega)
    have e1 : avlFirst T.pre = (ys.length, 0) := by
      rw [← hys, avlFirst_good (fun t ht => by obtain ⟨y, hy, rfl⟩ := List.mem_map.1 ht; exact hg y hy), List.length_map]
    rw [e1]
    refine ⟨by simp, .inl ⟨_, _, rfl, run_takeDeferred f1, ?_⟩⟩
    exact ⟨_, results_cells2 rfl _ _ rfl rfl (fun _ => by kernel_rfl) (fun _ => by kernel_rfl) f2 f3, rfl, f4⟩
  case stop =>
    rintro D c q W hD hq ⟨rfl, q', x, hqx, hg, hat, he, hb⟩ hK
    clear hst htb
    obtain ⟨r, hr⟩ := hq
    have e1 : ∀ er, avlFirst (x.1 :: r) = (0, er) → avlFirst T.pre = (q'.length, er) := fun er h => by
      rw [← hr, hqx, List.map_append, List.append_assoc]
      show avlFirst (q'.map (·.1) ++ x.1 :: r) = _
      rw [avlFirst_bad (fun t ht => by obtain ⟨y, hy, rfl⟩ := List.mem_map.1 ht; exact hg y hy), h, List.length_map]
      simp
    have E1 := Lib.hid e1
    clear e1 hr hg hqx
    rcases he with ⟨b1, he⟩ | ⟨b1, b2, he⟩
    · have e2 := E1.out 140 (by simp [avlFirst, b1])
      have H2 := Lib.hid e2
      clear b1 e2
      have hca := hat.cell
      have hfa := hat.frozen
      have hce := he.cell
      have hfe := he.frozen
      gi_wp2_with fail
      gi_region
      gi_wp2
      obtain ⟨f1, f2, f3, f4⟩ := two_end HN.out hE hb hD hK hat he (by omega)
      rw [H2.out]
      refine ⟨by simp, .inl ⟨_, _, rfl, run_takeDeferred f1, ?_⟩⟩
      exact ⟨_, results_cells2 rfl _ _ rfl rfl (fun _ => by kernel_rfl) (fun _ => by kernel_rfl) f2 f3, rfl, f4⟩
    · have e2 := E1.out 8 (by simp [avlFirst, b1, b2])
      have H2 := Lib.hid e2
      clear b1 b2 e2
      have hca := hat.cell
      have hfa := hat.frozen
      have hce := he.cell
      have hfe := he.frozen
      gi_wp2_with fail
      gi_region
      gi_wp2
      obtain ⟨f1, f2, f3, f4⟩ := two_end HN.out hE hb hD hK hat he (by omega)
      rw [H2.out]
      refine ⟨by simp, .inl ⟨_, _, rfl, run_takeDeferred f1, ?_⟩⟩
      exact ⟨_, results_cells2 rfl _ _ rfl rfl (fun _ => by kernel_rfl) (fun _ => by kernel_rfl) f2 f3, rfl, f4⟩
/-- **avl.Check**, at any tree: the first of its nodes, each ahead of its sides, that is wrong, and how. -/
theorem avlCheck_any (w : World) (T : Tr) (hT : InH w T) : Calls Tryz.prog 89 #[.pointer T.ptr] w (Ret (.tuple #[.int .i64 (wrap64 (avlFirst T.pre).1), .int .i64 (avlFirst T.pre).2]) w) :=
  callsIn_wide.1 (avlCheck_in 9 (Lib.hid (by omega)) T w hT)
/-- may it be? -/
def avlMay (T : Tr) : Bool := (avlFirst T.pre).2 == 0
set_option maxHeartbeats 400000 in
theorem avlMay_any (w : World) (T : Tr) (hT : InH w T) : Calls Tryz.prog 90 #[.pointer T.ptr] w (Ret (.bool (avlMay T)) w) := by
  go_enter Tryz.func90, Tryz.ntmps90
  go_wp2_with fail
  refine (avlCheck_any _ T hT).mono ?_
  rintro e w1 ⟨rfl, h1⟩
  go_wp2
  go_ret
  exact ⟨rfl, h1⟩
end Go.Proofs.YtjiiokhjajfhjaaGreat
