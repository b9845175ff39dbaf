/- avl.Check, avl.May. Plain facts of AVL trees; least trees; the examples of layer 14. joinerylaw14.least, joineryref14.Least, joinerylaw14.alive, and the walk of joinerylaw14.AvlLeast. -/
import Derived.Test.YtoiohjifjmejkaaGreatM6
namespace Go.Proofs.YtoiohjifjmejkaaGreat
open Go Go.RowKit Go.Shelf
attribute [local go_sem] Oper.semAt_some

/-- the first node that is wrong, and how. -/
def avlFirst : List Tr → Nat × Int
  | [] => (0, 0)
  | t :: r => if avlBadTag t then (0, 140) else if avlBadTree t then (0, 8) else ((avlFirst r).1 + 1, (avlFirst r).2)

theorem avlFirst_good : ∀ {l : List Tr}, (∀ t ∈ l, avlBadTag t = false ∧ avlBadTree t = false) → avlFirst l = (l.length, 0)
  | [], _ => rfl
  | t :: l, h => by
    have h0 := h t (List.mem_cons_self ..)
    have h1 := avlFirst_good (l := l) (fun x hx => h x (List.mem_cons_of_mem _ hx))
    simp [avlFirst, h0.1, h0.2, h1]
theorem avlFirst_bad {x : Tr} {r : List Tr} : ∀ {l : List Tr}, (∀ t ∈ l, avlBadTag t = false ∧ avlBadTree t = false) → avlFirst (l ++ x :: r) = (l.length + (avlFirst (x :: r)).1, (avlFirst (x :: r)).2)
  | [], _ => by simp
  | t :: l, h => by
    have h0 := h t (List.mem_cons_self ..)
    have h1 := avlFirst_bad (l := l) (x := x) (r := r) (fun x hx => h x (List.mem_cons_of_mem _ hx))
    rw [List.cons_append, avlFirst, if_neg (by simp [h0.1]), if_neg (by simp [h0.2]), h1]
    simp; omega
theorem wrap64_succ (a : Int) : wrap64 (wrap64 a + 1) = wrap64 (a + 1) := by unfold wrap64; omega
/-- the world ahead of Check's loop. -/
def chkW (w : World) (p : Option Addr) : World :=
  ((((((w.alloc (.cells #[.int .i64 0] 3)).alloc (.cells #[.int .i64 0] 33)).alloc (.cells #[.func (.func 136) #[] #[]] 179)).alloc
      (.cells #[.func (.func 137) #[] #[.pointer (some ⟨w.heap.size + 1 + 1, 0, none⟩)], .int .i64 140, .func (.func 138) #[] #[.pointer (some ⟨w.heap.size + 1 + 1, 0, none⟩)], .int .i64 8] 167)).alloc
      (.cells #[.slice (some ⟨w.heap.size + 1 + 1 + 1, 0, none⟩) 2 2] 164)).alloc (.cells #[.pointer p] 31))
/-- what of it stays through the loop. -/
structure ChkStays (N : Nat) (W : World) : Prop where
  tags : Boxed W (N + 1 + 1) 179 (.func (.func 136) #[] #[])
  looks : W.heap[N + 1 + 1 + 1]? = some (.cells #[.func (.func 137) #[] #[.pointer (some ⟨N + 1 + 1, 0, none⟩)], .int .i64 140, .func (.func 138) #[] #[.pointer (some ⟨N + 1 + 1, 0, none⟩)], .int .i64 8] 167 (0, 0))
  all : Boxed W (N + 1 + 1 + 1 + 1) 164 (.slice (some ⟨N + 1 + 1 + 1, 0, none⟩) 2 2)
theorem ChkStays.keep {N : Nat} {W W' : World} (h : ChkStays N W) (k : Keep (fun i => i = N ∨ i = N + 1) W W') : ChkStays N W' :=
  ⟨k.boxed (by omega) h.tags, k.cells _ _ _ _ (by omega) h.looks, k.boxed (by omega) h.all⟩
theorem chkW_all (w : World) (p : Option Addr) : Ext w (chkW w p) ∧ (chkW w p).heap.size = w.heap.size + 6 ∧ Boxed (chkW w p) w.heap.size 3 (.int .i64 0) ∧ Boxed (chkW w p) (w.heap.size + 1) 33 (.int .i64 0) ∧
    Boxed (chkW w p) (w.heap.size + 1 + 1 + 1 + 1 + 1) 31 (.pointer p) ∧ ChkStays w.heap.size (chkW w p) := by
  refine ⟨((((((Ext.refl w).alloc _).alloc _).alloc _).alloc _).alloc _).alloc _, by simp [chkW], ?_, ?_, ?_, ?_, ?_, ?_⟩ <;> unfold chkW <;> (try unfold Boxed) <;> (repeat (first | exact alloc_at _ _ _ (by simp) | rw [alloc_lt _ _ _ (by simp <;> omega)]))

theorem results_cells2 {fn : Func} {t u : Tmp} {A B : TypeId} (h : fn.results = #[.cell t A, .cell u B]) (tmps : Array Value) (w : World) {a b : Value} {p q : Addr} (ht : tmps.getD t undef = .pointer (some p)) (hu : tmps.getD u undef = .pointer (some q))
    (hA : ∀ w : World, (isAgg A).run Tryz.prog w = .ok false w) (hB : ∀ w : World, (isAgg B).run Tryz.prog w = .ok false w) (hp : w.cell? p = some a) (hq : w.cell? q = some b) :
    (results fn tmps).run Tryz.prog w = .ok (.tuple #[a, b]) w := by
  simp only [Array.getD_eq_getD_getElem?] at ht hu
  simp [results, h, ht, hu, loadVar, hA, hB, asAddr, hp, hq]
set_option maxRecDepth 100000 in
set_option maxHeartbeats 2000000 in
theorem avlCheck_in (n : Nat) (hn : Hid (1 ≤ n)) (T : Tr) (w : World) (hT : InH w T) :
    CallsIn Fence.wide n Tryz.prog 70 #[.pointer T.ptr] w (Ret (.tuple #[.int .i64 (wrap64 (avlFirst T.pre).1), .int .i64 (avlFirst T.pre).2]) w) := by
  have hfn : ∀ f, Fence.wide.fn f := fun _ => trivial
  refine callsIn_of_wp_marks Tryz.func70 rfl trivial ?_ rfl
  simp only [Tryz.ntmps70, List.size_toArray, List.length_cons, List.length_nil, Nat.reduceAdd, Nat.reduceSub, Array.replicate_succ, Array.replicate_zero, List.push_toArray, List.append_toArray, List.nil_append, List.cons_append]
  gi_wp2_with fail
  refine wpIn_scope_wide ?_
  gi_wp2_with fail
  refine ⟨wide_room _, (callsIn_wide.2 (looks_any _)).mono ?_⟩
  rintro e w1 ⟨rfl, rfl⟩
  unfold looksW
  gi_wp2_with fail
  refine wpIn_label ?_
  gi_wp2_with fail
  refine ⟨wide_room _, (callsIn_wide.2 (avlBeads_any _ _)).mono ?_⟩
  rintro e w2 ⟨rfl, rfl⟩
  gi_wp2_with fail
  change Code.wpIn _ _ _ _ _ _ (chkW w T.ptr)
  obtain ⟨hE, hsz, hat, he, htb, hst⟩ := chkW_all w T.ptr
  generalize chkW w T.ptr = W0 at *
  generalize hN : w.heap.size = N at *
  have HN := Lib.hid hN
  clear hN
  refine wpIn_rangeFunc_ownG rfl (n := n) (w := W0) hn.out (gf := 139) (lb := #[.pointer (some ⟨N + 1 + 1 + 1 + 1 + 1, 0, none⟩)]) rfl trivial (enters_of Tryz.func139 (by kernel_rfl) rfl)
    (avlBeads_stops (fun i => i = N ∨ i = N + 1) (InH w) (n - 1) _ T W0 (by omega) htb (hT.ext hE) (InH.off (fun i h => by rw [HN.out]; omega) hT) (fun x hx => inH_pre hT x hx))
    (fun h k => Keep.trans h k) (fun W l o o' _ h ho _ => Keep.putObj W l o o' h ho) (RowKit.Below.refl _ _) (fun _ => rfl)
    (fun pre W => Boxed W N 3 (.int .i64 (wrap64 pre.length)) ∧ Boxed W (N + 1) 33 (.int .i64 0) ∧ (∀ y ∈ pre, avlBadTag y.1 = false ∧ avlBadTree y.1 = false) ∧ Keep (fun i => i = N ∨ i = N + 1) W0 W ∧ Below N W0 W)
    (fun c pre W => c = .exit 0 ∧ ∃ q x, pre = q ++ [x] ∧ (∀ y ∈ q, avlBadTag y.1 = false ∧ avlBadTree y.1 = false) ∧ Boxed W N 3 (.int .i64 (wrap64 q.length)) ∧
      (avlBadTag x.1 = true ∧ Boxed W (N + 1) 33 (.int .i64 140) ∨ avlBadTag x.1 = false ∧ avlBadTree x.1 = true ∧ Boxed W (N + 1) 33 (.int .i64 8)) ∧ Below N W0 W)
    ?own ?ownx ⟨(by simpa [wrap64] using hat), he, by simp, Keep.refl _ _, Below.refl _ _⟩ (fun x => { tmps := #[Value.pointer T.ptr, undef, Value.pointer (some ⟨N, 0, none⟩), Value.pointer (some ⟨N + 1, 0, none⟩), Value.pointer (some ⟨N + 1 + 1 + 1 + 1, 0, none⟩), Value.pointer x.1.ptr, undef, undef, Value.slice (some ⟨N + 1 + 1 + 1, 0, none⟩) 2 2, Value.pointer T.ptr, Value.func (Fn.func 139) #[] #[Value.pointer (some ⟨N + 1 + 1 + 1 + 1 + 1, 0, none⟩)], Value.pointer x.1.ptr, undef, undef, undef, undef, undef, undef, undef, undef, undef, undef, undef, undef, undef, undef, undef, undef, undef], defers := [] }) ?assign ?body ?done ?stop
  case own =>
    rintro s A A' row ⟨h1, h2, h3, h4, h5⟩ hg hr
    exact ⟨boxed_grown h1 hg hr, boxed_grown h2 hg hr, h3, keep_grown h4 hg hr, below_grown (by omega) (by omega) h5 hg hr⟩
  case ownx =>
    rintro c s A A' row ⟨h0, q, x, h1, h2, h3, h4, h5⟩ hg hr
    exact ⟨h0, q, x, h1, h2, boxed_grown h3 hg hr, h4.imp (fun h => ⟨h.1, boxed_grown h.2 hg hr⟩) (fun h => ⟨h.1, h.2.1, boxed_grown h.2.2 hg hr⟩), below_grown (by omega) (by omega) h5 hg hr⟩
  case assign =>
    intro l x W K hK
    gi_wp2
    exact hK
  case body =>
    rintro l pre x W ⟨hat, he, hg, hk, hb⟩ _
    have hst' := hst.keep hk
    have hx := InH.keep hk (InH.off (fun i h => by rw [HN.out]; omega) x.2) (x.2.ext hE)
    have hle : N + 6 ≤ W.heap.size := by have := hk.size; omega
    have hal := hst'.all.cell
    have hl0 := cell_of hst'.looks 0
    have hl1 := cell_of hst'.looks 1
    have hl2 := cell_of hst'.looks 2
    have hl3 := cell_of hst'.looks 3
    simp at hl0 hl1 hl2 hl3
    have hg' := Lib.hid hg
    have hat' := hat
    have he' := he
    clear hg hsz hat he
    gi_wp2_with fail
    refine wpIn_loop_rounds 3 ?_
    rw [roundsIn_succ]
    gi_wp2_with fail
    have hB1 := hat'
    by_cases e1 : avlBadTag x.1 = true
    · refine ⟨wide_room _, (CallsIn.inRound l (callsIn_wide.2 (wrong1_any _ x.1 _ (hx.ext ((Ext.refl W).alloc _)) (hst'.tags.alloc _)))).mono ?_⟩
      rintro e W1 ⟨rfl, h1⟩
      have h01 : Ext W W1 := ((Ext.refl W).alloc _).trans h1
      have hcn := cell_keep h1 (cell_of (alloc_at W (.cells #[.func (.func 137) #[] #[.pointer (some ⟨N + 1 + 1, 0, none⟩)], .int .i64 140] 167) _ rfl) 1)
      have he1 := (Keep.ext (M := fun _ => False) h01).boxed (fun h => h) he'
      have hce := he1.cell
      have hfe := he1.frozen
      clear hl0 hl1 hl2 hl3 hal
      gi_wp2
      have hBe : Below N W0 W1 := hb.trans (RowKit.Below.mono h01 (by omega))
      exact ⟨(keepsFrom_ext h01).trans (keepsFrom_set _ _ _), rfl, pre, x, rfl, hg'.out, ((Keep.ext (M := fun _ => False) h01).boxed (fun h => h) hat').other (by omega) _, .inl ⟨e1, he1.set _⟩, hBe.setCell (p := ⟨N + 1, 0, none⟩) (Nat.le_succ N) _⟩
    · have e1' : avlBadTag x.1 = false := by simpa using e1
      clear e1
      refine ⟨wide_room _, (CallsIn.inRound l (callsIn_wide.2 (wrong1_any _ x.1 _ (hx.ext ((Ext.refl W).alloc _)) (hst'.tags.alloc _)))).mono ?_⟩
      rintro e W1 ⟨rfl, h1⟩
      have h01 : Ext W W1 := ((Ext.refl W).alloc _).trans h1
      clear hl0 hl1 hl2 hl3 hal h1
      have hst1 := hst'.keep (Keep.ext h01)
      have hl2 := cell_of hst1.looks 2
      have hl3 := cell_of hst1.looks 3
      simp at hl2 hl3
      have hlt1 : N + 6 ≤ W1.heap.size := Nat.le_trans hle h01.size
      gi_wp2_with fail
      rw [roundsIn_succ]
      gi_wp2_with fail
      refine ⟨wide_room _, (CallsIn.inRound l (callsIn_wide.2 (wrong2_any _ x.1 _ ((hx.ext h01).ext ((Ext.refl W1).alloc _)) (hst1.tags.alloc _)))).mono ?_⟩
      rintro e W2 ⟨rfl, h2⟩
      have h12 : Ext W1 W2 := ((Ext.refl W1).alloc _).trans h2
      have h02 := h01.trans h12
      have hcn := cell_keep h2 (cell_of (alloc_at W1 (.cells #[.func (.func 138) #[] #[.pointer (some ⟨N + 1 + 1, 0, none⟩)], .int .i64 8] 167) _ rfl) 1)
      have he2 := (Keep.ext (M := fun _ => False) h02).boxed (fun h => h) he'
      have hat2 := (Keep.ext (M := fun _ => False) h02).boxed (fun h => h) hat'
      have hBe : Below N W0 W2 := hb.trans (RowKit.Below.mono h02 (by omega))
      clear hl2 hl3 hst1 h2
      by_cases e2 : avlBadTree x.1 = true
      · have hce := he2.cell
        have hfe := he2.frozen
        gi_wp2
        exact ⟨(keepsFrom_ext h02).trans (keepsFrom_set _ _ _), rfl, pre, x, rfl, hg'.out, hat2.other (by omega) _, .inr ⟨e1', e2, he2.set _⟩, hBe.setCell (p := ⟨N + 1, 0, none⟩) (Nat.le_succ N) _⟩
      · have e2' : avlBadTree x.1 = false := by simpa using e2
        clear e2
        have hce := hat2.cell
        have hfe := hat2.frozen
        gi_wp2_with fail
        rw [roundsIn_succ]
        gi_wp2
        have hBf := hBe.setCell (p := ⟨N, 0, none⟩) (Nat.le_refl N) (.int .i64 (wrap64 (wrap64 pre.length + 1)))
        have hbx := hat2.set (.int .i64 (wrap64 (wrap64 pre.length + 1)))
        rw [wrap64_succ] at hbx hBf ⊢
        refine ⟨(keepsFrom_ext h02).trans (keepsFrom_set _ _ _), (Keep.ext h02).trans (Keep.setCell _ _ _ (.inl rfl)), ?_, he2.other (by omega) _, ?_, (hk.trans (Keep.ext h02)).trans (Keep.setCell _ _ _ (.inl rfl)), hBf⟩
        · rw [List.length_append]; exact hbx
        · intro y hy
          rcases List.mem_append.1 hy with hy | hy
          · exact hg'.out y hy
          · obtain rfl : y = x := by simpa using hy
            exact ⟨e1', e2'⟩
  case done =>
    rintro D ys W hD hys ⟨hat, he, hg, hk, hb⟩ hK
    clear hst htb
    have hca := hat.cell
    have hfa := hat.frozen
    have hce := he.cell
    have hfe := he.frozen
    gi_wp2_with fail
    gi_region
    gi_wp2
    obtain ⟨f1, f2, f3, f4⟩ := two_end HN.out hE hb hD hK hat he (by omega)
    have e1 : avlFirst T.pre = (ys.length, 0) := by
      rw [← hys, avlFirst_good (fun t ht => by obtain ⟨y, hy, rfl⟩ := List.mem_map.1 ht; exact hg y hy), List.length_map]
    rw [e1]
    refine ⟨by simp, .inl ⟨_, _, rfl, run_takeDeferred f1, ?_⟩⟩
    exact ⟨_, results_cells2 rfl _ _ rfl rfl (fun _ => by kernel_rfl) (fun _ => by kernel_rfl) f2 f3, rfl, f4⟩
  case stop =>
    rintro D c q W hD hq ⟨rfl, q', x, hqx, hg, hat, he, hb⟩ hK
    clear hst htb
    obtain ⟨r, hr⟩ := hq
    have e1 : ∀ er, avlFirst (x.1 :: r) = (0, er) → avlFirst T.pre = (q'.length, er) := fun er h => by
      rw [← hr, hqx, List.map_append, List.append_assoc]
      show avlFirst (q'.map (·.1) ++ x.1 :: r) = _
      rw [avlFirst_bad (fun t ht => by obtain ⟨y, hy, rfl⟩ := List.mem_map.1 ht; exact hg y hy), h, List.length_map]
      simp
    have E1 := Lib.hid e1
    clear e1 hr hg hqx
    rcases he with ⟨b1, he⟩ | ⟨b1, b2, he⟩
    · have e2 := E1.out 140 (by simp [avlFirst, b1])
      have H2 := Lib.hid e2
      clear b1 e2
      have hca := hat.cell
      have hfa := hat.frozen
      have hce := he.cell
      have hfe := he.frozen
      gi_wp2_with fail
      gi_region
      gi_wp2
      obtain ⟨f1, f2, f3, f4⟩ := two_end HN.out hE hb hD hK hat he (by omega)
      rw [H2.out]
      refine ⟨by simp, .inl ⟨_, _, rfl, run_takeDeferred f1, ?_⟩⟩
      exact ⟨_, results_cells2 rfl _ _ rfl rfl (fun _ => by kernel_rfl) (fun _ => by kernel_rfl) f2 f3, rfl, f4⟩
    · have e2 := E1.out 8 (by simp [avlFirst, b1, b2])
      have H2 := Lib.hid e2
      clear b1 b2 e2
      have hca := hat.cell
      have hfa := hat.frozen
      have hce := he.cell
      have hfe := he.frozen
      gi_wp2_with fail
      gi_region
      gi_wp2
      obtain ⟨f1, f2, f3, f4⟩ := two_end HN.out hE hb hD hK hat he (by omega)
      rw [H2.out]
      refine ⟨by simp, .inl ⟨_, _, rfl, run_takeDeferred f1, ?_⟩⟩
      exact ⟨_, results_cells2 rfl _ _ rfl rfl (fun _ => by kernel_rfl) (fun _ => by kernel_rfl) f2 f3, rfl, f4⟩
/-- **avl.Check**, at any tree: the first of its nodes, each ahead of its sides, that is wrong, and how. -/
theorem avlCheck_any (w : World) (T : Tr) (hT : InH w T) : Calls Tryz.prog 70 #[.pointer T.ptr] w (Ret (.tuple #[.int .i64 (wrap64 (avlFirst T.pre).1), .int .i64 (avlFirst T.pre).2]) w) :=
  callsIn_wide.1 (avlCheck_in 9 (Lib.hid (by omega)) T w hT)
/-- may it be? -/
def avlMay (T : Tr) : Bool := (avlFirst T.pre).2 == 0
set_option maxHeartbeats 400000 in
theorem avlMay_any (w : World) (T : Tr) (hT : InH w T) : Calls Tryz.prog 71 #[.pointer T.ptr] w (Ret (.bool (avlMay T)) w) := by
  go_enter Tryz.func71, Tryz.ntmps71
  go_wp2_with fail
  refine (avlCheck_any _ T hT).mono ?_
  rintro e w1 ⟨rfl, h1⟩
  go_wp2
  go_ret
  exact ⟨rfl, h1⟩
end Go.Proofs.YtoiohjifjmejkaaGreat
namespace Go.Proofs.YtoiohjifjmejkaaGreat
open Go Go.RowKit

theorem avlFirst_cons (t : Tr) (r : List Tr) : avlFirst (t :: r) = if avlBadTag t then (0, 140) else if avlBadTree t then (0, 8) else ((avlFirst r).1 + 1, (avlFirst r).2) := rfl
theorem avlFirst_none : ∀ {l : List Tr}, (avlFirst l).2 = 0 → (avlFirst l).1 = l.length ∧ ∀ t ∈ l, avlBadTag t = false ∧ avlBadTree t = false
  | [], _ => by simp [avlFirst]
  | t :: l, h => by
    unfold avlFirst at h ⊢
    split at h
    · simp at h
    · split at h
      · simp at h
      · rename_i h1 h2
        have := avlFirst_none (l := l) h
        refine ⟨by simp [h1, h2, this.1], ?_⟩
        intro x hx
        rcases List.mem_cons.1 hx with rfl | hx
        · exact ⟨by simpa using h1, by simpa using h2⟩
        · exact this.2 x hx
theorem avlFirst_append (a b : List Tr) : avlFirst (a ++ b) = if (avlFirst a).2 = 0 then (a.length + (avlFirst b).1, (avlFirst b).2) else avlFirst a := by
  induction a with
  | nil => simp [avlFirst]
  | cons t a ih =>
    rw [List.cons_append, avlFirst_cons, avlFirst_cons]
    by_cases h1 : avlBadTag t = true
    · simp [h1]
    · by_cases h2 : avlBadTree t = true
      · simp [h1, h2]
      · simp only [h1, h2, ih]
        by_cases h3 : (avlFirst a).2 = 0
        · simp [h3]; omega
        · simp [h3]

/-- a tree that may be is one whose root is right, and both sides may be. -/
theorem avlMay_node (b : Nat) (l : Tr) (k v g : Int) (r : Tr) : avlMay (.node b l k v g r) = (!avlBadTag (.node b l k v g r) && !avlBadTree (.node b l k v g r) && avlMay l && avlMay r) := by
  unfold avlMay
  simp only [Tr.pre]
  rw [avlFirst_cons]
  by_cases h1 : avlBadTag (.node b l k v g r) = true
  · simp [h1]
  · by_cases h2 : avlBadTree (.node b l k v g r) = true
    · simp [h1, h2]
    · simp only [h1, h2, avlFirst_append]
      by_cases h3 : (avlFirst l.pre).2 = 0 <;> simp [h3]
theorem avlMay_nil : avlMay .nil = true := rfl

/-- a tree's number of nodes. -/
def Tr.count (t : Tr) : Nat := t.pre.length
theorem Tr.count_node (b : Nat) (l : Tr) (k v g : Int) (r : Tr) : (Tr.node b l k v g r).count = l.count + 1 + r.count := by simp [Tr.count, Tr.pre]; omega
theorem Tr.size_count : ∀ t : Tr, t.size = wrap64 t.count
  | .nil => by simp [Tr.size, Tr.count, Tr.pre, wrap64]
  | .node b l k v g r => by
    rw [Tr.size, Tr.size_count l, Tr.size_count r, Tr.count_node]
    have e : ((l.count + 1 + r.count : Nat) : Int) = (l.count : Int) + 1 + (r.count : Int) := by omega
    rw [e]
    unfold wrap64
    omega

/-- the least tree of a height, wherever its nodes lie. -/
def IsLeast : Nat → Tr → Prop
  | 0, t => t = .nil
  | 1, t => ∃ b, t = .node b .nil 1 1 (avlTag .nil .nil) .nil
  | k + 2, t => ∃ b l r, t = .node b l (k + 2) 1 (avlTag l r) r ∧ IsLeast k l ∧ IsLeast (k + 1) r
def leastN : Nat → Nat
  | 0 => 0
  | 1 => 1
  | k + 2 => leastN k + leastN (k + 1) + 1
theorem u64_small {a : Int} (h0 : 0 ≤ a) (h1 : a < 18446744073709551616) : IntKind.u64.wrap a = a := by
  have : (2 : Int) ^ 64 = 18446744073709551616 := by decide
  simp only [IntKind.wrap, IntKind.bits, IntKind.signed, this]
  simp
  omega
theorem isLeast_all : ∀ (k : Nat) (t : Tr), k < 1000000 → IsLeast k t → t.tag = k ∧ avlMay t = true ∧ t.count = leastN k
  | 0, t, _, h => by obtain rfl : t = .nil := h; exact ⟨rfl, rfl, rfl⟩
  | 1, t, _, h => by
    obtain ⟨b, rfl⟩ := h
    have e : avlTag .nil .nil = 1 := by decide
    rw [e]
    exact ⟨rfl, by rw [avlMay_node, show avlBadTag (.node b .nil 1 1 1 .nil) = false from rfl, show avlBadTree (.node b .nil 1 1 1 .nil) = false from rfl]; rfl, rfl⟩
  | k + 2, t, hk, h => by
    obtain ⟨b, l, r, rfl, hl, hr⟩ := h
    obtain ⟨l1, l2, l3⟩ := isLeast_all k l (by omega) hl
    obtain ⟨r1, r2, r3⟩ := isLeast_all (k + 1) r (by omega) hr
    have e : avlTag l r = k + 2 := by
      unfold avlTag
      rw [l1, r1, Int.max_eq_right (by omega), u64_small (by omega) (by omega)]
      omega
    refine ⟨e, ?_, by rw [Tr.count_node, l3, r3, leastN]; omega⟩
    rw [avlMay_node, l2, r2, e]
    have hm : max l.tag r.tag = k + 1 := by rw [l1, r1, Int.max_eq_right (by omega)]; rfl
    have hn : min l.tag r.tag = k := by rw [l1, r1, Int.min_eq_left (by omega)]
    have e1 : avlBadTag (.node b l (k + 2) 1 (k + 2) r) = false := by
      simp only [avlBadTag, Tr.tag_node, Tr.left_node, Tr.right_node, hm]
      rw [u64_small (by omega) (by omega)]
      simp; omega
    have e2 : avlBadTree (.node b l (k + 2) 1 (k + 2) r) = false := by
      simp only [avlBadTree, Tr.left_node, Tr.right_node, hm, hn]
      rw [u64_small (by omega) (by omega)]
      simp; omega
    rw [e1, e2]
    rfl
end Go.Proofs.YtoiohjifjmejkaaGreat
namespace Go.Proofs.YtoiohjifjmejkaaGreat
open Go Go.RowKit

/-- some tree with a property, made in new memory. -/
def Makes (S : Tr → Prop) (w : World) (e : Ending) (w' : World) : Prop := ∃ t, e = .returned (.pointer t.ptr) ∧ InH w' t ∧ S t ∧ Ext w w'
theorem leastN_lt : ∀ k : Nat, leastN k < 2 ^ k
  | 0 => by decide
  | 1 => by decide
  | k + 2 => by
    have h1 := leastN_lt k
    have h2 := leastN_lt (k + 1)
    rw [leastN]
    have e1 : 2 ^ (k + 1) = 2 * 2 ^ k := by rw [Nat.pow_succ]; omega
    have e2 : 2 ^ (k + 2) = 4 * 2 ^ k := by rw [Nat.pow_succ, e1]; omega
    omega
theorem leastN_wrap (k : Nat) (h : k ≤ 60) : wrap64 (wrap64 ((leastN k : Int) + (leastN (k + 1) : Int)) + 1) = (leastN (k + 1 + 1) : Int) := by
  have h1 := leastN_lt k
  have h2 := leastN_lt (k + 1)
  have h3 : 2 ^ k ≤ 2 ^ 60 := Nat.pow_le_pow_right (by decide) h
  have h4 : 2 ^ (k + 1) ≤ 2 ^ 61 := Nat.pow_le_pow_right (by decide) (by omega)
  rw [show leastN (k + 1 + 1) = leastN k + leastN (k + 1) + 1 from rfl]
  unfold wrap64
  omega
theorem hmod15 {a0 : Int} (w0 : (Lit.int .u8 a0).wf = true) : ∃ k : Nat, k < 15 ∧ wrap64 (a0.tmod 15) = k := by
  have h : 0 ≤ a0 := by
    simp [Lit.wf, IntKind.min, IntKind.max, IntKind.signed, IntKind.bits] at w0
    omega
  refine ⟨(a0.tmod 15).toNat, ?_, ?_⟩
  · rw [Int.tmod_eq_emod_of_nonneg h]; omega
  · rw [Int.tmod_eq_emod_of_nonneg h]; unfold wrap64; omega
end Go.Proofs.YtoiohjifjmejkaaGreat
