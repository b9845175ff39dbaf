/- cut.Items. -/
import Derived.RangeFuncNested
import Derived.Test.YtnhbcildpdhgnaaGreatM35
import Derived.Test.YtnhbcildpdhgnaaGreatM39
import Derived.Test.YtnhbcildpdhgnaaGreatM40
namespace Go.Proofs.YtnhbcildpdhgnaaGreat
open Go Go.RowKit Go.Shelf
attribute [local go_sem] Oper.semAt_some

theorem Sch.cells' {P c : Nat} {n : Int} {w : World} (h : Sch P c n w) : ∃ cs, w.heap[P]? = some (.cells cs 109 (0, 0)) := by
  rcases h.2.2 with h | h
  · exact ⟨_, h⟩
  · exact ⟨_, h⟩
set_option maxHeartbeats 1000000 in
theorem each1_in (M : Nat → Prop) (P c : Nat) (nn : Int) (l bs bt : Nat) (J : List Tr → World → Prop) (T : Tr) (n : Nat) (W : World) (hy0 : ¬ M W.heap.size) (ho0 : ¬ M (W.heap.size + 1)) (hs0 : ¬ M bs) (hP0 : M P)
    (hY : ∀ m pre x W, J pre W → pre.length < T.inl.length → YieldAt Fence.wide m Tryz.prog l #[itemV c x] W fun e W' => e = .returned (.bool true) ∧ J (pre ++ [x]) W' ∧ Keep M W W')
    (hJE : ∀ pre W W', J pre W → Ext W W' → J pre W') (hJS : ∀ pre W, J pre W → Sch P c nn W) (hJP : ∀ pre W W', J pre W → Bt [P] W W' → Sch P c nn W' → J pre W')
    (ht : InH W T) (ho : Off M T) (hJ : ∀ W', Ext W W' → W.heap.size + 2 ≤ W'.heap.size → J [] W') (hbs : Boxed W bs 23 (.pointer (some ⟨P, 0, none⟩))) (hbt : Boxed W bt 29 (.pointer T.ptr)) :
    CallsIn Fence.wide n Tryz.prog 49 #[.func (.yield l) #[] #[], .pointer (some ⟨bs, 0, none⟩), .pointer (some ⟨bt, 0, none⟩)] W fun e W' => (∃ v, e = .returned v) ∧ J T.inl W' := by
  have hW2 : Ext W ((W.alloc (.cells #[.func (.yield l) #[] #[]] 115)).alloc (.cells #[.func (.func 50) #[] #[.pointer (some ⟨W.heap.size + 1, 0, none⟩), .pointer (some ⟨W.heap.size, 0, none⟩), .pointer (some ⟨bs, 0, none⟩)]] 69)) := ((Ext.refl W).alloc _).alloc _
  have hon := cutOn_in M P c nn l T.inl.length W.heap.size (W.heap.size + 1) bs J (fun _ _ => False) hy0 ho0 hs0 hP0
    (fun m pre x W hj hl => YieldAt.mono (hY m pre x W hj hl) fun e W' h => .inl h) hJE hJS hJP T (n - 1) [] _ (ht.ext hW2) ho (hJ _ hW2 (by simp)) (by simp)
    ((Boxed.new W _ _).alloc _) (by have := Boxed.new (W.alloc (.cells #[.func (.yield l) #[] #[]] 115)) 69 (.func (.func 50) #[] #[.pointer (some ⟨W.heap.size + 1, 0, none⟩), .pointer (some ⟨W.heap.size, 0, none⟩), .pointer (some ⟨bs, 0, none⟩)]); simpa using this) (hW2.get hbs)
  have Hon := Lib.hid hon
  clear hon hY hJE hJS hJP
  have hcb := hbt.cell
  have hlb := hbt.lt
  have hfn : ∀ f, Fence.wide.fn f := fun _ => trivial
  refine callsIn_of_wp Tryz.func49 rfl trivial ?_ rfl
  simp only [Tryz.ntmps49, List.size_toArray, List.length_cons, List.length_nil, Nat.reduceAdd, Nat.reduceSub, Array.replicate_succ, Array.replicate_zero, List.push_toArray, List.append_toArray, List.nil_append, List.cons_append]
  gi_wp2_with fail
  refine ⟨wide_room _, Hon.out.mono ?_⟩
  rintro e W1 (⟨rfl, hJ1, -⟩ | ⟨-, q, -, hJ1⟩)
  · gi_wp2
    go_end0
    exact ⟨⟨_, rfl⟩, by simpa using hJ1⟩
  · exact hJ1.elim
/-- **for x := range each(s, t) { .. }**, of a body that never stops. -/
theorem range_each {T : Tr} {g : Operand} {ps : Array Tmp} {assign body : Code} {n P c bs bt : Nat} {nn : Int} {Q : Exit → Act → World → Prop} {a : Act} {w : World} (M : Nat → Prop) (h1 : 1 ≤ n)
    (hg : a.eval g = .func (.func 49) #[] #[.pointer (some ⟨bs, 0, none⟩), .pointer (some ⟨bt, 0, none⟩)]) (hps : ps.size = 1) (ht : InH w T) (ho : Off M T)
    (hbs : Boxed w bs 23 (.pointer (some ⟨P, 0, none⟩))) (hbt : Boxed w bt 29 (.pointer T.ptr)) (hy0 : ¬ M (w.heap.size + 1 + 1)) (ho0 : ¬ M (w.heap.size + 1 + 1 + 1)) (hs0 : ¬ M bs) (hP0 : M P)
    (I : List Tr → World → Prop) (h0 : I [] w) (hIE : ∀ pre W W', I pre W → Ext W W' → I pre W') (hIS : ∀ pre W, I pre W → Sch P c nn W) (hIP : ∀ pre W W', I pre W → Bt [P] W W' → Sch P c nn W' → I pre W')
    (hIO : ∀ pre W l o o', I pre W → w.heap.size ≤ l → W.heap[l]? = some o → o.isCells = false → I pre (W.putObj l o'))
    (Ax : Tr → Act → World → Prop) (hAx : ∀ x a' W l o o', Ax x a' W → W.heap[l]? = some o → o.isCells = false → Ax x a' (W.putObj l o'))
    (hassign : ∀ (l m : Nat) (x : Tr) (W : World) (K : Act → World → Prop), w.heap.size + 4 ≤ W.heap.size → (∀ a' W', Ext W W' → Ax x a' W' → K a' W') → assign.wpIn (Fence.wide.inRound l) m Tryz.prog (Exit.then K (fun _ _ _ => False)) { tmps := (ps.zip #[itemV c x]).foldl (fun t (p, v) => t.setIfInBounds p v) a.tmps, defers := [] } W)
    (hbody : ∀ (l m : Nat) (pre : List Tr) (x : Tr) (a' : Act) (W : World), w.heap.size + 4 ≤ W.heap.size → I pre W → Ax x a' W → pre.length < T.inl.length → body.wpIn (Fence.wide.inRound l) m Tryz.prog (fun e _ W' => e = .normal ∧ KeepsFrom w.heap.size W W' ∧ Keep M W W' ∧ I (pre ++ [x]) W') a' W)
    (hdone : ∀ (D : Nat) (W : World), w.heap.size ≤ D → I T.inl W → W.heap[D]? = some (.deferred (some [])) → Q .normal { a with defers := { target := .collected D, args := #[] } :: a.defers } W) :
    (Code.rangeFunc g ps assign body).wpIn Fence.wide n Tryz.prog Q a w := by
  refine wpIn_rangeFunc ?_
  intro fn hfn
  rw [show Fence.wide.round = none from rfl]
  obtain ⟨rec, hrec⟩ : ∃ rec : LoopState → Loop, rec = fun st => { state := st, pending := none, fn, tmps := a.tmps, params := ps, assign, body, defers := w.heap.size } := ⟨_, rfl⟩
  obtain ⟨W1, hW1⟩ : ∃ W1, (w.alloc (.deferred (some []))).alloc (.loop (rec .ready)) = W1 := ⟨_, rfl⟩
  have hE1 : Ext w W1 := by rw [← hW1]; exact ((Ext.refl w).alloc _).alloc _
  have hL1 : W1.heap[w.heap.size + 1]? = some (.loop (rec .ready)) := by rw [← hW1]; exact alloc_at _ _ _ (by simp)
  have hK1 : W1.heap[w.heap.size]? = some (.deferred (some [])) := by rw [← hW1, alloc_lt _ _ _ (by simp)]; exact alloc_at _ _ _ rfl
  have hs1 : W1.heap.size = w.heap.size + 1 + 1 := by rw [← hW1]; simp
  refine ⟨w.heap.size + 1, [{ target := .collected w.heap.size, args := #[] }], W1, { target := .fn (.func 49) #[.pointer (some ⟨bs, 0, none⟩), .pointer (some ⟨bt, 0, none⟩)], args := #[.func (.yield (w.heap.size + 1)) #[] #[]] }, W1, 49,
    #[.func (.yield (w.heap.size + 1)) #[] #[], .pointer (some ⟨bs, 0, none⟩), .pointer (some ⟨bt, 0, none⟩)], W1, ?_, ?_, ?_, ?_, fun _ => h1, ?_⟩
  · rw [← hW1, hrec]; exact run_enterLoop_outer _ _ _ _ _
  · simp only [resolve, hg]
    simp [go_sem]
  · intro f' _; trivial
  · kernel_rfl
  · refine (each1_in M P c nn (w.heap.size + 1) bs bt (fun pre W => (I pre W ∧ w.heap.size + 4 ≤ W.heap.size) ∧ W.heap[w.heap.size + 1]? = some (.loop (rec .ready)) ∧ W.heap[w.heap.size]? = some (.deferred (some []))) T (n - 1) W1 (by rw [hs1]; exact hy0) (by rw [hs1]; exact ho0) hs0 hP0 ?_ ?_ ?_ ?_ (ht.ext hE1) ho (fun W' e hs => ⟨⟨hIE _ _ _ (hIE _ _ _ h0 hE1) e, by omega⟩, e.get hL1, e.get hK1⟩) (hE1.get hbs) (hE1.get hbt)).mono ?_
    · rintro m pre x W ⟨⟨hi, hsz⟩, hl, hk⟩ hlen
      have hy := run_yield (P := Tryz.prog) (args := #[itemV c x]) hl (by rw [hrec]; exact hps.symm)
      rw [hrec] at hy
      refine ⟨fn, _, assign, body, hy, roundIn_of_wpIn hfn (hassign _ m x W _ hsz ?_)⟩
      intro a' Wa hEa hax
      have hl' := hEa.get hl
      have hk' := hEa.get hk
      have hlt : w.heap.size + 1 < Wa.heap.size := (Array.getElem?_eq_some_iff.1 hl').1
      refine ⟨_, run_beginRound hl' (by rw [hrec]), ?_⟩
      have hl2 : (Wa.putObj (w.heap.size + 1) (.loop { rec .ready with state := .busy })).heap[w.heap.size + 1]? = some (.loop { rec .ready with state := .busy }) := World.putObj_heap_same hlt
      have hk2 : (Wa.putObj (w.heap.size + 1) (.loop { rec .ready with state := .busy })).heap[w.heap.size]? = some (.deferred (some [])) := (World.putObj_heap_other (by omega)).trans hk'
      refine wpIn_mono (hbody _ m pre x a' _ ?_ (hIO _ _ _ _ _ (hIE _ _ _ hi hEa) (by omega) hl' rfl) (hAx _ _ _ _ _ _ hax hl' rfl) hlen) ?_
      · have := hEa.size; simp; omega
      rintro e a3 W3 ⟨rfl, hk3, hm3, hi3⟩
      have hl3 := hk3.same _ _ (by omega) hl2 rfl
      have hend := run_endRound (P := Tryz.prog) none hl3
      have hlt3 := (Array.getElem?_eq_some_iff.1 hl3).1
      refine ⟨_, _, hend, rfl, ⟨⟨hIO _ _ _ _ _ hi3 (by omega) hl3 rfl, by have := hk3.1; have := hEa.size; simp at *; omega⟩, ?_, ?_⟩, (Keep.ext hEa).trans ((Keep.putObj _ _ _ _ hl' rfl).trans (hm3.trans (Keep.putObj _ _ _ _ hl3 rfl)))⟩
      · rw [World.putObj_heap_same hlt3, hrec]; rfl
      · exact (World.putObj_heap_other (by omega)).trans (hk3.same _ _ (Nat.le_refl _) hk2 rfl)
    · rintro pre W W' ⟨⟨h1, h2⟩, h3, h4⟩ hE
      exact ⟨⟨hIE _ _ _ h1 hE, Nat.le_trans h2 hE.size⟩, hE.get h3, hE.get h4⟩
    · rintro pre W ⟨⟨h1, -⟩, -⟩
      exact hIS _ _ h1
    · rintro pre W W' ⟨⟨h1, h2⟩, h3, h4⟩ hB hS
      have hPl : ∀ i o, W.heap[i]? = some o → o.isCells = false → i ∉ [P] := fun i o hi ho hm => by
        rw [List.mem_singleton.1 hm] at hi
        obtain ⟨cs, hc⟩ := (hIS _ _ h1).cells'
        rw [hc] at hi
        cases hi
        cases ho
      exact ⟨⟨hIP _ _ _ h1 hB hS, Nat.le_trans h2 hB.size⟩, hB.get (hPl _ _ h3 rfl) h3, hB.get (hPl _ _ h4 rfl) h4⟩
    · rintro e W2 ⟨⟨v, rfl⟩, ⟨hi, hsz⟩, hl, hk⟩
      refine ⟨none, _, by have := run_endLoop (P := Tryz.prog) hl (by rw [hrec]; simp); rw [hrec] at this; exact this, hdone _ _ (Nat.le_refl _) (hIO _ _ _ _ _ hi (by omega) hl rfl) ((World.putObj_heap_other (by omega)).trans hk)⟩
/-- what cut.each lays into memory. -/
def eachW (w : World) (s p : Option Addr) : World := (w.alloc (.cells #[.pointer s] 23)).alloc (.cells #[.pointer p] 29)
def eachV (N : Nat) : Value := .func (.func 49) #[] #[.pointer (some ⟨N, 0, none⟩), .pointer (some ⟨N + 1, 0, none⟩)]
theorem each_any (w : World) (s p : Option Addr) : Calls Tryz.prog 32 #[.pointer s, .pointer p] w fun e w' => e = .returned (eachV w.heap.size) ∧ w' = eachW w s p := by
  have hmf : ∀ (fn : Fn) (first cap : Array Value) (w : World), (Instr.makeFunc fn first cap).run Tryz.prog w = .ok (.func fn first cap) w := fun _ _ _ _ => rfl
  go_enter Tryz.func32, Tryz.ntmps32
  go_wp2
  go_ret
  exact ⟨rfl, rfl⟩
/-- the world ahead of Items' loop. -/
def itmW (w : World) (s p : Option Addr) : World := eachW (w.alloc (.cells #[.slice none 0 0] 32)) s p
theorem itmW_all (w : World) (s p : Option Addr) : Ext w (itmW w s p) ∧ (itmW w s p).heap.size = w.heap.size + 3 ∧ Boxed (itmW w s p) w.heap.size 32 (.slice none 0 0) ∧ Boxed (itmW w s p) (w.heap.size + 1) 23 (.pointer s) ∧
    Boxed (itmW w s p) (w.heap.size + 1 + 1) 29 (.pointer p) := by
  refine ⟨(((Ext.refl w).alloc _).alloc _).alloc _, by simp [itmW, eachW], ?_, ?_, ?_⟩ <;> unfold itmW eachW <;> (try unfold Boxed) <;> (repeat (first | exact alloc_at _ _ _ (by simp) | rw [alloc_lt _ _ _ (by simp <;> omega)]))
theorem Bt.row {L : List Nat} {w W W' : World} {v : Value} (h : Bt L w W) (hg : W.grownBy W' v.ownBlock) (hv : ∀ g, v.ownBlock = some g → w.heap.size ≤ g) : Bt L w W' :=
  ⟨hg.os.trans h.os, hg.tape.trans h.tape, hg.output.trans h.output, Nat.le_trans h.size hg.size, fun k hk hn => (hg.block k (Nat.lt_of_lt_of_le hk h.size) (fun e => by have := hv k e.symm; omega)).trans (h.block k hk hn)⟩
theorem Sch.row {P c : Nat} {n : Int} {W W' : World} {v : Value} (h : Sch P c n W) (hg : W.grownBy W' v.ownBlock) (hv : ∀ g, v.ownBlock = some g → P < g) : Sch P c n W' := by
  have hp : W'.heap[P]? = W.heap[P]? := hg.block P h.lt (fun e => by have := hv P e.symm; omega)
  exact ⟨h.1, h.2.1, h.2.2.imp (fun k => by unfold SchAt at k ⊢; rw [hp]; exact k) (fun k => by unfold SchAt at k ⊢; rw [hp]; exact k)⟩
theorem Keep.row {M : Nat → Prop} {W W' : World} {v : Value} (hg : W.grownBy W' v.ownBlock) (hv : ∀ g, v.ownBlock = some g → M g) : Keep M W W' :=
  ⟨hg.os, hg.tape, hg.output, hg.size, fun i _ _ _ hi hx => (hg.block i (lt_of hx) (fun e => hi (hv i e.symm))).trans hx⟩
theorem keepsFrom_row {B : Nat} {W W' : World} {v : Value} (hg : W.grownBy W' v.ownBlock) (hv : ∀ g, v.ownBlock = some g → ∃ c t f, W.heap[g]? = some (.cells c t f)) : KeepsFrom B W W' :=
  ⟨hg.size, fun k o _ hk ho => (hg.block k (lt_of hk) (fun e => by
    obtain ⟨c, t, f, h⟩ := hv k e.symm
    rw [hk] at h
    cases h
    cases ho)).trans hk⟩
theorem off_of {w : World} {P c N : Nat} {n : Int} (hS : Sch P c n w) (hN : w.heap.size ≤ N) (m : Nat) : ∀ {T : Tr}, InH w T → Off (fun i => i = N ∨ i = P ∨ N + m ≤ i) T
  | .nil, _ => trivial
  | .node b l k v g r, ⟨h0, h1, h2⟩ => ⟨fun hb => by
      have := lt_of h0
      rcases hb with hb | hb | hb
      · omega
      · subst hb
        obtain ⟨cs, hc⟩ := hS.cells'
        rw [h0] at hc
        injection hc with hc
        injection hc with _ h2 _
        exact absurd h2 (by decide)
      · omega, off_of hS hN m h1, off_of hS hN m h2⟩
set_option maxRecDepth 100000 in
set_option maxHeartbeats 2000000 in
theorem cutItems_in (n : Nat) (hn : Hid (1 ≤ n)) (P c : Nat) (nn : Int) (T : Tr) (w : World) (hT : InH w T) (hS : Sch P c nn w) (hc : T.count ≤ 5000) :
    CallsIn Fence.wide n Tryz.prog 12 #[.pointer (some ⟨P, 0, none⟩), .pointer T.ptr] w (fun e w' => ∃ v, e = .returned v ∧ IOwn3 w.heap.size w' v (itsC c T) ∧ Bt [P] w w' ∧ Sch P c nn w') := by
  have hfn : ∀ f, Fence.wide.fn f := fun _ => trivial
  refine callsIn_of_wp_marks Tryz.func12 rfl trivial ?_ rfl
  simp only [Tryz.ntmps12, List.size_toArray, List.length_cons, List.length_nil, Nat.reduceAdd, Nat.reduceSub, Array.replicate_succ, Array.replicate_zero, List.push_toArray, List.append_toArray, List.nil_append, List.cons_append]
  gi_wp2_with fail
  gi_wp2_with fail
  refine ⟨wide_room _, (callsIn_wide.2 (each_any _ _ _)).mono ?_⟩
  rintro e w1 ⟨rfl, rfl⟩
  gi_wp2_with fail
  change Code.wpIn _ _ _ _ _ _ (itmW w (some ⟨P, 0, none⟩) T.ptr)
  obtain ⟨hE, hsz, hat, hbs, hbt⟩ := itmW_all w (some ⟨P, 0, none⟩) T.ptr
  have hlt := hS.lt
  have hnP := Lib.hid hS
  generalize itmW w (some ⟨P, 0, none⟩) T.ptr = W0 at *
  unfold eachV
  obtain ⟨N, hN⟩ : ∃ N, N = w.heap.size := ⟨_, rfl⟩
  rw [← hN] at hsz hat hbs hbt ⊢
  have HN := Lib.hid hN
  clear hN
  refine range_each (T := T) (P := P) (c := c) (nn := nn) (bs := N + 1) (bt := N + 1 + 1) (fun i => i = N ∨ i = P ∨ N + 7 ≤ i) hn.out rfl rfl (hT.ext hE) ?off hbs hbt (by have := HN.out; omega) (by have := HN.out; omega) (by have := HN.out; omega) (.inr (.inl rfl))
    (fun pre W => (∃ v, Boxed W N 32 v ∧ IOwn3 (N + 7) W v (pre.map (rootIt c))) ∧ Bt [P] w W ∧ Sch P c nn W) ?h0 ?hIE ?hIS ?hIP ?hIO
    (fun x a' W => ∃ b, N + 7 ≤ b ∧ W.heap[b]? = some (.cells #[.int .i64 (rootIt c x).1, .int .i64 (rootIt c x).2.1, .int .u64 (rootIt c x).2.2] 43 (0, 0)) ∧ a' = { tmps := #[Value.pointer (some ⟨P, 0, none⟩), Value.pointer T.ptr, undef, undef, Value.pointer (some ⟨N, 0, none⟩), .pointer (some ⟨b, 0, none⟩), Value.pointer (some ⟨P, 0, none⟩), .bool false, Value.pointer (some ⟨P, 0, none⟩), Value.pointer T.ptr, Value.func (Fn.func 49) #[] #[Value.pointer (some ⟨N + 1, 0, none⟩), Value.pointer (some ⟨N + 1 + 1, 0, none⟩)], Value.agg #[.int .i64 (rootIt c x).1, .int .i64 (rootIt c x).2.1, .int .u64 (rootIt c x).2.2], undef, undef, undef, undef, undef], defers := [] }) ?hAx ?hassign ?hbody ?hdone
  case off => exact off_of hnP.out (Nat.le_of_eq HN.out.symm) 7 hT
  case h0 => exact ⟨⟨_, hat, IOwn3.nil _ _⟩, Bt.ext hE, hnP.out.ext hE⟩
  case hIE =>
    rintro pre W W' ⟨⟨v, h1, h2⟩, h3, h4⟩ e
    exact ⟨⟨v, e.get h1, h2.ext e⟩, h3.trans (Bt.ext e), h4.ext e⟩
  case hIS =>
    rintro pre W ⟨-, -, h⟩
    exact h
  case hIP =>
    rintro pre W W' ⟨⟨v, h1, h2⟩, h3, h4⟩ e hS'
    have := HN.out
    exact ⟨⟨v, e.get (by simp; omega) h1, h2.bt e (by simp; omega)⟩, h3.trans e, hS'⟩
  case hIO =>
    rintro pre W l o o' ⟨⟨v, h1, h2⟩, h3, h4⟩ hl ho hc
    have hk := Keep.putObj (M := fun _ => False) W l o o' ho hc
    have hne : ∀ k c t f, W.heap[k]? = some (.cells c t f) → k ≠ l := fun k c t f hk' e => by subst e; rw [ho] at hk'; cases hk'; cases hc
    refine ⟨⟨v, hk.boxed (fun h => h) h1, ?_⟩, ⟨h3.os, h3.tape, h3.output, Nat.le_trans h3.size hk.size, fun i hi hP => (World.putObj_heap_other (by have := HN.out; omega)).trans (h3.block i hi hP)⟩, ?_⟩
    · obtain ⟨k1, k2 | ⟨g, cap, cur, hv, hb, hg, hcc⟩⟩ := h2
      · exact ⟨k1, .inl k2⟩
      · exact ⟨k1, .inr ⟨g, cap, cur, hv, hb, hk.cells _ _ _ _ (fun h => h) hg, hcc⟩⟩
    · exact ⟨h4.1, h4.2.1, h4.2.2.imp (fun k => hk.cells _ _ _ _ (fun h => h) k) (fun k => hk.cells _ _ _ _ (fun h => h) k)⟩
  case hAx =>
    rintro x a' W l o o' ⟨b, h1, h2, h3⟩ ho hc
    exact ⟨b, h1, (Keep.putObj (M := fun _ => False) W l o o' ho hc).cells _ _ _ _ (fun h => h) h2, h3⟩
  case hassign =>
    intro l m x W K hszW hK
    rw [rootIt_item]
    unfold itV
    gi_wp2
    exact hK _ _ ((Ext.refl W).alloc _) ⟨W.heap.size, by omega, alloc_at W _ _ rfl, rfl⟩
  case hbody =>
    rintro l m pre x a' W hszW ⟨⟨v, hb, ho⟩, hB, hS⟩ ⟨b, hbN, hbx, rfl⟩ hlen
    have hfn2 : ∀ f, (Fence.wide.inRound l).fn f := fun _ => trivial
    have hce := hb.cell
    have hfe := hb.frozen
    obtain ⟨d0, d1, d2, -⟩ := cells3 hbx
    have HE := Lib.hid ((Ext.refl W).alloc (.cells #[.int .i64 (rootIt c x).1, .int .i64 (rootIt c x).2.1, .int .u64 (rootIt c x).2.2] 43))
    have HO := Lib.hid (ho.ext HE.out)
    have HR := Lib.hid ((iown3_new (B := W.heap.size) (w := W) (rootIt c x) (Nat.le_refl _)).row)
    have HL := Lib.hid (show (pre.map (rootIt c)).length + [rootIt c x].length ≤ 10000 by rw [List.length_map]; rw [inl_len] at hlen; simp; omega)
    have HSZ := Lib.hid (show N + 7 ≤ (W.alloc (.cells #[.int .i64 (rootIt c x).1, .int .i64 (rootIt c x).2.1, .int .u64 (rootIt c x).2.2] 43)).heap.size by simp; omega)
    have HB := Lib.hid (And.intro hb (And.intro hB hS))
    clear hb ho hB hS
    gi_wp2_with (refine wpListIn_append_items (B := N + 7) (zs := pre.map (rootIt c)) (ys := [rootIt c x]) rfl (.tmp 12) (.tmp 14) rfl rfl rfl HO.out HR.out HL.out HSZ.out hfn2 ?_)
    intro v6 w6 ho6 hg6
    have hge : ∀ g, v.ownBlock = some g → N + 7 ≤ g := fun g e => (HO.out.block e).1
    have hb6 : Boxed w6 N 32 v := by
      have h := HE.out.get HB.out.1
      exact (hg6.block N (lt_of h) (fun e => by have := hge N e.symm; omega)).trans h
    have hB6 := (HB.out.2.1.trans (Bt.ext HE.out)).row hg6 (fun g e => by have := hge g e; have := HN.out; omega)
    have hS6 := (HB.out.2.2.ext HE.out).row hg6 (fun g e => by have := hge g e; have := HN.out; omega)
    have HK6 := Lib.hid (And.intro ((keepsFrom_ext (B := W0.heap.size) HE.out).trans (keepsFrom_row hg6 (fun g e => by obtain ⟨-, cc, h⟩ := HO.out.block e; exact ⟨cc, _, _, h⟩))) ((Keep.ext (M := fun i => i = N ∨ i = P ∨ N + 7 ≤ i) HE.out).trans (Keep.row hg6 (fun g e => .inr (.inr (hge g e))))))
    obtain ⟨va, vc, rfl⟩ := ho6.sized
    have HB6 := Lib.hid (And.intro hB6 hS6)
    have HO6 := Lib.hid ho6
    have HB7 := Lib.hid hb6
    have hce6 := hb6.cell
    have hfe6 := hb6.frozen
    clear hge hb6 hB6 hS6 ho6 hg6 d0 d1 d2 hbx hce hfe HO HR HB HE
    gi_wp2
    have ho := HO6.out
    rw [show (pre.map (rootIt c) ++ [rootIt c x]).length = pre.length + 1 by simp] at ho
    have hNN : (Bt [N] w6 (w6.setCell ⟨N, 0, none⟩ (.slice va (pre.length + 1) vc))) := (Bt.refl [N] w6).set ⟨N, 0, none⟩ _ (by simp)
    have := HN.out
    exact ⟨(by rw [← hsz]; exact HK6.out.1.trans (keepsFrom_set _ _ _)), HK6.out.2.trans (Keep.setCell _ _ _ (.inl rfl)), ⟨_, HB7.out.set _, ho.bt hNN (by simp)⟩, HB6.out.1.cut hNN (by omega), HB6.out.2.bt hNN (by simp; omega)⟩
  case hdone =>
    rintro D W hD ⟨⟨v, hb, ho⟩, hB, hS⟩ hK
    have hce := hb.cell
    have hfe := hb.frozen
    have HB := Lib.hid (And.intro hb (And.intro hB hS))
    have HO := Lib.hid ho
    have HD := Lib.hid (And.intro hD hK)
    obtain ⟨va, vc, rfl⟩ := ho.sized
    clear hb hB hS ho hD hK
    gi_wp2
    have ho := HO.out
    rw [show (T.inl.map (rootIt c)).length = T.inl.length by simp, inl_its] at ho
    have hNN : (Bt [N] W (W.setCell ⟨N, 0, none⟩ (.slice va T.inl.length vc))) := (Bt.refl [N] W).set ⟨N, 0, none⟩ _ (by simp)
    have hN := HN.out
    have hDg := HD.out.1
    have hk : (W.setCell ⟨N, 0, none⟩ (.slice va T.inl.length vc)).heap[D]? = some (.deferred (some [])) := (KeepsOthers.setCell _ _ _).same D _ HD.out.2 rfl
    have h1 := HB.out.1.set (.slice va T.inl.length vc)
    have h2 := ho.bt hNN (by simp)
    have h3 := HB.out.2.1.cut hNN (by omega)
    have h4 := HB.out.2.2.bt hNN (by simp; omega)
    generalize W.setCell ⟨N, 0, none⟩ (.slice va T.inl.length vc) = W7 at *
    have hkp := Keep.putObj (M := fun _ => False) W7 D _ (.deferred none) hk rfl
    refine ⟨by simp, .inl ⟨_, _, rfl, run_takeDeferred hk, ?_⟩⟩
    refine ⟨_, results_box rfl _ _ rfl (fun _ => by kernel_rfl) (hkp.boxed (fun h => h) h1).cell, _, rfl, ?_, ?_, ?_⟩
    · obtain ⟨k1, k2 | ⟨g, cap, cur, hv, hb, hg, hcc⟩⟩ := h2
      · exact ⟨k1, .inl k2⟩
      · exact ⟨k1, .inr ⟨g, cap, cur, hv, by omega, hkp.cells _ _ _ _ (fun h => h) hg, hcc⟩⟩
    · exact ⟨h3.os, h3.tape, h3.output, Nat.le_trans h3.size hkp.size, fun i hi hP => (World.putObj_heap_other (by omega)).trans (h3.block i hi hP)⟩
    · exact ⟨h4.1, h4.2.1, h4.2.2.imp (fun k => hkp.cells _ _ _ _ (fun h => h) k) (fun k => hkp.cells _ _ _ _ (fun h => h) k)⟩
/-- **cut.Items**, of any tree. -/
theorem cutItems_any (P c : Nat) (nn : Int) (T : Tr) (w : World) (hT : InH w T) (hS : Sch P c nn w) (hc : T.count ≤ 5000) :
    Calls Tryz.prog 12 #[.pointer (some ⟨P, 0, none⟩), .pointer T.ptr] w (fun e w' => ∃ v, e = .returned v ∧ IOwn3 w.heap.size w' v (itsC c T) ∧ Bt [P] w w' ∧ Sch P c nn w') :=
  callsIn_wide.1 (cutItems_in 1 (Lib.hid (Nat.le_refl 1)) P c nn T w hT hS hc)
end Go.Proofs.YtnhbcildpdhgnaaGreat
