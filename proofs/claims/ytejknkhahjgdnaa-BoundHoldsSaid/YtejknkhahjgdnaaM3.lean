/- nat.fibs, the statement that goes over it, nat.Fib. nat.Fib. nat.Fib. The contracts at numbers; joinerylaw07.alive. bound.weights, the statement that goes over it, bound.weight. joineryref34: node, even, full, spine, Lean. The going over a tree, each node ahead of its sides (avl.beads). The package avl, but for Check and May. avl.beads, as what goes over a tree; avl.Check, avl.May. avl.Check, avl.May. Plain facts of AVL trees; least trees; the examples of layer 14. joinerylaw14.least, joineryref14.Least, joinerylaw14.alive, and the walk of joinerylaw14.AvlLeast. joinerylaw09.Make: the tree in memory of a tree of beads. joineryref09.Same at equal rows; joinerylaw09.see, See, Is. -/
import Derived.Test.YtejknkhahjgdnaaM2
import Derived.BigQuiet
namespace Go.Proofs.Ytejknkhahjgdnaa
open Go Go.RowKit Go.Shelf
attribute [local go_sem] Oper.semAt_some

/-- Fibonacci's numbers. -/
def fibN : Nat → Nat
  | 0 => 0
  | 1 => 1
  | n + 2 => fibN n + fibN (n + 1)
theorem fibN_le : ∀ n, fibN n ≤ 2 ^ n ∧ fibN (n + 1) ≤ 2 ^ (n + 1)
  | 0 => ⟨by decide, by decide⟩
  | n + 1 => by
    obtain ⟨h1, h2⟩ := fibN_le n
    refine ⟨h2, ?_⟩
    show fibN n + fibN (n + 1) ≤ 2 ^ (n + 1 + 1)
    rw [Nat.pow_succ 2 (n + 1)]
    rw [Nat.pow_succ] at h2 ⊢
    omega
theorem fibN_lt {n : Nat} (h : n ≤ 210) : fibN n < beta ^ 7 := by
  have h1 := (fibN_le n).1
  have h2 : 2 ^ n ≤ 2 ^ 210 := Nat.pow_le_pow_right (by decide) h
  have h3 : 2 ^ 210 < beta ^ 7 := by decide +kernel
  omega
abbrev KN (a b : World) : Prop := Keep (fun _ => False) a b
theorem rangeAt_kn {w w' : World} {b o : Nat} {cs : List Value} (h : w.rangeAt b o cs) (e : KN w w') : w'.rangeAt b o cs := fun q u hq => by
  have hc := h q u hq
  unfold World.cell? at hc ⊢
  cases ho : w.heap[b]? with
  | none => simp [ho] at hc
  | some x =>
    cases x with
    | cells c t f => rw [e.cells _ _ _ _ id ho]; rw [ho] at hc; exact hc
    | _ => simp [ho] at hc
theorem URow.kn {w w' : World} {v : Value} {xs : List Nat} (h : URow w v xs) (e : KN w w') : URow w' v xs := by
  rcases h with h | ⟨b, o, c, h0, h1, h2, h3⟩
  · exact .inl h
  · exact .inr ⟨b, o, c, h0, h1, h2, rangeAt_kn h3 e⟩
theorem NumIs.kn {w w' : World} {v : Value} {n : Nat} (h : NumIs w v n) (e : KN w w') : NumIs w' v n := by
  obtain ⟨xs, h1, h2⟩ := h; exact ⟨xs, h1.kn e, h2⟩
/-- a number's row lies off a box that holds a slice. -/
theorem NumIs.box {w : World} {v u u' : Value} {n B : Nat} {t : TypeId} (h : NumIs w v n) (hB : Boxed w B t u) (hu : ∀ k m, u ≠ .int k m) : NumIs (w.setCell ⟨B, 0, none⟩ u') v n := by
  obtain ⟨xs, h1, h2⟩ := h
  refine ⟨xs, ?_, h2⟩
  rcases h1 with h | ⟨b, o, c, h0, h1, h2, h3⟩
  · exact .inl h
  · refine .inr ⟨b, o, c, h0, h1, h2, fun q y hq => ?_⟩
    have hc := h3 q y hq
    by_cases hb : B = b
    · subst hb
      exfalso
      have h4 : w.cell? ⟨B, o + q, none⟩ = _ := cell_of (show w.heap[B]? = some (.cells #[u] t (0, 0)) from hB) (o + q)
      rw [hc] at h4
      rw [List.getElem?_map] at hq
      obtain ⟨z, _, rfl⟩ := Option.map_eq_some_iff.1 hq
      rcases Nat.eq_zero_or_pos (o + q) with e | e
      · rw [e] at h4; simp [u32] at h4; exact hu _ _ h4.symm
      · have : (#[u] : Array Value)[o + q]? = none := by simp; omega
        simp [this] at h4
    · unfold World.cell? at hc ⊢
      rw [Below.heap_setCell _ _ _ b (fun e => hb (by first | exact e | exact e.symm))]; exact hc
set_option maxRecDepth 100000 in
set_option maxHeartbeats 2000000 in
theorem fibs1_in (l N : Nat) (J Jx : World → Prop) (hN : Hid (N ≤ 200)) (hJE : ∀ W W', J W → Ext W W' → J W')
    (hY : ∀ m k v W, k < N → J W → NumIs W v (fibN k) → YieldAt Fence.wide m Try.prog l #[.int .i64 (k : Nat), v] W fun e W' => e = .returned (.bool true) ∧ J W' ∧ KN W W')
    (hYx : ∀ m v W, J W → NumIs W v (fibN N) → YieldAt Fence.wide m Try.prog l #[.int .i64 (N : Nat), v] W fun e W' => e = .returned (.bool false) ∧ Jx W') (n : Nat) (W : World) (hJ : J W) :
    CallsIn Fence.wide n Try.prog 96 #[.func (.yield l) #[] #[]] W fun e W' => (∃ v, e = .returned v) ∧ Jx W' := by
  have hfn : ∀ f, Fence.wide.fn f := fun _ => trivial
  have HJE := Lib.hid hJE
  have HY := Lib.hid hY
  have HYX := Lib.hid hYx
  have HJ := Lib.hid hJ
  clear hJE hY hYx hJ
  refine callsIn_of_wp Try.func96 rfl trivial ?_ rfl
  simp only [Try.ntmps96, List.size_toArray, List.length_cons, List.length_nil, Nat.reduceAdd, Nat.reduceSub, Array.replicate_succ, Array.replicate_zero, List.push_toArray, List.append_toArray, List.nil_append, List.cons_append]
  gi_wp2_with fail
  refine ⟨wide_room _, (callsIn_wide.2 (from_any W 0 (by decide))).mono ?_⟩
  rintro e W1 ⟨v0, rfl, n0, h1⟩
  gi_wp2_with fail
  refine ⟨wide_room _, (callsIn_wide.2 (from_any W1 1 (by decide))).mono ?_⟩
  rintro e W2 ⟨v1, rfl, n1, h2⟩
  have HS := Lib.hid (And.intro (n0.ext h2) (And.intro n1 (HJE.out _ _ HJ.out (h1.trans h2))))
  clear h1 h2 n0 n1
  gi_wp2_with fail
  gi_loopw [2, 3, 4] (fun a b i W => ∃ k : Nat, i = .int .i64 (k : Nat) ∧ Hid (k ≤ N ∧ NumIs W a (fibN k) ∧ NumIs W b (fibN (k + 1)) ∧ J W)) (fun _ _ i _ => N - (intOf i).toNat)
  case atStart => exact ⟨0, rfl, Lib.hid ⟨Nat.zero_le _, HS.out.1, HS.out.2.1, HS.out.2.2⟩⟩
  case round =>
    obtain ⟨k, rfl, HH⟩ := hrel
    clear HS
    by_cases hk : k < N
    · have HK := Lib.hid hk
      have hkn : k < 200 := Nat.lt_of_lt_of_le hk hN.out
      obtain ⟨fn, tmps, assign, body, hy1, hR⟩ := HY.out n k u2 wr hk HH.out.2.2.2 HH.out.2.1
      have HR := Lib.hid hR
      clear hR hk
      gi_wp2_with fail
      clear hy1
      refine ⟨wide_room _, (RoundIn.any HR.out).mono ?_⟩
      rintro e W3 ⟨rfl, hJ3, hk3⟩
      have HA := Lib.hid (HH.out.2.1.kn hk3)
      have HB := Lib.hid (HH.out.2.2.1.kn hk3)
      obtain ⟨xs, x1, x2, x3⟩ := HA.out
      obtain ⟨ys, y1, y2, y3⟩ := HB.out
      have HC := Lib.hid (natAdd_any W3 u2 u3 xs ys x1 y1 x2.1 y2.1 (Nat.le_trans ((norm_len x2 7).2 (by rw [x3]; exact fibN_lt (by omega))) (by decide)) (Nat.le_trans ((norm_len y2 7).2 (by rw [y3]; exact fibN_lt (by omega))) (by decide)))
      rw [x3, y3, show fibN k + fibN (k + 1) = fibN (k + 1 + 1) from rfl] at HC
      have HJ3 := Lib.hid hJ3
      clear x1 x2 x3 y1 y2 y3 hJ3 hk3 hkn
      gi_wp2_with fail
      refine ⟨wide_room _, (callsIn_wide.2 HC.out).mono ?_⟩
      rintro e W4 ⟨v4, rfl, n4, h4⟩
      have HS4 := Lib.hid (And.intro n4 h4)
      have hk2 : k < 200 := Nat.lt_of_lt_of_le HK.out hN.out
      clear n4 h4
      gi_wp2
      go_roundw
      case rel => exact ⟨k + 1, by first | rfl | (rw [show wrap64 ((k : Int) + 1) = ((k + 1 : Nat) : Int) by unfold wrap64; omega]), Lib.hid ⟨HK.out, HB.out.ext HS4.out.2, HS4.out.1, HJE.out _ _ HJ3.out HS4.out.2⟩⟩
      case measure => first | exact meas_s HK.out | (rw [show wrap64 ((k : Int) + 1) = ((k + 1 : Nat) : Int) by unfold wrap64; omega]; exact meas_s HK.out)
    · obtain rfl : k = N := Nat.le_antisymm HH.out.1 (Nat.le_of_not_lt hk)
      clear hk
      obtain ⟨fn, tmps, assign, body, hy1, hR⟩ := HYX.out n u2 wr HH.out.2.2.2 HH.out.2.1
      have HR := Lib.hid hR
      clear hR
      gi_wp2_with fail
      clear hy1
      refine ⟨wide_room _, (RoundIn.any HR.out).mono ?_⟩
      rintro e W3 ⟨rfl, hJ3⟩
      gi_wp2
      go_end0
      exact ⟨⟨_, rfl⟩, hJ3⟩
theorem fibs_any (w : World) : Calls Try.prog 74 #[] w fun e w' => e = .returned (.func (.func 96) #[] #[]) ∧ w' = w := by
  go_enter Try.func74, Try.ntmps74
  go_wp2
  go_ret
  exact ⟨rfl, rfl⟩
end Go.Proofs.Ytejknkhahjgdnaa
namespace Go.Proofs.Ytejknkhahjgdnaa
open Go Go.RowKit Go.Shelf
attribute [local go_sem] Oper.semAt_some

/-- a round over fibs: it goes on without turning a cell, or it leaves. -/
def fibPost (B id : Nat) (I Ix : World → Prop) (last : Bool) (W : World) : Exit → Act → World → Prop
  | .normal, _, W' => last = false ∧ KeepsFrom B W W' ∧ KN W W' ∧ I W'
  | .exit i, _, W' => last = true ∧ i = id ∧ KeepsFrom B W W' ∧ Ix W'
  | _, _, _ => False
set_option maxHeartbeats 1000000 in
/-- **for k, f := range fibs() { .. }**, whose round number N leaves it. -/
theorem range_fibs {g : Operand} {p q : Tmp} {assign body : Code} {N n id : Nat} {Q : Exit → Act → World → Prop} {a : Act} {w : World} (h1 : 1 ≤ n) (hN : N ≤ 200) (hg : a.eval g = .func (.func 96) #[] #[]) (I Ix : World → Prop)
    (hIE : ∀ W W', w.heap.size ≤ W.heap.size → I W → Ext W W' → I W') (hIp : ∀ W l o o', w.heap.size ≤ l → W.heap[l]? = some o → o.isCells = false → I W → I (W.putObj l o')) (hXp : ∀ W l o o', w.heap.size ≤ l → W.heap[l]? = some o → o.isCells = false → Ix W → Ix (W.putObj l o'))
    (h0 : I w) (a₁ : Nat → Value → Act)
    (hassign : ∀ (m l k : Nat) (v : Value) (W : World) (K : Act → World → Prop), K (a₁ k v) W → assign.wpIn (Fence.wide.inRound l) m Try.prog (Exit.then K (fun _ _ _ => False)) { tmps := ((#[p, q] : Array Tmp).zip (#[.int .i64 (k : Nat), v] : Array Value)).foldl (fun t (p, v) => t.setIfInBounds p v) a.tmps, defers := [] } W)
    (hbody : ∀ (m l k : Nat) (v : Value) (W : World), k ≤ N → w.heap.size ≤ W.heap.size → I W → NumIs W v (fibN k) → body.wpIn (Fence.wide.inRound l) m Try.prog (fibPost w.heap.size id I Ix (decide (k = N)) W) (a₁ k v) W)
    (hstop : ∀ (D : Nat) (W : World), w.heap.size ≤ D → Ix W → W.heap[D]? = some (.deferred (some [])) → (Code.exit id).wpIn Fence.wide n Try.prog Q { a with defers := { target := .collected D, args := #[] } :: a.defers } W) :
    (Code.rangeFunc g #[p, q] assign body).wpIn Fence.wide n Try.prog Q a w := by
  refine wpIn_rangeFunc ?_
  intro fn hfn
  rw [show Fence.wide.round = none from rfl]
  obtain ⟨rec, hrec⟩ : ∃ rec : LoopState → Option Code → Loop, rec = fun st pe => { state := st, pending := pe, fn, tmps := a.tmps, params := #[p, q], assign, body, defers := w.heap.size } := ⟨_, rfl⟩
  obtain ⟨W1, hW1⟩ : ∃ W1, (w.alloc (.deferred (some []))).alloc (.loop (rec .ready none)) = W1 := ⟨_, rfl⟩
  have hE1 : Ext w W1 := by rw [← hW1]; exact ((Ext.refl w).alloc _).alloc _
  have hL1 : W1.heap[w.heap.size + 1]? = some (.loop (rec .ready none)) := by rw [← hW1]; exact alloc_at _ _ _ (by simp)
  have hK1 : W1.heap[w.heap.size]? = some (.deferred (some [])) := by rw [← hW1, alloc_lt _ _ _ (by simp)]; exact alloc_at _ _ _ rfl
  have hI1 : I W1 := hIE _ _ (Nat.le_refl _) h0 hE1
  refine ⟨w.heap.size + 1, [{ target := .collected w.heap.size, args := #[] }], W1, { target := .fn (.func 96) #[], args := #[.func (.yield (w.heap.size + 1)) #[] #[]] }, W1, 96,
    #[.func (.yield (w.heap.size + 1)) #[] #[]], W1, ?_, ?_, ?_, ?_, fun _ => h1, ?_⟩
  · rw [← hW1, hrec]; exact run_enterLoop_outer _ _ _ _ _
  · simp only [resolve, hg]
    simp [go_sem]
  · intro f' _; trivial
  · kernel_rfl
  · have fin : ∀ (W W3 : World) (jump : Option Code), W.heap[w.heap.size + 1]? = some (.loop (rec .ready none)) → W.heap[w.heap.size]? = some (.deferred (some [])) → KeepsFrom w.heap.size (W.putObj (w.heap.size + 1) (.loop { rec .ready none with state := .busy })) W3 →
        (Instr.endRound (w.heap.size + 1) jump).run Try.prog W3 = .ok (.bool jump.isNone) (W3.putObj (w.heap.size + 1) (.loop (rec (if jump.isNone then .ready else .done) jump))) ∧
        W3.heap[w.heap.size + 1]? = some (.loop { rec .ready none with state := .busy }) ∧
        (W3.putObj (w.heap.size + 1) (.loop (rec (if jump.isNone then .ready else .done) jump))).heap[w.heap.size + 1]? = some (.loop (rec (if jump.isNone then .ready else .done) jump)) ∧
        (W3.putObj (w.heap.size + 1) (.loop (rec (if jump.isNone then .ready else .done) jump))).heap[w.heap.size]? = some (.deferred (some [])) := fun W W3 jump hl hk hk3 => by
      have hl2 : (W.putObj (w.heap.size + 1) (.loop { rec .ready none with state := .busy })).heap[w.heap.size + 1]? = some (.loop { rec .ready none with state := .busy }) := World.putObj_heap_same (Array.getElem?_eq_some_iff.1 hl).1
      have hk2 : (W.putObj (w.heap.size + 1) (.loop { rec .ready none with state := .busy })).heap[w.heap.size]? = some (.deferred (some [])) := (World.putObj_heap_other (by omega)).trans hk
      have hl3 := hk3.same _ _ (by omega) hl2 rfl
      have := run_endRound (P := Try.prog) jump hl3
      rw [hrec] at this ⊢
      exact ⟨this, by rw [hrec] at hl3; exact hl3, World.putObj_heap_same (Array.getElem?_eq_some_iff.1 hl3).1, (World.putObj_heap_other (by omega)).trans (hk3.same _ _ (Nat.le_refl _) hk2 rfl)⟩
    refine (fibs1_in (w.heap.size + 1) N (fun W => I W ∧ W.heap[w.heap.size + 1]? = some (.loop (rec .ready none)) ∧ W.heap[w.heap.size]? = some (.deferred (some [])))
      (fun W => Ix W ∧ W.heap[w.heap.size + 1]? = some (.loop (rec .done (some (.exit id)))) ∧ W.heap[w.heap.size]? = some (.deferred (some [])))
      (Lib.hid hN) (fun W W' ⟨i1, i2, i3⟩ hE => ⟨hIE _ _ (by have := (Array.getElem?_eq_some_iff.1 i3).1; omega) i1 hE, hE.get i2, hE.get i3⟩) ?_ ?_ (n - 1) W1 ⟨hI1, hL1, hK1⟩).mono ?_
    · rintro m k v W hk ⟨hi, hl, hd⟩ hv
      have hlt : w.heap.size + 1 < W.heap.size := (Array.getElem?_eq_some_iff.1 hl).1
      have hy := run_yield (P := Try.prog) (args := #[.int .i64 (k : Nat), v]) hl (by rw [hrec]; rfl)
      rw [hrec] at hy
      refine ⟨fn, _, assign, body, hy, roundIn_of_wpIn hfn (hassign _ _ k v W _ ?_)⟩
      clear hy
      refine ⟨_, run_beginRound hl (by rw [hrec]), ?_⟩
      have hK2 : KN W (W.putObj (w.heap.size + 1) (.loop { rec .ready none with state := .busy })) := Keep.putObj _ _ _ _ hl rfl
      refine wpIn_mono (hbody _ _ k v _ (Nat.le_of_lt hk) (by simp; omega) (hIp _ _ _ _ (by omega) hl rfl hi) (hv.kn hK2)) ?_
      rintro e a3 W3 hp
      cases e with
      | normal =>
        obtain ⟨-, hk3, hkn, hi3⟩ := hp
        obtain ⟨hr, hl3, hl4, hk4⟩ := fin W W3 none hl hd hk3
        exact ⟨_, _, hr, rfl, ⟨hIp _ _ _ _ (by omega) hl3 rfl hi3, hl4, hk4⟩, (hK2.trans hkn).trans (Keep.putObj _ _ _ _ hl3 rfl)⟩
      | exit i => exact absurd (of_decide_eq_true hp.1) (Nat.ne_of_lt hk)
      | ret => exact hp.elim
      | goto t => exact hp.elim
      | panic ch => exact hp.elim
      | outgrown => exact hp.elim
    · rintro m v W ⟨hi, hl, hd⟩ hv
      have hlt : w.heap.size + 1 < W.heap.size := (Array.getElem?_eq_some_iff.1 hl).1
      have hy := run_yield (P := Try.prog) (args := #[.int .i64 (N : Nat), v]) hl (by rw [hrec]; rfl)
      rw [hrec] at hy
      refine ⟨fn, _, assign, body, hy, roundIn_of_wpIn hfn (hassign _ _ N v W _ ?_)⟩
      clear hy
      refine ⟨_, run_beginRound hl (by rw [hrec]), ?_⟩
      have hK2 : KN W (W.putObj (w.heap.size + 1) (.loop { rec .ready none with state := .busy })) := Keep.putObj _ _ _ _ hl rfl
      refine wpIn_mono (hbody _ _ N v _ (Nat.le_refl _) (by simp; omega) (hIp _ _ _ _ (by omega) hl rfl hi) (hv.kn hK2)) ?_
      rintro e a3 W3 hp
      cases e with
      | normal => exact absurd hp.1 (by simp)
      | exit i =>
        obtain ⟨-, rfl, hk3, hi3⟩ := hp
        obtain ⟨hr, hl3, hl4, hk4⟩ := fin W W3 (some (.exit i)) hl hd hk3
        exact ⟨_, _, hr, rfl, hXp _ _ _ _ (by omega) hl3 rfl hi3, hl4, hk4⟩
      | ret => exact hp.elim
      | goto t => exact hp.elim
      | panic ch => exact hp.elim
      | outgrown => exact hp.elim
    · rintro e W2 ⟨⟨v, rfl⟩, hi, hl, hk⟩
      exact ⟨some (.exit id), _, by have := run_endLoop (P := Try.prog) hl (by rw [hrec]; simp); rw [hrec] at this; exact this, hstop _ _ (Nat.le_refl _) (hXp _ _ _ _ (by omega) hl rfl hi) ((World.putObj_heap_other (by omega)).trans hk)⟩
end Go.Proofs.Ytejknkhahjgdnaa
namespace Go.Proofs.Ytejknkhahjgdnaa
open Go Go.RowKit Go.Shelf
attribute [local go_sem] Oper.semAt_some

def FibE (i : Int) : Int := if 0 ≤ i ∧ i ≤ 200 then 0 else 2
def FibV (i : Int) : Nat := if 0 ≤ i ∧ i ≤ 200 then fibN i.toNat else 0
def Fibs (i : Int) (w : World) (r : Ending) (w' : World) : Prop := ∃ v, r = .returned (.tuple #[v, .int .i64 (FibE i)]) ∧ NumIs w' v (FibV i) ∧ Ext w w'
theorem results_cell_slot {fn : Func} {t u : Tmp} {A : TypeId} (h : fn.results = #[.cell t A, .tmp u]) (tmps : Array Value) (w : World) {a b : Value} {p : Addr} (ht : tmps.getD t undef = .pointer (some p)) (hu : tmps.getD u undef = b)
    (hA : ∀ w : World, (isAgg A).run Try.prog w = .ok false w) (hp : w.cell? p = some a) :
    (results fn tmps).run Try.prog w = .ok (.tuple #[a, b]) w := by
  simp only [Array.getD_eq_getD_getElem?] at ht hu
  simp [results, h, ht, hu, loadVar, hA, asAddr, hp]
theorem below_putN {N : Nat} {a W : World} (h : Below N a W) (hs : N ≤ W.heap.size) {l : Nat} (hl : N ≤ l) (o : Obj) : Below N a (W.putObj l o) :=
  h.grown (grownBy_putObj' W l o) hs (fun k e => by cases e; exact hl)
def fibW (w : World) (i : Int) : World := (w.alloc (.cells #[.int .i64 i] 3)).alloc (.cells #[.slice none 0 0] 23)
theorem fibW_all (w : World) (i : Int) : Ext w (fibW w i) ∧ (fibW w i).heap.size = w.heap.size + 2 ∧ Boxed (fibW w i) w.heap.size 3 (.int .i64 i) ∧ Boxed (fibW w i) (w.heap.size + 1) 23 (.slice none 0 0) := by
  refine ⟨((Ext.refl w).alloc _).alloc _, by simp [fibW], ?_, ?_⟩ <;> unfold fibW <;> (try unfold Boxed) <;> (repeat (first | exact alloc_at _ _ _ (by simp) | rw [alloc_lt _ _ _ (by simp <;> omega)]))
set_option maxRecDepth 100000 in
set_option maxHeartbeats 2000000 in
theorem natFib_in (n : Nat) (hn : Hid (1 ≤ n)) (w : World) (i : Int) : CallsIn Fence.wide n Try.prog 56 #[.int .i64 i] w (Fibs i w) := by
  have hfn : ∀ f, Fence.wide.fn f := fun _ => trivial
  by_cases hi : 0 ≤ i ∧ i ≤ 200
  · have HE := Lib.hid (show FibE i = 0 ∧ FibV i = fibN i.toNat by unfold FibE FibV; rw [if_pos hi, if_pos hi]; exact ⟨rfl, rfl⟩)
    obtain ⟨hi0, hi1⟩ := hi
    obtain ⟨N, rfl⟩ := Int.eq_ofNat_of_zero_le hi0
    rw [Int.toNat_natCast] at HE
    refine callsIn_of_wp_marks Try.func56 rfl trivial ?_ rfl
    simp only [Try.ntmps56, List.size_toArray, List.length_cons, List.length_nil, Nat.reduceAdd, Nat.reduceSub, Array.replicate_succ, Array.replicate_zero, List.push_toArray, List.append_toArray, List.nil_append, List.cons_append]
    gi_wp2_with fail
    refine ⟨wide_room _, (callsIn_wide.2 (fibs_any _)).mono ?_⟩
    rintro e w1 ⟨rfl, rfl⟩
    gi_wp2_with fail
    change Code.wpIn _ _ _ _ _ _ (fibW w N)
    obtain ⟨hE, hsz, hbx, hbo⟩ := fibW_all w N
    have HN := Lib.hid (show N ≤ 200 by omega)
    generalize fibW w N = W0 at *
    have HSZ := Lib.hid hsz
    have HBX := Lib.hid hbx
    have HBO := Lib.hid hbo
    have HEX := Lib.hid hE
    clear hbx hbo hE hsz
    refine range_fibs (N := N) (id := 0) hn.out HN.out rfl (fun W => Boxed W w.heap.size 3 (.int .i64 N) ∧ Boxed W (w.heap.size + 1) 23 (.slice none 0 0) ∧ Below w.heap.size W0 W)
      (fun W => ∃ a l c, Boxed W (w.heap.size + 1) 23 (.slice a l c) ∧ NumIs W (.slice a l c) (fibN N) ∧ Below w.heap.size W0 W)
      (fun W W' hs ⟨i1, i2, i3⟩ hE => ⟨hE.get i1, hE.get i2, i3.trans (RowKit.Below.mono hE (by have := HSZ.out; omega))⟩) ?put ?putx ⟨HBX.out, HBO.out, RowKit.Below.refl _ _⟩
      (fun k v => { tmps := #[Value.int IntKind.i64 N, Value.pointer (some { block := w.heap.size, off := 0 }), Value.pointer (some { block := w.heap.size + 1, off := 0 }), Value.int IntKind.i64 0, Value.int IntKind.i64 k, v,
                Value.int IntKind.i64 N, Value.bool (decide ((N : Int) < 0)), Value.bool (decide ((N : Int) < 0)), Value.int IntKind.i64 N, Value.bool (decide (200 < (N : Int))),
                Value.bool (decide ((N : Int) < 0) || decide (200 < (N : Int))), Value.func (Fn.func 96) #[] #[], Value.int IntKind.i64 k, v, undef, undef, undef, undef, undef], defers := [] }) ?assign ?body ?stop
    case put =>
      rintro W l o o' hl ho hc ⟨i1, i2, i3⟩
      have h0 := (Array.getElem?_eq_some_iff.1 ho).1
      exact ⟨i1.kept (grownBy_putObj' _ l _) (by have := HSZ.out; simp; omega), i2.kept (grownBy_putObj' _ l _) (by have := HSZ.out; simp; omega), below_putN i3 (by have := HSZ.out; omega) (by have := HSZ.out; omega) _⟩
    case putx =>
      rintro W l o o' hl ho hc ⟨a, ln, c, i1, i2, i3⟩
      have h0 := (Array.getElem?_eq_some_iff.1 ho).1
      exact ⟨a, ln, c, i1.kept (grownBy_putObj' _ l _) (by have := HSZ.out; simp; omega), i2.kn (Keep.putObj _ _ _ _ ho hc), below_putN i3 (by have := HSZ.out; omega) (by have := HSZ.out; omega) _⟩
    case assign =>
      intro m l k v W K hK
      gi_wp2
      exact hK
    case body =>
      rintro m l k v W hk hs ⟨i1, i2, i3⟩ hv
      obtain ⟨a, ln, c, rfl⟩ : ∃ a ln c, v = .slice a ln c := by
        obtain ⟨xs, g1, _⟩ := hv
        obtain ⟨a, c, e⟩ := g1.slice
        exact ⟨a, _, c, e⟩
      have HV := Lib.hid hv
      have HI := Lib.hid (And.intro i1 (And.intro i2 i3))
      have hc1 := i1.cell
      have hc2 := i2.cell
      have hf2 := i2.frozen
      clear hv i1 i2 i3
      by_cases e : k = N
      · subst e
        gi_wp2
        refine ⟨rfl, rfl, keepsFrom_set _ _ _, a, ln, c, HI.out.2.1.set _, HV.out.box HI.out.2.1 (fun k m e => by cases e), ?_⟩
        exact HI.out.2.2.setCell (p := ⟨w.heap.size + 1, 0, none⟩) (Nat.le_succ _) _
      · have e' : ¬ (k : Int) = (N : Int) := by omega
        have HX := Lib.hid e
        clear e
        gi_wp2
        exact ⟨by first | rfl | exact decide_eq_false HX.out, KeepsFrom.refl _ _, Keep.refl _ _, HI.out⟩
    case stop =>
      rintro D W hD ⟨a, ln, c, i1, i2, i3⟩ hK
      have HI := Lib.hid (And.intro i1 (And.intro i2 (And.intro i3 (And.intro hD hK))))
      have hc2 := i1.cell
      have hf2 := i1.frozen
      clear i1 i2 i3 hD hK
      gi_wp2_with fail
      have f1 : (W.setCell ⟨w.heap.size + 1, 0, none⟩ (.slice a ln c)).heap[D]? = some (.deferred (some [])) := (KeepsOthers.setCell _ _ _).same D _ HI.out.2.2.2.2 rfl
      have hD := HI.out.2.2.2.1
      have hs := HSZ.out
      have f2 := (HI.out.1.set (.slice a ln c)).kept (grownBy_putObj' _ D (.deferred none)) (by simp; omega)
      have f3 : NumIs ((W.setCell ⟨w.heap.size + 1, 0, none⟩ (.slice a ln c)).putObj D (.deferred none)) (.slice a ln c) (fibN N) := (HI.out.2.1.box HI.out.1 (fun k m e => by cases e)).kn (Keep.putObj _ _ _ _ f1 rfl)
      have hB : Below w.heap.size w W0 := HEX.out
      have hB2 := (hB.trans HI.out.2.2.1).setCell (p := ⟨w.heap.size + 1, 0, none⟩) (Nat.le_succ _) (.slice a ln c)
      refine ⟨by simp, .inl ⟨_, _, rfl, run_takeDeferred f1, ?_⟩⟩
      exact ⟨_, results_cell_slot rfl _ _ rfl rfl (fun _ => by kernel_rfl) f2.cell, .slice a ln c, by rw [HE.out.1]; rfl, by rw [HE.out.2]; exact f3, below_putN hB2 (Below.size hB2) (by omega) _⟩
  · have HE := Lib.hid (show FibE i = 2 ∧ FibV i = 0 by unfold FibE FibV; rw [if_neg hi, if_neg hi]; exact ⟨rfl, rfl⟩)
    by_cases e0 : i < 0
    · clear hi
      refine callsIn_of_wp_marks Try.func56 rfl trivial ?_ rfl
      simp only [Try.ntmps56, List.size_toArray, List.length_cons, List.length_nil, Nat.reduceAdd, Nat.reduceSub, Array.replicate_succ, Array.replicate_zero, List.push_toArray, List.append_toArray, List.nil_append, List.cons_append]
      gi_wp2_with fail
      exact ⟨_, results_cell_slot rfl _ _ rfl rfl (fun _ => by kernel_rfl) (fibW_all w i).2.2.2.cell, .slice none 0 0, by rw [HE.out.1]; rfl, by rw [HE.out.2]; exact num_nil _ _ _, (fibW_all w i).1⟩
    · have e1 : 200 < i := by omega
      clear hi
      refine callsIn_of_wp_marks Try.func56 rfl trivial ?_ rfl
      simp only [Try.ntmps56, List.size_toArray, List.length_cons, List.length_nil, Nat.reduceAdd, Nat.reduceSub, Array.replicate_succ, Array.replicate_zero, List.push_toArray, List.append_toArray, List.nil_append, List.cons_append]
      gi_wp2_with fail
      exact ⟨_, results_cell_slot rfl _ _ rfl rfl (fun _ => by kernel_rfl) (fibW_all w i).2.2.2.cell, .slice none 0 0, by rw [HE.out.1]; rfl, by rw [HE.out.2]; exact num_nil _ _ _, (fibW_all w i).1⟩
/-- **nat.Fib**, at any place. -/
theorem natFib_any (w : World) (i : Int) : Calls Try.prog 56 #[.int .i64 i] w (Fibs i w) := callsIn_wide.1 (natFib_in 1 (Lib.hid (Nat.le_refl 1)) w i)
end Go.Proofs.Ytejknkhahjgdnaa
namespace Go.Proofs.Ytejknkhahjgdnaa
open Go Go.RowKit

theorem may_of {xs : List Nat} {n : Nat} (h : Norm xs) (e : nval xs = n) (hn : n < beta ^ 128) : mayN xs = true := (mayN_norm h.1).2 ⟨h, (norm_len h 128).2 (by rw [e]; exact hn)⟩
theorem natMay_num (w : World) (p : Value) (n : Nat) (hp : NumIs w p n) (hn : n < beta ^ 128) : Calls Try.prog 33 #[p] w (Ret (.bool true) w) := by
  obtain ⟨xs, h1, h2, h3⟩ := hp
  have := natMay_any w p xs h1
  rwa [may_of h2 h3 hn] at this
theorem natAdd_num (w : World) (p q : Value) (a b : Nat) (hp : NumIs w p a) (hq : NumIs w q b) (ha : a < beta ^ 128) (hb : b < beta ^ 128) : Calls Try.prog 57 #[p, q] w (Fits (a + b) w) := by
  obtain ⟨xs, h1, h2, h3⟩ := hp
  obtain ⟨ys, g1, g2, g3⟩ := hq
  refine (natAddE_any w p q xs ys h1 g1 h2.1 g2.1).mono ?_
  rintro e w1 ⟨v, rfl, h, hE⟩
  have m1 := may_of h2 h3 ha
  have m2 := may_of g2 g3 hb
  rw [h3, g3] at h ⊢
  unfold SumE SumN at *
  simp only [m1, m2, Bool.and_self, if_true] at h ⊢
  exact ⟨v, rfl, h, hE⟩
theorem natCmp_num (w : World) (p q : Value) (a b : Nat) (hp : NumIs w p a) (hq : NumIs w q b) (ha : a < beta ^ 128) (hb : b < beta ^ 128) : Calls Try.prog 16 #[p, q] w (Ret (.int .i64 (cmpV a b)) w) := by
  obtain ⟨xs, h1, h2, h3⟩ := hp
  obtain ⟨ys, g1, g2, g3⟩ := hq
  have h := natCmp_any w p q xs ys h1 g1 h2.1 g2.1
  unfold CmpR at h
  rw [may_of h2 h3 ha, may_of g2 g3 hb, h3, g3] at h
  exact h
theorem natText_num (w : World) (p : Value) (a : Nat) (hp : NumIs w p a) (ha : a < beta ^ 128) : Calls Try.prog 59 #[p] w (Ret (.string (textOf a)) w) := by
  obtain ⟨xs, h1, h2, h3⟩ := hp
  have h := natText_any w p xs h1 h2.1
  unfold TextV at h
  rw [may_of h2 h3 ha, h3] at h
  exact h
theorem text0 : textOf 0 = ⟨#[48]⟩ := by decide +kernel
theorem text1 : textOf (fibN 10) = ⟨#[53, 53]⟩ := by decide +kernel
theorem text2 : textOf (2 ^ 100) = ⟨#[49, 50, 54, 55, 54, 53, 48, 54, 48, 48, 50, 50, 56, 50, 50, 57, 52, 48, 49, 52, 57, 54, 55, 48, 51, 50, 48, 53, 51, 55, 54]⟩ := by decide +kernel
theorem fit_of {n : Nat} (h : n < beta ^ 128) : fitE n = 0 ∧ fitN n = n := by unfold fitE fitN; rw [if_pos h, if_pos h]; exact ⟨rfl, rfl⟩
theorem fit1 : fitE (18446744073709551615 + 1) = 0 ∧ fitN (18446744073709551615 + 1) = 18446744073709551616 := fit_of (by decide +kernel)
theorem fit2 : fitE (2 ^ 100) = 0 ∧ fitN (2 ^ 100) = 2 ^ 100 := fit_of (by decide +kernel)
theorem fit3 : fitE (9223372036854775808 ^ 66) = 5 := by unfold fitE; exact if_neg (by decide +kernel)
theorem alive_lits (w : World) : NumIs (w.alloc (.cells #[.int .u32 0, .int .u32 1] 34)) (.slice (some ⟨w.heap.size, 0, none⟩) 2 2) 4294967296 ∧
    NumIs (w.alloc (.cells #[.int .u32 0, .int .u32 0, .int .u32 1] 34)) (.slice (some ⟨w.heap.size, 0, none⟩) 3 3) 18446744073709551616 := by
  refine ⟨⟨[0, 1], UBlk.row (alloc_at w _ _ rfl) 2 (by decide), ⟨?_, by decide⟩, by decide⟩, ⟨[0, 0, 1], UBlk.row (alloc_at w _ _ rfl) 3 (by decide), ⟨?_, by decide⟩, by decide⟩⟩ <;> (intro d hd; simp at hd; rcases hd with rfl | rfl <;> decide)
end Go.Proofs.Ytejknkhahjgdnaa
namespace Go.Proofs.Ytejknkhahjgdnaa
open Go Go.RowKit Go.Shelf
attribute [local go_sem] Oper.semAt_some

/-- the row of weights. -/
def wrow : Nat → Nat
  | 0 => 1
  | h + 1 => wrow h + (29 * wrow h + 70) / 71
theorem wrow_alt (h : Nat) : wrow (h + 1) = (100 * wrow h + 70) / 71 := by rw [wrow]; omega
theorem wrow_all : ∀ k, k < 103 → wrow k < 10000000000000000 := by decide +kernel
theorem wrow_lt {k : Nat} (h : k ≤ 102) : wrow k < 10000000000000000 := wrow_all k (by omega)
theorem wrow_pos : ∀ k, 1 ≤ wrow k
  | 0 => Nat.le_refl 1
  | k + 1 => by rw [wrow]; have := wrow_pos k; omega
set_option maxRecDepth 100000 in
set_option maxHeartbeats 2000000 in
theorem weights1_in (l N : Nat) (J Jx : World → Prop) (hN : Hid (N ≤ 101))
    (hY : ∀ m k W, k < N → J W → YieldAt Fence.wide m Try.prog l #[.int .i64 (k : Nat), .int .u64 (wrow k : Nat)] W fun e W' => e = .returned (.bool true) ∧ J W' ∧ KN W W')
    (hYx : ∀ m W, J W → YieldAt Fence.wide m Try.prog l #[.int .i64 (N : Nat), .int .u64 (wrow N : Nat)] W fun e W' => e = .returned (.bool false) ∧ Jx W') (n : Nat) (W : World) (hJ : J W) :
    CallsIn Fence.wide n Try.prog 95 #[.func (.yield l) #[] #[]] W fun e W' => (∃ v, e = .returned v) ∧ Jx W' := by
  have hfn : ∀ f, Fence.wide.fn f := fun _ => trivial
  have HY := Lib.hid hY
  have HYX := Lib.hid hYx
  have HJ := Lib.hid hJ
  clear hY hYx hJ
  refine callsIn_of_wp Try.func95 rfl trivial ?_ rfl
  simp only [Try.ntmps95, List.size_toArray, List.length_cons, List.length_nil, Nat.reduceAdd, Nat.reduceSub, Array.replicate_succ, Array.replicate_zero, List.push_toArray, List.append_toArray, List.nil_append, List.cons_append]
  gi_wp2_with fail
  gi_loopw [2, 3] (fun a i W => ∃ k : Nat, i = .int .i64 (k : Nat) ∧ a = .int .u64 (wrow k : Nat) ∧ Hid (k ≤ N ∧ J W)) (fun _ i _ => N - (intOf i).toNat)
  case atStart => exact ⟨0, rfl, rfl, Lib.hid ⟨Nat.zero_le _, HJ.out⟩⟩
  case round =>
    obtain ⟨k, rfl, rfl, HH⟩ := hrel
    by_cases hk : k < N
    · have HK := Lib.hid hk
      have hkn : k < 101 := Nat.lt_of_lt_of_le hk hN.out
      have HW := Lib.hid (wrow_lt (k := k) (by omega))
      have HS := Lib.hid (show wrow (k + 1) = wrow k + (29 * wrow k + 70) / 71 from rfl)
      obtain ⟨fn, tmps, assign, body, hy1, hR⟩ := HY.out n k wr hk HH.out.2
      have HR := Lib.hid hR
      generalize wrow k = a at *
      clear hR hk hkn
      gi_wp2_with fail
      clear hy1
      refine ⟨wide_room _, (RoundIn.any HR.out).mono ?_⟩
      rintro e W3 ⟨rfl, hJ3, hk3⟩
      have hkn : k < 101 := Nat.lt_of_lt_of_le HK.out hN.out
      have HJ3 := Lib.hid hJ3
      have ha : a < 10000000000000000 := HW.out
      clear hJ3 hk3
      gi_wp2
      go_roundw
      case rel => exact ⟨k + 1, by go_num, by rw [HS.out]; rfl, Lib.hid ⟨HK.out, HJ3.out⟩⟩
      case measure => exact meas_s HK.out
    · obtain rfl : k = N := Nat.le_antisymm HH.out.1 (Nat.le_of_not_lt hk)
      clear hk
      obtain ⟨fn, tmps, assign, body, hy1, hR⟩ := HYX.out n wr HH.out.2
      have HR := Lib.hid hR
      clear hR
      gi_wp2_with fail
      clear hy1
      refine ⟨wide_room _, (RoundIn.any HR.out).mono ?_⟩
      rintro e W3 ⟨rfl, hJ3⟩
      gi_wp2
      go_end0
      exact ⟨⟨_, rfl⟩, hJ3⟩
theorem weights_any (w : World) : Calls Try.prog 73 #[] w fun e w' => e = .returned (.func (.func 95) #[] #[]) ∧ w' = w := by
  go_enter Try.func73, Try.ntmps73
  go_wp2
  go_ret
  exact ⟨rfl, rfl⟩
/-- a round over weights: it goes on without turning a cell, or it leaves the function. -/
def wrowPost (B : Nat) (I Ix : World → Prop) (last : Bool) (W : World) : Exit → Act → World → Prop
  | .normal, _, W' => last = false ∧ KeepsFrom B W W' ∧ KN W W' ∧ I W'
  | .ret, _, W' => last = true ∧ KeepsFrom B W W' ∧ Ix W'
  | _, _, _ => False
set_option maxHeartbeats 1000000 in
/-- **for h, w := range weights() { .. }**, whose round number N leaves the function. -/
theorem range_weights {g : Operand} {p q : Tmp} {assign body : Code} {N n : Nat} {Q : Exit → Act → World → Prop} {a : Act} {w : World} (h1 : 1 ≤ n) (hN : N ≤ 101) (hg : a.eval g = .func (.func 95) #[] #[]) (I Ix : World → Prop)
    (hIE : ∀ W W', w.heap.size ≤ W.heap.size → I W → Ext W W' → I W') (hIp : ∀ W l o o', w.heap.size ≤ l → W.heap[l]? = some o → o.isCells = false → I W → I (W.putObj l o')) (hXp : ∀ W l o o', w.heap.size ≤ l → W.heap[l]? = some o → o.isCells = false → Ix W → Ix (W.putObj l o'))
    (h0 : I w) (a₁ : Nat → Act)
    (hassign : ∀ (m l k : Nat) (W : World) (K : Act → World → Prop), K (a₁ k) W → assign.wpIn (Fence.wide.inRound l) m Try.prog (Exit.then K (fun _ _ _ => False)) { tmps := ((#[p, q] : Array Tmp).zip (#[.int .i64 (k : Nat), .int .u64 (wrow k : Nat)] : Array Value)).foldl (fun t (p, v) => t.setIfInBounds p v) a.tmps, defers := [] } W)
    (hbody : ∀ (m l k : Nat) (W : World), k ≤ N → w.heap.size ≤ W.heap.size → I W → body.wpIn (Fence.wide.inRound l) m Try.prog (wrowPost w.heap.size I Ix (decide (k = N)) W) (a₁ k) W)
    (hstop : ∀ (D : Nat) (W : World), w.heap.size ≤ D → Ix W → W.heap[D]? = some (.deferred (some [])) → (Code.ret).wpIn Fence.wide n Try.prog Q { a with defers := { target := .collected D, args := #[] } :: a.defers } W) :
    (Code.rangeFunc g #[p, q] assign body).wpIn Fence.wide n Try.prog Q a w := by
  refine wpIn_rangeFunc ?_
  intro fn hfn
  rw [show Fence.wide.round = none from rfl]
  obtain ⟨rec, hrec⟩ : ∃ rec : LoopState → Option Code → Loop, rec = fun st pe => { state := st, pending := pe, fn, tmps := a.tmps, params := #[p, q], assign, body, defers := w.heap.size } := ⟨_, rfl⟩
  obtain ⟨W1, hW1⟩ : ∃ W1, (w.alloc (.deferred (some []))).alloc (.loop (rec .ready none)) = W1 := ⟨_, rfl⟩
  have hE1 : Ext w W1 := by rw [← hW1]; exact ((Ext.refl w).alloc _).alloc _
  have hL1 : W1.heap[w.heap.size + 1]? = some (.loop (rec .ready none)) := by rw [← hW1]; exact alloc_at _ _ _ (by simp)
  have hK1 : W1.heap[w.heap.size]? = some (.deferred (some [])) := by rw [← hW1, alloc_lt _ _ _ (by simp)]; exact alloc_at _ _ _ rfl
  have hI1 : I W1 := hIE _ _ (Nat.le_refl _) h0 hE1
  refine ⟨w.heap.size + 1, [{ target := .collected w.heap.size, args := #[] }], W1, { target := .fn (.func 95) #[], args := #[.func (.yield (w.heap.size + 1)) #[] #[]] }, W1, 95,
    #[.func (.yield (w.heap.size + 1)) #[] #[]], W1, ?_, ?_, ?_, ?_, fun _ => h1, ?_⟩
  · rw [← hW1, hrec]; exact run_enterLoop_outer _ _ _ _ _
  · simp only [resolve, hg]
    simp [go_sem]
  · intro f' _; trivial
  · kernel_rfl
  · have fin : ∀ (W W3 : World) (jump : Option Code), W.heap[w.heap.size + 1]? = some (.loop (rec .ready none)) → W.heap[w.heap.size]? = some (.deferred (some [])) → KeepsFrom w.heap.size (W.putObj (w.heap.size + 1) (.loop { rec .ready none with state := .busy })) W3 →
        (Instr.endRound (w.heap.size + 1) jump).run Try.prog W3 = .ok (.bool jump.isNone) (W3.putObj (w.heap.size + 1) (.loop (rec (if jump.isNone then .ready else .done) jump))) ∧
        W3.heap[w.heap.size + 1]? = some (.loop { rec .ready none with state := .busy }) ∧
        (W3.putObj (w.heap.size + 1) (.loop (rec (if jump.isNone then .ready else .done) jump))).heap[w.heap.size + 1]? = some (.loop (rec (if jump.isNone then .ready else .done) jump)) ∧
        (W3.putObj (w.heap.size + 1) (.loop (rec (if jump.isNone then .ready else .done) jump))).heap[w.heap.size]? = some (.deferred (some [])) := fun W W3 jump hl hk hk3 => by
      have hl2 : (W.putObj (w.heap.size + 1) (.loop { rec .ready none with state := .busy })).heap[w.heap.size + 1]? = some (.loop { rec .ready none with state := .busy }) := World.putObj_heap_same (Array.getElem?_eq_some_iff.1 hl).1
      have hk2 : (W.putObj (w.heap.size + 1) (.loop { rec .ready none with state := .busy })).heap[w.heap.size]? = some (.deferred (some [])) := (World.putObj_heap_other (by omega)).trans hk
      have hl3 := hk3.same _ _ (by omega) hl2 rfl
      have := run_endRound (P := Try.prog) jump hl3
      rw [hrec] at this ⊢
      exact ⟨this, by rw [hrec] at hl3; exact hl3, World.putObj_heap_same (Array.getElem?_eq_some_iff.1 hl3).1, (World.putObj_heap_other (by omega)).trans (hk3.same _ _ (Nat.le_refl _) hk2 rfl)⟩
    refine (weights1_in (w.heap.size + 1) N (fun W => I W ∧ W.heap[w.heap.size + 1]? = some (.loop (rec .ready none)) ∧ W.heap[w.heap.size]? = some (.deferred (some [])))
      (fun W => Ix W ∧ W.heap[w.heap.size + 1]? = some (.loop (rec .done (some .ret))) ∧ W.heap[w.heap.size]? = some (.deferred (some [])))
      (Lib.hid hN) ?_ ?_ (n - 1) W1 ⟨hI1, hL1, hK1⟩).mono ?_
    · rintro m k W hk ⟨hi, hl, hd⟩
      have hlt : w.heap.size + 1 < W.heap.size := (Array.getElem?_eq_some_iff.1 hl).1
      have hy := run_yield (P := Try.prog) (args := #[.int .i64 (k : Nat), .int .u64 (wrow k : Nat)]) hl (by rw [hrec]; rfl)
      rw [hrec] at hy
      refine ⟨fn, _, assign, body, hy, roundIn_of_wpIn hfn (hassign _ _ k W _ ?_)⟩
      clear hy
      refine ⟨_, run_beginRound hl (by rw [hrec]), ?_⟩
      have hK2 : KN W (W.putObj (w.heap.size + 1) (.loop { rec .ready none with state := .busy })) := Keep.putObj _ _ _ _ hl rfl
      refine wpIn_mono (hbody _ _ k _ (Nat.le_of_lt hk) (by simp; omega) (hIp _ _ _ _ (by omega) hl rfl hi)) ?_
      rintro e a3 W3 hp
      cases e with
      | normal =>
        obtain ⟨-, hk3, hkn, hi3⟩ := hp
        obtain ⟨hr, hl3, hl4, hk4⟩ := fin W W3 none hl hd hk3
        exact ⟨_, _, hr, rfl, ⟨hIp _ _ _ _ (by omega) hl3 rfl hi3, hl4, hk4⟩, (hK2.trans hkn).trans (Keep.putObj _ _ _ _ hl3 rfl)⟩
      | exit i => exact hp.elim
      | ret => exact absurd (of_decide_eq_true hp.1) (Nat.ne_of_lt hk)
      | goto t => exact hp.elim
      | panic ch => exact hp.elim
      | outgrown => exact hp.elim
    · rintro m W ⟨hi, hl, hd⟩
      have hlt : w.heap.size + 1 < W.heap.size := (Array.getElem?_eq_some_iff.1 hl).1
      have hy := run_yield (P := Try.prog) (args := #[.int .i64 (N : Nat), .int .u64 (wrow N : Nat)]) hl (by rw [hrec]; rfl)
      rw [hrec] at hy
      refine ⟨fn, _, assign, body, hy, roundIn_of_wpIn hfn (hassign _ _ N W _ ?_)⟩
      clear hy
      refine ⟨_, run_beginRound hl (by rw [hrec]), ?_⟩
      refine wpIn_mono (hbody _ _ N _ (Nat.le_refl _) (by simp; omega) (hIp _ _ _ _ (by omega) hl rfl hi)) ?_
      rintro e a3 W3 hp
      cases e with
      | normal => exact absurd hp.1 (by simp)
      | ret =>
        obtain ⟨-, hk3, hi3⟩ := hp
        obtain ⟨hr, hl3, hl4, hk4⟩ := fin W W3 (some .ret) hl hd hk3
        exact ⟨_, _, hr, rfl, hXp _ _ _ _ (by omega) hl3 rfl hi3, hl4, hk4⟩
      | exit i => exact hp.elim
      | goto t => exact hp.elim
      | panic ch => exact hp.elim
      | outgrown => exact hp.elim
    · rintro e W2 ⟨⟨v, rfl⟩, hi, hl, hk⟩
      exact ⟨some .ret, _, by have := run_endLoop (P := Try.prog) hl (by rw [hrec]; simp); rw [hrec] at this; exact this, hstop _ _ (Nat.le_refl _) (hXp _ _ _ _ (by omega) hl rfl hi) ((World.putObj_heap_other (by omega)).trans hk)⟩
theorem results_cell1 {fn : Func} {t : Tmp} {A : TypeId} (h : fn.results = #[.cell t A]) (tmps : Array Value) (w : World) {a : Value} {p : Addr} (ht : tmps.getD t undef = .pointer (some p))
    (hA : ∀ w : World, (isAgg A).run Try.prog w = .ok false w) (hp : w.cell? p = some a) :
    (results fn tmps).run Try.prog w = .ok a w := by
  simp only [Array.getD_eq_getD_getElem?] at ht
  simp [results, h, ht, loadVar, hA, asAddr, hp]
/-- what weight lays into memory. -/
def wrowW (w : World) (i : Int) : World := (w.alloc (.cells #[.int .i64 i] 3)).alloc (.cells #[.int .u64 0] 37)
theorem wrowW_all (w : World) (i : Int) : Ext w (wrowW w i) ∧ (wrowW w i).heap.size = w.heap.size + 2 ∧ Boxed (wrowW w i) w.heap.size 3 (.int .i64 i) ∧ Boxed (wrowW w i) (w.heap.size + 1) 37 (.int .u64 0) := by
  refine ⟨((Ext.refl w).alloc _).alloc _, by simp [wrowW], ?_, ?_⟩ <;> unfold wrowW <;> (try unfold Boxed) <;> (repeat (first | exact alloc_at _ _ _ (by simp) | rw [alloc_lt _ _ _ (by simp <;> omega)]))
set_option maxRecDepth 100000 in
set_option maxHeartbeats 2000000 in
theorem weight_in (n : Nat) (hn : Hid (1 ≤ n)) (w : World) (N : Nat) (hN0 : N ≤ 101) : CallsIn Fence.wide n Try.prog 54 #[.int .i64 (N : Nat)] w (Ret (.int .u64 (wrow N : Nat)) w) := by
  have hfn : ∀ f, Fence.wide.fn f := fun _ => trivial
  have HN := Lib.hid hN0
  clear hN0
  refine callsIn_of_wp_marks Try.func54 rfl trivial ?_ rfl
  simp only [Try.ntmps54, List.size_toArray, List.length_cons, List.length_nil, Nat.reduceAdd, Nat.reduceSub, Array.replicate_succ, Array.replicate_zero, List.push_toArray, List.append_toArray, List.nil_append, List.cons_append]
  gi_wp2_with fail
  refine ⟨wide_room _, (callsIn_wide.2 (weights_any _)).mono ?_⟩
  rintro e w1 ⟨rfl, rfl⟩
  gi_wp2_with fail
  change Code.wpIn _ _ _ _ _ _ (wrowW w N)
  obtain ⟨hE, hsz, hbx, hbo⟩ := wrowW_all w N
  generalize wrowW w N = W0 at *
  have HSZ := Lib.hid hsz
  have HBX := Lib.hid hbx
  have HBO := Lib.hid hbo
  have HEX := Lib.hid hE
  clear hbx hbo hE hsz
  refine range_weights (N := N) hn.out HN.out rfl (fun W => Boxed W w.heap.size 3 (.int .i64 N) ∧ Boxed W (w.heap.size + 1) 37 (.int .u64 0) ∧ Below w.heap.size W0 W)
    (fun W => Boxed W (w.heap.size + 1) 37 (.int .u64 (wrow N : Nat)) ∧ Below w.heap.size W0 W)
    (fun W W' hs ⟨i1, i2, i3⟩ hE => ⟨hE.get i1, hE.get i2, i3.trans (RowKit.Below.mono hE (by have := HSZ.out; omega))⟩) ?put ?putx ⟨HBX.out, HBO.out, RowKit.Below.refl _ _⟩
    (fun k => { tmps := #[Value.int IntKind.i64 N, Value.pointer (some { block := w.heap.size, off := 0 }), Value.pointer (some { block := w.heap.size + 1, off := 0 }), Value.int IntKind.i64 k, Value.int IntKind.u64 (wrow k : Nat),
              Value.func (Fn.func 95) #[] #[], Value.int IntKind.i64 k, Value.int IntKind.u64 (wrow k : Nat), undef, undef, undef, undef], defers := [] }) ?assign ?body ?stop
  case put =>
    rintro W l o o' hl ho hc ⟨i1, i2, i3⟩
    have h0 := (Array.getElem?_eq_some_iff.1 ho).1
    exact ⟨i1.kept (grownBy_putObj' _ l _) (by have := HSZ.out; simp; omega), i2.kept (grownBy_putObj' _ l _) (by have := HSZ.out; simp; omega), below_putN i3 (by have := HSZ.out; omega) (by have := HSZ.out; omega) _⟩
  case putx =>
    rintro W l o o' hl ho hc ⟨i2, i3⟩
    have h0 := (Array.getElem?_eq_some_iff.1 ho).1
    exact ⟨i2.kept (grownBy_putObj' _ l _) (by have := HSZ.out; simp; omega), below_putN i3 (by have := HSZ.out; omega) (by have := HSZ.out; omega) _⟩
  case assign =>
    intro m l k W K hK
    gi_wp2
    exact hK
  case body =>
    rintro m l k W hk hs ⟨i1, i2, i3⟩
    have HI := Lib.hid (And.intro i1 (And.intro i2 i3))
    have hc1 := i1.cell
    have hc2 := i2.cell
    have hf2 := i2.frozen
    clear i1 i2 i3
    by_cases e : k = N
    · subst e
      gi_wp2
      refine ⟨rfl, keepsFrom_set _ _ _, HI.out.2.1.set _, ?_⟩
      exact HI.out.2.2.setCell (p := ⟨w.heap.size + 1, 0, none⟩) (Nat.le_succ _) _
    · have e' : ¬ (k : Int) = (N : Int) := by omega
      have HX := Lib.hid e
      clear e
      gi_wp2
      exact ⟨by first | rfl | exact decide_eq_false HX.out, KeepsFrom.refl _ _, Keep.refl _ _, HI.out⟩
  case stop =>
    rintro D W hD ⟨i1, i3⟩ hK
    have HI := Lib.hid (And.intro i1 (And.intro i3 (And.intro hD hK)))
    clear i1 i3 hD hK
    gi_wp2_with fail
    have hD := HI.out.2.2.1
    have hs := HSZ.out
    have f2 := HI.out.1.kept (grownBy_putObj' _ D (.deferred none)) (by simp; omega)
    have hB : Below w.heap.size w W0 := HEX.out
    have hB2 := hB.trans HI.out.2.1
    refine ⟨by simp, .inl ⟨_, _, rfl, run_takeDeferred HI.out.2.2.2, ?_⟩⟩
    exact ⟨_, results_cell1 rfl _ _ rfl (fun _ => by kernel_rfl) f2.cell, rfl, below_putN hB2 (Below.size hB2) (by omega) _⟩
/-- **bound.weight**. -/
theorem weight_any (w : World) (N : Nat) (hN : N ≤ 101) : Calls Try.prog 54 #[.int .i64 (N : Nat)] w (Ret (.int .u64 (wrow N : Nat)) w) := callsIn_wide.1 (weight_in 1 (Lib.hid (Nat.le_refl 1)) w N hN)
set_option maxHeartbeats 1000000 in
theorem weight34_any (w : World) (N : Nat) (hN : N ≤ 101) : Calls Try.prog 32 #[.int .i64 (N : Nat)] w (Ret (.int .u64 (wrow N : Nat)) w) := by
  have HN := Lib.hid hN
  go_enter Try.func32, Try.ntmps32
  go_wp2
  go_loop [3, 4] (fun a i => ∃ k : Nat, i = .int .i64 (k : Nat) ∧ a = .int .u64 (wrow k : Nat) ∧ Hid (k ≤ N)) (fun _ i => N - (intOf i).toNat)
  case atStart => exact ⟨0, rfl, rfl, Lib.hid (Nat.zero_le _)⟩
  case round =>
    obtain ⟨k, rfl, rfl, HH⟩ := hrel
    by_cases hk : k < N
    · have HK := Lib.hid hk
      have hkn : k < 101 := Nat.lt_of_lt_of_le hk HN.out
      have ha := wrow_lt (k := k) (by omega)
      have HS := Lib.hid (wrow_alt k)
      generalize wrow k = a at *
      go_wp2
      go_round
      case rel => exact ⟨k + 1, by go_num, by rw [HS.out]; rfl, Lib.hid HK.out⟩
      case measure => exact meas_s HK.out
    · obtain rfl : k = N := Nat.le_antisymm HH.out (Nat.le_of_not_lt hk)
      go_wp2
      go_ret
      exact Ret.mk (Ext.refl _)
end Go.Proofs.Ytejknkhahjgdnaa
namespace Go.Proofs.Ytejknkhahjgdnaa
open Go Go.RowKit

/-- a tree of two, with no pair of its own. -/
def bn (l : BT) (g : Int) (r : BT) : BT := (BT.node 0 0 0 0 g l r).of
theorem bn_len (l : BT) (g : Int) (r : BT) : (bn l g r).enc.length = 1 + l.enc.length + r.enc.length := by
  rw [bn, BT.of_len]; simp [BT.enc]; omega
set_option maxHeartbeats 1000000 in
theorem node34_any (w : World) (p q : Value) (l r : BT) (g : Int) (hl : Beads w p l.enc) (hr : Beads w q r.enc) (hlen : l.enc.length + r.enc.length + 1 ≤ 2000) :
    Calls Try.prog 49 #[p, .int .u64 g, q] w (GivesRow (bn l g r).enc w) := by
  have H := Lib.hid (node09_any w p q l r 0 0 g hl hr hlen)
  clear hl hr
  rw [← bn] at H
  go_enter Try.func49, Try.ntmps49
  go_wp2_with fail
  refine H.out.mono ?_
  rintro e w1 ⟨v1, rfl, o1, h1⟩
  have HO := Lib.hid (And.intro o1 h1)
  clear o1 h1
  go_wp2
  go_ret
  exact ⟨v1, rfl, HO.out.1, HO.out.2⟩
def evenF : Nat → Nat → BT
  | 0, _ => .nil
  | f + 1, w => if w < 2 then .nil else bn (evenF f (w / 2)) 0 (evenF f (w - w / 2))
theorem evenF_len : ∀ f w, w ≤ f → (evenF f w).enc.length = w - 1
  | 0, w, h => by obtain rfl : w = 0 := by omega
                  rfl
  | f + 1, w, h => by
    unfold evenF
    split
    · simp [BT.enc]; omega
    · rw [bn_len, evenF_len f _ (by omega), evenF_len f _ (by omega)]; omega
set_option maxHeartbeats 1000000 in
theorem even_any (f : Nat) : ∀ (n : Nat) (w : World), n ≤ f → n ≤ 1000 → Calls Try.prog 51 #[.int .i64 n] w (GivesRow (evenF f n).enc w) := by
  induction f with
  | zero =>
    intro n w h1 h2
    obtain rfl : n = 0 := by omega
    go_enter Try.func51, Try.ntmps51
    go_wp2
    go_ret
    exact ⟨_, rfl, Own.nil _ _, Ext.refl _⟩
  | succ f ih =>
    intro n w h1 h2
    unfold evenF
    by_cases hn : n < 2
    · rw [if_pos hn]
      clear ih
      go_enter Try.func51, Try.ntmps51
      go_wp2
      go_ret
      exact ⟨_, rfl, Own.nil _ _, Ext.refl _⟩
    · rw [if_neg hn]
      have IH := Lib.hid ih
      have L1 := Lib.hid (evenF_len f (n / 2) (by omega))
      have L2 := Lib.hid (evenF_len f (n - n / 2) (by omega))
      clear ih
      generalize evenF f = E at *
      have e1 : (n : Int) / 2 = ((n / 2 : Nat) : Int) := by omega
      have e2 : (n : Int) - ((n / 2 : Nat) : Int) = ((n - n / 2 : Nat) : Int) := by omega
      have E1 := Lib.hid e1
      have E2 := Lib.hid e2
      clear e1 e2
      go_enter Try.func51, Try.ntmps51
      go_wp2_with fail
      rw [E1.out]
      refine (IH.out (n / 2) w (by omega) (by omega)).mono ?_
      rintro e w1 ⟨v1, rfl, o1, h1⟩
      have HA := Lib.hid (And.intro o1 h1)
      clear o1 h1
      go_wp2_with fail
      rw [E1.out, E2.out]
      refine (IH.out (n - n / 2) w1 (by omega) (by omega)).mono ?_
      rintro e w2 ⟨v2, rfl, o2, h2⟩
      have HB := Lib.hid (And.intro o2 h2)
      clear o2 h2
      go_wp2_with fail
      refine (node34_any w2 v1 v2 _ _ 0 (HA.out.1.beads.ext HB.out.2) HB.out.1.beads (by rw [L1.out, L2.out]; omega)).mono ?_
      rintro e w3 ⟨v3, rfl, o3, h3⟩
      have HC := Lib.hid (And.intro o3 h3)
      clear o3 h3
      go_wp2
      go_ret
      exact ⟨_, rfl, HC.out.1.mono (HA.out.2.trans HB.out.2).size, (HA.out.2.trans HB.out.2).trans HC.out.2⟩
def fullT : Nat → BT
  | 0 => .nil
  | b + 1 => bn (fullT b) ((2 * (b + 1) : Nat) : Int) (fullT b)
theorem fullT_len : ∀ b, b < 7 → (fullT b).enc.length ≤ 63 := by decide +kernel
set_option maxHeartbeats 1000000 in
theorem full_any (b : Nat) : ∀ (c : Int) (w : World), c.toNat = b → b < 7 → -10 ≤ c → Calls Try.prog 72 #[.int .i64 c] w (GivesRow (fullT b).enc w) := by
  induction b with
  | zero =>
    intro c w hc h1 hc1
    go_enter Try.func72, Try.ntmps72
    go_wp2
    go_ret
    exact ⟨_, rfl, Own.nil _ _, Ext.refl _⟩
  | succ b ih =>
    intro c w hc h1 hc1
    unfold fullT
    have IH := Lib.hid ih
    have L := Lib.hid (fullT_len b (by omega))
    clear ih
    generalize fullT b = E at *
    obtain ⟨G, hG⟩ : ∃ G : Int, ((2 * (b + 1) : Nat) : Int) = G := ⟨_, rfl⟩
    rw [hG]
    have E2 := Lib.hid (show (2 : Int) * c = G by omega)
    clear hG
    go_enter Try.func72, Try.ntmps72
    go_wp2_with fail
    refine (IH.out (c - 1) w (by omega) (by omega) (by omega)).mono ?_
    rintro e w1 ⟨v1, rfl, o1, h1⟩
    have HA := Lib.hid (And.intro o1 h1)
    clear o1 h1
    go_wp2_with fail
    refine (IH.out (c - 1) w1 (by omega) (by omega) (by omega)).mono ?_
    rintro e w2 ⟨v2, rfl, o2, h2⟩
    have HB := Lib.hid (And.intro o2 h2)
    clear o2 h2
    go_wp2_with fail
    rw [E2.out]
    refine (node34_any w2 v1 v2 _ _ _ (HA.out.1.beads.ext HB.out.2) HB.out.1.beads (by have := L.out; omega)).mono ?_
    rintro e w3 ⟨v3, rfl, o3, h3⟩
    have HC := Lib.hid (And.intro o3 h3)
    clear o3 h3
    go_wp2
    go_ret
    exact ⟨_, rfl, HC.out.1.mono (HA.out.2.trans HB.out.2).size, (HA.out.2.trans HB.out.2).trans HC.out.2⟩
def spineF : Nat → Nat → BT
  | 0, _ => .nil
  | f + 1, h => if h < 1 then .nil else
    if h % 2 = 1 then bn (spineF f (h - 1)) ((2 * ((h + 1) / 2) : Nat) : Int) (fullT ((h + 1) / 2 - 1))
    else bn (bn (spineF f (h - 2)) ((2 * ((h + 1) / 2) - 1 : Nat) : Int) (fullT ((h + 1) / 2 - 1))) ((2 * ((h + 1) / 2) : Nat) : Int) (fullT ((h + 1) / 2 - 1))
theorem spineF_len : ∀ f, f < 11 → ∀ h, h < 11 → (spineF f h).enc.length ≤ 120 := by decide +kernel
set_option maxHeartbeats 1000000 in
theorem spine_any (f : Nat) : ∀ (b h : Int) (n : Nat) (w : World), h = n → b = (n + 1) / 2 → n ≤ f → f < 11 → Calls Try.prog 50 #[.int .i64 b, .int .i64 h] w (GivesRow (spineF f n).enc w) := by
  induction f with
  | zero =>
    intro b h n w hh hb hn hf
    go_enter Try.func50, Try.ntmps50
    go_wp2
    go_ret
    exact ⟨_, rfl, Own.nil _ _, Ext.refl _⟩
  | succ f ih =>
    intro b h n w hh hb hn hf
    unfold spineF
    by_cases h0 : n < 1
    · rw [if_pos h0]
      clear ih
      go_enter Try.func50, Try.ntmps50
      go_wp2
      go_ret
      exact ⟨_, rfl, Own.nil _ _, Ext.refl _⟩
    · rw [if_neg h0]
      have IH := Lib.hid ih
      have L := Lib.hid (And.intro (fullT_len ((n + 1) / 2 - 1) (by omega)) (spineF_len f (by omega)))
      have HF := Lib.hid (fun w => full_any ((n + 1) / 2 - 1) (b - 1) w (by omega) (by omega) (by omega))
      clear ih
      generalize fullT ((n + 1) / 2 - 1) = E at *
      obtain ⟨G, hG⟩ : ∃ G : Int, ((2 * ((n + 1) / 2) : Nat) : Int) = G := ⟨_, rfl⟩
      obtain ⟨G2, hG2⟩ : ∃ G : Int, ((2 * ((n + 1) / 2) - 1 : Nat) : Int) = G := ⟨_, rfl⟩
      rw [hG, hG2]
      have E2 := Lib.hid (show (2 : Int) * b = G by omega)
      have E3 := Lib.hid (show (2 : Int) * b - 1 = G2 by omega)
      clear hG hG2
      generalize hS : spineF f = S at *
      by_cases h2 : n % 2 = 1
      · rw [if_pos h2]
        have hh2 : h % 2 = 1 := by omega
        have hh0 : 1 ≤ h ∧ h ≤ 20 ∧ 1 ≤ b ∧ b ≤ 20 := by omega
        obtain ⟨k1, k2, k3, k4⟩ := hh0
        have NH := Lib.hid (And.intro hh (And.intro hb hn))
        clear hh hb hn h0 h2
        go_enter Try.func50, Try.ntmps50
        go_wp2_with fail
        refine (IH.out (b - 1) (h - 1) (n - 1) w (by have := NH.out; omega) (by have := NH.out; omega) (by have := NH.out; omega) (by omega)).mono ?_
        rintro e w1 ⟨v1, rfl, o1, h1⟩
        have HA := Lib.hid (And.intro o1 h1)
        clear o1 h1
        go_wp2_with fail
        refine (HF.out w1).mono ?_
        rintro e w2 ⟨v2, rfl, o2, h2⟩
        have HB := Lib.hid (And.intro o2 h2)
        clear o2 h2
        go_wp2_with fail
        rw [E2.out]
        refine (node34_any w2 v1 v2 _ _ _ (HA.out.1.beads.ext HB.out.2) HB.out.1.beads (by have := L.out.1; have := NH.out; have := L.out.2 (n - 1) (by omega); omega)).mono ?_
        rintro e w3 ⟨v3, rfl, o3, h3⟩
        have HC := Lib.hid (And.intro o3 h3)
        clear o3 h3
        go_wp2
        go_ret
        exact ⟨_, rfl, HC.out.1.mono (HA.out.2.trans HB.out.2).size, (HA.out.2.trans HB.out.2).trans HC.out.2⟩
      · rw [if_neg h2]
        have hh2 : h % 2 = 0 := by omega
        have hh0 : 1 ≤ h ∧ h ≤ 20 ∧ 1 ≤ b ∧ b ≤ 20 := by omega
        obtain ⟨k1, k2, k3, k4⟩ := hh0
        have NH := Lib.hid (And.intro hh (And.intro hb hn))
        clear hh hb hn h0 h2
        go_enter Try.func50, Try.ntmps50
        go_wp2_with fail
        refine (IH.out (b - 1) (h - 2) (n - 2) w (by have := NH.out; omega) (by have := NH.out; omega) (by have := NH.out; omega) (by omega)).mono ?_
        rintro e w1 ⟨v1, rfl, o1, h1⟩
        have HA := Lib.hid (And.intro o1 h1)
        clear o1 h1
        go_wp2_with fail
        refine (HF.out w1).mono ?_
        rintro e w2 ⟨v2, rfl, o2, h2⟩
        have HB := Lib.hid (And.intro o2 h2)
        clear o2 h2
        go_wp2_with fail
        rw [E3.out]
        refine (node34_any w2 v1 v2 _ _ _ (HA.out.1.beads.ext HB.out.2) HB.out.1.beads (by have := L.out.1; have := NH.out; have := L.out.2 (n - 2) (by omega); omega)).mono ?_
        rintro e w3 ⟨v3, rfl, o3, h3⟩
        have HC := Lib.hid (And.intro o3 h3)
        clear o3 h3
        go_wp2_with fail
        refine (HF.out w3).mono ?_
        rintro e w4 ⟨v4, rfl, o4, h4⟩
        have HD := Lib.hid (And.intro o4 h4)
        clear o4 h4
        go_wp2_with fail
        rw [E2.out]
        refine (node34_any w4 v3 v4 _ _ _ (HC.out.1.beads.ext HD.out.2) HD.out.1.beads (by rw [bn_len]; have := L.out.1; have := NH.out; have := L.out.2 (n - 2) (by omega); omega)).mono ?_
        rintro e w5 ⟨v5, rfl, o5, h5⟩
        have HE := Lib.hid (And.intro o5 h5)
        clear o5 h5
        go_wp2
        go_ret
        have h04 := ((HA.out.2.trans HB.out.2).trans HC.out.2).trans HD.out.2
        exact ⟨_, rfl, HE.out.1.mono h04.size, h04.trans HE.out.2⟩
end Go.Proofs.Ytejknkhahjgdnaa
namespace Go.Proofs.Ytejknkhahjgdnaa
open Go Go.RowKit Go.Shelf
attribute [local go_sem] Oper.semAt_some

set_option maxRecDepth 100000 in
set_option maxHeartbeats 2000000 in
theorem avlOn_in (M : Nat → Prop) (Px : Tr → Prop) (l N by_ bo : Nat) (J Jx : List Tr → World → Prop) (hy0 : ¬ M by_) (ho0 : ¬ M bo)
    (hY : ∀ m pre x W, Px x → J pre W → pre.length < N → YieldAt Fence.wide m Try.prog l #[.pointer x.ptr] W fun e W' =>
      (e = .returned (.bool true) ∧ J (pre ++ [x]) W' ∧ Keep M W W') ∨ (e = .returned (.bool false) ∧ Jx (pre ++ [x]) W'))
    (hJE : ∀ pre W W', J pre W → Ext W W' → J pre W')
    (T : Tr) :
    ∀ (n : Nat) (pre : List Tr) (W : World), InH W T → Off M T → (∀ x ∈ T.pre, Px x) → J pre W → pre.length + T.pre.length ≤ N →
      Boxed W by_ 76 (.func (.yield l) #[] #[]) → Boxed W bo 76 (.func (.func 103) #[] #[.pointer (some ⟨by_, 0, none⟩), .pointer (some ⟨bo, 0, none⟩)]) →
      CallsIn Fence.wide n Try.prog 103 #[.pointer T.ptr, .pointer (some ⟨by_, 0, none⟩), .pointer (some ⟨bo, 0, none⟩)] W fun e W' =>
        (e = .returned (.bool true) ∧ J (pre ++ T.pre) W' ∧ Keep M W W') ∨ (e = .returned (.bool false) ∧ ∃ q, q <+: T.pre ∧ Jx (pre ++ q) W') := by
  have hfn : ∀ f, Fence.wide.fn f := fun _ => trivial
  induction T with
  | nil =>
    intro n pre W _ _ _ hJ _ _ _
    rw [Tr.ptr_nil]
    refine callsIn_of_wp Try.func103 rfl trivial ?_ rfl
    simp only [Try.ntmps103, List.size_toArray, List.length_cons, List.length_nil, Nat.reduceAdd, Nat.reduceSub, Array.replicate_succ, Array.replicate_zero, List.push_toArray, List.append_toArray, List.nil_append, List.cons_append]
    gi_wp2_with fail
    refine wpIn_region_G (fun j => !(List.contains (α := Nat) [5, 10, 16] j)) (by kernel_rfl) ?_
    refine batchG hfn (fuel := 15) [0, 1, 2, 3, 4] (by kernel_rfl) rfl ?_
    repeat (go_big_quiet_step ((fail)))
    refine wpQuiet_nil ?_
    refine wpAnyG_skip hfn (j := 5) (by kernel_rfl) rfl rfl ?_
    simp only [Act.put, List.setIfInBounds_toArray, List.set_cons_zero, List.set_cons_succ]
    refine batchG hfn (fuel := 11) [6, 7, 8] (by kernel_rfl) rfl ?_
    repeat (go_big_quiet_step ((fail)))
    refine wpQuiet_nil ?_
    refine wpAnyG_skip hfn (j := 9) (by kernel_rfl) rfl rfl ?_
    simp only [Act.put, List.setIfInBounds_toArray, List.set_cons_zero, List.set_cons_succ]
    refine wpAnyG_skip hfn (j := 10) (by kernel_rfl) rfl rfl ?_
    simp only [Act.put, List.setIfInBounds_toArray, List.set_cons_zero, List.set_cons_succ]
    refine batchG hfn (fuel := 5) [11, 12, 13, 14] (by kernel_rfl) rfl ?_
    repeat (go_big_quiet_step ((fail)))
    refine wpQuiet_nil ?_
    refine wpAnyG_skip hfn (j := 15) (by kernel_rfl) rfl rfl ?_
    simp only [Act.put, List.setIfInBounds_toArray, List.set_cons_zero, List.set_cons_succ]
    refine wpAnyG_skip hfn (j := 16) (by kernel_rfl) rfl rfl ?_
    simp only [Act.put, List.setIfInBounds_toArray, List.set_cons_zero, List.set_cons_succ]
    refine batchG hfn (fuel := 0) [17, 18, 19] (by kernel_rfl) rfl ?_
    repeat (go_big_quiet_step ((fail)))
    refine wpQuiet_nil ?_
    refine wpAnyG_done (by kernel_rfl) ?_
    refine calmQ_normal ?_
    gi_wp2
    go_ret
    exact .inl ⟨rfl, by simpa [Tr.pre] using hJE _ _ _ hJ (Ext.drew W), Keep.drew W⟩
  | node b tl k v g tr ihl ihr =>
    intro n pre W ht ho hP hJ hN hy hbo
    simp only [Tr.pre, List.length_cons, List.length_append] at hN
    have hY1 := hY n pre (.node b tl k v g tr) W.drew (hP _ (List.mem_cons_self ..)) (hJE _ _ _ hJ (Ext.drew W)) (by omega)
    rw [Tr.ptr_node] at hY1
    have Hl := Lib.hid ihl
    have Hr := Lib.hid ihr
    clear ihl ihr hY
    have HP := Lib.hid hP
    clear hP
    have hcy := cell_all hy.cell
    have hx0 := Ext.drew W
    obtain ⟨fn, tmps, assign, body, hy1, hR⟩ := hY1
    have HR := Lib.hid hR
    clear hR
    rw [Tr.ptr_node]
    refine callsIn_of_wp Try.func103 rfl trivial ?_ rfl
    simp only [Try.ntmps103, List.size_toArray, List.length_cons, List.length_nil, Nat.reduceAdd, Nat.reduceSub, Array.replicate_succ, Array.replicate_zero, List.push_toArray, List.append_toArray, List.nil_append, List.cons_append]
    gi_wp2_with fail
    refine wpIn_region_G (fun j => !(List.contains (α := Nat) [5, 10, 16] j)) (by kernel_rfl) ?_
    refine batchG hfn (fuel := 15) [0, 1, 2, 3, 4] (by kernel_rfl) rfl ?_
    repeat (go_big_quiet_step ((fail)))
    refine wpQuiet_nil ?_
    refine wpAnyG_one (j := 5) (by kernel_rfl) rfl ?_
    gi_wp2_with fail
    clear hcy hx0 hy1
    refine ⟨wide_room _, (RoundIn.any HR.out).mono ?_⟩
    rintro e W1 (⟨rfl, hJ1, hk1⟩ | ⟨rfl, hJx1⟩)
    · have hk01 := (Keep.drew (M := M) W).trans hk1
      have ht1 := InH.keep hk01 ho ht
      have hy1 := hk01.boxed hy0 hy
      have hb1 := hk01.boxed ho0 hbo
      clear hy hbo ht hJ hk1
      have hco := cell_all hb1.cell
      have hx1 := Ext.refl W1
      gi_wp2_with fail
      refine onePost_any (by kernel_rfl) ?_
      refine batchG hfn (fuel := 11) [6, 7, 8] (by kernel_rfl) rfl ?_
      repeat (go_big_quiet_step ((fail)))
      refine wpQuiet_nil ?_
      refine wpAnyG_one (j := 9) (by kernel_rfl) rfl ?_
      gi_wp2_with fail
      rw [← Tr.ptr_node b tl k v g tr]
      clear hco hx1
      refine ⟨wide_room _, (callsIn_wide.2 (left_any _ _ ht1)).mono ?_⟩
      rintro e W2 ⟨rfl, h2⟩
      gi_wp2_with fail
      refine onePost_ext (h2) ?_
      refine wpAnyG_one (j := 10) (by kernel_rfl) rfl ?_
      gi_wp2_with fail
      simp only [Tr.left_node]
      have ht2 := ht1.ext h2
      have hb2 := (Keep.ext (M := M) h2).boxed ho0 hb1
      have hy2 := (Keep.ext (M := M) h2).boxed hy0 hy1
      have hJ2 := hJE _ _ _ hJ1 h2
      have hk02 := hk01.trans (Keep.ext h2)
      clear ht1 hb1 hy1 hJ1 hk01
      refine ⟨wide_room _, (Hl.out (n - 1) _ W2 ht2.2.1 ho.2.1 (fun x hx => HP.out x (List.mem_cons_of_mem _ (List.mem_append_left _ hx))) hJ2 (by simp; omega) hy2 hb2).mono ?_⟩
      rintro e W3 (⟨rfl, hJ3, hk3⟩ | ⟨rfl, q, hq, hJx3⟩)
      · have ht3 := InH.keep hk3 ho ht2
        have hy3 := hk3.boxed hy0 hy2
        have hb3 := hk3.boxed ho0 hb2
        have hk03 := hk02.trans hk3
        clear hk3 hk02 hJ2 hb2 hy2 ht2
        have hco := cell_all hb3.cell
        have hx3 := Ext.refl W3
        gi_wp2_with fail
        refine onePost_any (by kernel_rfl) ?_
        refine batchG hfn (fuel := 5) [11, 12, 13, 14] (by kernel_rfl) rfl ?_
        repeat (go_big_quiet_step ((fail)))
        refine wpQuiet_nil ?_
        refine wpAnyG_one (j := 15) (by kernel_rfl) rfl ?_
        gi_wp2_with fail
        clear hco hx3
        refine ⟨wide_room _, (callsIn_wide.2 (right_any _ _ ht3)).mono ?_⟩
        rintro e W4 ⟨rfl, h4⟩
        gi_wp2_with fail
        refine onePost_ext (h4) ?_
        refine wpAnyG_one (j := 16) (by kernel_rfl) rfl ?_
        gi_wp2_with fail
        simp only [Tr.right_node]
        have ht4 := ht3.ext h4
        have hb4 := (Keep.ext (M := M) h4).boxed ho0 hb3
        have hy4 := (Keep.ext (M := M) h4).boxed hy0 hy3
        have hJ4 := hJE _ _ _ hJ3 h4
        have hk04 := hk03.trans (Keep.ext h4)
        clear ht3 hb3 hy3 hJ3 hk03
        refine ⟨wide_room _, (Hr.out (n - 1) _ W4 ht4.2.2 ho.2.2 (fun x hx => HP.out x (List.mem_cons_of_mem _ (List.mem_append_right _ hx))) hJ4 (by simp; omega) hy4 hb4).mono ?_⟩
        rintro e W5 (⟨rfl, hJ5, hk5⟩ | ⟨rfl, q, hq, hJx5⟩)
        · gi_wp2_with fail
          refine onePost_any (by kernel_rfl) ?_
          refine batchG hfn (fuel := 0) [17, 18, 19] (by kernel_rfl) rfl ?_
          repeat (go_big_quiet_step ((fail)))
          refine wpQuiet_nil ?_
          refine wpAnyG_done (by kernel_rfl) ?_
          refine calmQ_normal ?_
          gi_wp2
          go_ret
          exact .inl ⟨rfl, by simpa [Tr.pre, List.append_assoc] using hJ5, hk04.trans hk5⟩
        · gi_wp2_with fail
          refine onePost_any (by kernel_rfl) ?_
          refine batchG hfn (fuel := 0) [17, 18, 19] (by kernel_rfl) rfl ?_
          repeat (go_big_quiet_step ((fail)))
          refine wpQuiet_nil ?_
          refine wpAnyG_done (by kernel_rfl) ?_
          refine calmQ_normal ?_
          gi_wp2
          go_ret
          obtain ⟨r', hr'⟩ := hq
          exact .inr ⟨rfl, .node b tl k v g tr :: (tl.pre ++ q), ⟨r', by simp [Tr.pre, ← hr']⟩, by simpa [List.append_assoc] using hJx5⟩
      · gi_wp2_with fail
        refine onePost_any (by kernel_rfl) ?_
        refine batchG hfn (fuel := 5) [11, 12, 13, 14] (by kernel_rfl) rfl ?_
        repeat (go_big_quiet_step ((fail)))
        refine wpQuiet_nil ?_
        refine wpAnyG_skip hfn (j := 15) (by kernel_rfl) rfl rfl ?_
        simp only [Act.put, List.setIfInBounds_toArray, List.set_cons_zero, List.set_cons_succ]
        refine wpAnyG_skip hfn (j := 16) (by kernel_rfl) rfl rfl ?_
        simp only [Act.put, List.setIfInBounds_toArray, List.set_cons_zero, List.set_cons_succ]
        refine batchG hfn (fuel := 0) [17, 18, 19] (by kernel_rfl) rfl ?_
        repeat (go_big_quiet_step ((fail)))
        refine wpQuiet_nil ?_
        refine wpAnyG_done (by kernel_rfl) ?_
        refine calmQ_normal ?_
        gi_wp2
        go_ret
        obtain ⟨r', hr'⟩ := hq
        exact .inr ⟨rfl, .node b tl k v g tr :: q, ⟨r' ++ tr.pre, by simp [Tr.pre, ← hr']⟩, by simpa [List.append_assoc] using hJx3⟩
    · gi_wp2_with fail
      refine onePost_any (by kernel_rfl) ?_
      refine batchG hfn (fuel := 11) [6, 7, 8] (by kernel_rfl) rfl ?_
      repeat (go_big_quiet_step ((fail)))
      refine wpQuiet_nil ?_
      refine wpAnyG_skip hfn (j := 9) (by kernel_rfl) rfl rfl ?_
      simp only [Act.put, List.setIfInBounds_toArray, List.set_cons_zero, List.set_cons_succ]
      refine wpAnyG_skip hfn (j := 10) (by kernel_rfl) rfl rfl ?_
      simp only [Act.put, List.setIfInBounds_toArray, List.set_cons_zero, List.set_cons_succ]
      refine batchG hfn (fuel := 5) [11, 12, 13, 14] (by kernel_rfl) rfl ?_
      repeat (go_big_quiet_step ((fail)))
      refine wpQuiet_nil ?_
      refine wpAnyG_skip hfn (j := 15) (by kernel_rfl) rfl rfl ?_
      simp only [Act.put, List.setIfInBounds_toArray, List.set_cons_zero, List.set_cons_succ]
      refine wpAnyG_skip hfn (j := 16) (by kernel_rfl) rfl rfl ?_
      simp only [Act.put, List.setIfInBounds_toArray, List.set_cons_zero, List.set_cons_succ]
      refine batchG hfn (fuel := 0) [17, 18, 19] (by kernel_rfl) rfl ?_
      repeat (go_big_quiet_step ((fail)))
      refine wpQuiet_nil ?_
      refine wpAnyG_done (by kernel_rfl) ?_
      refine calmQ_normal ?_
      gi_wp2
      go_ret
      exact .inr ⟨rfl, [.node b tl k v g tr], ⟨tl.pre ++ tr.pre, rfl⟩, hJx1⟩
end Go.Proofs.Ytejknkhahjgdnaa
namespace Go.Proofs.Ytejknkhahjgdnaa
open Go Go.RowKit

/-- the tag of a node that is made of two. -/
def avlTag (l r : Tr) : Int := IntKind.u64.wrap (max l.tag r.tag + 1)
theorem avlTag_left {l r : Tr} (h : r.tag ≤ l.tag) : IntKind.u64.wrap (l.tag + 1) = avlTag l r := by unfold avlTag; rw [Int.max_eq_left h]
theorem avlTag_right {l r : Tr} (h : ¬ r.tag ≤ l.tag) : IntKind.u64.wrap (r.tag + 1) = avlTag l r := by unfold avlTag; rw [Int.max_eq_right (by omega)]
/-- by how much a tree is higher on the right. -/
def avlLean (t : Tr) : Int := wrap64 (IntKind.u64.wrap (t.right.tag - t.left.tag))
end Go.Proofs.Ytejknkhahjgdnaa
namespace Go.Proofs.Ytejknkhahjgdnaa
open Go Go.RowKit Go.Shelf
attribute [local go_sem] Oper.semAt_some

theorem ext_of_abides {β : Type} {B : Nat} {J : β → World → Prop} (hJ : AbidesFrom B J) {s : β} {W W' : World} (h : J s W) (hE : Ext W W') : J s W' :=
  hJ s W W' none h ⟨hE.os, hE.tape, hE.output, Below.size hE, fun k hk _ => Below.block hE k hk⟩ (fun r e => by cases e)
theorem inH_pre {w : World} : ∀ {t : Tr}, InH w t → ∀ x ∈ t.pre, InH w x
  | .nil, _, _, hx => by simp [Tr.pre] at hx
  | .node b l k v g r, h, x, hx => by
    simp only [Tr.pre, List.mem_cons, List.mem_append] at hx
    rcases hx with rfl | hx | hx
    · exact h
    · exact inH_pre h.2.1 x hx
    · exact inH_pre h.2.2 x hx
/-- lists of what has a property, as lists. -/
def Under {Px : Tr → Prop} (J : List { x : Tr // Px x } → World → Prop) (l : List Tr) (W : World) : Prop := ∃ l' : List { x : Tr // Px x }, l'.map (·.1) = l ∧ J l' W
set_option maxHeartbeats 1000000 in
/-- **avl.beads(t) hands back what goes over t's nodes, each ahead of its sides.** -/
theorem avlBeads_stops (M : Nat → Prop) (Px : Tr → Prop) (n Bt : Nat) (T : Tr) (w : World) (hM : ∀ i, M i → i < w.heap.size) (hBt : Boxed w Bt 43 (.pointer T.ptr)) (hT : InH w T) (ho : Off M T) (hP : ∀ x ∈ T.pre, Px x) :
    SeqStopsK Fence.wide n Try.prog 102 #[.pointer (some ⟨Bt, 0, none⟩)] (fun x : { x : Tr // Px x } => #[Value.pointer x.1.ptr]) (Keep M) (fun ys => ys.map (·.1) = T.pre) (fun q => q.map (·.1) <+: T.pre) T.pre.length w := by
  intro l J Jx W hW hJ hJx hY h0
  have hsz : w.heap.size ≤ W.heap.size := hW.size
  have hE : Ext w W := hW
  have hW2 : Ext W ((W.alloc (.cells #[.func (.yield l) #[] #[]] 76)).alloc (.cells #[.func (.func 103) #[] #[.pointer (some ⟨W.heap.size, 0, none⟩), .pointer (some ⟨W.heap.size + 1, 0, none⟩)]] 76)) := ((Ext.refl W).alloc _).alloc _
  have hon := (avlOn_in M Px l T.pre.length W.heap.size (W.heap.size + 1) (Under J) (Under Jx) (fun h => by have := hM _ h; omega) (fun h => by have := hM _ h; omega)
    (fun m pre x W hx ⟨l', hl', hj⟩ hl => YieldAt.any m (YieldAt.mono (hY l' ⟨x, hx⟩ W hj (by rw [← hl'] at hl; simpa using hl)) fun e W' h => h.elim
      (fun ⟨he, h1, h2⟩ => .inl ⟨he, ⟨l' ++ [⟨x, hx⟩], by simp [hl'], h1⟩, h2⟩) (fun ⟨he, h1⟩ => .inr ⟨he, ⟨l' ++ [⟨x, hx⟩], by simp [hl'], h1⟩⟩)))
    (fun pre W W' ⟨l', hl', h⟩ hE => ⟨l', hl', ext_of_abides hJ h hE⟩) T (n - 1) [] _ ((hT.ext hE).ext hW2) ho hP ⟨[], rfl, ext_of_abides hJ h0 hW2⟩ (by simp)
    ((Boxed.new W _ _).alloc _) (by have := Boxed.new (W.alloc (.cells #[.func (.yield l) #[] #[]] 76)) 76 (.func (.func 103) #[] #[.pointer (some ⟨W.heap.size, 0, none⟩), .pointer (some ⟨W.heap.size + 1, 0, none⟩)]); simpa using this))
  have Hon := Lib.hid hon
  clear hon hY hP
  have hcb := (show Boxed W Bt _ _ from hE.get hBt).cell
  have hlb := (show Boxed W Bt _ _ from hE.get hBt).lt
  have hfn : ∀ f, Fence.wide.fn f := fun _ => trivial
  refine callsIn_of_wp Try.func102 rfl trivial ?_ rfl
  simp only [Try.ntmps102, List.size_toArray, List.length_cons, List.length_nil, Nat.reduceAdd, Nat.reduceSub, Array.replicate_succ, Array.replicate_zero, List.push_toArray, List.append_toArray, List.nil_append, List.cons_append]
  gi_wp2_with fail
  refine ⟨wide_room _, Hon.out.mono ?_⟩
  rintro e W1 (⟨rfl, ⟨l', hl', hJ1⟩, -⟩ | ⟨rfl, q, hq, l', hl', hJ1⟩)
  · gi_wp2
    go_end0
    exact ⟨⟨_, rfl⟩, .inl ⟨_, by simpa using hl', hJ1⟩⟩
  · gi_wp2
    go_end0
    exact ⟨⟨_, rfl⟩, .inr ⟨l', by rw [hl']; simpa using hq, hJ1⟩⟩
theorem avlBeads_any (w : World) (p : Option Addr) : Calls Try.prog 88 #[.pointer p] w fun e w' => e = .returned (.func (.func 102) #[] #[.pointer (some ⟨w.heap.size, 0, none⟩)]) ∧ w' = w.alloc (.cells #[.pointer p] 43) := by
  go_enter Try.func88, Try.ntmps88
  go_wp2
  go_ret
  exact ⟨rfl, rfl⟩
/-- what avl.looks lays into memory. -/
def looksW (w : World) : World := (w.alloc (.cells #[.func (.func 99) #[] #[]] 126)).alloc
  (.cells #[.func (.func 100) #[] #[.pointer (some ⟨w.heap.size, 0, none⟩)], .int .i64 140, .func (.func 101) #[] #[.pointer (some ⟨w.heap.size, 0, none⟩)], .int .i64 8] 114)
set_option maxHeartbeats 400000 in
theorem looks_any (w : World) : Calls Try.prog 87 #[] w fun e w' => e = .returned (.slice (some ⟨w.heap.size + 1, 0, none⟩) 2 2) ∧ w' = looksW w := by
  go_enter Try.func87, Try.ntmps87
  go_wp2
  go_ret
  exact ⟨rfl, rfl⟩
set_option maxHeartbeats 400000 in
theorem tags_any (w : World) (t : Tr) (ht : InH w t) : Calls Try.prog 99 #[.pointer t.ptr] w (Ret (.tuple #[.int .u64 (min t.left.tag t.right.tag), .int .u64 (max t.left.tag t.right.tag)]) w) := by
  go_enter Try.func99, Try.ntmps99
  go_wp2_with fail
  refine (left_any _ t ht).mono ?_
  rintro e w1 ⟨rfl, h1⟩
  go_wp2_with fail
  refine (tag_any _ _ ((left_ok ht).ext h1)).mono ?_
  rintro e w2 ⟨rfl, h2⟩
  have h12 := h1.trans h2
  go_wp2_with fail
  refine (right_any _ t (ht.ext h12)).mono ?_
  rintro e w3 ⟨rfl, h3⟩
  go_wp2_with fail
  refine (tag_any _ _ ((right_ok ht).ext (h12.trans h3))).mono ?_
  rintro e w4 ⟨rfl, h4⟩
  have hE := (h12.trans h3).trans h4
  go_wp2
  all_goals
    go_ret2
    exact ⟨ret_two (by omega) (by omega), hE⟩
/-- the first thing that may be wrong with a node. -/
def avlBadTag (t : Tr) : Bool := t.tag == 0 || IntKind.u64.wrap (t.tag - 1) != max t.left.tag t.right.tag
/-- the second one. -/
def avlBadTree (t : Tr) : Bool := decide (1 < IntKind.u64.wrap (max t.left.tag t.right.tag - min t.left.tag t.right.tag))
set_option maxHeartbeats 400000 in
theorem wrong1_any (w : World) (t : Tr) (B : Nat) (ht : InH w t) (hB : Boxed w B 126 (.func (.func 99) #[] #[])) : Calls Try.prog 100 #[.pointer t.ptr, .pointer (some ⟨B, 0, none⟩)] w (Ret (.bool (avlBadTag t)) w) := by
  have hc := hB.cell
  go_enter Try.func100, Try.ntmps100
  go_wp2_with fail
  refine (tags_any _ t ht).mono ?_
  rintro e w1 ⟨rfl, h1⟩
  go_wp2_with fail
  refine (tag_any _ t (ht.ext h1)).mono ?_
  rintro e w2 ⟨rfl, h2⟩
  have h := h1.trans h2
  clear hc
  by_cases h0 : t.tag = 0
  · have e := beq_iff_eq.2 h0
    clear h0
    have hE := Lib.hid e
    go_wp2
    go_ret
    exact ⟨ret_bool (by simp [avlBadTag, hE.out]), h⟩
  · have e := beq_eq_false_iff_ne.2 h0
    have hE := Lib.hid e
    clear h0
    go_wp2_with fail
    refine (tag_any _ t (ht.ext h)).mono ?_
    rintro e w3 ⟨rfl, h3⟩
    go_wp2
    go_ret
    exact ⟨ret_bool (by simp [avlBadTag, hE.out]), h.trans h3⟩
set_option maxHeartbeats 400000 in
theorem wrong2_any (w : World) (t : Tr) (B : Nat) (ht : InH w t) (hB : Boxed w B 126 (.func (.func 99) #[] #[])) : Calls Try.prog 101 #[.pointer t.ptr, .pointer (some ⟨B, 0, none⟩)] w (Ret (.bool (avlBadTree t)) w) := by
  have hc := hB.cell
  go_enter Try.func101, Try.ntmps101
  go_wp2_with fail
  refine (tags_any _ t ht).mono ?_
  rintro e w1 ⟨rfl, h1⟩
  go_wp2
  go_ret
  exact ⟨ret_bool (by simp [avlBadTree]), h1⟩
end Go.Proofs.Ytejknkhahjgdnaa
namespace Go.Proofs.Ytejknkhahjgdnaa
open Go Go.RowKit Go.Shelf
attribute [local go_sem] Oper.semAt_some

/-- the first node that is wrong, and how. -/
def avlFirst : List Tr → Nat × Int
  | [] => (0, 0)
  | t :: r => if avlBadTag t then (0, 140) else if avlBadTree t then (0, 8) else ((avlFirst r).1 + 1, (avlFirst r).2)

theorem avlFirst_good : ∀ {l : List Tr}, (∀ t ∈ l, avlBadTag t = false ∧ avlBadTree t = false) → avlFirst l = (l.length, 0)
  | [], _ => rfl
  | t :: l, h => by
    have h0 := h t (List.mem_cons_self ..)
    have h1 := avlFirst_good (l := l) (fun x hx => h x (List.mem_cons_of_mem _ hx))
    simp [avlFirst, h0.1, h0.2, h1]
theorem avlFirst_bad {x : Tr} {r : List Tr} : ∀ {l : List Tr}, (∀ t ∈ l, avlBadTag t = false ∧ avlBadTree t = false) → avlFirst (l ++ x :: r) = (l.length + (avlFirst (x :: r)).1, (avlFirst (x :: r)).2)
  | [], _ => by simp
  | t :: l, h => by
    have h0 := h t (List.mem_cons_self ..)
    have h1 := avlFirst_bad (l := l) (x := x) (r := r) (fun x hx => h x (List.mem_cons_of_mem _ hx))
    rw [List.cons_append, avlFirst, if_neg (by simp [h0.1]), if_neg (by simp [h0.2]), h1]
    simp; omega
theorem wrap64_succ (a : Int) : wrap64 (wrap64 a + 1) = wrap64 (a + 1) := by unfold wrap64; omega
/-- the world ahead of Check's loop. -/
def chkW (w : World) (p : Option Addr) : World :=
  ((((((w.alloc (.cells #[.int .i64 0] 3)).alloc (.cells #[.int .i64 0] 24)).alloc (.cells #[.func (.func 99) #[] #[]] 126)).alloc
      (.cells #[.func (.func 100) #[] #[.pointer (some ⟨w.heap.size + 1 + 1, 0, none⟩)], .int .i64 140, .func (.func 101) #[] #[.pointer (some ⟨w.heap.size + 1 + 1, 0, none⟩)], .int .i64 8] 114)).alloc
      (.cells #[.slice (some ⟨w.heap.size + 1 + 1 + 1, 0, none⟩) 2 2] 111)).alloc (.cells #[.pointer p] 43))
/-- what of it stays through the loop. -/
structure ChkStays (N : Nat) (W : World) : Prop where
  tags : Boxed W (N + 1 + 1) 126 (.func (.func 99) #[] #[])
  looks : W.heap[N + 1 + 1 + 1]? = some (.cells #[.func (.func 100) #[] #[.pointer (some ⟨N + 1 + 1, 0, none⟩)], .int .i64 140, .func (.func 101) #[] #[.pointer (some ⟨N + 1 + 1, 0, none⟩)], .int .i64 8] 114 (0, 0))
  all : Boxed W (N + 1 + 1 + 1 + 1) 111 (.slice (some ⟨N + 1 + 1 + 1, 0, none⟩) 2 2)
theorem ChkStays.keep {N : Nat} {W W' : World} (h : ChkStays N W) (k : Keep (fun i => i = N ∨ i = N + 1) W W') : ChkStays N W' :=
  ⟨k.boxed (by omega) h.tags, k.cells _ _ _ _ (by omega) h.looks, k.boxed (by omega) h.all⟩
theorem chkW_all (w : World) (p : Option Addr) : Ext w (chkW w p) ∧ (chkW w p).heap.size = w.heap.size + 6 ∧ Boxed (chkW w p) w.heap.size 3 (.int .i64 0) ∧ Boxed (chkW w p) (w.heap.size + 1) 24 (.int .i64 0) ∧
    Boxed (chkW w p) (w.heap.size + 1 + 1 + 1 + 1 + 1) 43 (.pointer p) ∧ ChkStays w.heap.size (chkW w p) := by
  refine ⟨((((((Ext.refl w).alloc _).alloc _).alloc _).alloc _).alloc _).alloc _, by simp [chkW], ?_, ?_, ?_, ?_, ?_, ?_⟩ <;> unfold chkW <;> (try unfold Boxed) <;> (repeat (first | exact alloc_at _ _ _ (by simp) | rw [alloc_lt _ _ _ (by simp <;> omega)]))

theorem results_cells2 {fn : Func} {t u : Tmp} {A B : TypeId} (h : fn.results = #[.cell t A, .cell u B]) (tmps : Array Value) (w : World) {a b : Value} {p q : Addr} (ht : tmps.getD t undef = .pointer (some p)) (hu : tmps.getD u undef = .pointer (some q))
    (hA : ∀ w : World, (isAgg A).run Try.prog w = .ok false w) (hB : ∀ w : World, (isAgg B).run Try.prog w = .ok false w) (hp : w.cell? p = some a) (hq : w.cell? q = some b) :
    (results fn tmps).run Try.prog w = .ok (.tuple #[a, b]) w := by
  simp only [Array.getD_eq_getD_getElem?] at ht hu
  simp [results, h, ht, hu, loadVar, hA, hB, asAddr, hp, hq]
set_option maxRecDepth 100000 in
set_option maxHeartbeats 2000000 in
theorem avlCheck_in (n : Nat) (hn : Hid (1 ≤ n)) (T : Tr) (w : World) (hT : InH w T) :
    CallsIn Fence.wide n Try.prog 67 #[.pointer T.ptr] w (Ret (.tuple #[.int .i64 (wrap64 (avlFirst T.pre).1), .int .i64 (avlFirst T.pre).2]) w) := by
  have hfn : ∀ f, Fence.wide.fn f := fun _ => trivial
  refine callsIn_of_wp_marks Try.func67 rfl trivial ?_ rfl
  simp only [Try.ntmps67, List.size_toArray, List.length_cons, List.length_nil, Nat.reduceAdd, Nat.reduceSub, Array.replicate_succ, Array.replicate_zero, List.push_toArray, List.append_toArray, List.nil_append, List.cons_append]
  gi_wp2_with fail
  refine wpIn_scope_wide ?_
  gi_wp2_with fail
  refine ⟨wide_room _, (callsIn_wide.2 (looks_any _)).mono ?_⟩
  rintro e w1 ⟨rfl, rfl⟩
  unfold looksW
  gi_wp2_with fail
  refine wpIn_label ?_
  gi_wp2_with fail
  refine ⟨wide_room _, (callsIn_wide.2 (avlBeads_any _ _)).mono ?_⟩
  rintro e w2 ⟨rfl, rfl⟩
  gi_wp2_with fail
  change Code.wpIn _ _ _ _ _ _ (chkW w T.ptr)
  obtain ⟨hE, hsz, hat, he, htb, hst⟩ := chkW_all w T.ptr
  generalize chkW w T.ptr = W0 at *
  generalize hN : w.heap.size = N at *
  have HN := Lib.hid hN
  clear hN
  refine wpIn_rangeFunc_ownG rfl (n := n) (w := W0) hn.out (gf := 102) (lb := #[.pointer (some ⟨N + 1 + 1 + 1 + 1 + 1, 0, none⟩)]) rfl trivial (enters_of Try.func102 (by kernel_rfl) rfl)
    (avlBeads_stops (fun i => i = N ∨ i = N + 1) (InH w) (n - 1) _ T W0 (by omega) htb (hT.ext hE) (InH.off (fun i h => by rw [HN.out]; omega) hT) (fun x hx => inH_pre hT x hx))
    (fun h k => Keep.trans h k) (fun W l o o' _ h ho _ => Keep.putObj W l o o' h ho) (RowKit.Below.refl _ _) (fun _ => rfl)
    (fun pre W => Boxed W N 3 (.int .i64 (wrap64 pre.length)) ∧ Boxed W (N + 1) 24 (.int .i64 0) ∧ (∀ y ∈ pre, avlBadTag y.1 = false ∧ avlBadTree y.1 = false) ∧ Keep (fun i => i = N ∨ i = N + 1) W0 W ∧ Below N W0 W)
    (fun c pre W => c = .exit 0 ∧ ∃ q x, pre = q ++ [x] ∧ (∀ y ∈ q, avlBadTag y.1 = false ∧ avlBadTree y.1 = false) ∧ Boxed W N 3 (.int .i64 (wrap64 q.length)) ∧
      (avlBadTag x.1 = true ∧ Boxed W (N + 1) 24 (.int .i64 140) ∨ avlBadTag x.1 = false ∧ avlBadTree x.1 = true ∧ Boxed W (N + 1) 24 (.int .i64 8)) ∧ Below N W0 W)
    ?own ?ownx ⟨(by simpa [wrap64] using hat), he, by simp, Keep.refl _ _, Below.refl _ _⟩ (fun x => { tmps := #[Value.pointer T.ptr, undef, Value.pointer (some ⟨N, 0, none⟩), Value.pointer (some ⟨N + 1, 0, none⟩), Value.pointer (some ⟨N + 1 + 1 + 1 + 1, 0, none⟩), Value.pointer x.1.ptr, undef, undef, Value.slice (some ⟨N + 1 + 1 + 1, 0, none⟩) 2 2, Value.pointer T.ptr, Value.func (Fn.func 102) #[] #[Value.pointer (some ⟨N + 1 + 1 + 1 + 1 + 1, 0, none⟩)], Value.pointer x.1.ptr, undef, undef, undef, undef, undef, undef, undef, undef, undef, undef, undef, undef, undef, undef, undef, undef, undef], defers := [] }) ?assign ?body ?done ?stop
  case own =>
    rintro s A A' row ⟨h1, h2, h3, h4, h5⟩ hg hr
    exact ⟨boxed_grown h1 hg hr, boxed_grown h2 hg hr, h3, keep_grown h4 hg hr, below_grown (by omega) (by omega) h5 hg hr⟩
  case ownx =>
    rintro c s A A' row ⟨h0, q, x, h1, h2, h3, h4, h5⟩ hg hr
    exact ⟨h0, q, x, h1, h2, boxed_grown h3 hg hr, h4.imp (fun h => ⟨h.1, boxed_grown h.2 hg hr⟩) (fun h => ⟨h.1, h.2.1, boxed_grown h.2.2 hg hr⟩), below_grown (by omega) (by omega) h5 hg hr⟩
  case assign =>
    intro l x W K hK
    gi_wp2
    exact hK
  case body =>
    rintro l pre x W ⟨hat, he, hg, hk, hb⟩ _
    have hst' := hst.keep hk
    have hx := InH.keep hk (InH.off (fun i h => by rw [HN.out]; omega) x.2) (x.2.ext hE)
    have hle : N + 6 ≤ W.heap.size := by have := hk.size; omega
    have hal := hst'.all.cell
    have hl0 := cell_of hst'.looks 0
    have hl1 := cell_of hst'.looks 1
    have hl2 := cell_of hst'.looks 2
    have hl3 := cell_of hst'.looks 3
    simp at hl0 hl1 hl2 hl3
    have hg' := Lib.hid hg
    have hat' := hat
    have he' := he
    clear hg hsz hat he
    gi_wp2_with fail
    refine wpIn_loop_rounds 3 ?_
    rw [roundsIn_succ]
    gi_wp2_with fail
    have hB1 := hat'
    by_cases e1 : avlBadTag x.1 = true
    · refine ⟨wide_room _, (CallsIn.inRound l (callsIn_wide.2 (wrong1_any _ x.1 _ (hx.ext ((Ext.refl W).alloc _)) (hst'.tags.alloc _)))).mono ?_⟩
      rintro e W1 ⟨rfl, h1⟩
      have h01 : Ext W W1 := ((Ext.refl W).alloc _).trans h1
      have hcn := cell_keep h1 (cell_of (alloc_at W (.cells #[.func (.func 100) #[] #[.pointer (some ⟨N + 1 + 1, 0, none⟩)], .int .i64 140] 114) _ rfl) 1)
      have he1 := (Keep.ext (M := fun _ => False) h01).boxed (fun h => h) he'
      have hce := he1.cell
      have hfe := he1.frozen
      clear hl0 hl1 hl2 hl3 hal
      gi_wp2
      have hBe : Below N W0 W1 := hb.trans (RowKit.Below.mono h01 (by omega))
      exact ⟨(keepsFrom_ext h01).trans (keepsFrom_set _ _ _), rfl, pre, x, rfl, hg'.out, ((Keep.ext (M := fun _ => False) h01).boxed (fun h => h) hat').other (by omega) _, .inl ⟨e1, he1.set _⟩, hBe.setCell (p := ⟨N + 1, 0, none⟩) (Nat.le_succ N) _⟩
    · have e1' : avlBadTag x.1 = false := by simpa using e1
      clear e1
      refine ⟨wide_room _, (CallsIn.inRound l (callsIn_wide.2 (wrong1_any _ x.1 _ (hx.ext ((Ext.refl W).alloc _)) (hst'.tags.alloc _)))).mono ?_⟩
      rintro e W1 ⟨rfl, h1⟩
      have h01 : Ext W W1 := ((Ext.refl W).alloc _).trans h1
      clear hl0 hl1 hl2 hl3 hal h1
      have hst1 := hst'.keep (Keep.ext h01)
      have hl2 := cell_of hst1.looks 2
      have hl3 := cell_of hst1.looks 3
      simp at hl2 hl3
      have hlt1 : N + 6 ≤ W1.heap.size := Nat.le_trans hle h01.size
      gi_wp2_with fail
      rw [roundsIn_succ]
      gi_wp2_with fail
      refine ⟨wide_room _, (CallsIn.inRound l (callsIn_wide.2 (wrong2_any _ x.1 _ ((hx.ext h01).ext ((Ext.refl W1).alloc _)) (hst1.tags.alloc _)))).mono ?_⟩
      rintro e W2 ⟨rfl, h2⟩
      have h12 : Ext W1 W2 := ((Ext.refl W1).alloc _).trans h2
      have h02 := h01.trans h12
      have hcn := cell_keep h2 (cell_of (alloc_at W1 (.cells #[.func (.func 101) #[] #[.pointer (some ⟨N + 1 + 1, 0, none⟩)], .int .i64 8] 114) _ rfl) 1)
      have he2 := (Keep.ext (M := fun _ => False) h02).boxed (fun h => h) he'
      have hat2 := (Keep.ext (M := fun _ => False) h02).boxed (fun h => h) hat'
      have hBe : Below N W0 W2 := hb.trans (RowKit.Below.mono h02 (by omega))
      clear hl2 hl3 hst1 h2
      by_cases e2 : avlBadTree x.1 = true
      · have hce := he2.cell
        have hfe := he2.frozen
        gi_wp2
        exact ⟨(keepsFrom_ext h02).trans (keepsFrom_set _ _ _), rfl, pre, x, rfl, hg'.out, hat2.other (by omega) _, .inr ⟨e1', e2, he2.set _⟩, hBe.setCell (p := ⟨N + 1, 0, none⟩) (Nat.le_succ N) _⟩
      · have e2' : avlBadTree x.1 = false := by simpa using e2
        clear e2
        have hce := hat2.cell
        have hfe := hat2.frozen
        gi_wp2_with fail
        rw [roundsIn_succ]
        gi_wp2
        have hBf := hBe.setCell (p := ⟨N, 0, none⟩) (Nat.le_refl N) (.int .i64 (wrap64 (wrap64 pre.length + 1)))
        have hbx := hat2.set (.int .i64 (wrap64 (wrap64 pre.length + 1)))
        rw [wrap64_succ] at hbx hBf ⊢
        refine ⟨(keepsFrom_ext h02).trans (keepsFrom_set _ _ _), (Keep.ext h02).trans (Keep.setCell _ _ _ (.inl rfl)), ?_, he2.other (by omega) _, ?_, (hk.trans (Keep.ext h02)).trans (Keep.setCell _ _ _ (.inl rfl)), hBf⟩
        · rw [List.length_append]; exact hbx
        · intro y hy
          rcases List.mem_append.1 hy with hy | hy
          · exact hg'.out y hy
          · obtain rfl : y = x := by simpa using hy
            exact ⟨e1', e2'⟩
  case done =>
    rintro D ys W hD hys ⟨hat, he, hg, hk, hb⟩ hK
    clear hst htb
    have hca := hat.cell
    have hfa := hat.frozen
    have hce := he.cell
    have hfe := he.frozen
    gi_wp2_with fail
    gi_region
    gi_wp2
    obtain ⟨f1, f2, f3, f4⟩ := two_end HN.out hE hb hD hK hat he (by omega)
    have e1 : avlFirst T.pre = (ys.length, 0) := by
      rw [← hys, avlFirst_good (fun t ht => by obtain ⟨y, hy, rfl⟩ := List.mem_map.1 ht; exact hg y hy), List.length_map]
    rw [e1]
    refine ⟨by simp, .inl ⟨_, _, rfl, run_takeDeferred f1, ?_⟩⟩
    exact ⟨_, results_cells2 rfl _ _ rfl rfl (fun _ => by kernel_rfl) (fun _ => by kernel_rfl) f2 f3, rfl, f4⟩
  case stop =>
    rintro D c q W hD hq ⟨rfl, q', x, hqx, hg, hat, he, hb⟩ hK
    clear hst htb
    obtain ⟨r, hr⟩ := hq
    have e1 : ∀ er, avlFirst (x.1 :: r) = (0, er) → avlFirst T.pre = (q'.length, er) := fun er h => by
      rw [← hr, hqx, List.map_append, List.append_assoc]
      show avlFirst (q'.map (·.1) ++ x.1 :: r) = _
      rw [avlFirst_bad (fun t ht => by obtain ⟨y, hy, rfl⟩ := List.mem_map.1 ht; exact hg y hy), h, List.length_map]
      simp
    have E1 := Lib.hid e1
    clear e1 hr hg hqx
    rcases he with ⟨b1, he⟩ | ⟨b1, b2, he⟩
    · have e2 := E1.out 140 (by simp [avlFirst, b1])
      have H2 := Lib.hid e2
      clear b1 e2
      have hca := hat.cell
      have hfa := hat.frozen
      have hce := he.cell
      have hfe := he.frozen
      gi_wp2_with fail
      gi_region
      gi_wp2
      obtain ⟨f1, f2, f3, f4⟩ := two_end HN.out hE hb hD hK hat he (by omega)
      rw [H2.out]
      refine ⟨by simp, .inl ⟨_, _, rfl, run_takeDeferred f1, ?_⟩⟩
      exact ⟨_, results_cells2 rfl _ _ rfl rfl (fun _ => by kernel_rfl) (fun _ => by kernel_rfl) f2 f3, rfl, f4⟩
    · have e2 := E1.out 8 (by simp [avlFirst, b1, b2])
      have H2 := Lib.hid e2
      clear b1 b2 e2
      have hca := hat.cell
      have hfa := hat.frozen
      have hce := he.cell
      have hfe := he.frozen
      gi_wp2_with fail
      gi_region
      gi_wp2
      obtain ⟨f1, f2, f3, f4⟩ := two_end HN.out hE hb hD hK hat he (by omega)
      rw [H2.out]
      refine ⟨by simp, .inl ⟨_, _, rfl, run_takeDeferred f1, ?_⟩⟩
      exact ⟨_, results_cells2 rfl _ _ rfl rfl (fun _ => by kernel_rfl) (fun _ => by kernel_rfl) f2 f3, rfl, f4⟩
/-- **avl.Check**, at any tree: the first of its nodes, each ahead of its sides, that is wrong, and how. -/
theorem avlCheck_any (w : World) (T : Tr) (hT : InH w T) : Calls Try.prog 67 #[.pointer T.ptr] w (Ret (.tuple #[.int .i64 (wrap64 (avlFirst T.pre).1), .int .i64 (avlFirst T.pre).2]) w) :=
  callsIn_wide.1 (avlCheck_in 9 (Lib.hid (by omega)) T w hT)
/-- may it be? -/
def avlMay (T : Tr) : Bool := (avlFirst T.pre).2 == 0
set_option maxHeartbeats 400000 in
theorem avlMay_any (w : World) (T : Tr) (hT : InH w T) : Calls Try.prog 46 #[.pointer T.ptr] w (Ret (.bool (avlMay T)) w) := by
  go_enter Try.func46, Try.ntmps46
  go_wp2_with fail
  refine (avlCheck_any _ T hT).mono ?_
  rintro e w1 ⟨rfl, h1⟩
  go_wp2
  go_ret
  exact ⟨rfl, h1⟩
end Go.Proofs.Ytejknkhahjgdnaa
namespace Go.Proofs.Ytejknkhahjgdnaa
open Go Go.RowKit

theorem avlFirst_cons (t : Tr) (r : List Tr) : avlFirst (t :: r) = if avlBadTag t then (0, 140) else if avlBadTree t then (0, 8) else ((avlFirst r).1 + 1, (avlFirst r).2) := rfl
theorem avlFirst_none : ∀ {l : List Tr}, (avlFirst l).2 = 0 → (avlFirst l).1 = l.length ∧ ∀ t ∈ l, avlBadTag t = false ∧ avlBadTree t = false
  | [], _ => by simp [avlFirst]
  | t :: l, h => by
    unfold avlFirst at h ⊢
    split at h
    · simp at h
    · split at h
      · simp at h
      · rename_i h1 h2
        have := avlFirst_none (l := l) h
        refine ⟨by simp [h1, h2, this.1], ?_⟩
        intro x hx
        rcases List.mem_cons.1 hx with rfl | hx
        · exact ⟨by simpa using h1, by simpa using h2⟩
        · exact this.2 x hx
theorem avlFirst_append (a b : List Tr) : avlFirst (a ++ b) = if (avlFirst a).2 = 0 then (a.length + (avlFirst b).1, (avlFirst b).2) else avlFirst a := by
  induction a with
  | nil => simp [avlFirst]
  | cons t a ih =>
    rw [List.cons_append, avlFirst_cons, avlFirst_cons]
    by_cases h1 : avlBadTag t = true
    · simp [h1]
    · by_cases h2 : avlBadTree t = true
      · simp [h1, h2]
      · simp only [h1, h2, ih]
        by_cases h3 : (avlFirst a).2 = 0
        · simp [h3]; omega
        · simp [h3]

/-- a tree that may be is one whose root is right, and both sides may be. -/
theorem avlMay_node (b : Nat) (l : Tr) (k v g : Int) (r : Tr) : avlMay (.node b l k v g r) = (!avlBadTag (.node b l k v g r) && !avlBadTree (.node b l k v g r) && avlMay l && avlMay r) := by
  unfold avlMay
  simp only [Tr.pre]
  rw [avlFirst_cons]
  by_cases h1 : avlBadTag (.node b l k v g r) = true
  · simp [h1]
  · by_cases h2 : avlBadTree (.node b l k v g r) = true
    · simp [h1, h2]
    · simp only [h1, h2, avlFirst_append]
      by_cases h3 : (avlFirst l.pre).2 = 0 <;> simp [h3]
theorem avlMay_nil : avlMay .nil = true := rfl

/-- a tree's number of nodes. -/
def Tr.count (t : Tr) : Nat := t.pre.length
theorem Tr.count_node (b : Nat) (l : Tr) (k v g : Int) (r : Tr) : (Tr.node b l k v g r).count = l.count + 1 + r.count := by simp [Tr.count, Tr.pre]; omega
theorem Tr.size_count : ∀ t : Tr, t.size = wrap64 t.count
  | .nil => by simp [Tr.size, Tr.count, Tr.pre, wrap64]
  | .node b l k v g r => by
    rw [Tr.size, Tr.size_count l, Tr.size_count r, Tr.count_node]
    have e : ((l.count + 1 + r.count : Nat) : Int) = (l.count : Int) + 1 + (r.count : Int) := by omega
    rw [e]
    unfold wrap64
    omega

/-- the least tree of a height, wherever its nodes lie. -/
def IsLeast : Nat → Tr → Prop
  | 0, t => t = .nil
  | 1, t => ∃ b, t = .node b .nil 1 1 (avlTag .nil .nil) .nil
  | k + 2, t => ∃ b l r, t = .node b l (k + 2) 1 (avlTag l r) r ∧ IsLeast k l ∧ IsLeast (k + 1) r
def leastN : Nat → Nat
  | 0 => 0
  | 1 => 1
  | k + 2 => leastN k + leastN (k + 1) + 1
theorem u64_small {a : Int} (h0 : 0 ≤ a) (h1 : a < 18446744073709551616) : IntKind.u64.wrap a = a := by
  have : (2 : Int) ^ 64 = 18446744073709551616 := by decide
  simp only [IntKind.wrap, IntKind.bits, IntKind.signed, this]
  simp
  omega
theorem isLeast_all : ∀ (k : Nat) (t : Tr), k < 1000000 → IsLeast k t → t.tag = k ∧ avlMay t = true ∧ t.count = leastN k
  | 0, t, _, h => by obtain rfl : t = .nil := h; exact ⟨rfl, rfl, rfl⟩
  | 1, t, _, h => by
    obtain ⟨b, rfl⟩ := h
    have e : avlTag .nil .nil = 1 := by decide
    rw [e]
    exact ⟨rfl, by rw [avlMay_node, show avlBadTag (.node b .nil 1 1 1 .nil) = false from rfl, show avlBadTree (.node b .nil 1 1 1 .nil) = false from rfl]; rfl, rfl⟩
  | k + 2, t, hk, h => by
    obtain ⟨b, l, r, rfl, hl, hr⟩ := h
    obtain ⟨l1, l2, l3⟩ := isLeast_all k l (by omega) hl
    obtain ⟨r1, r2, r3⟩ := isLeast_all (k + 1) r (by omega) hr
    have e : avlTag l r = k + 2 := by
      unfold avlTag
      rw [l1, r1, Int.max_eq_right (by omega), u64_small (by omega) (by omega)]
      omega
    refine ⟨e, ?_, by rw [Tr.count_node, l3, r3, leastN]; omega⟩
    rw [avlMay_node, l2, r2, e]
    have hm : max l.tag r.tag = k + 1 := by rw [l1, r1, Int.max_eq_right (by omega)]; rfl
    have hn : min l.tag r.tag = k := by rw [l1, r1, Int.min_eq_left (by omega)]
    have e1 : avlBadTag (.node b l (k + 2) 1 (k + 2) r) = false := by
      simp only [avlBadTag, Tr.tag_node, Tr.left_node, Tr.right_node, hm]
      rw [u64_small (by omega) (by omega)]
      simp; omega
    have e2 : avlBadTree (.node b l (k + 2) 1 (k + 2) r) = false := by
      simp only [avlBadTree, Tr.left_node, Tr.right_node, hm, hn]
      rw [u64_small (by omega) (by omega)]
      simp; omega
    rw [e1, e2]
    rfl
end Go.Proofs.Ytejknkhahjgdnaa
namespace Go.Proofs.Ytejknkhahjgdnaa
open Go Go.RowKit

/-- some tree with a property, made in new memory. -/
def Makes (S : Tr → Prop) (w : World) (e : Ending) (w' : World) : Prop := ∃ t, e = .returned (.pointer t.ptr) ∧ InH w' t ∧ S t ∧ Ext w w'
theorem leastN_lt : ∀ k : Nat, leastN k < 2 ^ k
  | 0 => by decide
  | 1 => by decide
  | k + 2 => by
    have h1 := leastN_lt k
    have h2 := leastN_lt (k + 1)
    rw [leastN]
    have e1 : 2 ^ (k + 1) = 2 * 2 ^ k := by rw [Nat.pow_succ]; omega
    have e2 : 2 ^ (k + 2) = 4 * 2 ^ k := by rw [Nat.pow_succ, e1]; omega
    omega
theorem leastN_wrap (k : Nat) (h : k ≤ 60) : wrap64 (wrap64 ((leastN k : Int) + (leastN (k + 1) : Int)) + 1) = (leastN (k + 1 + 1) : Int) := by
  have h1 := leastN_lt k
  have h2 := leastN_lt (k + 1)
  have h3 : 2 ^ k ≤ 2 ^ 60 := Nat.pow_le_pow_right (by decide) h
  have h4 : 2 ^ (k + 1) ≤ 2 ^ 61 := Nat.pow_le_pow_right (by decide) (by omega)
  rw [show leastN (k + 1 + 1) = leastN k + leastN (k + 1) + 1 from rfl]
  unfold wrap64
  omega
theorem hmod15 {a0 : Int} (w0 : (Lit.int .u8 a0).wf = true) : ∃ k : Nat, k < 15 ∧ wrap64 (a0.tmod 15) = k := by
  have h : 0 ≤ a0 := by
    simp [Lit.wf, IntKind.min, IntKind.max, IntKind.signed, IntKind.bits] at w0
    omega
  refine ⟨(a0.tmod 15).toNat, ?_, ?_⟩
  · rw [Int.tmod_eq_emod_of_nonneg h]; omega
  · rw [Int.tmod_eq_emod_of_nonneg h]; unfold wrap64; omega
end Go.Proofs.Ytejknkhahjgdnaa
namespace Go.Proofs.Ytejknkhahjgdnaa
open Go Go.RowKit

/-- a tree in memory is the tree of some beads. -/
def BT.fits : BT → Tr → Prop
  | .nil, .nil => True
  | .node k v _ _ g l r, .node _ L k' v' g' R => k = k' ∧ v = v' ∧ g = g' ∧ l.fits L ∧ r.fits R
  | _, _ => False
set_option maxHeartbeats 1000000 in
theorem beadsMake_any (t : BT) : ∀ (w : World) (p : Value), Beads w p t.enc → t.enc.length ≤ 400 →
    Calls Try.prog 18 #[p] w (Makes t.fits w) := by
  have hfn : ∀ f, Fence.wide.fn f := fun _ => trivial
  induction t with
  | nil =>
    intro w p hb hl
    obtain ⟨a, c, rfl⟩ := beads_slice hb
    rw [show BT.nil.enc.length = 0 from rfl]
    clear hb hl
    go_enter Try.func18, Try.ntmps18
    go_wp2
    go_ret
    exact ⟨.nil, rfl, trivial, trivial, Ext.refl _⟩
  | node k v s n g l r ihl ihr =>
    intro w p hb hl
    have hp := parts_any w p k v s n g l r hb (by omega)
    have hlen : (BT.node k v s n g l r).enc.length = 1 + l.enc.length + r.enc.length := by simp [BT.enc]; omega
    have IHl := Lib.hid ihl
    have IHr := Lib.hid ihr
    have hll : l.enc.length ≤ 400 := by omega
    have hlr : r.enc.length ≤ 400 := by omega
    have HLL := Lib.hid hll
    have HLR := Lib.hid hlr
    have h1 : 1 ≤ (BT.node k v s n g l r).enc.length := by omega
    obtain ⟨a, c, rfl⟩ := beads_slice hb
    have HP := Lib.hid hp
    clear hb hp hlen ihl ihr hll hlr
    generalize (BT.node k v s n g l r).enc.length = LL at *
    go_enter Try.func18, Try.ntmps18
    obtain ⟨m⟩ : Nonempty Nat := ⟨0⟩
    refine (wpIn_wide (n := m)).1 ?_
    gi_wp2_with fail
    refine ⟨wide_room _, (callsIn_wide.2 (HP.out)).mono ?_⟩
    rintro e w1 ⟨v1, v2, rfl, hv1, hv2, hE⟩
    gi_wp2_with fail
    have hnew := alloc_at w1 (.cells #[.int .i64 k, .int .i64 v, .int .i64 s, .int .i64 n, .int .u64 g, .bool (!l.isNil), .bool (!r.isNil)] 66) _ rfl
    have hE2 := (Ext.refl w1).alloc (.cells #[.int .i64 k, .int .i64 v, .int .i64 s, .int .i64 n, .int .u64 g, .bool (!l.isNil), .bool (!r.isNil)] 66)
    generalize (w1.alloc (.cells #[.int .i64 k, .int .i64 v, .int .i64 s, .int .i64 n, .int .u64 g, .bool (!l.isNil), .bool (!r.isNil)] 66)) = w2 at *
    have hE02 := hE.trans hE2
    have HV1 := Lib.hid (hv1.ext hE2)
    have HV2 := Lib.hid (hv2.ext hE2)
    clear hv1 hv2 hE hE2
    have hc0 := cell_all (cell_of hnew 0)
    have hc1 := cell_all (cell_of hnew 1)
    have hc4 := cell_all (cell_of hnew 4)
    have hx := Ext.drew w2
    clear hnew
    refine wpIn_region_G (fun j => !(List.contains (α := Nat) [10] j)) (by kernel_rfl) ?_
    refine batchG hfn (fuel := 4) [0, 2, 3, 4, 5, 6, 7, 8] (by kernel_rfl) rfl ?_
    repeat (go_big_quiet_step ((fail)))
    refine wpQuiet_nil ?_
    refine wpAnyG_one (j := 1) (by kernel_rfl) rfl ?_
    gi_wp2_with fail
    refine ⟨wide_room _, (callsIn_wide.2 (IHl.out _ _ (HV1.out.ext hx) HLL.out)).mono ?_⟩
    rintro e w3 ⟨L, rfl, hL, hLs, h3⟩
    gi_wp2_with fail
    refine onePost_ext (h3) ?_
    refine wpAnyG_one (j := 9) (by kernel_rfl) rfl ?_
    gi_wp2_with fail
    have h23 := hx.trans h3
    refine ⟨wide_room _, (callsIn_wide.2 (IHr.out _ _ (HV2.out.ext h23) HLR.out)).mono ?_⟩
    rintro e w4 ⟨R, rfl, hR, hRs, h4⟩
    gi_wp2_with fail
    refine onePost_ext (h4) ?_
    refine wpAnyG_one (j := 10) (by kernel_rfl) rfl ?_
    gi_wp2_with fail
    refine ⟨wide_room _, (callsIn_wide.2 (new_any w4 L R k v g (hL.ext h4) hR)).mono ?_⟩
    rintro e w5 ⟨B, rfl, hB, hT, h5⟩
    gi_wp2_with fail
    refine onePost_any (by kernel_rfl) ?_
    refine batchG hfn (fuel := 0) [11] (by kernel_rfl) rfl ?_
    repeat (go_big_quiet_step ((fail)))
    refine wpQuiet_nil ?_
    refine wpAnyG_done (by kernel_rfl) ?_
    refine calmQ_normal ?_
    gi_wp2
    go_ret
    exact ⟨_, rfl, hT, ⟨rfl, rfl, rfl, hLs, hRs⟩, ((hE02.trans h23).trans h4).trans h5⟩
def BT.tag : BT → Int
  | .nil => 0
  | .node _ _ _ _ g _ _ => g
theorem BT.fits_tag : ∀ {t : BT} {T : Tr}, t.fits T → t.tag = T.tag
  | .nil, .nil, _ => rfl
  | .nil, .node .., h => h.elim
  | .node .., .nil, h => h.elim
  | .node .., .node .., h => h.2.2.1
theorem BT.fits_left {k v s n g : Int} {l r : BT} : ∀ {T : Tr}, (BT.node k v s n g l r).fits T → l.fits T.left ∧ r.fits T.right ∧ g = T.tag ∧ k = T.key ∧ v = T.val ∧ T.pre = T :: (T.left.pre ++ T.right.pre)
  | .nil, h => h.elim
  | .node .., h => ⟨h.2.2.2.1, h.2.2.2.2, h.2.2.1, h.1, h.2.1, rfl⟩
theorem BT.fits_len : ∀ {t : BT} {T : Tr}, t.fits T → T.pre.length = t.enc.length
  | .nil, .nil, _ => rfl
  | .nil, .node .., h => h.elim
  | .node .., .nil, h => h.elim
  | .node k v s n g l r, .node b L k' v' g' R, h => by
    have h1 := BT.fits_len h.2.2.2.1
    have h2 := BT.fits_len h.2.2.2.2
    simp [Tr.pre, BT.enc, h1, h2]

end Go.Proofs.Ytejknkhahjgdnaa
namespace Go.Proofs.Ytejknkhahjgdnaa
open Go Go.RowKit

/-- a node's bead, as its tree tells it. -/
def Tr.bead (t : Tr) : BeadL := ⟨t.key, t.val, t.sum, t.size, t.tag, t.left.ptr.isSome, t.right.ptr.isSome⟩
def Tr.beads (t : Tr) : List BeadL := t.pre.map Tr.bead
def Tr.high : Tr → Nat
  | .nil => 0
  | .node _ l _ _ _ r => 1 + max l.high r.high
theorem Tr.high_le : ∀ t : Tr, t.high ≤ t.pre.length
  | .nil => by simp [Tr.high]
  | .node b l k v g r => by
    have h1 := Tr.high_le l
    have h2 := Tr.high_le r
    simp [Tr.high, Tr.pre]
    omega
/-- what see hands back. -/
def Sees (zs : List BeadL) (w0 : World) (e : Ending) (w' : World) : Prop := ∃ v, e = .returned (.tuple #[v, .bool true]) ∧ Own w0.heap.size w' v zs ∧ Ext w0 w'
/-- the values together. -/
def tot (zs : List BeadL) : Int := (zs.map BeadL.val).sum
theorem sumL_from (zs : List BeadL) : ∀ a : Int, zs.foldl (fun n z => wrap64 (n + z.val)) (wrap64 a) = wrap64 (a + tot zs) := by
  induction zs with
  | nil => intro a; simp [tot]
  | cons z zs ih =>
    intro a
    rw [List.foldl_cons, show wrap64 (wrap64 a + z.val) = wrap64 (a + z.val) by unfold wrap64; omega, ih]
    simp [tot, Int.add_assoc]
theorem sumL_tot (zs : List BeadL) : sumL zs = wrap64 (tot zs) := by
  have := sumL_from zs 0
  rw [show wrap64 0 = 0 by decide +kernel] at this
  unfold sumL
  rw [this, Int.zero_add]
theorem tot_append (a b : List BeadL) : tot (a ++ b) = tot a + tot b := by simp [tot]
theorem wrap_add (x y : Int) : wrap64 (wrap64 x + y) = wrap64 (x + y) := by unfold wrap64; omega
theorem wrap_three (a v b : Int) : wrap64 (wrap64 (wrap64 a + v) + wrap64 b) = wrap64 (a + v + b) := by
  rw [wrap_add a v, wrap_add (a + v), Int.add_comm (a + v), wrap_add b, Int.add_comm b]
theorem fits_sum : ∀ {t : BT} {T : Tr}, t.fits T → T.sum = wrap64 (tot t.enc) ∧ T.size = wrap64 t.enc.length
  | .nil, .nil, _ => ⟨by simp [Tr.sum, BT.enc, tot, wrap64], by simp [Tr.size, BT.enc, wrap64]⟩
  | .nil, .node .., h => h.elim
  | .node .., .nil, h => h.elim
  | .node k v s n g l r, .node b L k' v' g' R, h => by
    have h1 := fits_sum h.2.2.2.1
    have h2 := fits_sum h.2.2.2.2
    rw [Tr.sum, Tr.size, h1.1, h1.2, h2.1, h2.2]
    have e1 : tot (BT.node k v s n g l r).enc = v + (tot l.enc + tot r.enc) := by
      rw [← tot_append]; simp [BT.enc, tot]
    have e2 : ((BT.node k v s n g l r).enc.length : Int) = 1 + l.enc.length + r.enc.length := by simp [BT.enc]; omega
    rw [e1, e2, ← h.2.1, wrap_three, wrap_three]
    exact ⟨by congr 1; omega, by congr 1; omega⟩
theorem fits_some : ∀ {t : BT} {T : Tr}, t.fits T → T.ptr.isSome = !t.isNil
  | .nil, .nil, _ => rfl
  | .nil, .node .., h => h.elim
  | .node .., .nil, h => h.elim
  | .node .., .node .., _ => rfl
/-- a tree tells the beads that it was made of, with sizes and sums. -/
theorem fits_beads : ∀ {t : BT} {T : Tr}, t.fits T → t.enc.length ≤ 10000 → T.beads = t.of.enc
  | .nil, .nil, _, _ => rfl
  | .nil, .node .., h, _ => h.elim
  | .node .., .nil, h, _ => h.elim
  | .node k v s n g l r, .node b L k' v' g' R, h, hl => by
    have hl' : (BT.node k v s n g l r).enc.length = 1 + l.enc.length + r.enc.length := by simp [BT.enc]; omega
    have h1 := fits_beads h.2.2.2.1 (by omega)
    have h2 := fits_beads h.2.2.2.2 (by omega)
    have h3 := fits_sum h
    have e1 : (Tr.node b L k' v' g' R).beads = (Tr.node b L k' v' g' R).bead :: (L.beads ++ R.beads) := by simp [Tr.beads, Tr.pre]
    rw [e1, h1, h2]
    show _ = BeadL.mk _ _ _ _ _ (!l.of.isNil) (!r.of.isNil) :: (l.of.enc ++ r.of.enc)
    rw [BT.of_isNil, BT.of_isNil, ← fits_some h.2.2.2.1, ← fits_some h.2.2.2.2, sumL_tot, ← h3.1]
    have e3 : (Tr.node b L k' v' g' R).size = (BT.node k v s n g l r).enc.length := by
      rw [h3.2]; unfold wrap64; omega
    rw [← e3, h.1, h.2.1, h.2.2.1]
    rfl
end Go.Proofs.Ytejknkhahjgdnaa
