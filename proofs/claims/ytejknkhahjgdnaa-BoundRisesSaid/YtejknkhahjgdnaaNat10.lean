/- nat.Fib. -/
import Derived.Test.YtejknkhahjgdnaaNat9
namespace Go.Proofs.Ytejknkhahjgdnaa
open Go Go.RowKit Go.Shelf
attribute [local go_sem] Oper.semAt_some

/-- a round over fibs: it goes on without turning a cell, or it leaves. -/
def fibPost (B id : Nat) (I Ix : World → Prop) (last : Bool) (W : World) : Exit → Act → World → Prop
  | .normal, _, W' => last = false ∧ KeepsFrom B W W' ∧ KN W W' ∧ I W'
  | .exit i, _, W' => last = true ∧ i = id ∧ KeepsFrom B W W' ∧ Ix W'
  | _, _, _ => False
set_option maxHeartbeats 1000000 in
/-- **for k, f := range fibs() { .. }**, whose round number N leaves it. -/
theorem range_fibs {g : Operand} {p q : Tmp} {assign body : Code} {N n id : Nat} {Q : Exit → Act → World → Prop} {a : Act} {w : World} (h1 : 1 ≤ n) (hN : N ≤ 200) (hg : a.eval g = .func (.func 96) #[] #[]) (I Ix : World → Prop)
    (hIE : ∀ W W', w.heap.size ≤ W.heap.size → I W → Ext W W' → I W') (hIp : ∀ W l o o', w.heap.size ≤ l → W.heap[l]? = some o → o.isCells = false → I W → I (W.putObj l o')) (hXp : ∀ W l o o', w.heap.size ≤ l → W.heap[l]? = some o → o.isCells = false → Ix W → Ix (W.putObj l o'))
    (h0 : I w) (a₁ : Nat → Value → Act)
    (hassign : ∀ (m l k : Nat) (v : Value) (W : World) (K : Act → World → Prop), K (a₁ k v) W → assign.wpIn (Fence.wide.inRound l) m Try.prog (Exit.then K (fun _ _ _ => False)) { tmps := ((#[p, q] : Array Tmp).zip (#[.int .i64 (k : Nat), v] : Array Value)).foldl (fun t (p, v) => t.setIfInBounds p v) a.tmps, defers := [] } W)
    (hbody : ∀ (m l k : Nat) (v : Value) (W : World), k ≤ N → w.heap.size ≤ W.heap.size → I W → NumIs W v (fibN k) → body.wpIn (Fence.wide.inRound l) m Try.prog (fibPost w.heap.size id I Ix (decide (k = N)) W) (a₁ k v) W)
    (hstop : ∀ (D : Nat) (W : World), w.heap.size ≤ D → Ix W → W.heap[D]? = some (.deferred (some [])) → (Code.exit id).wpIn Fence.wide n Try.prog Q { a with defers := { target := .collected D, args := #[] } :: a.defers } W) :
    (Code.rangeFunc g #[p, q] assign body).wpIn Fence.wide n Try.prog Q a w := by
  refine wpIn_rangeFunc ?_
  intro fn hfn
  rw [show Fence.wide.round = none from rfl]
  obtain ⟨rec, hrec⟩ : ∃ rec : LoopState → Option Code → Loop, rec = fun st pe => { state := st, pending := pe, fn, tmps := a.tmps, params := #[p, q], assign, body, defers := w.heap.size } := ⟨_, rfl⟩
  obtain ⟨W1, hW1⟩ : ∃ W1, (w.alloc (.deferred (some []))).alloc (.loop (rec .ready none)) = W1 := ⟨_, rfl⟩
  have hE1 : Ext w W1 := by rw [← hW1]; exact ((Ext.refl w).alloc _).alloc _
  have hL1 : W1.heap[w.heap.size + 1]? = some (.loop (rec .ready none)) := by rw [← hW1]; exact alloc_at _ _ _ (by simp)
  have hK1 : W1.heap[w.heap.size]? = some (.deferred (some [])) := by rw [← hW1, alloc_lt _ _ _ (by simp)]; exact alloc_at _ _ _ rfl
  have hI1 : I W1 := hIE _ _ (Nat.le_refl _) h0 hE1
  refine ⟨w.heap.size + 1, [{ target := .collected w.heap.size, args := #[] }], W1, { target := .fn (.func 96) #[], args := #[.func (.yield (w.heap.size + 1)) #[] #[]] }, W1, 96,
    #[.func (.yield (w.heap.size + 1)) #[] #[]], W1, ?_, ?_, ?_, ?_, fun _ => h1, ?_⟩
  · rw [← hW1, hrec]; exact run_enterLoop_outer _ _ _ _ _
  · simp only [resolve, hg]
    simp [go_sem]
  · intro f' _; trivial
  · kernel_rfl
  · have fin : ∀ (W W3 : World) (jump : Option Code), W.heap[w.heap.size + 1]? = some (.loop (rec .ready none)) → W.heap[w.heap.size]? = some (.deferred (some [])) → KeepsFrom w.heap.size (W.putObj (w.heap.size + 1) (.loop { rec .ready none with state := .busy })) W3 →
        (Instr.endRound (w.heap.size + 1) jump).run Try.prog W3 = .ok (.bool jump.isNone) (W3.putObj (w.heap.size + 1) (.loop (rec (if jump.isNone then .ready else .done) jump))) ∧
        W3.heap[w.heap.size + 1]? = some (.loop { rec .ready none with state := .busy }) ∧
        (W3.putObj (w.heap.size + 1) (.loop (rec (if jump.isNone then .ready else .done) jump))).heap[w.heap.size + 1]? = some (.loop (rec (if jump.isNone then .ready else .done) jump)) ∧
        (W3.putObj (w.heap.size + 1) (.loop (rec (if jump.isNone then .ready else .done) jump))).heap[w.heap.size]? = some (.deferred (some [])) := fun W W3 jump hl hk hk3 => by
      have hl2 : (W.putObj (w.heap.size + 1) (.loop { rec .ready none with state := .busy })).heap[w.heap.size + 1]? = some (.loop { rec .ready none with state := .busy }) := World.putObj_heap_same (Array.getElem?_eq_some_iff.1 hl).1
      have hk2 : (W.putObj (w.heap.size + 1) (.loop { rec .ready none with state := .busy })).heap[w.heap.size]? = some (.deferred (some [])) := (World.putObj_heap_other (by omega)).trans hk
      have hl3 := hk3.same _ _ (by omega) hl2 rfl
      have := run_endRound (P := Try.prog) jump hl3
      rw [hrec] at this ⊢
      exact ⟨this, by rw [hrec] at hl3; exact hl3, World.putObj_heap_same (Array.getElem?_eq_some_iff.1 hl3).1, (World.putObj_heap_other (by omega)).trans (hk3.same _ _ (Nat.le_refl _) hk2 rfl)⟩
    refine (fibs1_in (w.heap.size + 1) N (fun W => I W ∧ W.heap[w.heap.size + 1]? = some (.loop (rec .ready none)) ∧ W.heap[w.heap.size]? = some (.deferred (some [])))
      (fun W => Ix W ∧ W.heap[w.heap.size + 1]? = some (.loop (rec .done (some (.exit id)))) ∧ W.heap[w.heap.size]? = some (.deferred (some [])))
      (Lib.hid hN) (fun W W' ⟨i1, i2, i3⟩ hE => ⟨hIE _ _ (by have := (Array.getElem?_eq_some_iff.1 i3).1; omega) i1 hE, hE.get i2, hE.get i3⟩) ?_ ?_ (n - 1) W1 ⟨hI1, hL1, hK1⟩).mono ?_
    · rintro m k v W hk ⟨hi, hl, hd⟩ hv
      have hlt : w.heap.size + 1 < W.heap.size := (Array.getElem?_eq_some_iff.1 hl).1
      have hy := run_yield (P := Try.prog) (args := #[.int .i64 (k : Nat), v]) hl (by rw [hrec]; rfl)
      rw [hrec] at hy
      refine ⟨fn, _, assign, body, hy, roundIn_of_wpIn hfn (hassign _ _ k v W _ ?_)⟩
      clear hy
      refine ⟨_, run_beginRound hl (by rw [hrec]), ?_⟩
      have hK2 : KN W (W.putObj (w.heap.size + 1) (.loop { rec .ready none with state := .busy })) := Keep.putObj _ _ _ _ hl rfl
      refine wpIn_mono (hbody _ _ k v _ (Nat.le_of_lt hk) (by simp; omega) (hIp _ _ _ _ (by omega) hl rfl hi) (hv.kn hK2)) ?_
      rintro e a3 W3 hp
      cases e with
      | normal =>
        obtain ⟨-, hk3, hkn, hi3⟩ := hp
        obtain ⟨hr, hl3, hl4, hk4⟩ := fin W W3 none hl hd hk3
        exact ⟨_, _, hr, rfl, ⟨hIp _ _ _ _ (by omega) hl3 rfl hi3, hl4, hk4⟩, (hK2.trans hkn).trans (Keep.putObj _ _ _ _ hl3 rfl)⟩
      | exit i => exact absurd (of_decide_eq_true hp.1) (Nat.ne_of_lt hk)
      | ret => exact hp.elim
      | goto t => exact hp.elim
      | panic ch => exact hp.elim
      | outgrown => exact hp.elim
    · rintro m v W ⟨hi, hl, hd⟩ hv
      have hlt : w.heap.size + 1 < W.heap.size := (Array.getElem?_eq_some_iff.1 hl).1
      have hy := run_yield (P := Try.prog) (args := #[.int .i64 (N : Nat), v]) hl (by rw [hrec]; rfl)
      rw [hrec] at hy
      refine ⟨fn, _, assign, body, hy, roundIn_of_wpIn hfn (hassign _ _ N v W _ ?_)⟩
      clear hy
      refine ⟨_, run_beginRound hl (by rw [hrec]), ?_⟩
      have hK2 : KN W (W.putObj (w.heap.size + 1) (.loop { rec .ready none with state := .busy })) := Keep.putObj _ _ _ _ hl rfl
      refine wpIn_mono (hbody _ _ N v _ (Nat.le_refl _) (by simp; omega) (hIp _ _ _ _ (by omega) hl rfl hi) (hv.kn hK2)) ?_
      rintro e a3 W3 hp
      cases e with
      | normal => exact absurd hp.1 (by simp)
      | exit i =>
        obtain ⟨-, rfl, hk3, hi3⟩ := hp
        obtain ⟨hr, hl3, hl4, hk4⟩ := fin W W3 (some (.exit i)) hl hd hk3
        exact ⟨_, _, hr, rfl, hXp _ _ _ _ (by omega) hl3 rfl hi3, hl4, hk4⟩
      | ret => exact hp.elim
      | goto t => exact hp.elim
      | panic ch => exact hp.elim
      | outgrown => exact hp.elim
    · rintro e W2 ⟨⟨v, rfl⟩, hi, hl, hk⟩
      exact ⟨some (.exit id), _, by have := run_endLoop (P := Try.prog) hl (by rw [hrec]; simp); rw [hrec] at this; exact this, hstop _ _ (Nat.le_refl _) (hXp _ _ _ _ (by omega) hl rfl hi) ((World.putObj_heap_other (by omega)).trans hk)⟩
end Go.Proofs.Ytejknkhahjgdnaa
