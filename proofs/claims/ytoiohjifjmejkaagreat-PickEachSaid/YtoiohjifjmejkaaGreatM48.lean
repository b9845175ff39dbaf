/- A range over a function whose iterator may itself range over functions: an iterator's contract (Iter), and the law of the loop (range_raw). -/
import Derived.RangeFuncNested
import Derived.Test.YtoiohjifjmejkaaGreatM40
namespace Go.Proofs.YtoiohjifjmejkaaGreat
open Go Go.RowKit Go.Shelf
attribute [local go_sem] Oper.semAt_some

/-- what abides fresh memory, and the turning of records at or behind B. -/
structure Holds {β : Type} (B : Nat) (J : β → World → Prop) : Prop where
  ext : ∀ s W W', J s W → Ext W W' → J s W'
  put : ∀ s W (l : Nat) (o o' : Obj), J s W → B ≤ l → W.heap[l]? = some o → o.isCells = false → J s (W.putObj l o')
theorem Holds.mono {β : Type} {B B' : Nat} {J : β → World → Prop} (h : Holds B J) (e : B ≤ B') : Holds B' J := ⟨h.ext, fun s W l o o' hj hl => h.put s W l o o' hj (Nat.le_trans e hl)⟩
/-- an iterator's contract: it hands out the elements of xs, in order, till it is stopped; it lays d blocks of its own first. -/
def Iter {α : Type} (gf : Nat) (lb : Array Value) (encs : α → Array Value) (xs : List α) (d : Nat) (M : Nat → Prop) (W0 : World) : Prop :=
  ∀ (n l : Nat) (J Jx : List α → World → Prop) (W : World), Ext W0 W → (∀ j, j < d → ¬ M (W.heap.size + j)) → Holds W.heap.size J → Holds W.heap.size Jx →
    (∀ m pre x W1, x ∈ xs → J pre W1 → pre.length < xs.length → W.heap.size + d ≤ W1.heap.size → YieldAt Fence.wide m Tryz.prog l (encs x) W1 fun e W' =>
      (e = .returned (.bool true) ∧ J (pre ++ [x]) W' ∧ Keep M W1 W' ∧ KeepsFrom W.heap.size W1 W') ∨ (e = .returned (.bool false) ∧ Jx (pre ++ [x]) W' ∧ KeepsFrom W.heap.size W1 W')) →
    J [] W →
    CallsIn Fence.wide n Tryz.prog gf (#[.func (.yield l) #[] #[]] ++ lb) W fun e W' => (∃ v, e = .returned v) ∧ (J xs W' ∨ ∃ q, q <+: xs ∧ Jx q W')
theorem Iter.more {α : Type} {gf : Nat} {lb : Array Value} {encs : α → Array Value} {xs : List α} {d : Nat} {M : Nat → Prop} {W0 W1 : World} (h : Iter gf lb encs xs d M W0) (e : Ext W0 W1) : Iter gf lb encs xs d M W1 :=
  fun n l J Jx W hE => h n l J Jx W (e.trans hE)
theorem keepsFrom_put {B l : Nat} (W : World) (o : Obj) (h : l < B) : KeepsFrom B W (W.putObj l o) := ⟨(grownBy_putObj' W l o).size, fun _ _ hk hw _ => (World.putObj_heap_other (by omega)).trans hw⟩
theorem keepsFrom_up {B B' : Nat} {W W' : World} (h : KeepsFrom B W W') (e : B ≤ B') : KeepsFrom B' W W' := ⟨h.size, fun k o hk => h.same k o (Nat.le_trans e hk)⟩
/-- a round ends: its record tells where to. -/
theorem round_ends {W : World} {D L : Nat} {r : Loop} (hne : D ≠ L) (hl : W.heap[L]? = some (.loop r)) (hd : W.heap[D]? = some (.deferred (some []))) (j : Option Code) :
    (Instr.endRound L j).run Tryz.prog W = .ok (.bool j.isNone) (W.putObj L (.loop { r with state := if j.isNone then .ready else .done, pending := j })) ∧
      (W.putObj L (.loop { r with state := if j.isNone then .ready else .done, pending := j })).heap[L]? = some (.loop { r with state := if j.isNone then .ready else .done, pending := j }) ∧
      (W.putObj L (.loop { r with state := if j.isNone then .ready else .done, pending := j })).heap[D]? = some (.deferred (some [])) :=
  ⟨run_endRound j hl, World.putObj_heap_same (lt_of hl), (World.putObj_heap_other hne).trans hd⟩
theorem range_raw {α : Type} {n : Nat} {g : Operand} {ps : Array Tmp} {assign body : Code} {Q : Exit → Act → World → Prop} {a : Act} {w : World} {gf : Nat} {lb : Array Value} (hg : a.eval g = .func (.func gf) #[] lb) (eg : ∀ args w, (callFunc gf args).run Tryz.prog w = .ok (.enter gf args) w)
    {encs : α → Array Value} {xs : List α} {d : Nat} {M : Nat → Prop} (hseq : Iter gf lb encs xs d M w) (hM : ∀ j, j < d → ¬ M (w.heap.size + 2 + j)) (hps : ∀ x, (encs x).size = ps.size)
    (I : List α → World → Prop) (Ix : Code → List α → World → Prop) (hI : Holds w.heap.size I) (hIx : ∀ c, Holds w.heap.size (Ix c)) (h0 : I [] w)
    (Ax : α → Act → World → Prop) (hAx : ∀ x a' W l o o', Ax x a' W → W.heap[l]? = some o → o.isCells = false → Ax x a' (W.putObj l o'))
    (hassign : ∀ (l m : Nat) (x : α) (W : World) (K : Act → World → Prop), w.heap.size + 2 + d ≤ W.heap.size → (∀ a' W', Ext W W' → Ax x a' W' → K a' W') → assign.wpIn (Fence.wide.inRound l) m Tryz.prog (Exit.then K (fun _ _ _ => False)) { tmps := (ps.zip (encs x)).foldl (fun t (p, v) => t.setIfInBounds p v) a.tmps, defers := [] } W)
    (hbody : ∀ (l m : Nat) (pre : List α) (x : α) (a' : Act) (W : World), w.heap.size + 2 + d ≤ W.heap.size → x ∈ xs → I pre W → Ax x a' W → pre.length < xs.length → body.wpIn (Fence.wide.inRound l) m Tryz.prog (ownPostG w.heap.size (Keep M) I Ix (pre ++ [x]) W) a' W)
    (hdone : ∀ (D : Nat) (W : World), w.heap.size ≤ D → I xs W → W.heap[D]? = some (.deferred (some [])) → Q .normal { a with defers := { target := .collected D, args := #[] } :: a.defers } W)
    (hstop : ∀ (D : Nat) (c : Code) (pre : List α) (W : World), w.heap.size ≤ D → pre <+: xs → Ix c pre W → W.heap[D]? = some (.deferred (some [])) → c.wpIn Fence.wide n Tryz.prog Q { a with defers := { target := .collected D, args := #[] } :: a.defers } W) :
    (Code.rangeFunc g ps assign body).wpIn Fence.wide n Tryz.prog Q a w := by
  refine wpIn_rangeFunc ?_
  intro fn hfn
  rw [show Fence.wide.round = none from rfl]
  obtain ⟨rec, hrec⟩ : ∃ rec : LoopState → Option Code → Loop, rec = fun st pe => { state := st, pending := pe, fn, tmps := a.tmps, params := ps, assign, body, defers := w.heap.size } := ⟨_, rfl⟩
  obtain ⟨W1, hW1⟩ : ∃ W1, (w.alloc (.deferred (some []))).alloc (.loop (rec .ready none)) = W1 := ⟨_, rfl⟩
  have hE1 : Ext w W1 := by rw [← hW1]; exact ((Ext.refl w).alloc _).alloc _
  have hL1 : W1.heap[w.heap.size + 1]? = some (.loop (rec .ready none)) := by rw [← hW1]; exact alloc_at _ _ _ (by simp)
  have hK1 : W1.heap[w.heap.size]? = some (.deferred (some [])) := by rw [← hW1, alloc_lt _ _ _ (by simp)]; exact alloc_at _ _ _ rfl
  have hs1 : W1.heap.size = w.heap.size + 2 := by rw [← hW1]; simp
  refine ⟨w.heap.size + 1, [{ target := .collected w.heap.size, args := #[] }], W1, { target := .fn (.func gf) lb, args := #[.func (.yield (w.heap.size + 1)) #[] #[]] }, W1, gf,
    #[.func (.yield (w.heap.size + 1)) #[] #[]] ++ lb, W1, ?_, ?_, ?_, ?_, wide_room _, ?_⟩
  · rw [← hW1, hrec]; exact run_enterLoop_outer _ _ _ _ _
  · simp only [resolve, hg]
    simp [go_sem, Deferred.ofValue]
  · intro f' _; trivial
  · exact eg _ _
  · refine (hseq (n - 1) (w.heap.size + 1) (fun pre W => I pre W ∧ W.heap[w.heap.size + 1]? = some (.loop (rec .ready none)) ∧ W.heap[w.heap.size]? = some (.deferred (some [])))
      (fun pre W => ∃ c, Ix c pre W ∧ W.heap[w.heap.size + 1]? = some (.loop (rec .done (some c))) ∧ W.heap[w.heap.size]? = some (.deferred (some []))) W1 hE1 (fun j hj => by rw [hs1]; exact hM j hj) ?_ ?_ ?_ ⟨hI.ext _ _ _ h0 hE1, hL1, hK1⟩).mono ?_
    · rw [hs1]
      exact ⟨fun s W W' ⟨h1, h2, h3⟩ e => ⟨hI.ext _ _ _ h1 e, e.get h2, e.get h3⟩, fun s W l o o' ⟨h1, h2, h3⟩ hl ho hc => ⟨hI.put _ _ _ _ _ h1 (by omega) ho hc, (World.putObj_heap_other (by omega)).trans h2, (World.putObj_heap_other (by omega)).trans h3⟩⟩
    · rw [hs1]
      exact ⟨fun s W W' ⟨c, h1, h2, h3⟩ e => ⟨c, (hIx c).ext _ _ _ h1 e, e.get h2, e.get h3⟩, fun s W l o o' ⟨c, h1, h2, h3⟩ hl ho hc => ⟨c, (hIx c).put _ _ _ _ _ h1 (by omega) ho hc, (World.putObj_heap_other (by omega)).trans h2, (World.putObj_heap_other (by omega)).trans h3⟩⟩
    · rintro m pre x W hx ⟨hi, hl, hk⟩ hlen hsz
      rw [hs1] at hsz
      have hy := run_yield (P := Tryz.prog) (args := encs x) hl (by rw [hrec]; exact hps x)
      rw [hrec] at hy
      refine ⟨fn, _, assign, body, hy, roundIn_of_wpIn hfn (hassign _ m x W _ hsz ?_)⟩
      intro a' Wa hEa hax
      have hl' := hEa.get hl
      have hk' := hEa.get hk
      have hlt : w.heap.size + 1 < Wa.heap.size := (Array.getElem?_eq_some_iff.1 hl').1
      refine ⟨_, run_beginRound hl' (by rw [hrec]), ?_⟩
      have hl2 : (Wa.putObj (w.heap.size + 1) (.loop { rec .ready none with state := .busy })).heap[w.heap.size + 1]? = some (.loop { rec .ready none with state := .busy }) := World.putObj_heap_same hlt
      have hk2 : (Wa.putObj (w.heap.size + 1) (.loop { rec .ready none with state := .busy })).heap[w.heap.size]? = some (.deferred (some [])) := (World.putObj_heap_other (by omega)).trans hk'
      refine wpIn_mono (hbody _ m pre x a' _ ?_ hx (hI.put _ _ _ _ _ (hI.ext _ _ _ hi hEa) (by omega) hl' rfl) (hAx _ _ _ _ _ _ hax hl' rfl) hlen) ?_
      · have := hEa.size; simp; omega
      have back : ∀ (jump : Option Code) (W3 : World), KeepsFrom w.heap.size (Wa.putObj (w.heap.size + 1) (.loop { rec .ready none with state := .busy })) W3 →
          ∃ W4, (Instr.endRound (w.heap.size + 1) jump).run Tryz.prog W3 = .ok (.bool jump.isNone) W4 ∧ W4 = W3.putObj (w.heap.size + 1) (.loop (rec (if jump.isNone then .ready else .done) jump)) ∧ W3.heap[w.heap.size + 1]? = some (.loop { rec .ready none with state := .busy }) ∧
            W4.heap[w.heap.size + 1]? = some (.loop (rec (if jump.isNone then .ready else .done) jump)) ∧ W4.heap[w.heap.size]? = some (.deferred (some [])) := fun jump W3 hk3 => by
        obtain ⟨e1, e2, e3⟩ := round_ends (D := w.heap.size) (L := w.heap.size + 1) (by omega) (hk3.same _ _ (by omega) hl2 rfl) (hk3.same _ _ (Nat.le_refl _) hk2 rfl) jump
        subst hrec
        exact ⟨_, e1, rfl, hk3.same _ _ (by omega) hl2 rfl, e2, e3⟩
      rintro e a3 W3 hp
      cases e with
      | normal =>
        obtain ⟨hk3, hm3, hi3⟩ := hp
        obtain ⟨W4, hr, rfl, hl3, hl4, hk4⟩ := back none W3 hk3
        exact ⟨_, _, hr, .inl ⟨rfl, ⟨hI.put _ _ _ _ _ hi3 (by omega) hl3 rfl, hl4, hk4⟩, (Keep.ext hEa).trans ((Keep.putObj _ _ _ _ hl' rfl).trans (hm3.trans (Keep.putObj _ _ _ _ hl3 rfl))), (keepsFrom_ext hEa).trans ((keepsFrom_put (l := w.heap.size + 1) _ _ (by omega)).trans ((keepsFrom_up hk3 (by omega)).trans (keepsFrom_put (l := w.heap.size + 1) _ _ (by omega))))⟩⟩
      | ret =>
        obtain ⟨hk3, hi3⟩ := hp
        obtain ⟨W4, hr, rfl, hl3, hl4, hk4⟩ := back (some (.ret)) W3 hk3
        exact ⟨_, _, hr, .inr ⟨rfl, ⟨(.ret), (hIx _).put _ _ _ _ _ hi3 (by omega) hl3 rfl, hl4, hk4⟩, (keepsFrom_ext hEa).trans ((keepsFrom_put (l := w.heap.size + 1) _ _ (by omega)).trans ((keepsFrom_up hk3 (by omega)).trans (keepsFrom_put (l := w.heap.size + 1) _ _ (by omega))))⟩⟩
      | exit id =>
        obtain ⟨hk3, hi3⟩ := hp
        obtain ⟨W4, hr, rfl, hl3, hl4, hk4⟩ := back (some (.exit id)) W3 hk3
        exact ⟨_, _, hr, .inr ⟨rfl, ⟨(.exit id), (hIx _).put _ _ _ _ _ hi3 (by omega) hl3 rfl, hl4, hk4⟩, (keepsFrom_ext hEa).trans ((keepsFrom_put (l := w.heap.size + 1) _ _ (by omega)).trans ((keepsFrom_up hk3 (by omega)).trans (keepsFrom_put (l := w.heap.size + 1) _ _ (by omega))))⟩⟩
      | goto t =>
        obtain ⟨hk3, hi3⟩ := hp
        obtain ⟨W4, hr, rfl, hl3, hl4, hk4⟩ := back (some (.goto t)) W3 hk3
        exact ⟨_, _, hr, .inr ⟨rfl, ⟨(.goto t), (hIx _).put _ _ _ _ _ hi3 (by omega) hl3 rfl, hl4, hk4⟩, (keepsFrom_ext hEa).trans ((keepsFrom_put (l := w.heap.size + 1) _ _ (by omega)).trans ((keepsFrom_up hk3 (by omega)).trans (keepsFrom_put (l := w.heap.size + 1) _ _ (by omega))))⟩⟩
      | panic ch => exact hp.elim
      | outgrown => exact hp.elim
    · rintro e W2 ⟨⟨v, rfl⟩, (⟨hi, hl, hk⟩ | ⟨pre, hSp, c, hi, hl, hk⟩)⟩
      · exact ⟨none, _, by have := run_endLoop (P := Tryz.prog) hl (by rw [hrec]; simp); rw [hrec] at this; exact this, hdone _ _ (Nat.le_refl _) (hI.put _ _ _ _ _ hi (by omega) hl rfl) ((World.putObj_heap_other (by omega)).trans hk)⟩
      · exact ⟨some c, _, by have := run_endLoop (P := Tryz.prog) hl (by rw [hrec]; simp); rw [hrec] at this; exact this, hstop _ c pre _ (Nat.le_refl _) hSp ((hIx c).put _ _ _ _ _ hi (by omega) hl rfl) ((World.putObj_heap_other (by omega)).trans hk)⟩
end Go.Proofs.YtoiohjifjmejkaaGreat
