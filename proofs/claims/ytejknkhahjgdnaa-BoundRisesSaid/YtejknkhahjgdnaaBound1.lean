/- bound.weights, the statement that goes over it, bound.weight. -/
import Derived.Test.YtejknkhahjgdnaaNat12
namespace Go.Proofs.Ytejknkhahjgdnaa
open Go Go.RowKit Go.Shelf
attribute [local go_sem] Oper.semAt_some

/-- the row of weights. -/
def wrow : Nat → Nat
  | 0 => 1
  | h + 1 => wrow h + (29 * wrow h + 70) / 71
theorem wrow_alt (h : Nat) : wrow (h + 1) = (100 * wrow h + 70) / 71 := by rw [wrow]; omega
theorem wrow_all : ∀ k, k < 103 → wrow k < 10000000000000000 := by decide +kernel
theorem wrow_lt {k : Nat} (h : k ≤ 102) : wrow k < 10000000000000000 := wrow_all k (by omega)
theorem wrow_pos : ∀ k, 1 ≤ wrow k
  | 0 => Nat.le_refl 1
  | k + 1 => by rw [wrow]; have := wrow_pos k; omega
set_option maxRecDepth 100000 in
set_option maxHeartbeats 2000000 in
theorem weights1_in (l N : Nat) (J Jx : World → Prop) (hN : Hid (N ≤ 101))
    (hY : ∀ m k W, k < N → J W → YieldAt Fence.wide m Try.prog l #[.int .i64 (k : Nat), .int .u64 (wrow k : Nat)] W fun e W' => e = .returned (.bool true) ∧ J W' ∧ KN W W')
    (hYx : ∀ m W, J W → YieldAt Fence.wide m Try.prog l #[.int .i64 (N : Nat), .int .u64 (wrow N : Nat)] W fun e W' => e = .returned (.bool false) ∧ Jx W') (n : Nat) (W : World) (hJ : J W) :
    CallsIn Fence.wide n Try.prog 95 #[.func (.yield l) #[] #[]] W fun e W' => (∃ v, e = .returned v) ∧ Jx W' := by
  have hfn : ∀ f, Fence.wide.fn f := fun _ => trivial
  have HY := Lib.hid hY
  have HYX := Lib.hid hYx
  have HJ := Lib.hid hJ
  clear hY hYx hJ
  refine callsIn_of_wp Try.func95 rfl trivial ?_ rfl
  simp only [Try.ntmps95, List.size_toArray, List.length_cons, List.length_nil, Nat.reduceAdd, Nat.reduceSub, Array.replicate_succ, Array.replicate_zero, List.push_toArray, List.append_toArray, List.nil_append, List.cons_append]
  gi_wp2_with fail
  gi_loopw [2, 3] (fun a i W => ∃ k : Nat, i = .int .i64 (k : Nat) ∧ a = .int .u64 (wrow k : Nat) ∧ Hid (k ≤ N ∧ J W)) (fun _ i _ => N - (intOf i).toNat)
  case atStart => exact ⟨0, rfl, rfl, Lib.hid ⟨Nat.zero_le _, HJ.out⟩⟩
  case round =>
    obtain ⟨k, rfl, rfl, HH⟩ := hrel
    by_cases hk : k < N
    · have HK := Lib.hid hk
      have hkn : k < 101 := Nat.lt_of_lt_of_le hk hN.out
      have HW := Lib.hid (wrow_lt (k := k) (by omega))
      have HS := Lib.hid (show wrow (k + 1) = wrow k + (29 * wrow k + 70) / 71 from rfl)
      obtain ⟨fn, tmps, assign, body, hy1, hR⟩ := HY.out n k wr hk HH.out.2
      have HR := Lib.hid hR
      generalize wrow k = a at *
      clear hR hk hkn
      gi_wp2_with fail
      clear hy1
      refine ⟨wide_room _, (RoundIn.any HR.out).mono ?_⟩
      rintro e W3 ⟨rfl, hJ3, hk3⟩
      have hkn : k < 101 := Nat.lt_of_lt_of_le HK.out hN.out
      have HJ3 := Lib.hid hJ3
      have ha : a < 10000000000000000 := HW.out
      clear hJ3 hk3
      gi_wp2
      go_roundw
      case rel => exact ⟨k + 1, by go_num, by rw [HS.out]; rfl, Lib.hid ⟨HK.out, HJ3.out⟩⟩
      case measure => exact meas_s HK.out
    · obtain rfl : k = N := Nat.le_antisymm HH.out.1 (Nat.le_of_not_lt hk)
      clear hk
      obtain ⟨fn, tmps, assign, body, hy1, hR⟩ := HYX.out n wr HH.out.2
      have HR := Lib.hid hR
      clear hR
      gi_wp2_with fail
      clear hy1
      refine ⟨wide_room _, (RoundIn.any HR.out).mono ?_⟩
      rintro e W3 ⟨rfl, hJ3⟩
      gi_wp2
      go_end0
      exact ⟨⟨_, rfl⟩, hJ3⟩
theorem weights_any (w : World) : Calls Try.prog 73 #[] w fun e w' => e = .returned (.func (.func 95) #[] #[]) ∧ w' = w := by
  go_enter Try.func73, Try.ntmps73
  go_wp2
  go_ret
  exact ⟨rfl, rfl⟩
/-- a round over weights: it goes on without turning a cell, or it leaves the function. -/
def wrowPost (B : Nat) (I Ix : World → Prop) (last : Bool) (W : World) : Exit → Act → World → Prop
  | .normal, _, W' => last = false ∧ KeepsFrom B W W' ∧ KN W W' ∧ I W'
  | .ret, _, W' => last = true ∧ KeepsFrom B W W' ∧ Ix W'
  | _, _, _ => False
set_option maxHeartbeats 1000000 in
/-- **for h, w := range weights() { .. }**, whose round number N leaves the function. -/
theorem range_weights {g : Operand} {p q : Tmp} {assign body : Code} {N n : Nat} {Q : Exit → Act → World → Prop} {a : Act} {w : World} (h1 : 1 ≤ n) (hN : N ≤ 101) (hg : a.eval g = .func (.func 95) #[] #[]) (I Ix : World → Prop)
    (hIE : ∀ W W', w.heap.size ≤ W.heap.size → I W → Ext W W' → I W') (hIp : ∀ W l o o', w.heap.size ≤ l → W.heap[l]? = some o → o.isCells = false → I W → I (W.putObj l o')) (hXp : ∀ W l o o', w.heap.size ≤ l → W.heap[l]? = some o → o.isCells = false → Ix W → Ix (W.putObj l o'))
    (h0 : I w) (a₁ : Nat → Act)
    (hassign : ∀ (m l k : Nat) (W : World) (K : Act → World → Prop), K (a₁ k) W → assign.wpIn (Fence.wide.inRound l) m Try.prog (Exit.then K (fun _ _ _ => False)) { tmps := ((#[p, q] : Array Tmp).zip (#[.int .i64 (k : Nat), .int .u64 (wrow k : Nat)] : Array Value)).foldl (fun t (p, v) => t.setIfInBounds p v) a.tmps, defers := [] } W)
    (hbody : ∀ (m l k : Nat) (W : World), k ≤ N → w.heap.size ≤ W.heap.size → I W → body.wpIn (Fence.wide.inRound l) m Try.prog (wrowPost w.heap.size I Ix (decide (k = N)) W) (a₁ k) W)
    (hstop : ∀ (D : Nat) (W : World), w.heap.size ≤ D → Ix W → W.heap[D]? = some (.deferred (some [])) → (Code.ret).wpIn Fence.wide n Try.prog Q { a with defers := { target := .collected D, args := #[] } :: a.defers } W) :
    (Code.rangeFunc g #[p, q] assign body).wpIn Fence.wide n Try.prog Q a w := by
  refine wpIn_rangeFunc ?_
  intro fn hfn
  rw [show Fence.wide.round = none from rfl]
  obtain ⟨rec, hrec⟩ : ∃ rec : LoopState → Option Code → Loop, rec = fun st pe => { state := st, pending := pe, fn, tmps := a.tmps, params := #[p, q], assign, body, defers := w.heap.size } := ⟨_, rfl⟩
  obtain ⟨W1, hW1⟩ : ∃ W1, (w.alloc (.deferred (some []))).alloc (.loop (rec .ready none)) = W1 := ⟨_, rfl⟩
  have hE1 : Ext w W1 := by rw [← hW1]; exact ((Ext.refl w).alloc _).alloc _
  have hL1 : W1.heap[w.heap.size + 1]? = some (.loop (rec .ready none)) := by rw [← hW1]; exact alloc_at _ _ _ (by simp)
  have hK1 : W1.heap[w.heap.size]? = some (.deferred (some [])) := by rw [← hW1, alloc_lt _ _ _ (by simp)]; exact alloc_at _ _ _ rfl
  have hI1 : I W1 := hIE _ _ (Nat.le_refl _) h0 hE1
  refine ⟨w.heap.size + 1, [{ target := .collected w.heap.size, args := #[] }], W1, { target := .fn (.func 95) #[], args := #[.func (.yield (w.heap.size + 1)) #[] #[]] }, W1, 95,
    #[.func (.yield (w.heap.size + 1)) #[] #[]], W1, ?_, ?_, ?_, ?_, fun _ => h1, ?_⟩
  · rw [← hW1, hrec]; exact run_enterLoop_outer _ _ _ _ _
  · simp only [resolve, hg]
    simp [go_sem]
  · intro f' _; trivial
  · kernel_rfl
  · have fin : ∀ (W W3 : World) (jump : Option Code), W.heap[w.heap.size + 1]? = some (.loop (rec .ready none)) → W.heap[w.heap.size]? = some (.deferred (some [])) → KeepsFrom w.heap.size (W.putObj (w.heap.size + 1) (.loop { rec .ready none with state := .busy })) W3 →
        (Instr.endRound (w.heap.size + 1) jump).run Try.prog W3 = .ok (.bool jump.isNone) (W3.putObj (w.heap.size + 1) (.loop (rec (if jump.isNone then .ready else .done) jump))) ∧
        W3.heap[w.heap.size + 1]? = some (.loop { rec .ready none with state := .busy }) ∧
        (W3.putObj (w.heap.size + 1) (.loop (rec (if jump.isNone then .ready else .done) jump))).heap[w.heap.size + 1]? = some (.loop (rec (if jump.isNone then .ready else .done) jump)) ∧
        (W3.putObj (w.heap.size + 1) (.loop (rec (if jump.isNone then .ready else .done) jump))).heap[w.heap.size]? = some (.deferred (some [])) := fun W W3 jump hl hk hk3 => by
      have hl2 : (W.putObj (w.heap.size + 1) (.loop { rec .ready none with state := .busy })).heap[w.heap.size + 1]? = some (.loop { rec .ready none with state := .busy }) := World.putObj_heap_same (Array.getElem?_eq_some_iff.1 hl).1
      have hk2 : (W.putObj (w.heap.size + 1) (.loop { rec .ready none with state := .busy })).heap[w.heap.size]? = some (.deferred (some [])) := (World.putObj_heap_other (by omega)).trans hk
      have hl3 := hk3.same _ _ (by omega) hl2 rfl
      have := run_endRound (P := Try.prog) jump hl3
      rw [hrec] at this ⊢
      exact ⟨this, by rw [hrec] at hl3; exact hl3, World.putObj_heap_same (Array.getElem?_eq_some_iff.1 hl3).1, (World.putObj_heap_other (by omega)).trans (hk3.same _ _ (Nat.le_refl _) hk2 rfl)⟩
    refine (weights1_in (w.heap.size + 1) N (fun W => I W ∧ W.heap[w.heap.size + 1]? = some (.loop (rec .ready none)) ∧ W.heap[w.heap.size]? = some (.deferred (some [])))
      (fun W => Ix W ∧ W.heap[w.heap.size + 1]? = some (.loop (rec .done (some .ret))) ∧ W.heap[w.heap.size]? = some (.deferred (some [])))
      (Lib.hid hN) ?_ ?_ (n - 1) W1 ⟨hI1, hL1, hK1⟩).mono ?_
    · rintro m k W hk ⟨hi, hl, hd⟩
      have hlt : w.heap.size + 1 < W.heap.size := (Array.getElem?_eq_some_iff.1 hl).1
      have hy := run_yield (P := Try.prog) (args := #[.int .i64 (k : Nat), .int .u64 (wrow k : Nat)]) hl (by rw [hrec]; rfl)
      rw [hrec] at hy
      refine ⟨fn, _, assign, body, hy, roundIn_of_wpIn hfn (hassign _ _ k W _ ?_)⟩
      clear hy
      refine ⟨_, run_beginRound hl (by rw [hrec]), ?_⟩
      have hK2 : KN W (W.putObj (w.heap.size + 1) (.loop { rec .ready none with state := .busy })) := Keep.putObj _ _ _ _ hl rfl
      refine wpIn_mono (hbody _ _ k _ (Nat.le_of_lt hk) (by simp; omega) (hIp _ _ _ _ (by omega) hl rfl hi)) ?_
      rintro e a3 W3 hp
      cases e with
      | normal =>
        obtain ⟨-, hk3, hkn, hi3⟩ := hp
        obtain ⟨hr, hl3, hl4, hk4⟩ := fin W W3 none hl hd hk3
        exact ⟨_, _, hr, rfl, ⟨hIp _ _ _ _ (by omega) hl3 rfl hi3, hl4, hk4⟩, (hK2.trans hkn).trans (Keep.putObj _ _ _ _ hl3 rfl)⟩
      | exit i => exact hp.elim
      | ret => exact absurd (of_decide_eq_true hp.1) (Nat.ne_of_lt hk)
      | goto t => exact hp.elim
      | panic ch => exact hp.elim
      | outgrown => exact hp.elim
    · rintro m W ⟨hi, hl, hd⟩
      have hlt : w.heap.size + 1 < W.heap.size := (Array.getElem?_eq_some_iff.1 hl).1
      have hy := run_yield (P := Try.prog) (args := #[.int .i64 (N : Nat), .int .u64 (wrow N : Nat)]) hl (by rw [hrec]; rfl)
      rw [hrec] at hy
      refine ⟨fn, _, assign, body, hy, roundIn_of_wpIn hfn (hassign _ _ N W _ ?_)⟩
      clear hy
      refine ⟨_, run_beginRound hl (by rw [hrec]), ?_⟩
      refine wpIn_mono (hbody _ _ N _ (Nat.le_refl _) (by simp; omega) (hIp _ _ _ _ (by omega) hl rfl hi)) ?_
      rintro e a3 W3 hp
      cases e with
      | normal => exact absurd hp.1 (by simp)
      | ret =>
        obtain ⟨-, hk3, hi3⟩ := hp
        obtain ⟨hr, hl3, hl4, hk4⟩ := fin W W3 (some .ret) hl hd hk3
        exact ⟨_, _, hr, rfl, hXp _ _ _ _ (by omega) hl3 rfl hi3, hl4, hk4⟩
      | exit i => exact hp.elim
      | goto t => exact hp.elim
      | panic ch => exact hp.elim
      | outgrown => exact hp.elim
    · rintro e W2 ⟨⟨v, rfl⟩, hi, hl, hk⟩
      exact ⟨some .ret, _, by have := run_endLoop (P := Try.prog) hl (by rw [hrec]; simp); rw [hrec] at this; exact this, hstop _ _ (Nat.le_refl _) (hXp _ _ _ _ (by omega) hl rfl hi) ((World.putObj_heap_other (by omega)).trans hk)⟩
theorem results_cell1 {fn : Func} {t : Tmp} {A : TypeId} (h : fn.results = #[.cell t A]) (tmps : Array Value) (w : World) {a : Value} {p : Addr} (ht : tmps.getD t undef = .pointer (some p))
    (hA : ∀ w : World, (isAgg A).run Try.prog w = .ok false w) (hp : w.cell? p = some a) :
    (results fn tmps).run Try.prog w = .ok a w := by
  simp only [Array.getD_eq_getD_getElem?] at ht
  simp [results, h, ht, loadVar, hA, asAddr, hp]
/-- what weight lays into memory. -/
def wrowW (w : World) (i : Int) : World := (w.alloc (.cells #[.int .i64 i] 3)).alloc (.cells #[.int .u64 0] 37)
theorem wrowW_all (w : World) (i : Int) : Ext w (wrowW w i) ∧ (wrowW w i).heap.size = w.heap.size + 2 ∧ Boxed (wrowW w i) w.heap.size 3 (.int .i64 i) ∧ Boxed (wrowW w i) (w.heap.size + 1) 37 (.int .u64 0) := by
  refine ⟨((Ext.refl w).alloc _).alloc _, by simp [wrowW], ?_, ?_⟩ <;> unfold wrowW <;> (try unfold Boxed) <;> (repeat (first | exact alloc_at _ _ _ (by simp) | rw [alloc_lt _ _ _ (by simp <;> omega)]))
set_option maxRecDepth 100000 in
set_option maxHeartbeats 2000000 in
theorem weight_in (n : Nat) (hn : Hid (1 ≤ n)) (w : World) (N : Nat) (hN0 : N ≤ 101) : CallsIn Fence.wide n Try.prog 54 #[.int .i64 (N : Nat)] w (Ret (.int .u64 (wrow N : Nat)) w) := by
  have hfn : ∀ f, Fence.wide.fn f := fun _ => trivial
  have HN := Lib.hid hN0
  clear hN0
  refine callsIn_of_wp_marks Try.func54 rfl trivial ?_ rfl
  simp only [Try.ntmps54, List.size_toArray, List.length_cons, List.length_nil, Nat.reduceAdd, Nat.reduceSub, Array.replicate_succ, Array.replicate_zero, List.push_toArray, List.append_toArray, List.nil_append, List.cons_append]
  gi_wp2_with fail
  refine ⟨wide_room _, (callsIn_wide.2 (weights_any _)).mono ?_⟩
  rintro e w1 ⟨rfl, rfl⟩
  gi_wp2_with fail
  change Code.wpIn _ _ _ _ _ _ (wrowW w N)
  obtain ⟨hE, hsz, hbx, hbo⟩ := wrowW_all w N
  generalize wrowW w N = W0 at *
  have HSZ := Lib.hid hsz
  have HBX := Lib.hid hbx
  have HBO := Lib.hid hbo
  have HEX := Lib.hid hE
  clear hbx hbo hE hsz
  refine range_weights (N := N) hn.out HN.out rfl (fun W => Boxed W w.heap.size 3 (.int .i64 N) ∧ Boxed W (w.heap.size + 1) 37 (.int .u64 0) ∧ Below w.heap.size W0 W)
    (fun W => Boxed W (w.heap.size + 1) 37 (.int .u64 (wrow N : Nat)) ∧ Below w.heap.size W0 W)
    (fun W W' hs ⟨i1, i2, i3⟩ hE => ⟨hE.get i1, hE.get i2, i3.trans (RowKit.Below.mono hE (by have := HSZ.out; omega))⟩) ?put ?putx ⟨HBX.out, HBO.out, RowKit.Below.refl _ _⟩
    (fun k => { tmps := #[Value.int IntKind.i64 N, Value.pointer (some { block := w.heap.size, off := 0 }), Value.pointer (some { block := w.heap.size + 1, off := 0 }), Value.int IntKind.i64 k, Value.int IntKind.u64 (wrow k : Nat),
              Value.func (Fn.func 95) #[] #[], Value.int IntKind.i64 k, Value.int IntKind.u64 (wrow k : Nat), undef, undef, undef, undef], defers := [] }) ?assign ?body ?stop
  case put =>
    rintro W l o o' hl ho hc ⟨i1, i2, i3⟩
    have h0 := (Array.getElem?_eq_some_iff.1 ho).1
    exact ⟨i1.kept (grownBy_putObj' _ l _) (by have := HSZ.out; simp; omega), i2.kept (grownBy_putObj' _ l _) (by have := HSZ.out; simp; omega), below_putN i3 (by have := HSZ.out; omega) (by have := HSZ.out; omega) _⟩
  case putx =>
    rintro W l o o' hl ho hc ⟨i2, i3⟩
    have h0 := (Array.getElem?_eq_some_iff.1 ho).1
    exact ⟨i2.kept (grownBy_putObj' _ l _) (by have := HSZ.out; simp; omega), below_putN i3 (by have := HSZ.out; omega) (by have := HSZ.out; omega) _⟩
  case assign =>
    intro m l k W K hK
    gi_wp2
    exact hK
  case body =>
    rintro m l k W hk hs ⟨i1, i2, i3⟩
    have HI := Lib.hid (And.intro i1 (And.intro i2 i3))
    have hc1 := i1.cell
    have hc2 := i2.cell
    have hf2 := i2.frozen
    clear i1 i2 i3
    by_cases e : k = N
    · subst e
      gi_wp2
      refine ⟨rfl, keepsFrom_set _ _ _, HI.out.2.1.set _, ?_⟩
      exact HI.out.2.2.setCell (p := ⟨w.heap.size + 1, 0, none⟩) (Nat.le_succ _) _
    · have e' : ¬ (k : Int) = (N : Int) := by omega
      have HX := Lib.hid e
      clear e
      gi_wp2
      exact ⟨by first | rfl | exact decide_eq_false HX.out, KeepsFrom.refl _ _, Keep.refl _ _, HI.out⟩
  case stop =>
    rintro D W hD ⟨i1, i3⟩ hK
    have HI := Lib.hid (And.intro i1 (And.intro i3 (And.intro hD hK)))
    clear i1 i3 hD hK
    gi_wp2_with fail
    have hD := HI.out.2.2.1
    have hs := HSZ.out
    have f2 := HI.out.1.kept (grownBy_putObj' _ D (.deferred none)) (by simp; omega)
    have hB : Below w.heap.size w W0 := HEX.out
    have hB2 := hB.trans HI.out.2.1
    refine ⟨by simp, .inl ⟨_, _, rfl, run_takeDeferred HI.out.2.2.2, ?_⟩⟩
    exact ⟨_, results_cell1 rfl _ _ rfl (fun _ => by kernel_rfl) f2.cell, rfl, below_putN hB2 (Below.size hB2) (by omega) _⟩
/-- **bound.weight**. -/
theorem weight_any (w : World) (N : Nat) (hN : N ≤ 101) : Calls Try.prog 54 #[.int .i64 (N : Nat)] w (Ret (.int .u64 (wrow N : Nat)) w) := callsIn_wide.1 (weight_in 1 (Lib.hid (Nat.le_refl 1)) w N hN)
set_option maxHeartbeats 1000000 in
theorem weight34_any (w : World) (N : Nat) (hN : N ≤ 101) : Calls Try.prog 32 #[.int .i64 (N : Nat)] w (Ret (.int .u64 (wrow N : Nat)) w) := by
  have HN := Lib.hid hN
  go_enter Try.func32, Try.ntmps32
  go_wp2
  go_loop [3, 4] (fun a i => ∃ k : Nat, i = .int .i64 (k : Nat) ∧ a = .int .u64 (wrow k : Nat) ∧ Hid (k ≤ N)) (fun _ i => N - (intOf i).toNat)
  case atStart => exact ⟨0, rfl, rfl, Lib.hid (Nat.zero_le _)⟩
  case round =>
    obtain ⟨k, rfl, rfl, HH⟩ := hrel
    by_cases hk : k < N
    · have HK := Lib.hid hk
      have hkn : k < 101 := Nat.lt_of_lt_of_le hk HN.out
      have ha := wrow_lt (k := k) (by omega)
      have HS := Lib.hid (wrow_alt k)
      generalize wrow k = a at *
      go_wp2
      go_round
      case rel => exact ⟨k + 1, by go_num, by rw [HS.out]; rfl, Lib.hid HK.out⟩
      case measure => exact meas_s HK.out
    · obtain rfl : k = N := Nat.le_antisymm HH.out (Nat.le_of_not_lt hk)
      go_wp2
      go_ret
      exact Ret.mk (Ext.refl _)
end Go.Proofs.Ytejknkhahjgdnaa
