/- What a going over a tree keeps: all cells but those of some blocks of the caller's own. -/
import Derived.RangeFuncNested
import Derived.RangeFuncBound
import Derived.RangeFuncCalls
import Derived.RangeFuncLeaves
import Derived.Shelf.Abstract
import Derived.Shelf.RegionOpen
import Derived.OwnWalkIn
import Derived.TacticsInMore
import Derived.LoopNIn
import Derived.LoopIn
import Derived.Test.YtkbndpemljommaaNode
namespace Go.Proofs.Ytkbndpemljommaa
open Go Go.RowKit Go.Shelf

theorem ret_int {k : IntKind} {a b : Int} (h : a = b) : Ending.returned (.int k a) = .returned (.int k b) := by rw [h]
theorem ret_bool {a b : Bool} (h : a = b) : Ending.returned (.bool a) = .returned (.bool b) := by rw [h]
theorem ret_two {k l : IntKind} {a b c d : Int} (h : a = c) (h' : b = d) : Ending.returned (.tuple #[.int k a, .int l b]) = .returned (.tuple #[.int k c, .int l d]) := by rw [h, h']
/-- all cells stay, but those of the blocks in M; and so do the streams. -/
structure Keep (M : Nat → Prop) (w w' : World) : Prop where
  os : w'.os = w.os
  tape : w'.tape = w.tape
  output : w'.output = w.output
  size : w.heap.size ≤ w'.heap.size
  cells : ∀ (i : Nat) (c : Array Value) (t : TypeId) (f : Nat × Nat), ¬ M i → w.heap[i]? = some (.cells c t f) → w'.heap[i]? = some (.cells c t f)
theorem Keep.refl (M : Nat → Prop) (w : World) : Keep M w w := ⟨rfl, rfl, rfl, Nat.le_refl _, fun _ _ _ _ _ h => h⟩
theorem Keep.trans {M : Nat → Prop} {a b c : World} (h : Keep M a b) (k : Keep M b c) : Keep M a c :=
  ⟨k.os.trans h.os, k.tape.trans h.tape, k.output.trans h.output, Nat.le_trans h.size k.size, fun i x t f hi hx => k.cells i x t f hi (h.cells i x t f hi hx)⟩
theorem Keep.ext {M : Nat → Prop} {a b : World} (h : Ext a b) : Keep M a b := ⟨h.os, h.tape, h.output, Below.size h, fun _ _ _ _ _ hx => Ext.get h hx⟩
theorem Keep.putObj {M : Nat → Prop} (W : World) (l : Nat) (o o' : Obj) (h : W.heap[l]? = some o) (ho : o.isCells = false) : Keep M W (W.putObj l o') :=
  ⟨rfl, rfl, rfl, (grownBy_putObj' W l o').size, fun i c t f _ hx => by
    rw [World.putObj_heap_other (fun e => by subst e; rw [h] at hx; cases hx; cases ho)]; exact hx⟩
theorem Keep.setCell {M : Nat → Prop} (W : World) (p : Addr) (v : Value) (h : M p.block) : Keep M W (W.setCell p v) :=
  ⟨rfl, rfl, rfl, (KeepsWalks.setCell W _ v).size, fun i c t f hi hx => by
    rw [Below.heap_setCell _ _ _ i (fun e => hi (e ▸ h))]; exact hx⟩
theorem Keep.alloc {M : Nat → Prop} (W : World) (o : Obj) : Keep M W (W.alloc o) := Keep.ext ((Ext.refl W).alloc o)
theorem Keep.drew {M : Nat → Prop} (W : World) : Keep M W W.drew := ⟨rfl, rfl, rfl, Nat.le_refl _, fun _ _ _ _ _ hx => hx⟩
theorem Keep.boxed {M : Nat → Prop} {a b : World} (h : Keep M a b) {B : Nat} {t : TypeId} {v : Value} (hB : ¬ M B) (k : Boxed a B t v) : Boxed b B t v := h.cells _ _ _ _ hB k

/-- none of the tree's nodes lies in M. -/
def Off (M : Nat → Prop) : Tr → Prop
  | .nil => True
  | .node b l _ _ _ r => ¬ M b ∧ Off M l ∧ Off M r
theorem InH.keep {M : Nat → Prop} {a b : World} (h : Keep M a b) : ∀ {t : Tr}, Off M t → InH a t → InH b t
  | .nil, _, _ => trivial
  | .node _ _ _ _ _ _, ⟨o0, o1, o2⟩, ⟨h0, h1, h2⟩ => ⟨h.cells _ _ _ _ o0 h0, InH.keep h o1 h1, InH.keep h o2 h2⟩
/-- what lies in the heap lies off whatever lies beyond it. -/
theorem InH.off {w : World} {M : Nat → Prop} (hM : ∀ i, M i → w.heap.size ≤ i) : ∀ {t : Tr}, InH w t → Off M t
  | .nil, _ => trivial
  | .node b _ _ _ _ _, ⟨h0, h1, h2⟩ => ⟨fun hb => by have := hM b hb; have := lt_of h0; omega, InH.off hM h1, InH.off hM h2⟩
theorem keepK_b {M : Nat → Prop} {w : World} (W : World) (l : Nat) (o o' : Obj) (_ : w.heap.size ≤ l) (h : W.heap[l]? = some o) (ho : o.isCells = false) (_ : o.isWalk = false) : Keep M W (W.putObj l o') := Keep.putObj W l o o' h ho

theorem wide_room (k : Nat) : (Fence.wide.depth.isSome = true → 1 ≤ k) := fun h => by cases h
theorem RoundIn.any {m m' : Nat} {P : Program} {l : Nat} {f : FuncId} {tmps : Array Value} {assign body : Code} {w : World} {R : Ending → World → Prop}
    (h : RoundIn Fence.wide m P l f tmps assign body w R) : RoundIn Fence.wide m' P l f tmps assign body w R := ⟨h.1, fun c cs _ => h.2 c cs (fun d h => by cases h)⟩
theorem YieldAt.any {m : Nat} (m' : Nat) {P : Program} {l : Nat} {args : Array Value} {W : World} {R : Ending → World → Prop} (h : YieldAt Fence.wide m P l args W R) : YieldAt Fence.wide m' P l args W R := by
  obtain ⟨fn, tmps, assign, body, hy, hR⟩ := h
  exact ⟨fn, tmps, assign, body, hy, RoundIn.any hR⟩
theorem CallsIn.any {m : Nat} (m' : Nat) {P : Program} {f : FuncId} {args : Array Value} {w : World} {R : Ending → World → Prop} (h : CallsIn Fence.wide m P f args w R) : CallsIn Fence.wide m' P f args w R :=
  callsIn_wide.2 (callsIn_wide.1 h)
/-- what the law on ranges over functions does besides turns no cells. -/
theorem boxed_grown {W W' : World} {row : Option Nat} {B C : Nat} {t : TypeId} {v : Value} (h : Boxed W B t v) (hg : W.grownBy W' row) (hr : ∀ r, row = some r → C ≤ r ∧ ∃ o : Obj, W.heap[r]? = some o ∧ o.isCells = false) : Boxed W' B t v :=
  h.kept hg (fun e => by obtain ⟨_, o, ho, hc⟩ := hr B e.symm; rw [show W.heap[B]? = _ from h] at ho; cases ho; cases hc)
theorem keep_grown {M : Nat → Prop} {W0 W W' : World} {row : Option Nat} {C : Nat} (h : Keep M W0 W) (hg : W.grownBy W' row) (hr : ∀ r, row = some r → C ≤ r ∧ ∃ o : Obj, W.heap[r]? = some o ∧ o.isCells = false) : Keep M W0 W' :=
  h.trans ⟨hg.os, hg.tape, hg.output, hg.size, fun i c t f _ hx => by
    rw [hg.block i (Array.getElem?_eq_some_iff.1 hx).1 (fun e => by obtain ⟨_, o, ho, hc⟩ := hr i e.symm; rw [hx] at ho; cases ho; cases hc)]; exact hx⟩
theorem below_grown {n₀ C : Nat} {w₀ W W' : World} {row : Option Nat} (hn : n₀ ≤ w₀.heap.size) (hC : n₀ ≤ C) (h : Below n₀ w₀ W) (hg : W.grownBy W' row) (hr : ∀ r, row = some r → C ≤ r ∧ ∃ o : Obj, W.heap[r]? = some o ∧ o.isCells = false) : Below n₀ w₀ W' :=
  h.grown hg (Nat.le_trans hn h.size) (fun k e => Nat.le_trans hC (hr k e).1)
theorem keepsFrom_ext {B : Nat} {a b : World} (h : Ext a b) : KeepsFrom B a b := ⟨Below.size h, fun _ _ _ hk _ => Ext.get h hk⟩
theorem keepsFrom_set {B : Nat} (W : World) (p : Addr) (v : Value) : KeepsFrom B W (W.setCell p v) := (KeepsOthers.setCell W p v).from B
/-- a function's end, whose two results lie in boxes of its own that have been written once more, behind a range over a function. -/
theorem two_end {w W0 W : World} {N D : Nat} {t u : TypeId} {a b : Value} (hN : w.heap.size = N) (hE : Ext w W0) (hb : Below N W0 W) (hD : W0.heap.size ≤ D) (hK : W.heap[D]? = some (.deferred (some []))) (h1 : Boxed W N t a) (h2 : Boxed W (N + 1) u b) (hs : N + 2 ≤ W0.heap.size) :
    (((W.setCell ⟨N, 0, none⟩ a).setCell ⟨N + 1, 0, none⟩ b).drew).heap[D]? = some (.deferred (some [])) ∧
    ((((W.setCell ⟨N, 0, none⟩ a).setCell ⟨N + 1, 0, none⟩ b).drew).putObj D (.deferred none)).cell? ⟨N, 0, none⟩ = some a ∧
    ((((W.setCell ⟨N, 0, none⟩ a).setCell ⟨N + 1, 0, none⟩ b).drew).putObj D (.deferred none)).cell? ⟨N + 1, 0, none⟩ = some b ∧
    Ext w ((((W.setCell ⟨N, 0, none⟩ a).setCell ⟨N + 1, 0, none⟩ b).drew).putObj D (.deferred none)) := by
  have hk : (((W.setCell ⟨N, 0, none⟩ a).setCell ⟨N + 1, 0, none⟩ b).drew).heap[D]? = some (.deferred (some [])) := ((KeepsOthers.setCell _ _ _).trans (KeepsOthers.setCell _ _ _)).same D _ hK rfl
  have e1 : Boxed (((W.setCell ⟨N, 0, none⟩ a).setCell ⟨N + 1, 0, none⟩ b).drew) N t a := Boxed.other (h1.set a) (by omega) b
  have e2 : Boxed (((W.setCell ⟨N, 0, none⟩ a).setCell ⟨N + 1, 0, none⟩ b).drew) (N + 1) u b := Boxed.set b (h2.other (by omega) a)
  refine ⟨hk, (Boxed.kept e1 (grownBy_putObj' _ D _) (by simp; omega)).cell, (Boxed.kept e2 (grownBy_putObj' _ D _) (by simp; omega)).cell, ?_⟩
  have hB : Below N w W0 := by have := hE; unfold Ext at this; rwa [hN] at this
  have hB2 := ((((hB.trans hb).setCell (p := ⟨N, 0, none⟩) (Nat.le_refl N) a).setCell (p := ⟨N + 1, 0, none⟩) (Nat.le_succ N) b).drew)
  have := hB2.trans (belowK_b (w := W0) (n₀ := N) (by omega) _ D _ (.deferred none) hD hk rfl rfl)
  unfold Ext
  rwa [hN]
/-- a scope through which the run goes without a jump to its labels. -/
theorem wpIn_scope_wide {n : Nat} {P : Program} {c : Code} {Q : Exit → Act → World → Prop} {a : Act} {w : World} (h : c.wpIn Fence.wide n P (Exit.noGoto Q) a w) : (Code.scope c).wpIn Fence.wide n P Q a w :=
  wpIn_wide.2 (wp_scope_straight (wpIn_wide.1 h))
end Go.Proofs.Ytkbndpemljommaa
