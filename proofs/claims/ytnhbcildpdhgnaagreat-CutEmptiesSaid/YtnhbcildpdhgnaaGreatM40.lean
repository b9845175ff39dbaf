/- look.goes, as what goes over a tree; look.nodes, Count, Height. -/
import Derived.Test.YtnhbcildpdhgnaaGreatM34
namespace Go.Proofs.YtnhbcildpdhgnaaGreat
open Go Go.RowKit Go.Shelf
attribute [local go_sem] Oper.semAt_some

theorem ext_abides {β : Type} {B : Nat} {J : β → World → Prop} (hJ : AbidesFrom B J) {s : β} {W W' : World} (h : J s W) (hE : Ext W W') : J s W' :=
  hJ s W W' none h ⟨hE.os, hE.tape, hE.output, Below.size hE, fun k hk _ => Below.block hE k hk⟩ (fun r e => by cases e)
/-- lists of what has a property, as lists. -/
def UnderP {Px : Tr → Prop} (J : List { x : Tr // Px x } → World → Prop) (l : List Tr) (W : World) : Prop := ∃ l' : List { x : Tr // Px x }, l'.map (·.1) = l ∧ J l' W
/-- what look.goes lays into memory. -/
def goesW (w : World) (p : Option Addr) (fa fb : Value) : World := ((w.alloc (.cells #[.pointer p] 29)).alloc (.cells #[fa] 65)).alloc (.cells #[fb] 65)
theorem goesW_all (w : World) (p : Option Addr) (fa fb : Value) : Ext w (goesW w p fa fb) ∧ (goesW w p fa fb).heap.size = w.heap.size + 3 ∧ Boxed (goesW w p fa fb) w.heap.size 29 (.pointer p) ∧ Boxed (goesW w p fa fb) (w.heap.size + 1) 65 fa ∧ Boxed (goesW w p fa fb) (w.heap.size + 1 + 1) 65 fb := by
  refine ⟨(((Ext.refl w).alloc _).alloc _).alloc _, by simp [goesW], ?_, ?_, ?_⟩ <;> unfold goesW <;> (try unfold Boxed) <;> (repeat (first | exact alloc_at _ _ _ (by simp) | rw [alloc_lt _ _ _ (by simp <;> omega)]))
/-- how high a tree is. -/
def hgt : Tr → Int
  | .nil => 0
  | .node _ l _ _ _ r => wrap64 (1 + max (hgt l) (hgt r))
theorem wrap64_up (a : Int) : wrap64 (wrap64 a + 1) = wrap64 (a + 1) := by unfold wrap64; omega
theorem results_box {fn : Func} {t : Tmp} {A : TypeId} (h : fn.results = #[.cell t A]) (tmps : Array Value) (w : World) {a : Value} {p : Addr} (ht : tmps.getD t undef = .pointer (some p))
    (hA : ∀ w : World, (isAgg A).run Tryz.prog w = .ok false w) (hp : w.cell? p = some a) :
    (results fn tmps).run Tryz.prog w = .ok a w := by
  simp only [Array.getD_eq_getD_getElem?] at ht
  simp [results, h, ht, loadVar, hA, asAddr, hp]
/-- a function's end, whose one result lies in a box of its own that has been written once more, behind a range over a function. -/
theorem one_end {w W0 W : World} {N D : Nat} {t : TypeId} {a : Value} (hN : w.heap.size = N) (hE : Ext w W0) (hb : Below N W0 W) (hD : W0.heap.size ≤ D) (hK : W.heap[D]? = some (.deferred (some []))) (h1 : Boxed W N t a) (hs : N + 1 ≤ W0.heap.size) :
    (W.setCell ⟨N, 0, none⟩ a).heap[D]? = some (.deferred (some [])) ∧ ((W.setCell ⟨N, 0, none⟩ a).putObj D (.deferred none)).cell? ⟨N, 0, none⟩ = some a ∧ Ext w ((W.setCell ⟨N, 0, none⟩ a).putObj D (.deferred none)) := by
  have hk : (W.setCell ⟨N, 0, none⟩ a).heap[D]? = some (.deferred (some [])) := (KeepsOthers.setCell _ _ _).same D _ hK rfl
  refine ⟨hk, (Boxed.kept (h1.set a) (grownBy_putObj' _ D _) (by simp; omega)).cell, ?_⟩
  have hB : Below N w W0 := by have := hE; unfold Ext at this; rwa [hN] at this
  have hB2 := (hB.trans hb).setCell (p := ⟨N, 0, none⟩) (Nat.le_refl N) a
  have := hB2.trans (belowK_b (w := W0) (n₀ := N) (by omega) _ D _ (.deferred none) hD hk rfl rfl)
  unfold Ext
  rwa [hN]
/-- the world ahead of Count's loop. -/
def cntW (w : World) (p : Option Addr) : World := goesW (w.alloc (.cells #[.int .i64 0] 3)) p (.func (.func 51) #[] #[]) (.func (.func 53) #[] #[])
theorem cntW_all (w : World) (p : Option Addr) : Ext w (cntW w p) ∧ (cntW w p).heap.size = w.heap.size + 4 ∧ Boxed (cntW w p) w.heap.size 3 (.int .i64 0) ∧ Boxed (cntW w p) (w.heap.size + 1) 29 (.pointer p) ∧
    Boxed (cntW w p) (w.heap.size + 1 + 1) 65 (.func (.func 51) #[] #[]) ∧ Boxed (cntW w p) (w.heap.size + 1 + 1 + 1) 65 (.func (.func 53) #[] #[]) := by
  refine ⟨((((Ext.refl w).alloc _).alloc _).alloc _).alloc _, by simp [cntW, goesW], ?_, ?_, ?_, ?_⟩ <;> unfold cntW goesW <;> (try unfold Boxed) <;> (repeat (first | exact alloc_at _ _ _ (by simp) | rw [alloc_lt _ _ _ (by simp <;> omega)]))
end Go.Proofs.YtnhbcildpdhgnaaGreat
