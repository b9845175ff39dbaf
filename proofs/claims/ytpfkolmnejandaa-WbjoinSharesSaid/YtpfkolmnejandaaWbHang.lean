/- wbjoin.hang. -/
import Derived.Test.YtpfkolmnejandaaWbJoin2
import Derived.MapKept
namespace Go.Proofs.Ytpfkolmnejandaa
open Go Go.RowKit

theorem turn_up {P : Program} (w : World) (mty kt et : TypeId) (clock : Nat) (es : Array MapEntry) (k : Bool) (val : Value) (hm : P.underlying mty = some (.map kt et)) (hk : P.underlying kt = some .bool)
    (hf : Instr.findNow .bool (.bool k) es.toList 0 = some none) (b : Nat) (hb : w.heap.size = b) :
    (Instr.mapUpdate mty (.map (some b)) (.bool k) val).run P (w.alloc (.map es clock)) = .ok () (w.alloc (.map (es.push { key := .bool k, val := val, born := clock }) (clock + 1))) := by
  subst hb
  have hb : (w.alloc (.map es clock)).heap[w.heap.size]? = some (.map es clock) := by show (w.heap.push _)[w.heap.size]? = _; simp
  have hc : (Instr.checkKey false 10000 kt (.bool k)).run P (w.alloc (.map es clock)) = .ok () (w.alloc (.map es clock)) := MapKept.run_checkKey hk (by simp [MapKept.IsKey]) false 9999
  have hk' : (Instr.findKey kt (.bool k) es.toList).run P (w.alloc (.map es clock)) = .ok none (w.alloc (.map es clock)) := MapKept.run_findKey hk hf
  have hs : ∀ (o o' : Obj), ({ (w.alloc o) with heap := (w.alloc o).heap.setIfInBounds w.heap.size o' } : World) = w.alloc o' := fun o o' => by
    simp only [World.alloc]; congr 1; apply Array.ext_getElem?; intro i; rw [Array.getElem?_setIfInBounds, Array.getElem?_push, Array.getElem?_push]; simp; grind
  simp [Instr.mapUpdate, run_underlying hm, MapKept.run_getObj_map hb, hc, hk', MapKept.run_setObj_map _ hb, Result.andThen]
  exact hs (.map es clock) _
theorem turn_look {P : Program} {w : World} {N : Nat} {mty kt et : TypeId} {es : Array MapEntry} {clock i : Nat} {k : Bool} {v : Value} (hm : P.underlying mty = some (.map kt et)) (hk : P.underlying kt = some .bool) (hb : w.heap[N]? = some (.map es clock))
    (hf : Instr.findNow .bool (.bool k) es.toList 0 = some (some (i, v))) : (Instr.lookup mty (.map (some N)) (.bool k) false).run P w = .ok v w := by
  have hc : ∀ e, (Instr.checkKey e 10000 kt (.bool k)).run P w = .ok () w := fun e => MapKept.run_checkKey hk (by simp [MapKept.IsKey]) e 9999
  have hk' : (Instr.findKey kt (.bool k) es.toList).run P w = .ok (some (i, v)) w := MapKept.run_findKey hk hf
  simp [Instr.lookup, run_underlying hm, MapKept.run_getObj_map hb, hc, hk', Result.andThen]
/-- the map of turns. -/
def turnF (c : Bool) : Nat := if c then 51 else 52
def turnsE (s : Bool) : Array MapEntry := #[{ key := .bool true, val := .func (.func 51) #[sideV s] #[], born := 0 }, { key := .bool false, val := .func (.func 52) #[sideV s] #[], born := 1 }]
theorem turns_once {w : World} {N : Nat} (s : Bool) (h : w.heap[N]? = some (.map (turnsE s) 2)) : (Instr.lookup 82 (.map (some N)) (.bool true) false).run Try.prog w = .ok (.func (.func 51) #[sideV s] #[]) w :=
  turn_look Try.underlying82 Try.underlying4 h rfl
theorem turns_twice {w : World} {N : Nat} (s : Bool) (h : w.heap[N]? = some (.map (turnsE s) 2)) : (Instr.lookup 82 (.map (some N)) (.bool false) false).run Try.prog w = .ok (.func (.func 52) #[sideV s] #[]) w :=
  turn_look Try.underlying82 Try.underlying4 h rfl
/-- what hang hands back. -/
def WHangs (n : Nat) (s : Bool) (t low : Tr) (k v : Int) (w : World) (e : Ending) (w' : World) : Prop :=
  ∃ T : Tr, e = .returned (.pointer T.ptr) ∧ WHang n s t low k v T ∧ InH w' T ∧ Ext w w'
def WHangSpec (s : Bool) (n : Nat) (P low : Tr) (t : Tr) : Prop :=
  ∀ (w : World), n ≤ w.heap.size → InH w t → InH w P → InH w low → WbH t → (lk (t.count + 1) (low.count + 1) ∨ low.count ≤ t.count) → t.count + low.count ≤ 90000 → t.news n = 0 →
    Calls Try.prog 30 #[sideV s, .pointer t.ptr, .pointer P.ptr, .pointer low.ptr] w (WHangs n s t low P.key P.val w)
/-- the numbers of a level. -/
theorem wnum {W L i o : Nat} (e : W = i + o) (h : lk i o) (hno : ¬ lk W L) (hL : L ≤ W) : 71 * L < 29 * (i + o) ∧ (lk o L ∨ L ≤ o) := by
  unfold lk at *
  omega
theorem wadd {a b : Tr} (h : a.count + b.count ≤ 95000) : IntKind.i64.wrap (wt a + wt b) = wt a + wt b := by
  rw [wt_count a (by omega), wt_count b (by omega)]
  have : (2 : Int) ^ 64 = 18446744073709551616 := by decide
  have : (2 : Int) ^ 63 = 9223372036854775808 := by decide
  simp only [IntKind.wrap, IntKind.bits, IntKind.signed]
  simp
  omega
theorem wlike {a b : Tr} (h : a.count + b.count ≤ 95000) : likeB (wt a) (wt b) = true ↔ lk (a.count + 1) (b.count + 1) := by
  rw [wt_count a (by omega), wt_count b (by omega)]
  exact likeB_lk (by omega) (by omega) (by omega) (by omega)
theorem wlike2 {a b c : Tr} (h : a.count + b.count + c.count ≤ 95000) : likeB (wt a + wt b) (wt c) = true ↔ lk (a.count + 1 + (b.count + 1)) (c.count + 1) := by
  rw [wt_count a (by omega), wt_count b (by omega), wt_count c (by omega), ← likeB_lk (by omega) (by omega) (by omega) (by omega)]
  exact Iff.rfl
end Go.Proofs.Ytpfkolmnejandaa
