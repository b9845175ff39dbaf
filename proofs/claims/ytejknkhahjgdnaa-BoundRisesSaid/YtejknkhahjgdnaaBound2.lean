/- bound.kinds, fewer. -/
import Derived.Test.YtejknkhahjgdnaaBound1
import Derived.MapKept
namespace Go.Proofs.Ytejknkhahjgdnaa
open Go Go.RowKit

theorem put_u8 {P : Program} (w : World) (mty kt et : TypeId) (clock : Nat) (es : Array MapEntry) (k : Int) (val : Value) (hm : P.underlying mty = some (.map kt et)) (hk : P.underlying kt = some (.int .u8))
    (hf : Instr.findNow (.int .u8) (.int .u8 k) es.toList 0 = some none) (b : Nat) (hb : w.heap.size = b) :
    (Instr.mapUpdate mty (.map (some b)) (.int .u8 k) val).run P (w.alloc (.map es clock)) = .ok () (w.alloc (.map (es.push { key := .int .u8 k, val := val, born := clock }) (clock + 1))) := by
  subst hb
  have hb : (w.alloc (.map es clock)).heap[w.heap.size]? = some (.map es clock) := by show (w.heap.push _)[w.heap.size]? = _; simp
  have hc : (Instr.checkKey false 10000 kt (.int .u8 k)).run P (w.alloc (.map es clock)) = .ok () (w.alloc (.map es clock)) := MapKept.run_checkKey hk (by simp [MapKept.IsKey]) false 9999
  have hk' : (Instr.findKey kt (.int .u8 k) es.toList).run P (w.alloc (.map es clock)) = .ok none (w.alloc (.map es clock)) := MapKept.run_findKey hk hf
  have hs : ∀ (o o' : Obj), ({ (w.alloc o) with heap := (w.alloc o).heap.setIfInBounds w.heap.size o' } : World) = w.alloc o' := fun o o' => by
    simp only [World.alloc]; congr 1; apply Array.ext_getElem?; intro i; rw [Array.getElem?_setIfInBounds, Array.getElem?_push, Array.getElem?_push]; simp; grind
  simp [Instr.mapUpdate, run_underlying hm, MapKept.run_getObj_map hb, hc, hk', MapKept.run_setObj_map _ hb, Result.andThen]
  exact hs (.map es clock) _
theorem look_u8 {P : Program} {w : World} {N : Nat} {mty kt et : TypeId} {es : Array MapEntry} {clock i : Nat} {k : Int} {v : Value} (hm : P.underlying mty = some (.map kt et)) (hk : P.underlying kt = some (.int .u8)) (hb : w.heap[N]? = some (.map es clock))
    (hf : Instr.findNow (.int .u8) (.int .u8 k) es.toList 0 = some (some (i, v))) : (Instr.lookup mty (.map (some N)) (.int .u8 k) true).run P w = .ok (.tuple #[v, .bool true]) w := by
  have hc : ∀ e, (Instr.checkKey e 10000 kt (.int .u8 k)).run P w = .ok () w := fun e => MapKept.run_checkKey hk (by simp [MapKept.IsKey]) e 9999
  have hk' : (Instr.findKey kt (.int .u8 k) es.toList).run P w = .ok (some (i, v)) w := MapKept.run_findKey hk hf
  simp [Instr.lookup, run_underlying hm, MapKept.run_getObj_map hb, hc, hk', Result.andThen]
theorem miss_u8 {P : Program} {w : World} {N : Nat} {mty kt et : TypeId} {es : Array MapEntry} {clock : Nat} {k : Int} {z : Value} (hm : P.underlying mty = some (.map kt et)) (hk : P.underlying kt = some (.int .u8)) (hb : w.heap[N]? = some (.map es clock))
    (hz : (zeroValue et).run P w = .ok z w) (hf : Instr.findNow (.int .u8) (.int .u8 k) es.toList 0 = some none) : (Instr.lookup mty (.map (some N)) (.int .u8 k) true).run P w = .ok (.tuple #[z, .bool false]) w := by
  have hc : ∀ e, (Instr.checkKey e 10000 kt (.int .u8 k)).run P w = .ok () w := fun e => MapKept.run_checkKey hk (by simp [MapKept.IsKey]) e 9999
  have hk' : (Instr.findKey kt (.int .u8 k) es.toList).run P w = .ok none w := MapKept.run_findKey hk hf
  simp [Instr.lookup, run_underlying hm, MapKept.run_getObj_map hb, hc, hk', hz, Result.andThen]
/-- the map of kinds. -/
def kindV (m : Int) (f : Value) : Value := .agg #[.int .i64 m, f]
def kindsE (M : Int) : Array MapEntry := #[{ key := .int .u8 1, val := .agg #[.int .i64 100, .nilFunc], born := 0 }, { key := .int .u8 2, val := .agg #[.int .i64 100, .func (.func 52) #[] #[]], born := 1 },
  { key := .int .u8 3, val := .agg #[.int .i64 100, .func (.func 53) #[] #[]], born := 2 }, { key := .int .u8 4, val := .agg #[.int .i64 M, .func (.func 55) #[] #[]], born := 3 }]
set_option maxHeartbeats 1000000 in
theorem kinds_any (w : World) (M : Int) (hM : M = 1099511627776) : Calls Try.prog 24 #[] w fun e w' => e = .returned (.map (some w.heap.size)) ∧ w' = w.alloc (.map (kindsE M) 4) := by
  have hmm := @run_makeMap Try.prog
  have hup := fun (w : World) (k : Int) (v : Value) (es : Array MapEntry) (c : Nat) (h : Instr.findNow (.int .u8) (.int .u8 k) es.toList 0 = some none) => put_u8 (P := Try.prog) w _ _ _ c es k v Try.underlying55 Try.underlying5 h
  have hf1 : ∀ d k i, Instr.findNow d k [] i = some none := fun _ _ _ => rfl
  have hf2 : ∀ (k a : Int) (v : Value) (n : Nat) (es : List MapEntry) i, (a == k) = false → Instr.findNow (.int .u8) (.int .u8 a) (⟨.int .u8 k, v, n⟩ :: es) i = Instr.findNow (.int .u8) (.int .u8 a) es (i + 1) := fun k a v n es i h => by
    simp [Instr.findNow, Instr.sameNow, h]
  go_enter Try.func24, Try.ntmps24
  rw [← hM]
  clear hM
  go_wp2_with fail
  go_ret
  trace_state
  exact ⟨rfl, rfl⟩
end Go.Proofs.Ytejknkhahjgdnaa
