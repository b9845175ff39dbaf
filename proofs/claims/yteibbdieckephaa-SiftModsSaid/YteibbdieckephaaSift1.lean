/- sift: its kinds, May. -/
import Derived.Test.YteibbdieckephaaDraw
import Derived.MapKept
namespace Go.Proofs.Yteibbdieckephaa
open Go Go.RowKit

/-- a store of a key that is not there, into a map keyed by integers. -/
theorem run_mapUpdate_new {P : Program} (w : World) (mty kt et : TypeId) (q : IntKind) (r clock : Nat) (es : Array MapEntry) (k : Int) (val : Value) (hm : P.underlying mty = some (.map kt et)) (hk : P.underlying kt = some (.int q)) (hb : w.heap[r]? = some (.map es clock))
    (hf : Instr.findNow (.int q) (.int q k) es.toList 0 = some none) :
    (Instr.mapUpdate mty (.map (some r)) (.int q k) val).run P w = .ok () { w with heap := w.heap.setIfInBounds r (.map (es.push { key := .int q k, val := val, born := clock }) (clock + 1)) } := by
  have hc : (Instr.checkKey false 10000 kt (.int q k)).run P w = .ok () w := MapKept.run_checkKey hk (by simp [MapKept.IsKey]) false 9999
  have hk' : (Instr.findKey kt (.int q k) es.toList).run P w = .ok none w := MapKept.run_findKey hk hf
  simp [Instr.mapUpdate, run_underlying hm, MapKept.run_getObj_map hb, hc, hk', MapKept.run_setObj_map _ hb, Result.andThen]
theorem World.alloc_set (w : World) (o o' : Obj) : ({ (w.alloc o) with heap := (w.alloc o).heap.setIfInBounds w.heap.size o' } : World) = w.alloc o' := by
  simp only [World.alloc]; congr 1; apply Array.ext_getElem?; intro i; rw [Array.getElem?_setIfInBounds, Array.getElem?_push, Array.getElem?_push]; simp; grind
theorem run_mapUpdate_alloc {P : Program} (w : World) (mty kt et : TypeId) (q : IntKind) (clock : Nat) (es : Array MapEntry) (k : Int) (val : Value) (hm : P.underlying mty = some (.map kt et)) (hk : P.underlying kt = some (.int q))
    (hf : Instr.findNow (.int q) (.int q k) es.toList 0 = some none) (b : Nat) (hb : w.heap.size = b) :
    (Instr.mapUpdate mty (.map (some b)) (.int q k) val).run P (w.alloc (.map es clock)) = .ok () (w.alloc (.map (es.push { key := .int q k, val := val, born := clock }) (clock + 1))) := by
  subst hb
  rw [run_mapUpdate_new _ mty kt et q _ clock es k val hm hk (by show (w.heap.push _)[w.heap.size]? = _; simp) hf, World.alloc_set]
def kindV (b kd : Nat) : Value :=
  if kd = 1 then .agg #[.func (.func 22) #[] #[], .func (.func 23) #[] #[]]
  else if kd = 2 then .agg #[.func (.func 20) #[] #[], .func (.func 24) #[] #[.pointer (some ⟨b, 0, none⟩)]]
  else if kd = 3 then .agg #[.func (.func 20) #[] #[], .func (.func 25) #[] #[.pointer (some ⟨b, 0, none⟩)]]
  else if kd = 4 then .agg #[.func (.func 26) #[] #[], .func (.func 27) #[] #[]]
  else if kd = 5 then .agg #[.func (.func 28) #[] #[], .func (.func 29) #[] #[]]
  else .agg #[.nilFunc, .nilFunc]
def kindsEntries (b : Nat) : Array MapEntry := #[
  { key := .int .u8 1, val := kindV b 1, born := 0 }, { key := .int .u8 2, val := kindV b 2, born := 1 }, { key := .int .u8 3, val := kindV b 3, born := 2 }, { key := .int .u8 4, val := kindV b 4, born := 3 }, { key := .int .u8 5, val := kindV b 5, born := 4 }]
set_option maxHeartbeats 400000 in
theorem kinds_any (w : World) : Calls Try.prog 18 #[] w fun e w' => e = .returned (.map (some (w.heap.size + 1))) ∧ w' = (w.alloc (.cells #[.func (.func 21) #[] #[]] 51)).alloc (.map (kindsEntries w.heap.size) 5) := by
  have hmm := @run_makeMap Try.prog
  have hup := fun (w : World) (k : Int) (v : Value) (es : Array MapEntry) (c : Nat) (h : Instr.findNow (.int .u8) (.int .u8 k) es.toList 0 = some none) => run_mapUpdate_alloc (P := Try.prog) w 48 5 46 .u8 c es k v Try.underlying48 Try.underlying5 h
  have hf1 : ∀ d k i, Instr.findNow d k [] i = some none := fun _ _ _ => rfl
  have hf2 : ∀ (k a : Int) (v : Value) (n : Nat) (es : List MapEntry) i, (a == k) = false → Instr.findNow (.int .u8) (.int .u8 a) (⟨.int .u8 k, v, n⟩ :: es) i = Instr.findNow (.int .u8) (.int .u8 a) es (i + 1) := fun k a v n es i h => by
    simp [Instr.findNow, Instr.sameNow, h]
  go_enter Try.func18, Try.ntmps18
  go_wp2
  go_ret
  exact ⟨rfl, rfl⟩
theorem lookup_of (W : World) (r : Nat) (es : Array MapEntry) (c : Nat) (k : Int) (i : Nat) (v : Value) (h : W.heap[r]? = some (.map es c)) (hf : Instr.findNow (.int .u8) (.int .u8 k) es.toList 0 = some (some (i, v))) (commaOk : Bool) :
    (Instr.lookup 48 (.map (some r)) (.int .u8 k) commaOk).run Try.prog W = .ok (if commaOk then .tuple #[v, .bool true] else v) W := by
  have hc : (Instr.checkKey es.isEmpty 10000 5 (.int .u8 k)).run Try.prog W = .ok () W := MapKept.run_checkKey Try.underlying5 (by simp [MapKept.IsKey]) _ 9999
  cases commaOk <;> simp [Instr.lookup, run_underlying Try.underlying48, MapKept.run_getObj_map h, hc, MapKept.run_findKey Try.underlying5 hf, Result.andThen]
/-- which kinds there are. -/
def isKind (kd : Int) : Bool := decide (1 ≤ kd) && decide (kd ≤ 5)
theorem kind_lookup (W : World) (r b c : Nat) (kd : Nat) (h : W.heap[r]? = some (.map (kindsEntries b) c)) (commaOk : Bool) (hk : commaOk = true ∨ (1 ≤ kd ∧ kd ≤ 5)) :
    (Instr.lookup 48 (.map (some r)) (.int .u8 kd) commaOk).run Try.prog W = .ok (if commaOk then .tuple #[kindV b kd, .bool (isKind kd)] else kindV b kd) W := by
  have hcases : kd = 1 ∨ kd = 2 ∨ kd = 3 ∨ kd = 4 ∨ kd = 5 ∨ (kd = 0 ∨ 6 ≤ kd) := by omega
  rcases hcases with rfl | rfl | rfl | rfl | rfl | hk'
  · exact lookup_of W r _ c 1 0 _ h (by kernel_rfl) commaOk
  · exact lookup_of W r _ c 2 1 _ h (by kernel_rfl) commaOk
  · exact lookup_of W r _ c 3 2 _ h (by kernel_rfl) commaOk
  · exact lookup_of W r _ c 4 3 _ h (by kernel_rfl) commaOk
  · exact lookup_of W r _ c 5 4 _ h (by kernel_rfl) commaOk
  · have hc : (Instr.checkKey (kindsEntries b).isEmpty 10000 5 (.int .u8 kd)).run Try.prog W = .ok () W := MapKept.run_checkKey Try.underlying5 (by simp [MapKept.IsKey]) _ 9999
    have hz : (zeroValue 46).run Try.prog W = .ok (.agg #[.nilFunc, .nilFunc]) W := by kernel_rfl
    have hf : Instr.findNow (.int .u8) (.int .u8 (kd : Nat)) (kindsEntries b).toList 0 = some none := by
      have h1 : ((kd : Int) == 1) = false := by simp; omega
      have h2 : ((kd : Int) == 2) = false := by simp; omega
      have h3 : ((kd : Int) == 3) = false := by simp; omega
      have h4 : ((kd : Int) == 4) = false := by simp; omega
      have h5 : ((kd : Int) == 5) = false := by simp; omega
      simp [kindsEntries, Instr.findNow, Instr.sameNow, h1, h2, h3, h4, h5]
    obtain rfl : commaOk = true := by
      rcases hk with h | h
      · exact h
      · omega
    have e1 : kindV b kd = .agg #[.nilFunc, .nilFunc] := by unfold kindV; rw [if_neg (by omega), if_neg (by omega), if_neg (by omega), if_neg (by omega), if_neg (by omega)]
    have e2 : isKind kd = false := by unfold isKind; simp; omega
    rw [e1, e2]
    simp [Instr.lookup, run_underlying Try.underlying48, MapKept.run_getObj_map h, hc, hz, MapKept.run_findKey Try.underlying5 hf, Result.andThen]
/-- whether a predicate may be. -/
def sMay (kd : Nat) (a b : Int) : Bool :=
  if kd = 1 then a == 0 && b == 0 else if kd = 2 then true else if kd = 3 then true else if kd = 4 then decide (0 < a) && decide (0 ≤ b) && decide (b < a) else if kd = 5 then Go.bits .or .i64 a b == a else false
def predV (kd : Nat) (a b : Int) (nt : Bool) : Value := .agg #[.int .u8 kd, .int .i64 a, .int .i64 b, .bool nt]
/-- which function tells whether it may be. -/
def mayF (kd : Nat) : Nat := if kd = 1 then 22 else if kd = 2 then 20 else if kd = 3 then 20 else if kd = 4 then 26 else 28
theorem mayF_any (kd : Nat) (a b : Int) (w : World) (h1 : 1 ≤ kd) (h5 : kd ≤ 5) : Calls Try.prog (mayF kd) #[.int .i64 a, .int .i64 b] w (Ret (.bool (sMay kd a b)) w) := by
  have hcases : kd = 1 ∨ kd = 2 ∨ kd = 3 ∨ kd = 4 ∨ kd = 5 := by omega
  rcases hcases with rfl | rfl | rfl | rfl | rfl
  · rw [show mayF 1 = 22 from rfl, show sMay 1 a b = (a == 0 && b == 0) from rfl]
    go_enter Try.func22, Try.ntmps22
    go_wp2
    all_goals
      go_ret
      exact ⟨ret_bool (by simp; try omega), Ext.refl _⟩
  · rw [show mayF 2 = 20 from rfl, show sMay 2 a b = true from rfl]
    go_enter Try.func20, Try.ntmps20
    go_wp2
    go_ret
    exact Ret.mk (Ext.refl _)
  · rw [show mayF 3 = 20 from rfl, show sMay 3 a b = true from rfl]
    go_enter Try.func20, Try.ntmps20
    go_wp2
    go_ret
    exact Ret.mk (Ext.refl _)
  · rw [show mayF 4 = 26 from rfl, show sMay 4 a b = (decide (0 < a) && decide (0 ≤ b) && decide (b < a)) from rfl]
    go_enter Try.func26, Try.ntmps26
    go_wp2
    all_goals
      go_ret
      exact ⟨ret_bool (by simp; try omega), Ext.refl _⟩
  · rw [show mayF 5 = 28 from rfl, show sMay 5 a b = (Go.bits .or .i64 a b == a) from rfl]
    go_enter Try.func28, Try.ntmps28
    go_wp2
    all_goals
      go_ret
      exact ⟨ret_bool (by simp; try omega), Ext.refl _⟩
end Go.Proofs.Yteibbdieckephaa
