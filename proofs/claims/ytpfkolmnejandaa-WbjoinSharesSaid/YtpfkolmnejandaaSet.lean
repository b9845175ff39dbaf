/- Sets of nodes: maps whose keys are pointers. -/
import Derived.Test.YtpfkolmnejandaaDraw
import Derived.MapKept
import Derived.LaidEql
namespace Go.Proofs.Ytpfkolmnejandaa
open Go Go.RowKit Go.Shelf

/-- the entries of a set of nodes, by their blocks. -/
def setFrom : Nat → List Nat → List MapEntry
  | _, [] => []
  | i, b :: bs => { key := .pointer (some ⟨b, 0, none⟩), val := .agg #[], born := i } :: setFrom (i + 1) bs
theorem setFrom_snoc : ∀ (i : Nat) (bs : List Nat) (b : Nat), setFrom i (bs ++ [b]) = setFrom i bs ++ [{ key := .pointer (some ⟨b, 0, none⟩), val := .agg #[], born := i + bs.length }]
  | i, [], b => by simp [setFrom]
  | i, a :: bs, b => by
    rw [List.cons_append, setFrom, setFrom, setFrom_snoc (i + 1) bs b, List.length_cons, List.cons_append, show i + 1 + bs.length = i + (bs.length + 1) by omega]
theorem setFrom_len : ∀ (i : Nat) (bs : List Nat), (setFrom i bs).length = bs.length
  | _, [] => rfl
  | i, b :: bs => by rw [setFrom, List.length_cons, setFrom_len, List.length_cons]
/-- a block of cells that nobody shares. -/
def IsCells (W : World) (b : Nat) : Prop := ∃ c t, W.heap[b]? = some (.cells c t (0, 0))
/-- a set of nodes lies at R. -/
structure SetM (W : World) (R : Nat) (bs : List Nat) : Prop where
  map : W.heap[R]? = some (.map (setFrom 0 bs).toArray bs.length)
  nodes : ∀ b ∈ bs, IsCells W b
theorem node_size (W : World) : (sizeOf 76).run Try.prog W = .ok 7 W := by kernel_rfl
theorem node_eq (W : World) (a b : Nat) (ha : IsCells W a) (hb : IsCells W b) : (Op.equal 25 (.pointer (some ⟨a, 0, none⟩)) (.pointer (some ⟨b, 0, none⟩))).run Try.prog W = .ok (a == b) W := by
  obtain ⟨ca, ta, ha⟩ := ha
  obtain ⟨cb, tb, hb⟩ := hb
  have hz := node_size W
  have h : ∀ d : Nat, (Op.equalIn (d + 1) 25 (.pointer (some ⟨a, 0, none⟩)) (.pointer (some ⟨b, 0, none⟩))).run Try.prog W = .ok (a == b) W := fun d => by
    by_cases h : a = b
    · subst h
      simp [Op.equalIn, run_underlying Try.underlying25, hz, run_sameAddr_same]
    · have hne : (⟨a, 0, none⟩ : Addr) ≠ ⟨b, 0, none⟩ := fun e => h (by injection e)
      simp [Op.equalIn, run_underlying Try.underlying25, hz, run_sameAddr_other W hne ha hb, h]
  simp only [Op.equal, Op.maxDepth]
  exact h 9999
theorem node_eq_nil (W : World) (b : Nat) : (Op.equal 25 (.pointer none) (.pointer (some ⟨b, 0, none⟩))).run Try.prog W = .ok false W := by
  have h : ∀ d : Nat, (Op.equalIn (d + 1) 25 (.pointer none) (.pointer (some ⟨b, 0, none⟩))).run Try.prog W = .ok false W := fun d => by simp [Op.equalIn, run_underlying Try.underlying25]
  simp only [Op.equal, Op.maxDepth]
  exact h 9999
theorem ask_none (W : World) (a : Nat) (ha : IsCells W a) : ∀ (bs : List Nat) (i j : Nat), (∀ b ∈ bs, IsCells W b) → a ∉ bs → (Instr.findAsking 25 (.pointer (some ⟨a, 0, none⟩)) (setFrom i bs) j).run Try.prog W = .ok none W
  | [], _, _, _, _ => by simp [setFrom, Instr.findAsking]
  | b :: bs, i, j, hn, hm => by
    have e := node_eq W a b ha (hn b (List.mem_cons_self ..))
    have hne : (a == b) = false := by simp only [List.mem_cons, not_or] at hm; simpa using hm.1
    rw [hne] at e
    have r := ask_none W a ha bs (i + 1) (j + 1) (fun x hx => hn x (List.mem_cons_of_mem _ hx)) (fun h => hm (List.mem_cons_of_mem _ h))
    simp [setFrom, Instr.findAsking, e, r, Result.andThen]
theorem ask_nil (W : World) : ∀ (bs : List Nat) (i j : Nat), (Instr.findAsking 25 (.pointer none) (setFrom i bs) j).run Try.prog W = .ok none W
  | [], _, _ => by simp [setFrom, Instr.findAsking]
  | b :: bs, i, j => by
    have e := node_eq_nil W b
    have r := ask_nil W bs (i + 1) (j + 1)
    simp [setFrom, Instr.findAsking, e, r, Result.andThen]
theorem ask_some (W : World) (a : Nat) : ∀ (bs : List Nat) (i j : Nat), (∀ b ∈ bs, IsCells W b) → a ∈ bs → ∃ k, (Instr.findAsking 25 (.pointer (some ⟨a, 0, none⟩)) (setFrom i bs) j).run Try.prog W = .ok (some (k, .agg #[])) W
  | [], _, _, _, hm => by simp at hm
  | b :: bs, i, j, hn, hm => by
    by_cases h : a = b
    · subst h
      have e := node_eq W a a (hn a (List.mem_cons_self ..)) (hn a (List.mem_cons_self ..))
      exact ⟨j, by simp [setFrom, Instr.findAsking, e, Result.andThen]⟩
    · have hm' : a ∈ bs := by simpa [h] using hm
      have e := node_eq W a b (hn a (List.mem_cons_of_mem _ hm')) (hn b (List.mem_cons_self ..))
      have hne : (a == b) = false := by simpa using h
      rw [hne] at e
      obtain ⟨k, r⟩ := ask_some W a bs (i + 1) (j + 1) (fun x hx => hn x (List.mem_cons_of_mem _ hx)) hm'
      exact ⟨k, by simp [setFrom, Instr.findAsking, e, r, Result.andThen]⟩
theorem find_ask (W : World) (p : Option Addr) : ∀ (bs : List Nat), (Instr.findKey 25 (.pointer p) (setFrom 0 bs)).run Try.prog W = (Instr.findAsking 25 (.pointer p) (setFrom 0 bs)).run Try.prog W
  | [] => by simp [setFrom, Instr.findKey, Instr.findNow, Instr.findAsking, run_underlying Try.underlying25, Result.andThen]
  | b :: bs => by simp [setFrom, Instr.findKey, Instr.findNow, Instr.sameNow, run_underlying Try.underlying25, Result.andThen]
theorem check_node (W : World) (p : Option Addr) (e : Bool) : (Instr.checkKey e 10000 25 (.pointer p)).run Try.prog W = .ok () W := by
  unfold Instr.checkKey
  simp [run_underlying Try.underlying25, Result.andThen]
theorem set_lookup (W : World) (R : Nat) (bs : List Nat) (p : Option Addr) (f : Bool) (h : SetM W R bs) (hf : ∃ k, (Instr.findAsking 25 (.pointer p) (setFrom 0 bs)).run Try.prog W = .ok (if f then some (k, .agg #[]) else none) W) :
    (Instr.lookup 68 (.map (some R)) (.pointer p) true).run Try.prog W = .ok (.tuple #[.agg #[], .bool f]) W := by
  obtain ⟨k, hf⟩ := hf
  have hz : (zeroValue 83).run Try.prog W = .ok (.agg #[]) W := by kernel_rfl
  have hk := (find_ask W p bs).trans hf
  cases f <;> simp [Instr.lookup, run_underlying Try.underlying68, MapKept.run_getObj_map h.map, check_node, hk, hz, Result.andThen]
theorem set_add (W : World) (R : Nat) (bs : List Nat) (a : Nat) (h : SetM W R bs) (ha : IsCells W a) (hn : a ∉ bs) :
    (Instr.mapUpdate 68 (.map (some R)) (.pointer (some ⟨a, 0, none⟩)) (.agg #[])).run Try.prog W = .ok () (W.putObj R (.map (setFrom 0 (bs ++ [a])).toArray (bs.length + 1))) := by
  have hk := (find_ask W (some ⟨a, 0, none⟩) bs).trans (ask_none W a ha bs 0 0 h.nodes hn)
  simp [Instr.mapUpdate, run_underlying Try.underlying68, MapKept.run_getObj_map h.map, check_node, hk, MapKept.run_setObj_map _ h.map, Result.andThen, World.putObj, setFrom_snoc]
theorem SetM.add {W : World} {R : Nat} {bs : List Nat} {a : Nat} (h : SetM W R bs) (ha : IsCells W a) : SetM (W.putObj R (.map (setFrom 0 (bs ++ [a])).toArray (bs.length + 1))) R (bs ++ [a]) := by
  have hR := (Array.getElem?_eq_some_iff.1 h.map).1
  have hk : ∀ b, IsCells W b → IsCells (W.putObj R (.map (setFrom 0 (bs ++ [a])).toArray (bs.length + 1))) b := fun b ⟨c, t, hb⟩ => ⟨c, t, by
    rw [World.putObj_heap_other (fun e => by subst e; rw [h.map] at hb; cases hb)]; exact hb⟩
  refine ⟨by rw [List.length_append]; exact World.putObj_heap_same hR, fun b hb => ?_⟩
  rw [List.mem_append] at hb
  rcases hb with hb | hb
  · exact hk b (h.nodes b hb)
  · rw [List.mem_singleton] at hb; subst hb; exact hk b ha
end Go.Proofs.Ytpfkolmnejandaa
