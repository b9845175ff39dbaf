/- Rows of pairs in memory, and those that a call owns; joineryref09.Pairs, SamePairs. -/
import Derived.Test.YteibbdieckephaaShape
import Derived.Test.YteibbdieckephaaOf
import Derived.Test.YteibbdieckephaaRef14
import Derived.Test.YteibbdieckephaaJoinLaw
namespace Go.Proofs.Yteibbdieckephaa
open Go Go.RowKit

/-- a pair's two cells. -/
def pcells (z : Int × Int) : List Value := [.int .i64 z.1, .int .i64 z.2]
def pairCells (zs : List (Int × Int)) : List Value := zs.flatMap pcells
theorem pairCells_len : ∀ zs : List (Int × Int), (pairCells zs).length = zs.length * 2
  | [] => rfl
  | z :: zs => by
    have := pairCells_len zs
    rw [pairCells] at this ⊢
    rw [List.flatMap_cons, List.length_append, this, List.length_cons]
    show 2 + _ = _
    omega
theorem pairCells_at : ∀ (zs : List (Int × Int)) (i : Nat) (z : Int × Int) (j : Nat), zs[i]? = some z → j < 2 → (pairCells zs)[i * 2 + j]? = (pcells z)[j]?
  | [], i, z, j, h, _ => by simp at h
  | y :: zs, 0, z, j, h, hj => by
    obtain rfl : y = z := by simpa using h
    rw [pairCells, List.flatMap_cons, List.getElem?_append_left (show 0 * 2 + j < 2 by omega), Nat.zero_mul, Nat.zero_add]
  | y :: zs, i + 1, z, j, h, hj => by
    have ih := pairCells_at zs i z j (by simpa using h) hj
    rw [pairCells] at ih ⊢
    rw [List.flatMap_cons, List.getElem?_append_right (show 2 ≤ (i + 1) * 2 + j by omega), show (i + 1) * 2 + j - (pcells y).length = i * 2 + j from by show _ - 2 = _; omega, ih]
theorem pairCells_append (a b : List (Int × Int)) : pairCells (a ++ b) = pairCells a ++ pairCells b := by simp [pairCells]
theorem pairCells_one (zs : List (Int × Int)) : ∀ u ∈ pairCells zs, u.oneCell' = true := by
  intro u h
  obtain ⟨z, _, hz⟩ := List.mem_flatMap.1 h
  simp only [pcells, List.mem_cons, List.not_mem_nil, or_false] at hz
  rcases hz with rfl | rfl <;> rfl
/-- a row of pairs: empty, whatever its address; or laid at an address. -/
def PRow (w : World) (v : Value) (zs : List (Int × Int)) : Prop :=
  (zs = [] ∧ ∃ a c, v = .slice a 0 c) ∨ ∃ b o c, v = .slice (some ⟨b, o, none⟩) zs.length c ∧ zs ≠ [] ∧ zs.length ≤ c ∧ w.rangeAt b o (pairCells zs)
theorem pair_cell {w : World} {b o : Nat} {zs : List (Int × Int)} (h : w.rangeAt b o (pairCells zs)) {i : Nat} {z : Int × Int} (hi : zs[i]? = some z) {j : Nat} {u : Value} (hj : (pcells z)[j]? = some u) : w.cell? ⟨b, o + i * 2 + j, none⟩ = some u := by
  have hlt : j < 2 := (List.getElem?_eq_some_iff.1 hj).1
  rw [Nat.add_assoc]
  exact h (i * 2 + j) u (by rw [pairCells_at zs i z j hi hlt, hj])
theorem PRow.ext {w w' : World} {v : Value} {zs : List (Int × Int)} (h : PRow w v zs) (e : Ext w w') : PRow w' v zs := by
  rcases h with h | ⟨b, o, c, rfl, h1, h2, h3⟩
  · exact .inl h
  · exact .inr ⟨b, o, c, rfl, h1, h2, rangeAt_ext h3 e⟩
theorem prow_slice {w : World} {v : Value} {zs : List (Int × Int)} (h : PRow w v zs) : ∃ a c, v = .slice a zs.length c := by
  rcases h with ⟨rfl, a, c, rfl⟩ | ⟨b, o, c, rfl, hne, hc, hr⟩
  · exact ⟨a, c, rfl⟩
  · exact ⟨_, c, rfl⟩
/-- a row that was made since the heap had B blocks. -/
def POwn (B : Nat) (w : World) (v : Value) (zs : List (Int × Int)) : Prop := w.ownsRow B 25 2 v zs.length (pairCells zs)
theorem POwn.row {B : Nat} {w : World} {v : Value} {zs : List (Int × Int)} (h : POwn B w v zs) : PRow w v zs := by
  obtain ⟨h1, ⟨rfl, h0⟩ | ⟨g, cap, cur, rfl, hb, hg, hc, hm, hs, ht⟩⟩ := h
  · exact .inl ⟨List.eq_nil_of_length_eq_zero h0, _, 0, rfl⟩
  · by_cases h0 : zs = []
    · subst h0; exact .inl ⟨rfl, _, _, rfl⟩
    · refine .inr ⟨g, 0, cap, rfl, h0, hc, fun j u hj => ?_⟩
      rw [Nat.zero_add, cell_of hg j]
      rw [← ht, List.getElem?_take] at hj
      split at hj
      · simpa using hj
      · cases hj
theorem POwn.nil (B : Nat) (w : World) : POwn B w (.slice none 0 0) [] := ⟨rfl, .inl ⟨rfl, rfl⟩⟩
theorem POwn.ext {B : Nat} {w w' : World} {v : Value} {zs : List (Int × Int)} (h : POwn B w v zs) (e : Ext w w') : POwn B w' v zs := by
  obtain ⟨h1, h | ⟨g, cap, cur, hv, hb, hg, hc⟩⟩ := h
  · exact ⟨h1, .inl h⟩
  · exact ⟨h1, .inr ⟨g, cap, cur, hv, hb, (e.block g (lt_of hg)).trans hg, hc⟩⟩
theorem POwn.mono {B B' : Nat} {w : World} {v : Value} {zs : List (Int × Int)} (h : POwn B w v zs) (e : B' ≤ B) : POwn B' w v zs := by
  obtain ⟨h1, h | ⟨g, cap, cur, hv, hb, hg, hc⟩⟩ := h
  · exact ⟨h1, .inl h⟩
  · exact ⟨h1, .inr ⟨g, cap, cur, hv, Nat.le_trans e hb, hg, hc⟩⟩
theorem pair_info : ∃ i : TypeInfo, Try.prog.info? 25 = some i ∧ i.zero = some (.agg #[.int .i64 0, .int .i64 0]) ∧ i.size = 2 ∧ i.bytes = 16 := by
  have h : (Try.prog.info? 25).map (fun i => (i.zero, i.size, i.bytes)) = some (some (.agg #[.int .i64 0, .int .i64 0]), 2, 16) := by kernel_rfl
  cases hi : Try.prog.info? 25 with
  | none => rw [hi] at h; cases h
  | some i =>
    rw [hi] at h
    simp only [Option.map_some, Option.some.injEq, Prod.mk.injEq] at h
    exact ⟨i, rfl, h.1, h.2.1, h.2.2⟩
/-- append, onto a row of one's own. -/
theorem append_pown {B : Nat} {w : World} {v u : Value} {zs ys : List (Int × Int)} (ty : TypeId) (hv : POwn B w v zs) (hu : PRow w u ys) (hlen : zs.length + ys.length ≤ 10000) (hB : B ≤ w.heap.size) :
    ∃ v' w', (Builtin.append_ #[26, 26] ty #[v, u]).run Try.prog w = .ok v' w' ∧ POwn B w' v' (zs ++ ys) ∧ w.grownBy w' v.ownBlock := by
  obtain ⟨i, hi, hz, hs, hb⟩ := pair_info
  have hml : (10000 : Nat) ≤ maxLen := by decide
  by_cases h0 : ys = []
  · subst h0
    have hu' : ∃ a c, u = .slice a 0 c := by
      obtain ⟨a, c, rfl⟩ := prow_slice hu
      exact ⟨a, c, rfl⟩
    obtain ⟨a, c, rfl⟩ := hu'
    have hsrc : Src Try.prog i.size 26 (.slice a 0 c) 0 [] w := by
      cases a with
      | none => exact Src.ofNil w Try.underlying26 c
      | some a => exact Src.ofSlice w Try.underlying26 a 0 c [] (by simp) (by simp) (by simp)
    have hv' : ∃ p l c', v = .slice p l c' ∧ l ≤ c' := by
      rcases hv with ⟨_, ⟨rfl, h0⟩ | ⟨g, cap, cur, rfl, _, _, hc, _⟩⟩
      · exact ⟨_, _, _, rfl, Nat.le_refl _⟩
      · exact ⟨_, _, _, rfl, hc⟩
    obtain ⟨p, l, c', rfl, hlc⟩ := hv'
    refine ⟨_, w, run_append_nothing w _ _ ty _ i Try.underlying26 hi p l c' hlc _ hsrc, by simpa using hv, ⟨rfl, rfl, rfl, Nat.le_refl _, fun _ _ _ => rfl⟩⟩
  · rcases hu with ⟨h, _⟩ | ⟨b, o, c, rfl, _, hc, hr⟩
    · exact (h0 h).elim
    · obtain ⟨v', w', hrun, hown, hg, _, _⟩ := run_append_own_at (P := Try.prog) w B _ ty _ i _ 2 16 Try.underlying26 hi hz hs hb rfl (by omega) v zs.length (pairCells zs) hv ⟨b, o, none⟩ ys.length c (pairCells ys) (pairCells_len ys)
        (fun j u hj => by rw [Addr.add_mid]; exact hr j u hj) (pairCells_one ys) (by omega) (by omega) hB
      refine ⟨v', w', hrun, ?_, hg⟩
      show w'.ownsRow _ _ _ _ _ _
      rw [List.length_append, pairCells_append]
      exact hown
/-- what append leaves alone. -/
theorem pgrown_ext {w0 w w' : World} {v : Value} {zs : List (Int × Int)} (hw : Ext w0 w) (hv : POwn w0.heap.size w v zs) (hg : w.grownBy w' v.ownBlock) : Ext w0 w' := by
  refine RowKit.Below.grown hw hg hw.size ?_
  intro k hk
  rcases hv with ⟨_, ⟨rfl, h0⟩ | ⟨g, cap, cur, rfl, hb, _⟩⟩
  · cases hk
  · simp only [Value.ownBlock, Option.some.injEq] at hk
    omega
/-- a new row of one pair. -/
theorem pown_new {B : Nat} {w : World} (z : Int × Int) (h : B ≤ w.heap.size) : POwn B (w.alloc (.cells #[.int .i64 z.1, .int .i64 z.2] 25)) (.slice (some ⟨w.heap.size, 0, none⟩) 1 1) [z] :=
  ⟨rfl, .inr ⟨w.heap.size, 1, _, rfl, h, alloc_at _ _ _ rfl, Nat.le_refl _, by decide, rfl, rfl⟩⟩
section
variable {F : Fence} {n : Nat} {ops : Array Oper} {rest : List Oper} {o : Oper} {a : Act} {Q : Exit → Act → World → Prop}
theorem wpList_append_pairs (hgd : o.guard = none) (s x : Operand) (ho : o.op = .call { callee := .builtin .append, args := #[s, x], argTypes := #[26, 26] })
    {B : Nat} {w : World} {v u : Value} {zs ys : List (Int × Int)} (hs : a.eval s = v) (hx : a.eval x = u) (hv : POwn B w v zs) (hu : PRow w u ys) (hlen : zs.length + ys.length ≤ 10000) (hB : B ≤ w.heap.size)
    (h : ∀ v' w', POwn B w' v' (zs ++ ys) → w.grownBy w' v.ownBlock → wpList Try.prog ops Q rest (a.put o.dst v') w') : wpList Try.prog ops Q (o :: rest) a w := by
  refine wpList_plain hgd fun K hK => ?_
  obtain ⟨v', w', hr, h2, h3⟩ := append_pown o.type hv hu hlen hB
  unfold Oper.wp execOp
  simp only [ho, resolve, invoke, builtin, Sem.run_bind, Sem.run_pure, Result.andThen_ok, List.map_toArray, List.map_cons, List.map_nil, hs, hx, hr]
  exact hK _ _ (h v' w' h2 h3)
theorem wpListIn_append_pairs (hgd : o.guard = none) (s x : Operand) (ho : o.op = .call { callee := .builtin .append, args := #[s, x], argTypes := #[26, 26] })
    {B : Nat} {w : World} {v u : Value} {zs ys : List (Int × Int)} (hs : a.eval s = v) (hx : a.eval x = u) (hv : POwn B w v zs) (hu : PRow w u ys) (hlen : zs.length + ys.length ≤ 10000) (hB : B ≤ w.heap.size)
    (hfn : ∀ f, F.fn f)
    (h : ∀ v' w', POwn B w' v' (zs ++ ys) → w.grownBy w' v.ownBlock → wpListIn F n Try.prog ops Q rest (a.put o.dst v') w') : wpListIn F n Try.prog ops Q (o :: rest) a w := by
  refine wpListIn_plain hgd fun K hK => ?_
  obtain ⟨v', w', hr, h2, h3⟩ := append_pown o.type hv hu hlen hB
  unfold Oper.wpIn
  refine ⟨fun f _ => hfn f, ?_⟩
  rw [Oper.semAt_eq _ _ _ (fun c => by rw [ho]; simp)]
  unfold execOp
  simp only [ho, resolve, invoke, builtin, Sem.run_bind, Sem.run_pure, Result.andThen_ok, List.map_toArray, List.map_cons, List.map_nil, hs, hx, hr]
  exact hK _ _ (h v' w' h2 h3)
end
/-- a row of pairs that is the call's own. -/
def GivesP (zs : List (Int × Int)) (w : World) (e : Ending) (w' : World) : Prop := ∃ v, e = .returned v ∧ POwn w.heap.size w' v zs ∧ Ext w w'
end Go.Proofs.Yteibbdieckephaa
