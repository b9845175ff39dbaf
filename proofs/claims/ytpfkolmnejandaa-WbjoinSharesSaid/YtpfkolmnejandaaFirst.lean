/- The first tree of a row with which something is wrong (plain); rows of pointers to nodes that a call owns. -/
import Derived.Test.YtpfkolmnejandaaIter
import Derived.Maps.AppendAt
import Derived.Deep.Upon
import Derived.Deep.MidRow
namespace Go.Proofs.Ytpfkolmnejandaa
open Go Go.RowKit

/-- the first one that is wrong, and how. -/
def firstOf (one : Tr → Int) : List Tr → Nat × Int
  | [] => (0, 0)
  | t :: r => if one t = 0 then ((firstOf one r).1 + 1, (firstOf one r).2) else (0, one t)
def mayOf (one : Tr → Int) (T : Tr) : Bool := (firstOf one T.pre).2 == 0
section
variable {one : Tr → Int}
theorem firstOf_cons (t : Tr) (r : List Tr) : firstOf one (t :: r) = if one t = 0 then ((firstOf one r).1 + 1, (firstOf one r).2) else (0, one t) := rfl
theorem firstOf_none : ∀ {l : List Tr}, (firstOf one l).2 = 0 → (firstOf one l).1 = l.length ∧ ∀ t ∈ l, one t = 0
  | [], _ => by simp [firstOf]
  | t :: l, h => by
    rw [firstOf_cons] at h ⊢
    split at h
    · rename_i h1
      have := firstOf_none (l := l) h
      refine ⟨by simp [this.1, h1], ?_⟩
      intro x hx
      rcases List.mem_cons.1 hx with rfl | hx
      · exact h1
      · exact this.2 x hx
    · rename_i h1
      exact (h1 h).elim
theorem firstOf_append (a b : List Tr) : firstOf one (a ++ b) = if (firstOf one a).2 = 0 then (a.length + (firstOf one b).1, (firstOf one b).2) else firstOf one a := by
  induction a with
  | nil => simp [firstOf]
  | cons t a ih =>
    rw [List.cons_append, firstOf_cons, firstOf_cons]
    by_cases h1 : one t = 0
    · simp only [h1, ih]
      by_cases h3 : (firstOf one a).2 = 0
      · simp [h3]; omega
      · simp [h3]
    · simp [h1]
theorem firstOf_le : ∀ l : List Tr, (firstOf one l).1 ≤ l.length
  | [] => by simp [firstOf]
  | t :: l => by
    have := firstOf_le l
    rw [firstOf_cons]
    split
    · simp; omega
    · simp
theorem mayOf_nil : mayOf one .nil = true := rfl
theorem mayOf_node (b : Nat) (l : Tr) (k v g : Int) (r : Tr) : mayOf one (.node b l k v g r) = (one (.node b l k v g r) == 0 && mayOf one l && mayOf one r) := by
  unfold mayOf
  simp only [Tr.pre]
  rw [firstOf_cons]
  by_cases h1 : one (.node b l k v g r) = 0
  · simp only [h1, firstOf_append]
    by_cases h3 : (firstOf one l.pre).2 = 0 <;> simp [h3]
  · rw [if_neg h1, beq_eq_false_iff_ne.2 h1]; simp
end
/-- what is still to be looked at, of a stack of trees (the next one stands last). -/
def pend (st : List Tr) : List Tr := st.reverse.flatMap Tr.pre
theorem pend_nil : pend [] = [] := rfl
theorem pend_snoc (st : List Tr) (t : Tr) : pend (st ++ [t]) = t.pre ++ pend st := by simp [pend]
theorem pend_two (st : List Tr) (a b : Tr) : pend (st ++ [a, b]) = b.pre ++ (a.pre ++ pend st) := by simp [pend]

/-- a row of pointers that was made since the heap had B blocks. -/
def NOwn (B : Nat) (w : World) (v : Value) (xs : List (Option Addr)) : Prop := w.ownsRow B 25 1 v xs.length (xs.map Value.pointer)
theorem NOwn.nil (B : Nat) (w : World) : NOwn B w (.slice none 0 0) [] := ⟨rfl, .inl ⟨rfl, rfl⟩⟩
theorem NOwn.ext {B : Nat} {w w' : World} {v : Value} {xs : List (Option Addr)} (h : NOwn B w v xs) (e : Ext w w') : NOwn B w' v xs := by
  obtain ⟨h1, h | ⟨g, cap, cur, hv, hb, hg, hc⟩⟩ := h
  · exact ⟨h1, .inl h⟩
  · exact ⟨h1, .inr ⟨g, cap, cur, hv, hb, (e.block g (lt_of hg)).trans hg, hc⟩⟩
theorem NOwn.mono {B B' : Nat} {w : World} {v : Value} {xs : List (Option Addr)} (h : NOwn B w v xs) (e : B' ≤ B) : NOwn B' w v xs := by
  obtain ⟨h1, h | ⟨g, cap, cur, hv, hb, hg, hc⟩⟩ := h
  · exact ⟨h1, .inl h⟩
  · exact ⟨h1, .inr ⟨g, cap, cur, hv, Nat.le_trans e hb, hg, hc⟩⟩
theorem NOwn.slice {B : Nat} {w : World} {v : Value} {xs : List (Option Addr)} (h : NOwn B w v xs) : ∃ a c, v = .slice a xs.length c := by
  obtain ⟨h1, ⟨rfl, h0⟩ | ⟨g, cap, cur, rfl, hb, hg, hc⟩⟩ := h
  · exact ⟨none, 0, by rw [h0]⟩
  · exact ⟨_, _, rfl⟩
/-- its last one, and the row without it. -/
theorem NOwn.pop {B : Nat} {w : World} {v : Value} {xs : List (Option Addr)} {x : Option Addr} (h : NOwn B w v (xs ++ [x])) :
    ∃ g cap, v = .slice (some ⟨g, 0, none⟩) (xs.length + 1) cap ∧ xs.length + 1 ≤ cap ∧ w.cell? ⟨g, xs.length, none⟩ = some (.pointer x) ∧ NOwn B w (.slice (some ⟨g, 0, none⟩) xs.length cap) xs := by
  obtain ⟨h1, ⟨rfl, h0⟩ | ⟨g, cap, cur, hv, hb, hg, hc, hm, hs, ht⟩⟩ := h
  · simp at h0
  · rw [List.length_append, List.length_singleton] at hv hc ht
    refine ⟨g, cap, hv, hc, ?_, by simp, .inr ⟨g, cap, cur, rfl, hb, hg, by omega, hm, hs, ?_⟩⟩
    · rw [cell_of hg]
      have : (cur.toList.take ((xs.length + 1) * 1))[xs.length]? = some (.pointer x) := by rw [ht]; simp
      rw [List.getElem?_take] at this
      split at this
      · simpa using this
      · cases this
    · have := congrArg (List.take (xs.length * 1)) ht
      rw [List.take_take, Nat.min_eq_left (by omega)] at this
      rw [this]; simp
theorem node_info : ∃ i : TypeInfo, Try.prog.info? 25 = some i ∧ i.zero = some (.pointer none) ∧ i.size = 1 ∧ i.bytes = 8 := by
  have h : (Try.prog.info? 25).map (fun i => (i.zero, i.size, i.bytes)) = some (some (.pointer none), 1, 8) := by kernel_rfl
  cases hi : Try.prog.info? 25 with
  | none => rw [hi] at h; cases h
  | some i =>
    rw [hi] at h
    simp only [Option.map_some, Option.some.injEq, Prod.mk.injEq] at h
    exact ⟨i, rfl, h.1, h.2.1, h.2.2⟩
/-- append, onto a row of one's own. -/
theorem append_nown {B : Nat} {w : World} {v : Value} {xs ys : List (Option Addr)} (ty : TypeId) {b o c : Nat} (hv : NOwn B w v xs) (hr : w.rangeAt b o (ys.map Value.pointer)) (hlen : xs.length + ys.length ≤ 10000) (hB : B ≤ w.heap.size) :
    ∃ v' w', (Builtin.append_ #[66, 66] ty #[v, .slice (some ⟨b, o, none⟩) ys.length c]).run Try.prog w = .ok v' w' ∧ NOwn B w' v' (xs ++ ys) ∧ w.grownBy w' v.ownBlock := by
  obtain ⟨i, hi, hz, hs, hb⟩ := node_info
  have hml : (10000 : Nat) ≤ maxLen := by decide
  obtain ⟨v', w', hrun, hown, hg, _, _⟩ := run_append_own_at (P := Try.prog) w B _ ty _ i _ 1 8 Try.underlying66 hi hz hs hb rfl (by omega) v xs.length (xs.map Value.pointer) hv ⟨b, o, none⟩ ys.length c (ys.map Value.pointer) (by simp)
    (fun j u hj => by rw [Addr.add_mid]; exact hr j u hj) (by intro u hu; obtain ⟨x, _, rfl⟩ := List.mem_map.1 hu; rfl) (by omega) (by omega) hB
  refine ⟨v', w', hrun, ?_, hg⟩
  show w'.ownsRow _ _ _ _ _ _
  rw [List.length_append, List.map_append]
  exact hown
/-- what append leaves alone. -/
theorem ngrown_ext {w0 w w' : World} {v : Value} {xs : List (Option Addr)} (hw : Ext w0 w) (hv : NOwn w0.heap.size w v xs) (hg : w.grownBy w' v.ownBlock) : Ext w0 w' := by
  refine RowKit.Below.grown hw hg hw.size ?_
  intro k hk
  rcases hv with ⟨_, ⟨rfl, h0⟩ | ⟨g, cap, cur, rfl, hb, _⟩⟩
  · cases hk
  · simp only [Value.ownBlock, Option.some.injEq] at hk
    omega
section
variable {F : Fence} {n : Nat} {ops : Array Oper} {rest : List Oper} {o : Oper} {a : Act} {Q : Exit → Act → World → Prop}
theorem wpList_append_nodes (hgd : o.guard = none) (s x : Operand) (ho : o.op = .call { callee := .builtin .append, args := #[s, x], argTypes := #[66, 66] })
    {B : Nat} {w : World} {v : Value} {xs ys : List (Option Addr)} {b i c : Nat} (hs : a.eval s = v) (hx : a.eval x = .slice (some ⟨b, i, none⟩) ys.length c) (hv : NOwn B w v xs) (hr : w.rangeAt b i (ys.map Value.pointer)) (hlen : xs.length + ys.length ≤ 10000) (hB : B ≤ w.heap.size)
    (h : ∀ v' w', NOwn B w' v' (xs ++ ys) → w.grownBy w' v.ownBlock → wpList Try.prog ops Q rest (a.put o.dst v') w') : wpList Try.prog ops Q (o :: rest) a w := by
  refine wpList_plain hgd fun K hK => ?_
  obtain ⟨v', w', hr, h2, h3⟩ := append_nown (c := c) o.type hv hr hlen hB
  unfold Oper.wp execOp
  simp only [ho, resolve, invoke, builtin, Sem.run_bind, Sem.run_pure, Result.andThen_ok, List.map_toArray, List.map_cons, List.map_nil, hs, hx, hr]
  exact hK _ _ (h v' w' h2 h3)
end
end Go.Proofs.Ytpfkolmnejandaa
