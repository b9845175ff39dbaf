/- A region that draws its order, inside a wide fence: the length of a slice, too, may be taken first, whatever the others do. -/
import Derived.Test.YtkbndpemljommaaDraw2
namespace Go.Proofs.Ytkbndpemljommaa
open Go

section
variable {F : Fence} {n : Nat} {P : Program} {ops : Array Oper} {Q : Exit → Act → World → Prop} {md : Region.Mode} {X : Nat → Bool}

def Op.yieldsL : Op → Bool
  | .call c => match c.callee with
    | .builtin .len => true
    | _ => false
  | o => Op.yields o
theorem yieldsL_value {ρ : Operand → Value} {o : Oper} (h : Op.yieldsL o.op = true) {w w' : World} {x : Next} (hr : (execOp ρ o).run P w = .ok x w') : ∃ v, x = .value v := by
  by_cases hy : Op.yields o.op = true
  · exact yields_value hy hr
  · have hc : ∃ c, o.op = .call c ∧ c.callee = .builtin .len := by
      cases ho : o.op <;> rw [ho] at h hy <;> first | exact absurd h hy | skip
      rename_i c
      refine ⟨c, rfl, ?_⟩
      unfold Op.yieldsL at h
      simp only at h
      split at h
      · assumption
      · cases h
    obtain ⟨c, ho, hc⟩ := hc
    unfold execOp at hr
    simp only [ho] at hr
    unfold resolve at hr
    simp only [hc] at hr
    simp only [Sem.run_bind, Sem.run_pure, Result.andThen_ok] at hr
    unfold invoke at hr
    simp only [] at hr
    unfold builtin at hr
    simp only [Sem.run_bind] at hr
    generalize hs : Sem.run P (Builtin.len_ _ _ _) _ = r at hr
    cases r with
    | ok v w1 => simp only [Result.andThen_ok, Sem.run_pure, Result.ok.injEq] at hr; exact ⟨_, hr.1.symm⟩
    | halt h w1 => simp at hr
theorem yieldsIfL_of_quiet {o : Oper} {a : Act} {C : World → Prop} {v : Value} (hy : Op.yieldsL o.op = true) (hw : Region.wanted o (yielded ops a.tmps) = true) (h : ∀ w, C w → o.quietAt P a C w v) : YieldsIf P ops C o v a := by
  refine .inl ⟨hw, fun w hC => ?_⟩
  have h := h w hC
  unfold Oper.quietAt at h
  generalize hr : (execOp a.eval o).run P w = r at h
  cases r with
  | ok x w' =>
    obtain ⟨u, rfl⟩ := yieldsL_value hy hr
    simp only [Oper.quietUpon] at h
    obtain ⟨h1, h2⟩ := h
    rw [h1, h2]
  | halt x w' => simp only [Oper.quietUpon] at h
def takeOkL (md : Region.Mode) (ops : Array Oper) (B : Array Nat) (listed : Array Bool) (i : Nat) : Bool :=
  (Region.ready md ops listed).contains i && (match ops[i]? with
    | none => false
    | some oi => Op.yieldsL oi.op && (List.range ops.size).all fun j => j == i || listed.getD j true || match ops[j]? with
      | some oj => (B.getD j 0).testBit i || oi.apart ops oj
      | none => true)
def stepOkL (md : Region.Mode) (ops : Array Oper) (listed : Array Bool) (i : Nat) : Bool :=
  noDefer ops && (Region.noSelect ops && (maskOk md ops (Region.before ops) && (closedOk md ops listed && takeOkL md ops (Region.before ops) listed i)))
/-- one that does not look into memory, or a slice's length. -/
theorem takeGL (hf : ∀ f, F.fn f) {fuel : Nat} {w : World} (i : Nat) {listed : Array Bool} {o : Oper} {a : Act} (h : stepOkL md ops listed i = true) (hl : ops.toList[i]? = some o)
    (hk : wpQuiet P ops (fun _ => True) (fun a' => wpAnyG F n P md ops (calmQ Q) X fuel (listed.setIfInBounds i true) a' w) [o] a) : wpAnyG F n P md ops (calmQ Q) X (fuel + 1) listed a w := by
  simp only [stepOkL, Bool.and_eq_true, takeOkL] at h
  obtain ⟨hnd, hs, hB, hcl, hr, ht⟩ := h
  have hi : ops[i]? = some o := by simpa using hl
  simp only [hi, Bool.and_eq_true, List.all_eq_true, List.mem_range] at ht
  obtain ⟨hyo, ht⟩ := ht
  have hfree : ∀ j oj, ops[j]? = some oj → j ≠ i → listed.getD j true = false → ((Region.before ops).getD j 0).testBit i = false → o.apart ops oj = true := fun j oj hj hne hun hno => by
    have h1 := ht j (Array.getElem?_eq_some_iff.1 hj).1
    simpa only [hj, Bool.or_eq_true, beq_iff_eq, hne, false_or, hun, Bool.false_eq_true, hno] using h1
  have hr' : i ∈ Region.ready md ops listed := by simpa using hr
  have step : ∀ v, YieldsIf P ops (fun _ => True) o v a → wpAnyG F n P md ops (calmQ Q) X fuel (listed.setIfInBounds i true) (a.put o.dst v) w → wpAnyG F n P md ops (calmQ Q) X (fuel + 1) listed a w := fun v hy hk =>
    wpAnyG_first0 hB hf hnd hi (Region.noSelect_spec hs) (fun _ _ _ h => h.elim) fuel listed a w (closed_of_ok hcl) hfree hr' hy hk
  unfold wpQuiet at hk
  by_cases hw : Region.wanted o (yielded ops a.tmps) = true
  · simp only [hw, if_true] at hk
    obtain ⟨v, h1, h2⟩ := hk
    exact step v (yieldsIfL_of_quiet hyo hw h1) (by unfold wpQuiet at h2; exact h2)
  · simp only [hw] at hk
    exact step undef (.inr ⟨by simpa using hw, rfl⟩) (by unfold wpQuiet at hk; exact hk)
end
end Go.Proofs.Ytkbndpemljommaa
