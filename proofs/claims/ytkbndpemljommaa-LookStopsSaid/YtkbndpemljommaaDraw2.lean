/- A region that draws its order, inside a wide fence: an operation that does not look into memory may be taken first, whatever the others do. -/
import Derived.Test.YtkbndpemljommaaDraw
namespace Go.Proofs.Ytkbndpemljommaa
open Go

section
variable {F : Fence} {n : Nat} {P : Program} {ops : Array Oper} {Q : Exit → Act → World → Prop} {md : Region.Mode} {X : Nat → Bool}

theorem wpAnyG_first0 {B : Array Nat} (hB : maskOk md ops B = true) {i : Nat} {oi : Oper} {v : Value} (hf : ∀ f, F.fn f) (hnd : noDefer ops = true) (hi : ops[i]? = some oi) (hsel : ∀ (j : Nat) (o : Oper) cs b, ops[j]? = some o → o.op ≠ .select cs b)
    (hQ : ∀ c a w, ¬ Q (.panic c) a w) :
    ∀ (fuel : Nat) (listed : Array Bool) (a : Act) (w : World), Closed md ops listed →
      (∀ j oj, ops[j]? = some oj → j ≠ i → listed.getD j true = false → (B.getD j 0).testBit i = false → oi.apart ops oj = true) →
      i ∈ Region.ready md ops listed → YieldsIf P ops (fun _ => True) oi v a →
      wpAnyG F n P md ops Q X fuel (listed.setIfInBounds i true) (a.put oi.dst v) w → wpAnyG F n P md ops Q X (fuel + 1) listed a w := by
  intro fuel
  induction fuel with
  | zero =>
    intro listed a w _ _ hr hy H
    refine ⟨fun h => (by rw [h] at hr; cases hr), fun j hj => ?_⟩
    by_cases hji : j = i
    · subst hji; exact YieldsIf.wpOpIn' hf (noDefer_spec hnd hi) hi hy trivial ⟨fun _ => Ext.refl w, H⟩
    · have := ready_mono hj hji
      rw [H.1] at this
      cases this
  | succ fuel ih =>
    intro listed a w hcl hfree hr hy H
    refine ⟨fun h => (by rw [h] at hr; cases hr), fun j hj => ?_⟩
    by_cases hji : j = i
    · subst hji; exact YieldsIf.wpOpIn' hf (noDefer_spec hnd hi) hi hy trivial ⟨fun _ => Ext.refl w, H⟩
    · have h1 := H.2 j (ready_mono hj hji)
      obtain ⟨hjun, oj, hoj, hall⟩ := mem_ready.1 hj
      have hnot : (B.getD j 0).testBit i = false := by
        cases hb : (B.getD j 0).testBit i with
        | false => rfl
        | true =>
          have hl := mask_listed hB hcl (Array.getElem?_eq_some_iff.1 hi).1 j oj hoj hall hb
          have h0 := (mem_ready.1 hr).1
          rcases Nat.lt_or_ge i listed.size with h' | h'
          · simp [h'] at h0 hl; rw [h0] at hl; cases hl
          · simp [Array.getElem?_eq_none h'] at hl
      have hfj := hfree j oj hoj hji hjun hnot
      have h2 := wpOpIn_putD (noDefer_spec hnd hoj) hoj hfj (fun cs b => hsel i oi cs b hi) (fun cs b => hsel j oj cs b hoj) hQ hy h1
      have hfree' : ∀ k ok, ops[k]? = some ok → k ≠ i → (listed.setIfInBounds j true).getD k true = false →
          (B.getD k 0).testBit i = false → oi.apart ops ok = true := fun k ok hk hki hun hno => by
        refine hfree k ok hk hki ?_ hno
        by_cases hjk : j = k
        · subst hjk; exact hjun
        · rw [getD_set_ne true hjk] at hun; exact hun
      refine wpOpIn_mono (fun a' w' h3 => ⟨h3.2.1, ih (listed.setIfInBounds j true) a' w' (hcl.set hj) hfree' (ready_mono hr (Ne.symm hji)) h3.1 ?_⟩) h2
      rw [Array.setIfInBounds_comm _ _ hji]
      exact h3.2.2
def takeOk0 (md : Region.Mode) (ops : Array Oper) (B : Array Nat) (listed : Array Bool) (i : Nat) : Bool :=
  (Region.ready md ops listed).contains i && (match ops[i]? with
    | none => false
    | some oi => Op.yields oi.op && (List.range ops.size).all fun j => j == i || listed.getD j true || match ops[j]? with
      | some oj => (B.getD j 0).testBit i || oi.apart ops oj
      | none => true)
def stepOk0 (md : Region.Mode) (ops : Array Oper) (listed : Array Bool) (i : Nat) : Bool :=
  noDefer ops && (Region.noSelect ops && (maskOk md ops (Region.before ops) && (closedOk md ops listed && takeOk0 md ops (Region.before ops) listed i)))
/-- one that does not look into memory. -/
theorem takeG0 (hf : ∀ f, F.fn f) {fuel : Nat} {w : World} (i : Nat) {listed : Array Bool} {o : Oper} {a : Act} (h : stepOk0 md ops listed i = true) (hl : ops.toList[i]? = some o)
    (hk : wpQuiet P ops (fun _ => True) (fun a' => wpAnyG F n P md ops (calmQ Q) X fuel (listed.setIfInBounds i true) a' w) [o] a) : wpAnyG F n P md ops (calmQ Q) X (fuel + 1) listed a w := by
  simp only [stepOk0, Bool.and_eq_true, takeOk0] at h
  obtain ⟨hnd, hs, hB, hcl, hr, ht⟩ := h
  have hi : ops[i]? = some o := by simpa using hl
  simp only [hi, Bool.and_eq_true, List.all_eq_true, List.mem_range] at ht
  obtain ⟨hyo, ht⟩ := ht
  have hfree : ∀ j oj, ops[j]? = some oj → j ≠ i → listed.getD j true = false → ((Region.before ops).getD j 0).testBit i = false → o.apart ops oj = true := fun j oj hj hne hun hno => by
    have h1 := ht j (Array.getElem?_eq_some_iff.1 hj).1
    simpa only [hj, Bool.or_eq_true, beq_iff_eq, hne, false_or, hun, Bool.false_eq_true, hno] using h1
  have hr' : i ∈ Region.ready md ops listed := by simpa using hr
  have step : ∀ v, YieldsIf P ops (fun _ => True) o v a → wpAnyG F n P md ops (calmQ Q) X fuel (listed.setIfInBounds i true) (a.put o.dst v) w → wpAnyG F n P md ops (calmQ Q) X (fuel + 1) listed a w := fun v hy hk =>
    wpAnyG_first0 hB hf hnd hi (Region.noSelect_spec hs) (fun _ _ _ h => h.elim) fuel listed a w (closed_of_ok hcl) hfree hr' hy hk
  unfold wpQuiet at hk
  by_cases hw : Region.wanted o (yielded ops a.tmps) = true
  · simp only [hw, if_true] at hk
    obtain ⟨v, h1, h2⟩ := hk
    exact step v (yieldsIf_of_quiet hyo hw h1) (by unfold wpQuiet at h2; exact h2)
  · simp only [hw] at hk
    exact step undef (.inr ⟨by simpa using hw, rfl⟩) (by unfold wpQuiet at hk; exact hk)
end
end Go.Proofs.Ytkbndpemljommaa
