/- A region that draws its order, inside a wide fence: an operation that yields the same value in every world that meets S may be taken first; behind each that is carried out S is shown anew. -/
import Derived.OrdersIn
import Derived.OrdersHeld
import Derived.Deep.Quiet
import Derived.BigGuardIn
import Derived.BigQuiet
import Derived.Test.YtoiohjifjmejkaaGreatM2
namespace Go.Proofs.YtoiohjifjmejkaaGreat
open Go

section
variable {F : Fence} {n : Nat} {P : Program} {ops : Array Oper} {Q : Exit → Act → World → Prop} {md : Region.Mode} {X : Nat → Bool}

/-- no operation of the region defers. -/
def noDefer (ops : Array Oper) : Bool := ops.all fun o => match o.op with | .defer _ => false | _ => true
theorem noDefer_spec (h : noDefer ops = true) {j : Nat} {o : Oper} (ho : ops[j]? = some o) (c : Call) : o.op ≠ .defer c := by
  intro heq
  have := Array.all_eq_true_iff_forall_mem.1 h o (Array.mem_of_getElem? ho)
  simp [heq] at this

/-- which operations have to come up ahead of which ones (bits), and that this is so. -/
def maskOk (md : Region.Mode) (ops : Array Oper) (B : Array Nat) : Bool :=
  (List.range ops.size).all fun j => (List.range ops.size).all fun i => !(B.getD j 0).testBit i || match ops[j]? with
    | some o => o.after.any fun e => Region.binds md e && (e.on == i || (decide (e.on < j) && (B.getD e.on 0).testBit i))
    | none => false
def Closed (md : Region.Mode) (ops : Array Oper) (listed : Array Bool) : Prop :=
  ∀ k o, ops[k]? = some o → listed.getD k false = true → ∀ e ∈ o.after, Region.binds md e = true → listed.getD e.on false = true
theorem mask_listed {B : Array Nat} (hB : maskOk md ops B = true) {listed : Array Bool} (hc : Closed md ops listed) {i : Nat} (hi : i < ops.size) :
    ∀ (j : Nat) (o : Oper), ops[j]? = some o → (∀ e ∈ o.after, Region.binds md e = true → listed.getD e.on false = true) → (B.getD j 0).testBit i = true → listed.getD i false = true := by
  intro j
  induction j using Nat.strongRecOn with
  | ind j ih =>
    intro o ho ha hb
    have h1 := List.all_eq_true.1 (List.all_eq_true.1 hB j (List.mem_range.2 (Array.getElem?_eq_some_iff.1 ho).1)) i (List.mem_range.2 hi)
    simp only [hb, Bool.not_true, Bool.false_or, ho] at h1
    obtain ⟨e, he, h2⟩ := Array.any_eq_true'.1 h1
    simp only [Bool.and_eq_true, Bool.or_eq_true, beq_iff_eq, decide_eq_true_eq] at h2
    obtain ⟨hbd, h3⟩ := h2
    have hl := ha e he hbd
    rcases h3 with h3 | ⟨h3, h4⟩
    · rw [← h3]; exact hl
    · have hlt : e.on < ops.size := by have := (Array.getElem?_eq_some_iff.1 ho).1; omega
      exact ih e.on h3 ops[e.on] (Array.getElem?_eq_getElem hlt) (fun e' he' hb' => hc e.on ops[e.on] (Array.getElem?_eq_getElem hlt) hl e' he' hb') h4
theorem Closed.empty : Closed md ops (Array.replicate ops.size false) := fun k o ho h => by
  have := (Array.getElem?_eq_some_iff.1 ho).1
  simp [this] at h
theorem Closed.set {listed : Array Bool} (hc : Closed md ops listed) {j : Nat} (hr : j ∈ Region.ready md ops listed) : Closed md ops (listed.setIfInBounds j true) := fun k o ho h e he hb => by
  by_cases hk : k = j
  · subst hk
    obtain ⟨_, o', ho', hall⟩ := mem_ready.1 hr
    rw [ho] at ho'; cases ho'
    exact getD_set_true (hall e he hb)
  · rw [getD_set_ne false (Ne.symm hk)] at h
    exact getD_set_true (hc k o ho h e he hb)

/-- whatever order is picked; behind an operation of X nothing that was there has turned. -/
def wpAnyG (F : Fence) (n : Nat) (P : Program) (md : Region.Mode) (ops : Array Oper) (Q : Exit → Act → World → Prop) (X : Nat → Bool) : Nat → Array Bool → Act → World → Prop
  | 0, listed, a, w => Region.ready md ops listed = [] ∧ Q .normal a w
  | fuel + 1, listed, a, w =>
    (Region.ready md ops listed = [] → Q .normal a w) ∧
    ∀ i ∈ Region.ready md ops listed, wpOpIn F n P ops Q i (fun a' w' => (X i = true → Ext w w') ∧ wpAnyG F n P md ops Q X fuel (listed.setIfInBounds i true) a' w') a w

theorem wpAnyIn_of_G : ∀ (fuel : Nat) (listed : Array Bool) (a : Act) (w : World), wpAnyG F n P md ops Q X fuel listed a w → wpAnyIn F n P md ops Q fuel listed a w
  | 0, _, _, _, h => h
  | fuel + 1, _, _, _, h => ⟨h.1, fun i hi => wpOpIn_mono (fun a' w' h' => wpAnyIn_of_G fuel _ a' w' h'.2) (h.2 i hi)⟩

theorem YieldsIf.weaken {S S' : World → Prop} {o : Oper} {v : Value} {a : Act} (h : YieldsIf P ops S o v a) (hs : ∀ W, S' W → S W) : YieldsIf P ops S' o v a :=
  h.imp (fun ⟨hw, hv⟩ => ⟨hw, fun w hw' => hv w (hs w hw')⟩) id

theorem YieldsIf.wpOpIn' {S : World → Prop} {i : Nat} {o : Oper} {v : Value} {a : Act} (hf : ∀ f, F.fn f) (hnd : ∀ c, o.op ≠ .defer c) (hi : ops[i]? = some o) (hy : YieldsIf P ops S o v a)
    {K : Act → World → Prop} {w : World} (hS : S w) (h : K (a.put o.dst v) w) : wpOpIn F n P ops Q i K a w := by
  unfold Go.wpOpIn
  simp only [hi]
  rcases hy with ⟨hw, hv⟩ | ⟨hw, rfl⟩
  · simp only [hw, if_true, Oper.wpIn, Oper.semAt_eq _ _ _ hnd, hv w hS, Oper.uponIn]; exact ⟨fun f _ => hf f, h⟩
  · simp only [hw, Bool.false_eq_true, if_false]; exact ⟨fun f _ => hf f, h⟩

theorem wpOpIn_putD {S : World → Prop} {j : Nat} {oi oj : Oper} {v : Value} (hnd : ∀ c, oj.op ≠ .defer c) (hj : ops[j]? = some oj) (hap : oi.apart ops oj = true)
    (hsi : ∀ cs b, oi.op ≠ .select cs b) (hsj : ∀ cs b, oj.op ≠ .select cs b)
    (hQ : ∀ c a w, ¬ Q (.panic c) a w) {K : Act → World → Prop} {a : Act} {w : World}
    (hy : YieldsIf P ops S oi v a) (h : wpOpIn F n P ops Q j K (a.put oi.dst v) w) :
    wpOpIn F n P ops Q j (fun a' w' => YieldsIf P ops S oi v a' ∧ K (a'.put oi.dst v) w') a w := by
  obtain ⟨h1, h2, h3⟩ := Oper.apart_spec hap
  have keep : ∀ (a : Act), YieldsIf P ops S oi v a → ∀ u, YieldsIf P ops S oi v (a.put oj.dst u) := fun a hy u =>
    hy.of_same (execOp_put oi hsi a oj.dst u h3) (wanted_put oi a oj.dst u h3)
  have keepD : ∀ d, YieldsIf P ops S oi v { a with defers := d :: a.defers } := fun d => hy.of_same rfl rfl
  unfold wpOpIn at *
  simp only [hj] at *
  rw [wanted_put oj a oi.dst v h1, about_put oj w a oi.dst v h1] at h
  split
  · rename_i hw
    simp only [hw, if_true] at h
    unfold Oper.wpIn at *
    rw [about_put oj w a oi.dst v h1] at h
    refine ⟨h.1, ?_⟩
    have h := h.2
    rw [Oper.semAt_eq _ _ _ hnd, execOp_put oj hsj a oi.dst v h1] at h
    rw [Oper.semAt_eq _ _ _ hnd]
    generalize (execOp a.eval oj).run P w = r at *
    cases r with
    | ok x w' =>
      cases x <;> simp only [Oper.uponIn] at h ⊢
      case value u => exact ⟨keep a hy u, by rw [← Act.put_comm a v u h2]; exact h⟩
      case skip => exact ⟨keep a hy _, by rw [← Act.put_comm a v undef h2]; exact h⟩
      case defer d =>
        refine ⟨keep _ (keepD d) _, ?_⟩
        rw [← Act.put_comm _ v undef h2, ← Act.put_defers]
        exact h
      case enter f args =>
        refine ⟨h.1, CallsIn.mono h.2 fun e w'' he => ?_⟩
        cases e with
        | returned u => exact ⟨keep a hy u, by rw [← Act.put_comm a v u h2]; exact he⟩
        | panicked c => exact (hQ _ _ _ he).elim
        | outgrown => exact he
      case row row args => exact ⟨h.1, RowsIn.mono h.2 fun u w'' he => ⟨keep a hy u, by rw [← Act.put_comm a v u h2]; exact he⟩⟩
      case round l f tmps assign body =>
        refine ⟨h.1, RoundIn.mono h.2 fun e w'' he => ?_⟩
        cases e with
        | returned u => exact ⟨keep a hy u, by rw [← Act.put_comm a v u h2]; exact he⟩
        | panicked c => exact (hQ _ _ _ he).elim
        | outgrown => exact he
    | halt x w' =>
      cases x <;> simp only [Oper.uponIn] at h ⊢
      case panic u => exact (hQ _ _ _ h).elim
  · rename_i hw
    simp only [hw] at h
    exact ⟨h.1, keep a hy _, by rw [← Act.put_comm a v undef h2]; exact h.2⟩

theorem wpAnyG_first {B : Array Nat} (hB : maskOk md ops B = true) {i : Nat} {oi : Oper} {v : Value} (hf : ∀ f, F.fn f) (hnd : noDefer ops = true) (hi : ops[i]? = some oi) (hsel : ∀ (j : Nat) (o : Oper) cs b, ops[j]? = some o → o.op ≠ .select cs b)
    (hQ : ∀ c a w, ¬ Q (.panic c) a w) :
    ∀ (fuel : Nat) (listed : Array Bool) (a : Act) (w : World), Closed md ops listed →
      (∀ j oj, ops[j]? = some oj → j ≠ i → listed.getD j true = false → (B.getD j 0).testBit i = false → oi.apart ops oj = true ∧ X j = true) →
      i ∈ Region.ready md ops listed → YieldsIf P ops (Ext w) oi v a →
      wpAnyG F n P md ops Q X fuel (listed.setIfInBounds i true) (a.put oi.dst v) w → wpAnyG F n P md ops Q X (fuel + 1) listed a w := by
  intro fuel
  induction fuel with
  | zero =>
    intro listed a w _ _ hr hy H
    refine ⟨fun h => (by rw [h] at hr; cases hr), fun j hj => ?_⟩
    by_cases hji : j = i
    · subst hji; exact YieldsIf.wpOpIn' hf (noDefer_spec hnd hi) hi hy (Ext.refl w) ⟨fun _ => Ext.refl w, H⟩
    · have := ready_mono hj hji
      rw [H.1] at this
      cases this
  | succ fuel ih =>
    intro listed a w hcl hfree hr hy H
    refine ⟨fun h => (by rw [h] at hr; cases hr), fun j hj => ?_⟩
    by_cases hji : j = i
    · subst hji; exact YieldsIf.wpOpIn' hf (noDefer_spec hnd hi) hi hy (Ext.refl w) ⟨fun _ => Ext.refl w, H⟩
    · have h1 := H.2 j (ready_mono hj hji)
      obtain ⟨hjun, oj, hoj, hall⟩ := mem_ready.1 hj
      have hnot : (B.getD j 0).testBit i = false := by
        cases hb : (B.getD j 0).testBit i with
        | false => rfl
        | true =>
          have hl := mask_listed hB hcl (Array.getElem?_eq_some_iff.1 hi).1 j oj hoj hall hb
          have h0 := (mem_ready.1 hr).1
          rcases Nat.lt_or_ge i listed.size with h' | h'
          · simp [h'] at h0 hl; rw [h0] at hl; cases hl
          · simp [Array.getElem?_eq_none h'] at hl
      have hfj := hfree j oj hoj hji hjun hnot
      have h2 := wpOpIn_putD (noDefer_spec hnd hoj) hoj hfj.1 (fun cs b => hsel i oi cs b hi) (fun cs b => hsel j oj cs b hoj) hQ hy h1
      have hfree' : ∀ k ok, ops[k]? = some ok → k ≠ i → (listed.setIfInBounds j true).getD k true = false →
          (B.getD k 0).testBit i = false → oi.apart ops ok = true ∧ X k = true := fun k ok hk hki hun hno => by
        refine hfree k ok hk hki ?_ hno
        by_cases hjk : j = k
        · subst hjk; exact hjun
        · rw [getD_set_ne true hjk] at hun; exact hun
      refine wpOpIn_mono (fun a' w' h3 => ⟨h3.2.1, ih (listed.setIfInBounds j true) a' w' (hcl.set hj) hfree' (ready_mono hr (Ne.symm hji)) (YieldsIf.weaken h3.1 fun W hW => (h3.2.1 hfj.2).trans hW) ?_⟩) h2
      rw [Array.setIfInBounds_comm _ _ hji]
      exact h3.2.2

/-- the worlds in which all that there is in w is as it is in w. -/
structure ExtOf (w : World) where
  W : World
  h : Ext w W
instance (w : World) : Nonempty (ExtOf w) := ⟨⟨w, Ext.refl w⟩⟩
abbrev InExt (w W : World) : Prop := ∃ Y : ExtOf w, W = Y.W
theorem inExt {w W : World} (h : Ext w W) : InExt w W := ⟨⟨W, h⟩, rfl⟩
theorem cell_keep {a b : World} (h : Ext a b) {p : Addr} {v : Value} (k : a.cell? p = some v) : b.cell? p = some v :=
  (RowKit.Below.cell h (World.block_lt_of_cell? a p k)).trans k
theorem Ext.drew (w : World) : Ext w w.drew := RowKit.Below.drew (RowKit.Below.refl _ _)
/-- a cell's fact, for all batches of a region. -/
theorem cell_all {a : World} {p : Addr} {v : Value} (k : a.cell? p = some v) : ∀ (w : World), Ext a w → ∀ Y : ExtOf w, Y.W.cell? p = some v := fun _ h Y => cell_keep (h.trans Y.h) k

/-- operations that yield a value, and do nothing else. -/
def Op.yields : Op → Bool
  | .move _ | .assign _ | .pick .. | .build .. | .load .. | .binOp .. | .unOp .. | .convert .. | .makeFunc .. | .fieldAddr .. | .field .. | .indexAddr .. | .index .. | .lookup .. | .extract .. | .makeInterface .. | .slice .. | .nilCheck _ => true
  | _ => false
theorem nilCheck_value {P : Program} {w w' : World} {x : Next} (y : Value) (hr : Sem.run P (match y with
    | .pointer none | .nilIface | .nilFunc => (runtimePanic .nilDeref : Sem Next)
    | .func (.method name) first captured =>
      match (first[0]? : Option Value) with
      | some .nilIface => runtimePanic .nilDeref
      | some (.iface t w) => do
        if (← nilAhead ((← program).types.size + Made.depth) t w name) != some false then
          unsupported (.noEntry "op/nilCheck.the method's receiver behind this interface value is a nil pointer, or cannot be seen to be none, and the arguments act or may panic (ledger 612)")
        pure (.value (.func (.method name) first captured))
      | _ => pure (.value (.func (.method name) first captured))
    | x => pure (.value x) : Sem Next) w = .ok x w') : ∃ v, x = .value v := by
  have hp : ∀ e : RuntimeError, e = .nilDeref → (runtimePanic e : Sem Next).run P w ≠ .ok x w' := fun e he => by
    subst he
    simp [runtimePanic, program, goPanic, Sem.run]
  split at hr
  · exact (hp _ rfl hr).elim
  · exact (hp _ rfl hr).elim
  · exact (hp _ rfl hr).elim
  · split at hr
    · exact (hp _ rfl hr).elim
    · simp only [Sem.run_bind] at hr
      generalize Sem.run P program w = r0 at hr
      cases r0 with
      | halt h w0 => simp at hr
      | ok p w0 =>
        simp only [Result.andThen_ok] at hr
        generalize Sem.run P (nilAhead _ _ _ _) w0 = r1 at hr
        cases r1 with
        | halt h w1 => simp at hr
        | ok b w1 =>
          simp only [Result.andThen_ok] at hr
          split at hr
          · simp [unsupported] at hr
          · simp only [Sem.run_pure, Result.ok.injEq] at hr; exact ⟨_, hr.1.symm⟩
    · simp only [Sem.run_pure, Result.ok.injEq] at hr; exact ⟨_, hr.1.symm⟩
  · simp only [Sem.run_pure, Result.ok.injEq] at hr; exact ⟨_, hr.1.symm⟩
theorem yields_value {ρ : Operand → Value} {o : Oper} (h : Op.yields o.op = true) {w w' : World} {x : Next} (hr : (execOp ρ o).run P w = .ok x w') : ∃ v, x = .value v := by
  revert hr
  unfold execOp
  cases ho : o.op <;> simp only [ho, Op.yields, Bool.false_eq_true] at h <;> dsimp only <;>
    first
    | (intro hr; simp only [Sem.run_pure, Result.ok.injEq] at hr; exact ⟨_, hr.1.symm⟩)
    | exact nilCheck_value _
    | (intro hr
       simp only [Sem.run_bind] at hr
       generalize hs : Sem.run P _ _ = r at hr
       cases r with
       | ok v w1 =>
         first
         | (simp only [Result.andThen_ok, Sem.run_pure, Result.ok.injEq] at hr; exact ⟨_, hr.1.symm⟩)
         | (simp only [Result.andThen_ok] at hr
            generalize hs2 : Sem.run P _ _ = r2 at hr
            cases r2 with
            | ok v w2 => simp only [Result.andThen_ok, Sem.run_pure, Result.ok.injEq] at hr; exact ⟨_, hr.1.symm⟩
            | halt h w2 => simp at hr)
       | halt h w1 => simp at hr)

/-- may number i be taken first, of those that are left? -/
def takeOk (md : Region.Mode) (ops : Array Oper) (B : Array Nat) (X : Nat → Bool) (listed : Array Bool) (i : Nat) : Bool :=
  (Region.ready md ops listed).contains i && (match ops[i]? with
    | none => false
    | some oi => Op.yields oi.op && (List.range ops.size).all fun j => j == i || listed.getD j true || match ops[j]? with
      | some oj => (B.getD j 0).testBit i || (oi.apart ops oj && X j)
      | none => true)
def batchOk (md : Region.Mode) (ops : Array Oper) (B : Array Nat) (X : Nat → Bool) : Array Bool → List Nat → Bool
  | _, [] => true
  | listed, i :: rest => takeOk md ops B X listed i && batchOk md ops B X (listed.setIfInBounds i true) rest
def listAll (listed : Array Bool) : List Nat → Array Bool
  | [] => listed
  | i :: rest => listAll (listed.setIfInBounds i true) rest
def opsAt (ops : List Oper) : List Nat → Option (List Oper)
  | [] => some []
  | i :: rest => match ops[i]?, opsAt ops rest with
    | some o, some l => some (o :: l)
    | _, _ => none

theorem yieldsIf_of_quiet {o : Oper} {a : Act} {C : World → Prop} {v : Value} (hy : Op.yields o.op = true) (hw : Region.wanted o (yielded ops a.tmps) = true) (h : ∀ w, C w → o.quietAt P a C w v) : YieldsIf P ops C o v a := by
  refine .inl ⟨hw, fun w hC => ?_⟩
  have h := h w hC
  unfold Oper.quietAt at h
  generalize hr : (execOp a.eval o).run P w = r at h
  cases r with
  | ok x w' =>
    obtain ⟨u, rfl⟩ := yields_value hy hr
    simp only [Oper.quietUpon] at h
    obtain ⟨h1, h2⟩ := h
    rw [h1, h2]
  | halt x w' => simp only [Oper.quietUpon] at h

/-- several at once, by the walk of those that only read. -/
theorem wpAnyG_batch {B : Array Nat} (hB : maskOk md ops B = true) (hf : ∀ f, F.fn f) (hnd : noDefer ops = true) (hs : Region.noSelect ops = true) (hQ : ∀ c a w, ¬ Q (.panic c) a w) {fuel : Nat} {w : World} :
    ∀ (ms : List Nat) (listed : Array Bool) (l : List Oper) (a : Act), Closed md ops listed → batchOk md ops B X listed ms = true → opsAt ops.toList ms = some l →
      wpQuiet P ops (InExt w) (fun a' => wpAnyG F n P md ops Q X fuel (listAll listed ms) a' w) l a → wpAnyG F n P md ops Q X (fuel + ms.length) listed a w
  | [], listed, l, a, _, _, hl, h => by
    simp only [opsAt, Option.some.injEq] at hl
    subst hl
    exact h
  | i :: ms, listed, l, a, hcl, hb, hl, h => by
    simp only [batchOk, Bool.and_eq_true, takeOk] at hb
    obtain ⟨⟨hr, ht⟩, hb⟩ := hb
    simp only [opsAt, Array.getElem?_toList] at hl
    cases hi : ops[i]? with
    | none => simp [hi] at hl
    | some oi =>
      cases hms : opsAt ops.toList ms with
      | none => simp [hi, hms] at hl
      | some l' =>
        simp only [hi, hms, Option.some.injEq] at hl
        subst hl
        simp only [hi, Bool.and_eq_true, List.all_eq_true, List.mem_range] at ht
        obtain ⟨hyo, ht⟩ := ht
        have hfree : ∀ j oj, ops[j]? = some oj → j ≠ i → listed.getD j true = false → (B.getD j 0).testBit i = false → oi.apart ops oj = true ∧ X j = true := fun j oj hj hne hun hno => by
          have h1 := ht j (Array.getElem?_eq_some_iff.1 hj).1
          simpa only [hj, Bool.or_eq_true, beq_iff_eq, hne, false_or, hun, Bool.false_eq_true, Bool.and_eq_true, hno] using h1
        have hr' : i ∈ Region.ready md ops listed := by simpa using hr
        have step : ∀ v, YieldsIf P ops (Ext w) oi v a → wpQuiet P ops (InExt w) (fun a' => wpAnyG F n P md ops Q X fuel (listAll (listed.setIfInBounds i true) ms) a' w) l' (a.put oi.dst v) → wpAnyG F n P md ops Q X (fuel + (ms.length + 1)) listed a w := fun v hy hk =>
          wpAnyG_first hB hf hnd hi (Region.noSelect_spec hs) hQ (fuel + ms.length) listed a w hcl hfree hr' hy (wpAnyG_batch hB hf hnd hs hQ ms _ l' _ (hcl.set hr') hb hms hk)
        unfold wpQuiet at h
        by_cases hw : Region.wanted oi (yielded ops a.tmps) = true
        · simp only [hw, if_true] at h
          obtain ⟨v, h1, h2⟩ := h
          exact step v (YieldsIf.weaken (yieldsIf_of_quiet hyo hw h1) fun W hW => inExt hW) h2
        · simp only [hw] at h
          exact step undef (.inr ⟨by simpa using hw, rfl⟩) h

/-- Q, but nothing at a panic. -/
def calmQ (Q : Exit → Act → World → Prop) : Exit → Act → World → Prop
  | .normal, a, w => Q .normal a w
  | _, _, _ => False
def closedOk (md : Region.Mode) (ops : Array Oper) (listed : Array Bool) : Bool :=
  (List.range ops.size).all fun k => !listed.getD k false || match ops[k]? with
    | some o => o.after.all fun e => !Region.binds md e || listed.getD e.on false
    | none => true
theorem closed_of_ok {listed : Array Bool} (h : closedOk md ops listed = true) : Closed md ops listed := fun k o ho hl e he hb => by
  have h1 := List.all_eq_true.1 h k (List.mem_range.2 (Array.getElem?_eq_some_iff.1 ho).1)
  simp only [hl, Bool.not_true, Bool.false_or, ho] at h1
  have h2 := Array.all_eq_true_iff_forall_mem.1 h1 e he
  simpa [hb] using h2
/-- all that a batch wants. -/
def stepOk (md : Region.Mode) (ops : Array Oper) (X : Nat → Bool) (listed : Array Bool) (ms : List Nat) : Bool :=
  noDefer ops && (Region.noSelect ops && (maskOk md ops (Region.before ops) && (closedOk md ops listed && batchOk md ops (Region.before ops) X listed ms)))
theorem batchG (hf : ∀ f, F.fn f) {fuel : Nat} {w : World} (ms : List Nat) {listed : Array Bool} {l : List Oper} {a : Act} (h : stepOk md ops X listed ms = true) (hl : opsAt ops.toList ms = some l)
    (hk : wpQuiet P ops (InExt w) (fun a' => wpAnyG F n P md ops (calmQ Q) X fuel (listAll listed ms) a' w) l a) : wpAnyG F n P md ops (calmQ Q) X (fuel + ms.length) listed a w := by
  simp only [stepOk, Bool.and_eq_true] at h
  exact wpAnyG_batch h.2.2.1 hf h.1 h.2.1 (fun _ _ _ h => h.elim) ms listed l a (closed_of_ok h.2.2.2.1) h.2.2.2.2 hl hk
theorem calmQ_normal {Q : Exit → Act → World → Prop} {a : Act} {w : World} (h : Q .normal a w) : calmQ Q .normal a w := h

/-- what is owed behind an operation that is carried out. -/
def onePost (x : Bool) (w : World) (K : Act → World → Prop) : Exit → Act → World → Prop
  | .normal, a', w' => (x = true → Ext w w') ∧ K a' w'
  | _, _, _ => False

theorem onePost_ext {x : Bool} {w w' : World} {K : Act → World → Prop} {a : Act} (h : Ext w w') (k : K a w') : onePost x w K .normal a w' := ⟨fun _ => h, k⟩
theorem onePost_any {x : Bool} {w w' : World} {K : Act → World → Prop} {a : Act} (hx : x = false) (k : K a w') : onePost x w K .normal a w' := ⟨fun h => (by rw [hx] at h; cases h), k⟩

theorem wpOpIn_of_one {i : Nat} {o : Oper} {x : Bool} {K : Act → World → Prop} {a : Act} {w : World} (ho : ops[i]? = some o) (h : wpListIn F n P ops (onePost x w K) [o] a w) : wpOpIn F n P ops Q i (fun a' w' => (x = true → Ext w w') ∧ K a' w') a w := by
  unfold wpOpIn
  simp only [ho]
  unfold wpListIn at h
  split
  · rename_i hw
    simp only [hw, if_true] at h
    unfold Oper.wpIn at *
    refine ⟨h.1, ?_⟩
    have h := h.2
    generalize (o.semAt F.round a.eval).run P w = r at *
    have out : ∀ {p : Prop}, LetsOut (onePost x w K) → p := fun ⟨_, _, h⟩ => h.elim
    cases r with
    | ok y w' =>
      cases y <;> simp only [Oper.uponIn] at h ⊢
      case value u => exact h
      case skip => exact h
      case defer d => exact h
      case enter f args => exact ⟨h.1, CallsIn.mono h.2 fun e w'' he => by cases e <;> first | exact he | exact he.elim | exact out he⟩
      case row row args => exact ⟨h.1, RowsIn.mono h.2 fun u w'' he => he⟩
      case round l f tmps assign body => exact ⟨h.1, RoundIn.mono h.2 fun e w'' he => by cases e <;> first | exact he | exact he.elim | exact out he⟩
    | halt y w' =>
      cases y <;> simp only [Oper.uponIn] at h ⊢
      case panic u => exact h.elim
  · rename_i hw
    simp only [hw] at h
    exact ⟨h.1, h.2⟩

/-- the one that has to come up now. -/
theorem wpAnyG_one {j : Nat} {o : Oper} {fuel : Nat} {listed : Array Bool} {a : Act} {w : World} (hr : Region.ready md ops listed = [j]) (ho : ops.toList[j]? = some o)
    (h : wpListIn F n P ops (onePost (X j) w (wpAnyG F n P md ops Q X fuel (listed.setIfInBounds j true))) [o] a w) : wpAnyG F n P md ops Q X (fuel + 1) listed a w := by
  refine ⟨fun h0 => (by rw [hr] at h0; cases h0), fun i hi => ?_⟩
  rw [hr] at hi
  obtain rfl : i = j := by simpa using hi
  exact wpOpIn_of_one (by simpa using ho) h
/-- the one that has to come up now is passed over by its guard. -/
theorem wpAnyG_skip (hf : ∀ f, F.fn f) {j : Nat} {o : Oper} {fuel : Nat} {listed : Array Bool} {a : Act} {w : World} (hr : Region.ready md ops listed = [j]) (ho : ops.toList[j]? = some o) (hw : Region.wanted o (yielded ops a.tmps) = false)
    (h : wpAnyG F n P md ops Q X fuel (listed.setIfInBounds j true) (a.put o.dst undef) w) : wpAnyG F n P md ops Q X (fuel + 1) listed a w := by
  refine ⟨fun h0 => (by rw [hr] at h0; cases h0), fun i hi => ?_⟩
  rw [hr] at hi
  obtain rfl : i = j := by simpa using hi
  have ho' : ops[i]? = some o := by simpa using ho
  unfold wpOpIn
  simp only [ho', hw]
  exact ⟨fun f _ => hf f, fun _ => Ext.refl w, h⟩
/-- either of two. -/
theorem wpAnyG_two {j k : Nat} {o p : Oper} {fuel : Nat} {listed : Array Bool} {a : Act} {w : World} (hr : Region.ready md ops listed = [j, k]) (ho : ops.toList[j]? = some o) (hp : ops.toList[k]? = some p)
    (h : wpListIn F n P ops (onePost (X j) w (wpAnyG F n P md ops Q X fuel (listed.setIfInBounds j true))) [o] a w)
    (h' : wpListIn F n P ops (onePost (X k) w (wpAnyG F n P md ops Q X fuel (listed.setIfInBounds k true))) [p] a w) : wpAnyG F n P md ops Q X (fuel + 1) listed a w := by
  refine ⟨fun h0 => (by rw [hr] at h0; cases h0), fun i hi => ?_⟩
  rw [hr] at hi
  rcases List.mem_cons.1 hi with rfl | hi
  · exact wpOpIn_of_one (by simpa using ho) h
  · obtain rfl : i = k := by simpa using hi
    exact wpOpIn_of_one (by simpa using hp) h'
theorem wpAnyG_done {listed : Array Bool} {a : Act} {w : World} (hr : Region.ready md ops listed = []) (h : Q .normal a w) : wpAnyG F n P md ops Q X 0 listed a w := ⟨hr, h⟩

theorem calmQ_imp {Q : Exit → Act → World → Prop} : ∀ (e : Exit) (a : Act) (w : World), calmQ Q e a w → Q e a w := fun e a w h => by
  cases e <;> first | exact h | exact (h : False).elim
theorem calmQ_no {Q : Exit → Act → World → Prop} : ∀ c a w, ¬ calmQ Q (.panic c) a w := fun _ _ _ h => h.elim
theorem CodeIn.mono {c : Code} {Q Q' : Exit → Act → World → Prop} {a : Act} {w : World} (hq : ∀ e a w, Q e a w → Q' e a w)
    (h : c.wpIn F n P Q a w) : c.wpIn F n P Q' a w := Code.wpIn_mono hq h

/-- the region's beginning. -/
theorem wpIn_region_G {id : Nat} {a : Act} {w : World} (X : Nat → Bool) (hm : P.follows .mixedOrders = true)
    (h : wpAnyG F n P .any ops (calmQ Q) X ops.size (Array.replicate ops.size false) a w.drew) : (Code.region id ops true).wpIn F n P Q a w :=
  CodeIn.mono calmQ_imp (wpIn_region_any hm (wpAnyIn_of_G _ _ _ _ h))

end
end Go.Proofs.YtoiohjifjmejkaaGreat
