/- A region that draws its order, inside a wide fence: the length of a slice, too, may be taken first, whatever the others do. Regions that draw their order, inside a wide fence: the laws of XDraw, XDraw2 and XDraw3 once more, with 'the blocks of a list are as they were' in the place of 'nothing that was there has turned' (printed by mk_drawk.py). -/
import Derived.Test.YtoiohjifjmejkaaGreatM27
import Derived.Test.YtoiohjifjmejkaaGreatM28
namespace Go.Proofs.YtoiohjifjmejkaaGreat
open Go

section
variable {F : Fence} {n : Nat} {P : Program} {ops : Array Oper} {Q : Exit → Act → World → Prop} {md : Region.Mode} {X : Nat → Bool}

def Op.yieldsL : Op → Bool
  | .call c => match c.callee with
    | .builtin .len => true
    | _ => false
  | o => Op.yields o
theorem yieldsL_value {ρ : Operand → Value} {o : Oper} (h : Op.yieldsL o.op = true) {w w' : World} {x : Next} (hr : (execOp ρ o).run P w = .ok x w') : ∃ v, x = .value v := by
  by_cases hy : Op.yields o.op = true
  · exact yields_value hy hr
  · have hc : ∃ c, o.op = .call c ∧ c.callee = .builtin .len := by
      cases ho : o.op <;> rw [ho] at h hy <;> first | exact absurd h hy | skip
      rename_i c
      refine ⟨c, rfl, ?_⟩
      unfold Op.yieldsL at h
      simp only at h
      split at h
      · assumption
      · cases h
    obtain ⟨c, ho, hc⟩ := hc
    unfold execOp at hr
    simp only [ho] at hr
    unfold resolve at hr
    simp only [hc] at hr
    simp only [Sem.run_bind, Sem.run_pure, Result.andThen_ok] at hr
    unfold invoke at hr
    simp only [] at hr
    unfold builtin at hr
    simp only [Sem.run_bind] at hr
    generalize hs : Sem.run P (Builtin.len_ _ _ _) _ = r at hr
    cases r with
    | ok v w1 => simp only [Result.andThen_ok, Sem.run_pure, Result.ok.injEq] at hr; exact ⟨_, hr.1.symm⟩
    | halt h w1 => simp at hr
theorem yieldsIfL_of_quiet {o : Oper} {a : Act} {C : World → Prop} {v : Value} (hy : Op.yieldsL o.op = true) (hw : Region.wanted o (yielded ops a.tmps) = true) (h : ∀ w, C w → o.quietAt P a C w v) : YieldsIf P ops C o v a := by
  refine .inl ⟨hw, fun w hC => ?_⟩
  have h := h w hC
  unfold Oper.quietAt at h
  generalize hr : (execOp a.eval o).run P w = r at h
  cases r with
  | ok x w' =>
    obtain ⟨u, rfl⟩ := yieldsL_value hy hr
    simp only [Oper.quietUpon] at h
    obtain ⟨h1, h2⟩ := h
    rw [h1, h2]
  | halt x w' => simp only [Oper.quietUpon] at h
def takeOkL (md : Region.Mode) (ops : Array Oper) (B : Array Nat) (listed : Array Bool) (i : Nat) : Bool :=
  (Region.ready md ops listed).contains i && (match ops[i]? with
    | none => false
    | some oi => Op.yieldsL oi.op && (List.range ops.size).all fun j => j == i || listed.getD j true || match ops[j]? with
      | some oj => (B.getD j 0).testBit i || oi.apart ops oj
      | none => true)
def stepOkL (md : Region.Mode) (ops : Array Oper) (listed : Array Bool) (i : Nat) : Bool :=
  noDefer ops && (Region.noSelect ops && (maskOk md ops (Region.before ops) && (closedOk md ops listed && takeOkL md ops (Region.before ops) listed i)))
/-- one that does not look into memory, or a slice's length. -/
theorem takeGL (hf : ∀ f, F.fn f) {fuel : Nat} {w : World} (i : Nat) {listed : Array Bool} {o : Oper} {a : Act} (h : stepOkL md ops listed i = true) (hl : ops.toList[i]? = some o)
    (hk : wpQuiet P ops (fun _ => True) (fun a' => wpAnyG F n P md ops (calmQ Q) X fuel (listed.setIfInBounds i true) a' w) [o] a) : wpAnyG F n P md ops (calmQ Q) X (fuel + 1) listed a w := by
  simp only [stepOkL, Bool.and_eq_true, takeOkL] at h
  obtain ⟨hnd, hs, hB, hcl, hr, ht⟩ := h
  have hi : ops[i]? = some o := by simpa using hl
  simp only [hi, Bool.and_eq_true, List.all_eq_true, List.mem_range] at ht
  obtain ⟨hyo, ht⟩ := ht
  have hfree : ∀ j oj, ops[j]? = some oj → j ≠ i → listed.getD j true = false → ((Region.before ops).getD j 0).testBit i = false → o.apart ops oj = true := fun j oj hj hne hun hno => by
    have h1 := ht j (Array.getElem?_eq_some_iff.1 hj).1
    simpa only [hj, Bool.or_eq_true, beq_iff_eq, hne, false_or, hun, Bool.false_eq_true, hno] using h1
  have hr' : i ∈ Region.ready md ops listed := by simpa using hr
  have step : ∀ v, YieldsIf P ops (fun _ => True) o v a → wpAnyG F n P md ops (calmQ Q) X fuel (listed.setIfInBounds i true) (a.put o.dst v) w → wpAnyG F n P md ops (calmQ Q) X (fuel + 1) listed a w := fun v hy hk =>
    wpAnyG_first0 hB hf hnd hi (Region.noSelect_spec hs) (fun _ _ _ h => h.elim) fuel listed a w (closed_of_ok hcl) hfree hr' hy hk
  unfold wpQuiet at hk
  by_cases hw : Region.wanted o (yielded ops a.tmps) = true
  · simp only [hw, if_true] at hk
    obtain ⟨v, h1, h2⟩ := hk
    exact step v (yieldsIfL_of_quiet hyo hw h1) (by unfold wpQuiet at h2; exact h2)
  · simp only [hw] at hk
    exact step undef (.inr ⟨by simpa using hw, rfl⟩) (by unfold wpQuiet at hk; exact hk)
end
end Go.Proofs.YtoiohjifjmejkaaGreat
namespace Go.Proofs.YtoiohjifjmejkaaGreat
open Go

/-- the blocks of a list are as they were. -/
def Kp (K : List Nat) (w w' : World) : Prop := ∀ i, i ∈ K → ∀ o, w.heap[i]? = some o → w'.heap[i]? = some o
theorem Kp.refl (K : List Nat) (w : World) : Kp K w w := fun _ _ _ h => h
theorem Kp.trans {K : List Nat} {a b c : World} (h : Kp K a b) (k : Kp K b c) : Kp K a c := fun i hi o ho => k i hi o (h i hi o ho)
theorem Kp.ext (K : List Nat) {a b : World} (h : Ext a b) : Kp K a b := fun _ _ _ ho => h.get ho
theorem Kp.bt {K L : List Nat} {a b : World} (h : Bt L a b) (hd : ∀ i ∈ K, i ∉ L) : Kp K a b := fun i hi _ ho => h.get (hd i hi) ho
theorem Kp.drew (K : List Nat) (w : World) : Kp K w w.drew := Kp.ext K (Ext.drew w)
theorem Kp.cell {K : List Nat} {a b : World} (h : Kp K a b) {p : Addr} (hp : p.block ∈ K) {v : Value} (k : a.cell? p = some v) : b.cell? p = some v := by
  have hl := World.block_lt_of_cell? a p k
  rw [World.cell?_of_block (w := a) (by rw [Array.getElem?_eq_getElem hl]; exact h _ hp _ (Array.getElem?_eq_getElem hl))]
  exact k
structure KpOf (K : List Nat) (w : World) where
  W : World
  h : Kp K w W
instance (K : List Nat) (w : World) : Nonempty (KpOf K w) := ⟨⟨w, Kp.refl K w⟩⟩
abbrev InKp (K : List Nat) (w W : World) : Prop := ∃ Y : KpOf K w, W = Y.W
theorem inKp {K : List Nat} {w W : World} (h : Kp K w W) : InKp K w W := ⟨⟨W, h⟩, rfl⟩
/-- a cell's fact, for all batches of a region. -/
theorem cell_allK {K : List Nat} {a : World} {p : Addr} {v : Value} (hp : p.block ∈ K) (k : a.cell? p = some v) : ∀ (w : World), Kp K a w → ∀ Y : KpOf K w, Y.W.cell? p = some v := fun _ h Y => (h.trans Y.h).cell hp k

section
variable {F : Fence} {n : Nat} {P : Program} {ops : Array Oper} {Q : Exit → Act → World → Prop} {md : Region.Mode} {X : Nat → Bool} {K : List Nat}

/-- whatever order is picked; behind an operation of X nothing that was there has turned. -/
def wpAnyGK (F : Fence) (n : Nat) (P : Program) (md : Region.Mode) (ops : Array Oper) (Q : Exit → Act → World → Prop) (X : Nat → Bool) (K : List Nat) : Nat → Array Bool → Act → World → Prop
  | 0, listed, a, w => Region.ready md ops listed = [] ∧ Q .normal a w
  | fuel + 1, listed, a, w =>
    (Region.ready md ops listed = [] → Q .normal a w) ∧
    ∀ i ∈ Region.ready md ops listed, wpOpIn F n P ops Q i (fun a' w' => (X i = true → Kp K w w') ∧ wpAnyGK F n P md ops Q X K fuel (listed.setIfInBounds i true) a' w') a w

theorem wpAnyIn_of_GK : ∀ (fuel : Nat) (listed : Array Bool) (a : Act) (w : World), wpAnyGK F n P md ops Q X K fuel listed a w → wpAnyIn F n P md ops Q fuel listed a w
  | 0, _, _, _, h => h
  | fuel + 1, _, _, _, h => ⟨h.1, fun i hi => wpOpIn_mono (fun a' w' h' => wpAnyIn_of_GK fuel _ a' w' h'.2) (h.2 i hi)⟩

theorem wpAnyG_firstK {B : Array Nat} (hB : maskOk md ops B = true) {i : Nat} {oi : Oper} {v : Value} (hf : ∀ f, F.fn f) (hnd : noDefer ops = true) (hi : ops[i]? = some oi) (hsel : ∀ (j : Nat) (o : Oper) cs b, ops[j]? = some o → o.op ≠ .select cs b)
    (hQ : ∀ c a w, ¬ Q (.panic c) a w) :
    ∀ (fuel : Nat) (listed : Array Bool) (a : Act) (w : World), Closed md ops listed →
      (∀ j oj, ops[j]? = some oj → j ≠ i → listed.getD j true = false → (B.getD j 0).testBit i = false → oi.apart ops oj = true ∧ X j = true) →
      i ∈ Region.ready md ops listed → YieldsIf P ops (Kp K w) oi v a →
      wpAnyGK F n P md ops Q X K fuel (listed.setIfInBounds i true) (a.put oi.dst v) w → wpAnyGK F n P md ops Q X K (fuel + 1) listed a w := by
  intro fuel
  induction fuel with
  | zero =>
    intro listed a w _ _ hr hy H
    refine ⟨fun h => (by rw [h] at hr; cases hr), fun j hj => ?_⟩
    by_cases hji : j = i
    · subst hji; exact YieldsIf.wpOpIn' hf (noDefer_spec hnd hi) hi hy (Kp.refl K w) ⟨fun _ => Kp.refl K w, H⟩
    · have := ready_mono hj hji
      rw [H.1] at this
      cases this
  | succ fuel ih =>
    intro listed a w hcl hfree hr hy H
    refine ⟨fun h => (by rw [h] at hr; cases hr), fun j hj => ?_⟩
    by_cases hji : j = i
    · subst hji; exact YieldsIf.wpOpIn' hf (noDefer_spec hnd hi) hi hy (Kp.refl K w) ⟨fun _ => Kp.refl K w, H⟩
    · have h1 := H.2 j (ready_mono hj hji)
      obtain ⟨hjun, oj, hoj, hall⟩ := mem_ready.1 hj
      have hnot : (B.getD j 0).testBit i = false := by
        cases hb : (B.getD j 0).testBit i with
        | false => rfl
        | true =>
          have hl := mask_listed hB hcl (Array.getElem?_eq_some_iff.1 hi).1 j oj hoj hall hb
          have h0 := (mem_ready.1 hr).1
          rcases Nat.lt_or_ge i listed.size with h' | h'
          · simp [h'] at h0 hl; rw [h0] at hl; cases hl
          · simp [Array.getElem?_eq_none h'] at hl
      have hfj := hfree j oj hoj hji hjun hnot
      have h2 := wpOpIn_putD (noDefer_spec hnd hoj) hoj hfj.1 (fun cs b => hsel i oi cs b hi) (fun cs b => hsel j oj cs b hoj) hQ hy h1
      have hfree' : ∀ k ok, ops[k]? = some ok → k ≠ i → (listed.setIfInBounds j true).getD k true = false →
          (B.getD k 0).testBit i = false → oi.apart ops ok = true ∧ X k = true := fun k ok hk hki hun hno => by
        refine hfree k ok hk hki ?_ hno
        by_cases hjk : j = k
        · subst hjk; exact hjun
        · rw [getD_set_ne true hjk] at hun; exact hun
      refine wpOpIn_mono (fun a' w' h3 => ⟨h3.2.1, ih (listed.setIfInBounds j true) a' w' (hcl.set hj) hfree' (ready_mono hr (Ne.symm hji)) (YieldsIf.weaken h3.1 fun W hW => (h3.2.1 hfj.2).trans hW) ?_⟩) h2
      rw [Array.setIfInBounds_comm _ _ hji]
      exact h3.2.2

/-- several at once, by the walk of those that only read. -/
theorem wpAnyG_batchK {B : Array Nat} (hB : maskOk md ops B = true) (hf : ∀ f, F.fn f) (hnd : noDefer ops = true) (hs : Region.noSelect ops = true) (hQ : ∀ c a w, ¬ Q (.panic c) a w) {fuel : Nat} {w : World} :
    ∀ (ms : List Nat) (listed : Array Bool) (l : List Oper) (a : Act), Closed md ops listed → batchOk md ops B X listed ms = true → opsAt ops.toList ms = some l →
      wpQuiet P ops (InKp K w) (fun a' => wpAnyGK F n P md ops Q X K fuel (listAll listed ms) a' w) l a → wpAnyGK F n P md ops Q X K (fuel + ms.length) listed a w
  | [], listed, l, a, _, _, hl, h => by
    simp only [opsAt, Option.some.injEq] at hl
    subst hl
    exact h
  | i :: ms, listed, l, a, hcl, hb, hl, h => by
    simp only [batchOk, Bool.and_eq_true, takeOk] at hb
    obtain ⟨⟨hr, ht⟩, hb⟩ := hb
    simp only [opsAt, Array.getElem?_toList] at hl
    cases hi : ops[i]? with
    | none => simp [hi] at hl
    | some oi =>
      cases hms : opsAt ops.toList ms with
      | none => simp [hi, hms] at hl
      | some l' =>
        simp only [hi, hms, Option.some.injEq] at hl
        subst hl
        simp only [hi, Bool.and_eq_true, List.all_eq_true, List.mem_range] at ht
        obtain ⟨hyo, ht⟩ := ht
        have hfree : ∀ j oj, ops[j]? = some oj → j ≠ i → listed.getD j true = false → (B.getD j 0).testBit i = false → oi.apart ops oj = true ∧ X j = true := fun j oj hj hne hun hno => by
          have h1 := ht j (Array.getElem?_eq_some_iff.1 hj).1
          simpa only [hj, Bool.or_eq_true, beq_iff_eq, hne, false_or, hun, Bool.false_eq_true, Bool.and_eq_true, hno] using h1
        have hr' : i ∈ Region.ready md ops listed := by simpa using hr
        have step : ∀ v, YieldsIf P ops (Kp K w) oi v a → wpQuiet P ops (InKp K w) (fun a' => wpAnyGK F n P md ops Q X K fuel (listAll (listed.setIfInBounds i true) ms) a' w) l' (a.put oi.dst v) → wpAnyGK F n P md ops Q X K (fuel + (ms.length + 1)) listed a w := fun v hy hk =>
          wpAnyG_firstK hB hf hnd hi (Region.noSelect_spec hs) hQ (fuel + ms.length) listed a w hcl hfree hr' hy (wpAnyG_batchK hB hf hnd hs hQ ms _ l' _ (hcl.set hr') hb hms hk)
        unfold wpQuiet at h
        by_cases hw : Region.wanted oi (yielded ops a.tmps) = true
        · simp only [hw, if_true] at h
          obtain ⟨v, h1, h2⟩ := h
          exact step v (YieldsIf.weaken (yieldsIf_of_quiet hyo hw h1) fun W hW => inKp hW) h2
        · simp only [hw] at h
          exact step undef (.inr ⟨by simpa using hw, rfl⟩) h

theorem batchGK (hf : ∀ f, F.fn f) {fuel : Nat} {w : World} (ms : List Nat) {listed : Array Bool} {l : List Oper} {a : Act} (h : stepOk md ops X listed ms = true) (hl : opsAt ops.toList ms = some l)
    (hk : wpQuiet P ops (InKp K w) (fun a' => wpAnyGK F n P md ops (calmQ Q) X K fuel (listAll listed ms) a' w) l a) : wpAnyGK F n P md ops (calmQ Q) X K (fuel + ms.length) listed a w := by
  simp only [stepOk, Bool.and_eq_true] at h
  exact wpAnyG_batchK h.2.2.1 hf h.1 h.2.1 (fun _ _ _ h => h.elim) ms listed l a (closed_of_ok h.2.2.2.1) h.2.2.2.2 hl hk
/-- what is owed behind an operation that is carried out. -/
def onePostK (K0 : List Nat) (x : Bool) (w : World) (KK : Act → World → Prop) : Exit → Act → World → Prop
  | .normal, a', w' => (x = true → Kp K0 w w') ∧ KK a' w'
  | _, _, _ => False

theorem onePost_extK {K0 : List Nat} {x : Bool} {w w' : World} {KK : Act → World → Prop} {a : Act} (h : Kp K0 w w') (k : KK a w') : onePostK K0 x w KK .normal a w' := ⟨fun _ => h, k⟩
theorem onePost_anyK {K0 : List Nat} {x : Bool} {w w' : World} {KK : Act → World → Prop} {a : Act} (hx : x = false) (k : KK a w') : onePostK K0 x w KK .normal a w' := ⟨fun h => (by rw [hx] at h; cases h), k⟩

theorem wpOpIn_of_oneK {i : Nat} {o : Oper} {K0 : List Nat} {x : Bool} {KK : Act → World → Prop} {a : Act} {w : World} (ho : ops[i]? = some o) (h : wpListIn F n P ops (onePostK K0 x w KK) [o] a w) : wpOpIn F n P ops Q i (fun a' w' => (x = true → Kp K0 w w') ∧ KK a' w') a w := by
  unfold wpOpIn
  simp only [ho]
  unfold wpListIn at h
  split
  · rename_i hw
    simp only [hw, if_true] at h
    unfold Oper.wpIn at *
    refine ⟨h.1, ?_⟩
    have h := h.2
    generalize (o.semAt F.round a.eval).run P w = r at *
    have out : ∀ {p : Prop}, LetsOut (onePostK K0 x w KK) → p := fun ⟨_, _, h⟩ => h.elim
    cases r with
    | ok y w' =>
      cases y <;> simp only [Oper.uponIn] at h ⊢
      case value u => exact h
      case skip => exact h
      case defer d => exact h
      case enter f args => exact ⟨h.1, CallsIn.mono h.2 fun e w'' he => by cases e <;> first | exact he | exact he.elim | exact out he⟩
      case row row args => exact ⟨h.1, RowsIn.mono h.2 fun u w'' he => he⟩
      case round l f tmps assign body => exact ⟨h.1, RoundIn.mono h.2 fun e w'' he => by cases e <;> first | exact he | exact he.elim | exact out he⟩
    | halt y w' =>
      cases y <;> simp only [Oper.uponIn] at h ⊢
      case panic u => exact h.elim
  · rename_i hw
    simp only [hw] at h
    exact ⟨h.1, h.2⟩

/-- the one that has to come up now. -/
theorem wpAnyG_oneK {j : Nat} {o : Oper} {fuel : Nat} {listed : Array Bool} {a : Act} {w : World} (hr : Region.ready md ops listed = [j]) (ho : ops.toList[j]? = some o)
    (h : wpListIn F n P ops (onePostK K (X j) w (wpAnyGK F n P md ops Q X K fuel (listed.setIfInBounds j true))) [o] a w) : wpAnyGK F n P md ops Q X K (fuel + 1) listed a w := by
  refine ⟨fun h0 => (by rw [hr] at h0; cases h0), fun i hi => ?_⟩
  rw [hr] at hi
  obtain rfl : i = j := by simpa using hi
  exact wpOpIn_of_oneK (by simpa using ho) h
/-- the one that has to come up now is passed over by its guard. -/
theorem wpAnyG_skipK (hf : ∀ f, F.fn f) {j : Nat} {o : Oper} {fuel : Nat} {listed : Array Bool} {a : Act} {w : World} (hr : Region.ready md ops listed = [j]) (ho : ops.toList[j]? = some o) (hw : Region.wanted o (yielded ops a.tmps) = false)
    (h : wpAnyGK F n P md ops Q X K fuel (listed.setIfInBounds j true) (a.put o.dst undef) w) : wpAnyGK F n P md ops Q X K (fuel + 1) listed a w := by
  refine ⟨fun h0 => (by rw [hr] at h0; cases h0), fun i hi => ?_⟩
  rw [hr] at hi
  obtain rfl : i = j := by simpa using hi
  have ho' : ops[i]? = some o := by simpa using ho
  unfold wpOpIn
  simp only [ho', hw]
  exact ⟨fun f _ => hf f, fun _ => Kp.refl K w, h⟩
/-- either of two. -/
theorem wpAnyG_twoK {j k : Nat} {o p : Oper} {fuel : Nat} {listed : Array Bool} {a : Act} {w : World} (hr : Region.ready md ops listed = [j, k]) (ho : ops.toList[j]? = some o) (hp : ops.toList[k]? = some p)
    (h : wpListIn F n P ops (onePostK K (X j) w (wpAnyGK F n P md ops Q X K fuel (listed.setIfInBounds j true))) [o] a w)
    (h' : wpListIn F n P ops (onePostK K (X k) w (wpAnyGK F n P md ops Q X K fuel (listed.setIfInBounds k true))) [p] a w) : wpAnyGK F n P md ops Q X K (fuel + 1) listed a w := by
  refine ⟨fun h0 => (by rw [hr] at h0; cases h0), fun i hi => ?_⟩
  rw [hr] at hi
  rcases List.mem_cons.1 hi with rfl | hi
  · exact wpOpIn_of_oneK (by simpa using ho) h
  · obtain rfl : i = k := by simpa using hi
    exact wpOpIn_of_oneK (by simpa using hp) h'
theorem wpAnyG_doneK {listed : Array Bool} {a : Act} {w : World} (hr : Region.ready md ops listed = []) (h : Q .normal a w) : wpAnyGK F n P md ops Q X K 0 listed a w := ⟨hr, h⟩

theorem wpAnyG_first0K {B : Array Nat} (hB : maskOk md ops B = true) {i : Nat} {oi : Oper} {v : Value} (hf : ∀ f, F.fn f) (hnd : noDefer ops = true) (hi : ops[i]? = some oi) (hsel : ∀ (j : Nat) (o : Oper) cs b, ops[j]? = some o → o.op ≠ .select cs b)
    (hQ : ∀ c a w, ¬ Q (.panic c) a w) :
    ∀ (fuel : Nat) (listed : Array Bool) (a : Act) (w : World), Closed md ops listed →
      (∀ j oj, ops[j]? = some oj → j ≠ i → listed.getD j true = false → (B.getD j 0).testBit i = false → oi.apart ops oj = true) →
      i ∈ Region.ready md ops listed → YieldsIf P ops (fun _ => True) oi v a →
      wpAnyGK F n P md ops Q X K fuel (listed.setIfInBounds i true) (a.put oi.dst v) w → wpAnyGK F n P md ops Q X K (fuel + 1) listed a w := by
  intro fuel
  induction fuel with
  | zero =>
    intro listed a w _ _ hr hy H
    refine ⟨fun h => (by rw [h] at hr; cases hr), fun j hj => ?_⟩
    by_cases hji : j = i
    · subst hji; exact YieldsIf.wpOpIn' hf (noDefer_spec hnd hi) hi hy trivial ⟨fun _ => Kp.refl K w, H⟩
    · have := ready_mono hj hji
      rw [H.1] at this
      cases this
  | succ fuel ih =>
    intro listed a w hcl hfree hr hy H
    refine ⟨fun h => (by rw [h] at hr; cases hr), fun j hj => ?_⟩
    by_cases hji : j = i
    · subst hji; exact YieldsIf.wpOpIn' hf (noDefer_spec hnd hi) hi hy trivial ⟨fun _ => Kp.refl K w, H⟩
    · have h1 := H.2 j (ready_mono hj hji)
      obtain ⟨hjun, oj, hoj, hall⟩ := mem_ready.1 hj
      have hnot : (B.getD j 0).testBit i = false := by
        cases hb : (B.getD j 0).testBit i with
        | false => rfl
        | true =>
          have hl := mask_listed hB hcl (Array.getElem?_eq_some_iff.1 hi).1 j oj hoj hall hb
          have h0 := (mem_ready.1 hr).1
          rcases Nat.lt_or_ge i listed.size with h' | h'
          · simp [h'] at h0 hl; rw [h0] at hl; cases hl
          · simp [Array.getElem?_eq_none h'] at hl
      have hfj := hfree j oj hoj hji hjun hnot
      have h2 := wpOpIn_putD (noDefer_spec hnd hoj) hoj hfj (fun cs b => hsel i oi cs b hi) (fun cs b => hsel j oj cs b hoj) hQ hy h1
      have hfree' : ∀ k ok, ops[k]? = some ok → k ≠ i → (listed.setIfInBounds j true).getD k true = false →
          (B.getD k 0).testBit i = false → oi.apart ops ok = true := fun k ok hk hki hun hno => by
        refine hfree k ok hk hki ?_ hno
        by_cases hjk : j = k
        · subst hjk; exact hjun
        · rw [getD_set_ne true hjk] at hun; exact hun
      refine wpOpIn_mono (fun a' w' h3 => ⟨h3.2.1, ih (listed.setIfInBounds j true) a' w' (hcl.set hj) hfree' (ready_mono hr (Ne.symm hji)) h3.1 ?_⟩) h2
      rw [Array.setIfInBounds_comm _ _ hji]
      exact h3.2.2
/-- one that does not look into memory, or a slice's length. -/
theorem takeGLK (hf : ∀ f, F.fn f) {fuel : Nat} {w : World} (i : Nat) {listed : Array Bool} {o : Oper} {a : Act} (h : stepOkL md ops listed i = true) (hl : ops.toList[i]? = some o)
    (hk : wpQuiet P ops (fun _ => True) (fun a' => wpAnyGK F n P md ops (calmQ Q) X K fuel (listed.setIfInBounds i true) a' w) [o] a) : wpAnyGK F n P md ops (calmQ Q) X K (fuel + 1) listed a w := by
  simp only [stepOkL, Bool.and_eq_true, takeOkL] at h
  obtain ⟨hnd, hs, hB, hcl, hr, ht⟩ := h
  have hi : ops[i]? = some o := by simpa using hl
  simp only [hi, Bool.and_eq_true, List.all_eq_true, List.mem_range] at ht
  obtain ⟨hyo, ht⟩ := ht
  have hfree : ∀ j oj, ops[j]? = some oj → j ≠ i → listed.getD j true = false → ((Region.before ops).getD j 0).testBit i = false → o.apart ops oj = true := fun j oj hj hne hun hno => by
    have h1 := ht j (Array.getElem?_eq_some_iff.1 hj).1
    simpa only [hj, Bool.or_eq_true, beq_iff_eq, hne, false_or, hun, Bool.false_eq_true, hno] using h1
  have hr' : i ∈ Region.ready md ops listed := by simpa using hr
  have step : ∀ v, YieldsIf P ops (fun _ => True) o v a → wpAnyGK F n P md ops (calmQ Q) X K fuel (listed.setIfInBounds i true) (a.put o.dst v) w → wpAnyGK F n P md ops (calmQ Q) X K (fuel + 1) listed a w := fun v hy hk =>
    wpAnyG_first0K hB hf hnd hi (Region.noSelect_spec hs) (fun _ _ _ h => h.elim) fuel listed a w (closed_of_ok hcl) hfree hr' hy hk
  unfold wpQuiet at hk
  by_cases hw : Region.wanted o (yielded ops a.tmps) = true
  · simp only [hw, if_true] at hk
    obtain ⟨v, h1, h2⟩ := hk
    exact step v (yieldsIfL_of_quiet hyo hw h1) (by unfold wpQuiet at h2; exact h2)
  · simp only [hw] at hk
    exact step undef (.inr ⟨by simpa using hw, rfl⟩) (by unfold wpQuiet at hk; exact hk)
/-- the region's beginning. -/
theorem wpIn_region_GK {id : Nat} {a : Act} {w : World} (X : Nat → Bool) (K : List Nat) (hm : P.follows .mixedOrders = true)
    (h : wpAnyGK F n P .any ops (calmQ Q) X K ops.size (Array.replicate ops.size false) a w.drew) : (Code.region id ops true).wpIn F n P Q a w :=
  CodeIn.mono calmQ_imp (wpIn_region_any hm (wpAnyIn_of_GK _ _ _ _ h))

end
end Go.Proofs.YtoiohjifjmejkaaGreat
