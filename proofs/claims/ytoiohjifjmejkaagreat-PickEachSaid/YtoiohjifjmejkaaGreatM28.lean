/- A region that draws its order, inside a wide fence: an operation that does not look into memory may be taken first, whatever the others do. treap: item, above, Above, Check, May. -/
import Derived.BigQuiet
import Derived.Test.YtoiohjifjmejkaaGreatM3
import Derived.Test.YtoiohjifjmejkaaGreatM9
import Derived.Test.YtoiohjifjmejkaaGreatM14
import Derived.Test.YtoiohjifjmejkaaGreatM27
namespace Go.Proofs.YtoiohjifjmejkaaGreat
open Go

section
variable {F : Fence} {n : Nat} {P : Program} {ops : Array Oper} {Q : Exit → Act → World → Prop} {md : Region.Mode} {X : Nat → Bool}

theorem wpAnyG_first0 {B : Array Nat} (hB : maskOk md ops B = true) {i : Nat} {oi : Oper} {v : Value} (hf : ∀ f, F.fn f) (hnd : noDefer ops = true) (hi : ops[i]? = some oi) (hsel : ∀ (j : Nat) (o : Oper) cs b, ops[j]? = some o → o.op ≠ .select cs b)
    (hQ : ∀ c a w, ¬ Q (.panic c) a w) :
    ∀ (fuel : Nat) (listed : Array Bool) (a : Act) (w : World), Closed md ops listed →
      (∀ j oj, ops[j]? = some oj → j ≠ i → listed.getD j true = false → (B.getD j 0).testBit i = false → oi.apart ops oj = true) →
      i ∈ Region.ready md ops listed → YieldsIf P ops (fun _ => True) oi v a →
      wpAnyG F n P md ops Q X fuel (listed.setIfInBounds i true) (a.put oi.dst v) w → wpAnyG F n P md ops Q X (fuel + 1) listed a w := by
  intro fuel
  induction fuel with
  | zero =>
    intro listed a w _ _ hr hy H
    refine ⟨fun h => (by rw [h] at hr; cases hr), fun j hj => ?_⟩
    by_cases hji : j = i
    · subst hji; exact YieldsIf.wpOpIn' hf (noDefer_spec hnd hi) hi hy trivial ⟨fun _ => Ext.refl w, H⟩
    · have := ready_mono hj hji
      rw [H.1] at this
      cases this
  | succ fuel ih =>
    intro listed a w hcl hfree hr hy H
    refine ⟨fun h => (by rw [h] at hr; cases hr), fun j hj => ?_⟩
    by_cases hji : j = i
    · subst hji; exact YieldsIf.wpOpIn' hf (noDefer_spec hnd hi) hi hy trivial ⟨fun _ => Ext.refl w, H⟩
    · have h1 := H.2 j (ready_mono hj hji)
      obtain ⟨hjun, oj, hoj, hall⟩ := mem_ready.1 hj
      have hnot : (B.getD j 0).testBit i = false := by
        cases hb : (B.getD j 0).testBit i with
        | false => rfl
        | true =>
          have hl := mask_listed hB hcl (Array.getElem?_eq_some_iff.1 hi).1 j oj hoj hall hb
          have h0 := (mem_ready.1 hr).1
          rcases Nat.lt_or_ge i listed.size with h' | h'
          · simp [h'] at h0 hl; rw [h0] at hl; cases hl
          · simp [Array.getElem?_eq_none h'] at hl
      have hfj := hfree j oj hoj hji hjun hnot
      have h2 := wpOpIn_putD (noDefer_spec hnd hoj) hoj hfj (fun cs b => hsel i oi cs b hi) (fun cs b => hsel j oj cs b hoj) hQ hy h1
      have hfree' : ∀ k ok, ops[k]? = some ok → k ≠ i → (listed.setIfInBounds j true).getD k true = false →
          (B.getD k 0).testBit i = false → oi.apart ops ok = true := fun k ok hk hki hun hno => by
        refine hfree k ok hk hki ?_ hno
        by_cases hjk : j = k
        · subst hjk; exact hjun
        · rw [getD_set_ne true hjk] at hun; exact hun
      refine wpOpIn_mono (fun a' w' h3 => ⟨h3.2.1, ih (listed.setIfInBounds j true) a' w' (hcl.set hj) hfree' (ready_mono hr (Ne.symm hji)) h3.1 ?_⟩) h2
      rw [Array.setIfInBounds_comm _ _ hji]
      exact h3.2.2
def takeOk0 (md : Region.Mode) (ops : Array Oper) (B : Array Nat) (listed : Array Bool) (i : Nat) : Bool :=
  (Region.ready md ops listed).contains i && (match ops[i]? with
    | none => false
    | some oi => Op.yields oi.op && (List.range ops.size).all fun j => j == i || listed.getD j true || match ops[j]? with
      | some oj => (B.getD j 0).testBit i || oi.apart ops oj
      | none => true)
def stepOk0 (md : Region.Mode) (ops : Array Oper) (listed : Array Bool) (i : Nat) : Bool :=
  noDefer ops && (Region.noSelect ops && (maskOk md ops (Region.before ops) && (closedOk md ops listed && takeOk0 md ops (Region.before ops) listed i)))
/-- one that does not look into memory. -/
theorem takeG0 (hf : ∀ f, F.fn f) {fuel : Nat} {w : World} (i : Nat) {listed : Array Bool} {o : Oper} {a : Act} (h : stepOk0 md ops listed i = true) (hl : ops.toList[i]? = some o)
    (hk : wpQuiet P ops (fun _ => True) (fun a' => wpAnyG F n P md ops (calmQ Q) X fuel (listed.setIfInBounds i true) a' w) [o] a) : wpAnyG F n P md ops (calmQ Q) X (fuel + 1) listed a w := by
  simp only [stepOk0, Bool.and_eq_true, takeOk0] at h
  obtain ⟨hnd, hs, hB, hcl, hr, ht⟩ := h
  have hi : ops[i]? = some o := by simpa using hl
  simp only [hi, Bool.and_eq_true, List.all_eq_true, List.mem_range] at ht
  obtain ⟨hyo, ht⟩ := ht
  have hfree : ∀ j oj, ops[j]? = some oj → j ≠ i → listed.getD j true = false → ((Region.before ops).getD j 0).testBit i = false → o.apart ops oj = true := fun j oj hj hne hun hno => by
    have h1 := ht j (Array.getElem?_eq_some_iff.1 hj).1
    simpa only [hj, Bool.or_eq_true, beq_iff_eq, hne, false_or, hun, Bool.false_eq_true, hno] using h1
  have hr' : i ∈ Region.ready md ops listed := by simpa using hr
  have step : ∀ v, YieldsIf P ops (fun _ => True) o v a → wpAnyG F n P md ops (calmQ Q) X fuel (listed.setIfInBounds i true) (a.put o.dst v) w → wpAnyG F n P md ops (calmQ Q) X (fuel + 1) listed a w := fun v hy hk =>
    wpAnyG_first0 hB hf hnd hi (Region.noSelect_spec hs) (fun _ _ _ h => h.elim) fuel listed a w (closed_of_ok hcl) hfree hr' hy hk
  unfold wpQuiet at hk
  by_cases hw : Region.wanted o (yielded ops a.tmps) = true
  · simp only [hw, if_true] at hk
    obtain ⟨v, h1, h2⟩ := hk
    exact step v (yieldsIf_of_quiet hyo hw h1) (by unfold wpQuiet at h2; exact h2)
  · simp only [hw] at hk
    exact step undef (.inr ⟨by simpa using hw, rfl⟩) (by unfold wpQuiet at hk; exact hk)
end
end Go.Proofs.YtoiohjifjmejkaaGreat
namespace Go.Proofs.YtoiohjifjmejkaaGreat
open Go Go.RowKit

/-- three cells of one block, put. -/
def put3 (w : World) (N : Nat) (a b c : Value) : World := ((w.setCell ⟨N, 0, none⟩ a).setCell ⟨N, 1, none⟩ b).setCell ⟨N, 2, none⟩ c
theorem put3_spec {w0 w : World} {N : Nat} {x y z : Value} {t : TypeId} (hE : Ext w0 w) (hN : w0.heap.size ≤ N) (h : w.heap[N]? = some (.cells #[x, y, z] t (0, 0))) (a b c : Value) :
    (put3 w N a b c).heap[N]? = some (.cells #[a, b, c] t (0, 0)) ∧ Ext w0 (put3 w N a b c) := by
  refine ⟨?_, ?_⟩
  · unfold put3
    simp [World.setCell, Array.getElem?_modify, h]
  · unfold put3
    exact Below.setCell (Below.setCell (Below.setCell hE hN _) hN _) hN _
/-- three cells' facts. -/
theorem cells3 {w : World} {N : Nat} {x y z : Value} {t : TypeId} (h : w.heap[N]? = some (.cells #[x, y, z] t (0, 0))) : w.cell? ⟨N, 0, none⟩ = some x ∧ w.cell? ⟨N, 1, none⟩ = some y ∧ w.cell? ⟨N, 2, none⟩ = some z ∧ ∀ i, w.frozen? ⟨N, i, none⟩ = false :=
  ⟨cell_of h 0, cell_of h 1, cell_of h 2, frozen_of h⟩
def itV (k v g : Int) : Value := .agg #[.int .i64 k, .int .i64 v, .int .u64 g]
set_option maxHeartbeats 400000 in
theorem tpItem_any (w : World) (t : Tr) (ht : InH w t) : Calls Tryz.prog 216 #[.pointer t.ptr] w (Ret (itV t.key t.val t.tag) w) := by
  have HK := Lib.hid (fun W (e : InH W t) => key_any W t e)
  have HV := Lib.hid (fun W (e : InH W t) => val_any W t e)
  have HG := Lib.hid (fun W (e : InH W t) => tag_any W t e)
  have HT := Lib.hid ht
  clear ht
  generalize t.ptr = p at *
  generalize hk : t.key = k at *
  generalize hv : t.val = v at *
  generalize hg : t.tag = g at *
  clear hk hv hg
  go_enter Tryz.func216, Tryz.ntmps216
  go_wp2_with fail
  have hbox := alloc_at w (.cells #[.int .i64 0, .int .i64 0, .int .u64 0] 66) _ rfl
  have hE := (Ext.refl w).alloc (.cells #[.int .i64 0, .int .i64 0, .int .u64 0] 66)
  generalize w.alloc (.cells #[.int .i64 0, .int .i64 0, .int .u64 0] 66) = w1 at *
  refine (HK.out w1 (HT.out.ext hE)).mono ?_
  rintro e w2 ⟨rfl, h2⟩
  have hE2 := hE.trans h2
  go_wp2_with fail
  refine (HV.out w2 (HT.out.ext hE2)).mono ?_
  rintro e w3 ⟨rfl, h3⟩
  have hE3 := hE2.trans h3
  go_wp2_with fail
  refine (HG.out w3 (HT.out.ext hE3)).mono ?_
  rintro e w4 ⟨rfl, h4⟩
  have hE4 := hE3.trans h4
  have hb := h4.get (h3.get (h2.get hbox))
  obtain ⟨c0, c1, c2, cf⟩ := cells3 hb
  have HB := Lib.hid hb
  clear hE hE2 hE3 h2 h3 h4 hbox hb
  have HE := Lib.hid hE4
  clear hE4
  generalize hN : w.heap.size = N at *
  go_wp2
  change bodyPost _ _ _ _ _ (put3 w4 N (.int .i64 k) (.int .i64 v) (.int .u64 g))
  obtain ⟨hW, hX⟩ := put3_spec HE.out (by omega) HB.out (.int .i64 k) (.int .i64 v) (.int .u64 g)
  generalize put3 w4 N (.int .i64 k) (.int .i64 v) (.int .u64 g) = W at *
  clear c0 c1 c2 cf
  obtain ⟨d0, d1, d2, -⟩ := cells3 hW
  refine bodyPost_ret (v := itV k v g) ?_ rfl (Ret.mk hX)
  simp [results, Tryz.results216, go_sem, d0, d1, d2, itV]
set_option maxHeartbeats 1000000 in
theorem tpAbove0_any (w : World) (k v g k' v' g' : Int) : Calls Tryz.prog 215 #[itV k v g, itV k' v' g'] w (Ret (.bool (aboveB g k g' k')) w) := by
  unfold itV
  by_cases h1 : g' < g
  · have HX := Lib.hid (show aboveB g k g' k' = true by simp [aboveB, h1])
    obtain ⟨X, hX⟩ : ∃ X, aboveB g k g' k' = X := ⟨_, rfl⟩
    rw [hX] at HX ⊢
    clear hX
    go_enter Tryz.func215, Tryz.ntmps215
    go_wp2
    go_ret
    exact ⟨ret_bool (by rw [HX.out]), ((Ext.refl w).alloc _).alloc _⟩
  · by_cases h2 : g = g'
    · by_cases h3 : k' < k
      · have HX := Lib.hid (show aboveB g k g' k' = true by simp [aboveB, h2, h3])
        obtain ⟨X, hX⟩ : ∃ X, aboveB g k g' k' = X := ⟨_, rfl⟩
        rw [hX] at HX ⊢
        clear hX
        subst h2
        go_enter Tryz.func215, Tryz.ntmps215
        go_wp2
        go_ret
        exact ⟨ret_bool (by rw [HX.out]), ((Ext.refl w).alloc _).alloc _⟩
      · have HX := Lib.hid (show aboveB g k g' k' = false by simp [aboveB, h2]; omega)
        obtain ⟨X, hX⟩ : ∃ X, aboveB g k g' k' = X := ⟨_, rfl⟩
        rw [hX] at HX ⊢
        clear hX
        subst h2
        go_enter Tryz.func215, Tryz.ntmps215
        go_wp2
        go_ret
        exact ⟨ret_bool (by rw [HX.out]), ((Ext.refl w).alloc _).alloc _⟩
    · have HX := Lib.hid (show aboveB g k g' k' = false by simp [aboveB, h2]; omega)
      obtain ⟨X, hX⟩ : ∃ X, aboveB g k g' k' = X := ⟨_, rfl⟩
      rw [hX] at HX ⊢
      clear hX
      go_enter Tryz.func215, Tryz.ntmps215
      go_wp2
      go_ret
      exact ⟨ret_bool (by rw [HX.out]), ((Ext.refl w).alloc _).alloc _⟩
set_option maxHeartbeats 1000000 in
theorem tpAbove_any (w : World) (a b : Tr) (ha : InH w a) (hb : InH w b) : Calls Tryz.prog 211 #[.pointer a.ptr, .pointer b.ptr] w (Ret (.bool (tAbove a b)) w) := by
  have hund : undef = Value.tuple #[] := rfl
  cases a with
  | nil =>
    have p2 := ptr_same b.ptr
    rw [show tAbove .nil b = false from rfl, Tr.ptr_nil]
    clear ha hb
    generalize b.ptr = q at *
    go_enter Tryz.func211, Tryz.ntmps211
    go_wp2
    go_ret
    exact Ret.mk (Ext.refl _)
  | node ab al ak av ag ar =>
    cases b with
    | nil =>
      rw [show tAbove (.node ab al ak av ag ar) .nil = false from rfl, Tr.ptr_nil, Tr.ptr_node]
      clear ha hb
      go_enter Tryz.func211, Tryz.ntmps211
      go_wp2
      go_ret
      exact Ret.mk (Ext.refl _)
    | node bb bl bk bv bg br =>
      have HA := Lib.hid (fun W (e : Ext w W) => tpItem_any W _ (ha.ext e))
      have HB := Lib.hid (fun W (e : Ext w W) => tpItem_any W _ (hb.ext e))
      rw [show tAbove (.node ab al ak av ag ar) (.node bb bl bk bv bg br) = aboveB ag ak bg bk from rfl]
      rw [Tr.ptr_node, Tr.key_node, Tr.val_node, Tr.tag_node] at HA HB
      rw [Tr.ptr_node, Tr.ptr_node]
      have HC := Lib.hid (fun W => tpAbove0_any W ak av ag bk bv bg)
      clear ha hb
      generalize itV ak av ag = x at *
      generalize itV bk bv bg = y at *
      generalize aboveB ag ak bg bk = z at *
      go_enter Tryz.func211, Tryz.ntmps211
      go_wp2_with fail
      refine (HA.out _ (Ext.refl _)).mono ?_
      rintro e w1 ⟨rfl, h1⟩
      go_wp2_with fail
      refine (HB.out _ h1).mono ?_
      rintro e w2 ⟨rfl, h2⟩
      go_wp2_with fail
      refine (HC.out w2).mono ?_
      rintro e w3 ⟨rfl, h3⟩
      go_wp2
      go_ret
      exact Ret.mk (h1.trans (h2.trans h3))
end Go.Proofs.YtoiohjifjmejkaaGreat
