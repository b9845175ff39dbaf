/- share: all of two, New. joineryref19.Most, and the walk of WbjoinShares. All four schemes as one (plain): what a part is, what may be, a tree's items, how many new nodes a join has at most. -/
import Derived.Test.YtjiiokhjajfhjaaGreatM10
import Derived.Test.YtjiiokhjajfhjaaGreatM14
import Derived.Test.YtjiiokhjajfhjaaGreatM20
import Derived.Test.YtjiiokhjajfhjaaGreatM26
import Derived.Test.YtjiiokhjajfhjaaGreatM28
namespace Go.Proofs.YtjiiokhjajfhjaaGreat
open Go Go.RowKit Go.Shelf
attribute [local go_sem] Oper.semAt_some

set_option maxRecDepth 100000 in
set_option maxHeartbeats 2000000 in
theorem shareAll_in (n : Nat) (hn : Hid (1 ≤ n)) (A B : Tr) (c : Nat) (ty : TypeId) (w : World) (hc : w.heap[c]? = some (.cells #[.pointer A.ptr, .pointer B.ptr] ty (0, 0))) (hA : InH w A) (hB : InH w B) :
    CallsIn Fence.wide n Tryz.prog 61 #[.slice (some ⟨c, 0, none⟩) 2 2] w fun e w' =>
      ∃ R, e = .returned (.map (some R)) ∧ w.heap.size ≤ R ∧ SetM w' R (two A B) ∧ Ext w w' := by
  have hfn : ∀ f, Fence.wide.fn f := fun _ => trivial
  have hmm := @run_makeMap Tryz.prog
  refine callsIn_of_wp_marks Tryz.func61 rfl trivial ?_ rfl
  simp only [Tryz.ntmps61, List.size_toArray, List.length_cons, List.length_nil, Nat.reduceAdd, Nat.reduceSub, Array.replicate_succ, Array.replicate_zero, List.push_toArray, List.append_toArray, List.nil_append, List.cons_append]
  gi_wp2_with fail
  have hE1 : Ext w (w.alloc (.map #[] 0)) := (Ext.refl w).alloc _
  have hS1 : SetM (w.alloc (.map #[] 0)) w.heap.size [] := ⟨by simpa [setFrom] using alloc_at w (.map #[] 0) _ rfl, fun b hb => by cases hb⟩
  generalize w.alloc (.map #[] 0) = W1 at *
  refine wpIn_loop_rounds 3 ?_
  rw [roundsIn_succ]
  have hc1 := cell_of (hE1.get hc) 0
  simp at hc1
  gi_wp2_with fail
  refine ⟨wide_room _, (callsIn_wide.2 (shareFresh_any W1 w.heap.size A.ptr)).mono ?_⟩
  rintro e W2 ⟨rfl, e2⟩
  clear hc1
  have hE2 : Ext W1 W2 := by rw [e2]; exact ((Ext.refl W1).alloc _).alloc _
  have hb2 : Boxed W2 W1.heap.size 133 (.map (some w.heap.size)) := by rw [e2]; exact (Boxed.new W1 _ _).alloc _
  have hb3 : Boxed W2 (W1.heap.size + 1) 27 (.pointer A.ptr) := by rw [e2]; exact (by have := Boxed.new (W1.alloc (.cells #[.map (some w.heap.size)] 133)) 27 (.pointer A.ptr); simpa using this)
  clear e2
  gi_wp2_with fail
  refine range_fresh (T := A) (R := w.heap.size) (N := w.heap.size) (w0 := w) (bs := []) hn.out rfl (hA.ext (hE1.trans hE2)) (hS1.ext hE2) hb2 hb3 (Nat.le_refl _) (hE1.trans hE2) ?_
  intro D W3 hD hS3 hk3 hb3' hst3 hK3
  clear hb2 hb3
  have hk1 : K0 w W3 := (Keep.ext (hE1.trans hE2)).trans hk3
  have hB3 := InH.k0 hk1 hB
  have hc2 := cell_of (hk1.cells _ _ _ _ id hc) 1
  simp at hc2
  have hDw : w.heap.size ≤ D := Nat.le_trans (hE1.trans hE2).size hD
  clear hE1 hE2 hS1 hst3 hk3 hmm hA hB
  gi_wp2_with fail
  rw [roundsIn_succ]
  gi_wp2_with fail
  refine ⟨wide_room _, (callsIn_wide.2 (shareFresh_any W3 w.heap.size B.ptr)).mono ?_⟩
  rintro e W4 ⟨rfl, e2⟩
  clear hc2
  have hE4 : Ext W3 W4 := by rw [e2]; exact ((Ext.refl W3).alloc _).alloc _
  have hb2 : Boxed W4 W3.heap.size 133 (.map (some w.heap.size)) := by rw [e2]; exact (Boxed.new W3 _ _).alloc _
  have hb3 : Boxed W4 (W3.heap.size + 1) 27 (.pointer B.ptr) := by rw [e2]; exact (by have := Boxed.new (W3.alloc (.cells #[.map (some w.heap.size)] 133)) 27 (.pointer B.ptr); simpa using this)
  clear e2
  have hlt : w.heap.size ≤ W3.heap.size := hk1.size
  gi_wp2_with fail
  refine range_fresh (T := B) (R := w.heap.size) (N := w.heap.size) (w0 := w) (bs := addT [] A) hn.out rfl (hB3.ext hE4) (hS3.ext hE4) hb2 hb3 (Nat.le_refl _) (hb3'.trans (Below.mono hE4 hlt)) ?_
  intro D2 W5 hD2 hS5 hk5 hb5 hst5 hK5
  have hlw : w.heap.size ≤ W4.heap.size := Nat.le_trans hlt hE4.size
  have hDlt : D < W4.heap.size := Nat.lt_of_lt_of_le (Array.getElem?_eq_some_iff.1 hK3).1 hE4.size
  have hK5' : W5.heap[D]? = some (.deferred (some [])) := by
    have hD4 := hE4.get hK3
    have hlD := (Array.getElem?_eq_some_iff.1 hK3).1
    have hne : D ≠ w.heap.size := fun e => by rw [e, hS3.map] at hK3; cases hK3
    rw [hst5.2 D hne (Nat.lt_of_lt_of_le hlD hE4.size)]; exact hD4
  clear hb2 hb3 hst5 hb3' hE4 hS3 hB3 hk1 hK3 hk5
  gi_wp2_with fail
  rw [roundsIn_succ]
  gi_wp2_with fail
  have g1 : (W5.putObj D2 (.deferred none)).heap[D]? = some (.deferred (some [])) := by rw [World.putObj_heap_other (by omega)]; exact hK5'
  have hS6 : SetM ((W5.putObj D2 (.deferred none)).putObj D (.deferred none)) w.heap.size (two A B) := (hS5.put hK5 rfl (by have := hS5.map; intro e; rw [← e, this] at hK5; cases hK5) _).put g1 rfl (by intro e; rw [← e, hS5.map] at hK5'; cases hK5') _
  refine ⟨by simp, .inl ⟨_, _, rfl, run_takeDeferred hK5, ⟨by simp, .inl ⟨_, _, rfl, run_takeDeferred g1, ?_⟩⟩⟩⟩
  refine ⟨_, by simp [results, Tryz.results61, go_sem], _, rfl, Nat.le_refl _, hS6, ?_⟩
  exact below_put (below_put hb5 (by have := (Array.getElem?_eq_some_iff.1 hS5.map).1; omega) (by omega) _) (by have := (Array.getElem?_eq_some_iff.1 hS5.map).1; simp; omega) (by omega) _
set_option maxRecDepth 100000 in
set_option maxHeartbeats 2000000 in
theorem shareNew_in (n : Nat) (hn : Hid (1 ≤ n)) (T A B : Tr) (c : Nat) (ty : TypeId) (w : World) (hc : w.heap[c]? = some (.cells #[.pointer A.ptr, .pointer B.ptr] ty (0, 0))) (hT : InH w T) (hA : InH w A) (hB : InH w B) (hle : Hid (((two A B).length ≤ (addT (two A B) T).length) ∧ (addT (two A B) T).length ≤ 99999)) :
    CallsIn Fence.wide n Tryz.prog 40 #[.pointer T.ptr, .slice (some ⟨c, 0, none⟩) 2 2] w (Ret (.int .i64 (fresh2 A B T : Nat)) w) := by
  have hfn : ∀ f, Fence.wide.fn f := fun _ => trivial
  refine callsIn_of_wp_marks Tryz.func40 rfl trivial ?_ rfl
  simp only [Tryz.ntmps40, List.size_toArray, List.length_cons, List.length_nil, Nat.reduceAdd, Nat.reduceSub, Array.replicate_succ, Array.replicate_zero, List.push_toArray, List.append_toArray, List.nil_append, List.cons_append]
  gi_wp2_with fail
  refine ⟨wide_room _, (CallsIn.any (n - 1) (shareAll_in 1 (Lib.hid (Nat.le_refl 1)) A B c ty w hc hA hB)).mono ?_⟩
  rintro e W1 ⟨R, rfl, hR, hS1, hE1⟩
  have hl1 := hS1.len
  clear hc hA hB
  have hT1 := hT.ext hE1
  gi_wp2_with fail
  refine ⟨wide_room _, (callsIn_wide.2 (shareFresh_any W1 R T.ptr)).mono ?_⟩
  rintro e W2 ⟨rfl, e2⟩
  have hE2 : Ext W1 W2 := by rw [e2]; exact ((Ext.refl W1).alloc _).alloc _
  have hb2 : Boxed W2 W1.heap.size 133 (.map (some R)) := by rw [e2]; exact (Boxed.new W1 _ _).alloc _
  have hb3 : Boxed W2 (W1.heap.size + 1) 27 (.pointer T.ptr) := by rw [e2]; exact (by have := Boxed.new (W1.alloc (.cells #[.map (some R)] 133)) 27 (.pointer T.ptr); simpa using this)
  clear e2 hl1
  gi_wp2_with fail
  refine range_fresh (T := T) (R := R) (N := w.heap.size) (w0 := w) (bs := two A B) hn.out rfl (hT1.ext hE2) (hS1.ext hE2) hb2 hb3 hR (hE1.trans hE2) ?_
  intro D W3 hD hS3 hk3 hb3' hst3 hK3
  have hl3 := hS3.len
  clear hb2 hb3
  gi_wp2_with fail
  have hE3 : Ext w (W3.putObj D (.deferred none)) := below_put hb3' (by have := hE1.size; have := hE2.size; have := hst3.1; omega) (by have := hE1.size; have := hE2.size; omega) _
  have e0 : wrap64 (((addT (two A B) T).length : Int) - ((two A B).length : Int)) = (fresh2 A B T : Nat) := by
    have := hle.out.1; have := hle.out.2
    unfold fresh2 wrap64; omega
  rw [e0]
  refine ⟨by simp, .inl ⟨_, _, rfl, run_takeDeferred hK3, ?_⟩⟩
  exact ⟨_, by simp [results, Tryz.results40, go_sem], rfl, hE3⟩
theorem shareNew_any (T A B : Tr) (c : Nat) (ty : TypeId) (w : World) (hc : w.heap[c]? = some (.cells #[.pointer A.ptr, .pointer B.ptr] ty (0, 0))) (hT : InH w T) (hA : InH w A) (hB : InH w B) (h1 : (two A B).length ≤ (addT (two A B) T).length) (h2 : (addT (two A B) T).length ≤ 99999) :
    Calls Tryz.prog 40 #[.pointer T.ptr, .slice (some ⟨c, 0, none⟩) 2 2] w (Ret (.int .i64 (fresh2 A B T : Nat)) w) :=
  callsIn_wide.1 (shareNew_in 1 (Lib.hid (Nat.le_refl 1)) T A B c ty w hc hT hA hB (Lib.hid ⟨h1, h2⟩))
/-- how many nodes two trees have. -/
theorem addT_most : ∀ {T : Tr} {bs : List Nat}, (addT bs T).length ≤ bs.length + T.count
  | .nil, _ => Nat.le_add_right _ _
  | .node b l k v g r, bs => by
    rw [addT, Tr.count_node]
    split
    · exact Nat.le_add_right _ _
    · have h1 := addT_most (T := l) (bs := bs)
      have h2 := addT_most (T := r) (bs := addT bs l ++ [b])
      simp at h2
      omega
end Go.Proofs.YtjiiokhjajfhjaaGreat
namespace Go.Proofs.YtjiiokhjajfhjaaGreat
open Go Go.RowKit

/-- how many turns there are at most, by the ranks. -/
theorem lev_le {d L W : Nat} (h : Lev d L W) (hL : 0 < L) (hLW : L ≤ W) : d ≤ 3 * (Nat.log2 W - Nat.log2 L) := by
  rcases Nat.lt_or_ge (3 * (Nat.log2 W - Nat.log2 L)) d with hd | hd
  · exfalso
    rcases h with h | h
    · omega
    · have hl := Nat.log2_self_le (n := L) (by omega)
      have hw := Nat.lt_log2_self (n := W)
      have hm : Nat.log2 L ≤ Nat.log2 W := by
        rw [Nat.le_log2 (by omega)]; omega
      generalize Nat.log2 W = p at *
      generalize Nat.log2 L = q at *
      obtain ⟨D, rfl⟩ : ∃ D, p = q + D := ⟨p - q, by omega⟩
      rw [Nat.add_sub_cancel_left] at hd
      obtain ⟨j, hj⟩ : ∃ j, d - 1 = 3 * D + j := ⟨d - 1 - 3 * D, by omega⟩
      rw [hj] at h
      have h1 : (2 * 71 ^ 3) ^ D ≤ (100 ^ 3) ^ D := Nat.pow_le_pow_left (by decide) D
      rw [Nat.mul_pow, ← Nat.pow_mul, ← Nat.pow_mul] at h1
      have h2 : 71 ^ j ≤ 100 ^ j := Nat.pow_le_pow_left (by decide) j
      have h3 := Nat.mul_le_mul h1 h2
      rw [Nat.mul_assoc, ← Nat.pow_add, ← Nat.pow_add] at h3
      have h4 : 71 * (L * (2 ^ D * 71 ^ (3 * D + j))) < 29 * (W * 71 ^ (3 * D + j)) := Nat.lt_of_le_of_lt (Nat.mul_le_mul_left _ (Nat.mul_le_mul_left _ h3)) h
      have h5 : (71 * (L * 2 ^ D)) * 71 ^ (3 * D + j) < (29 * W) * 71 ^ (3 * D + j) := by
        rw [Nat.mul_assoc 29, Nat.mul_assoc 71, Nat.mul_assoc L]; exact h4
      have h6 := Nat.lt_of_mul_lt_mul_right h5
      have h7 : 2 ^ q * 2 ^ D ≤ L * 2 ^ D := Nat.mul_le_mul_right _ hl
      rw [← Nat.pow_add] at h7
      rw [Nat.pow_succ] at hw
      omega
  · exact hd
theorem log2_le {a b : Nat} (h : a ≤ b) : Nat.log2 a ≤ Nat.log2 b := by
  rcases Nat.eq_zero_or_pos a with rfl | ha
  · simp
  · rw [Nat.le_log2 (by omega)]
    exact Nat.le_trans (Nat.log2_self_le (by omega)) h
theorem log2_max (a b : Nat) : Nat.log2 (max a b) = max (Nat.log2 a) (Nat.log2 b) := by
  rcases Nat.le_total a b with h | h
  · rw [Nat.max_eq_right h, Nat.max_eq_right (log2_le h)]
  · rw [Nat.max_eq_left h, Nat.max_eq_left (log2_le h)]
theorem log2_min (a b : Nat) : Nat.log2 (min a b) = min (Nat.log2 a) (Nat.log2 b) := by
  rcases Nat.le_total a b with h | h
  · rw [Nat.min_eq_left h, Nat.min_eq_left (log2_le h)]
  · rw [Nat.min_eq_right h, Nat.min_eq_right (log2_le h)]
end Go.Proofs.YtjiiokhjajfhjaaGreat
namespace Go.Proofs.YtjiiokhjajfhjaaGreat
open Go Go.RowKit

/-- is a tree a part; may it be? -/
def PartC (c : Nat) (T : Tr) : Prop := if c = 1 then AvlH T T.ht else if c = 2 then ∃ b d, RbH T b d else if c = 3 then WbH T else TpH T
def MayC (c : Nat) (T : Tr) : Prop := if c = 1 then AvlH T T.ht else if c = 2 then ∃ b, RbH T b false else if c = 3 then WbH T else TpH T
theorem part_1 {T : Tr} : PartC 1 T = AvlH T T.ht := rfl
theorem part_2 {T : Tr} : PartC 2 T = ∃ b d, RbH T b d := rfl
theorem part_3 {T : Tr} : PartC 3 T = WbH T := rfl
theorem part_4 {T : Tr} : PartC 4 T = TpH T := rfl
theorem mayC_1 {T : Tr} : MayC 1 T = AvlH T T.ht := rfl
theorem mayC_2 {T : Tr} : MayC 2 T = ∃ b, RbH T b false := rfl
theorem mayC_3 {T : Tr} : MayC 3 T = WbH T := rfl
theorem mayC_4 {T : Tr} : MayC 4 T = TpH T := rfl
theorem MayC.part {c : Nat} {T : Tr} (h : MayC c T) : PartC c T := by
  unfold MayC at h
  unfold PartC
  split
  · rename_i h1; rw [if_pos h1] at h; exact h
  · rename_i h1; rw [if_neg h1] at h
    split
    · rename_i h2; rw [if_pos h2] at h; obtain ⟨b, h⟩ := h; exact ⟨b, false, h⟩
    · rename_i h2; rw [if_neg h2] at h; exact h
theorem MayC.nil (c : Nat) : MayC c .nil := by
  unfold MayC
  split
  · rfl
  · split
    · exact ⟨0, rfl, rfl⟩
    · split <;> trivial
theorem RbH.le : ∀ {T : Tr} {b : Nat} {c : Bool}, RbH T b c → b ≤ T.count
  | .nil, b, c, ⟨h1, h2⟩ => by omega
  | .node _ l _ _ g r, b, true, h => by have := RbH.le h.1; rw [Tr.count_node]; omega
  | .node _ l _ _ g r, b, false, ⟨d, cl, cr, h0, h1, h2, h3⟩ => by have := RbH.le h1; rw [Tr.count_node]; omega
theorem rbH_un : ∀ {T : Tr} {b b' : Nat} {c c' : Bool}, RbH T b c → RbH T b' c' → b < 1000000 → b' < 1000000 → b = b' ∧ c = c' := by
  intro T b b' c c' h h' hb hb'
  have e := h.hi
  have e' := h'.hi
  have r := h.red
  have r' := h'.red
  rw [e] at e'
  rw [r] at r'
  exact ⟨by omega, r'⟩
theorem wbH_tags : ∀ {T : Tr}, WbH T → TagsOk T
  | .nil, _ => trivial
  | .node _ l _ _ g r, ⟨h1, h2, h3, _⟩ => ⟨by omega, by omega, wbH_tags h2, wbH_tags h3⟩
theorem PartC.tags {c : Nat} {T : Tr} (h : PartC c T) (hc : c ≠ 4) (h4 : 1 ≤ c ∧ c ≤ 4) (hn : T.count < 100000) : TagsOk T := by
  obtain rfl | rfl | rfl : c = 1 ∨ c = 2 ∨ c = 3 := by omega
  · exact (AvlH.may h (by have := T.ht_count; omega)).2
  · obtain ⟨b, d, h⟩ := h
    exact h.tags (by have := h.le; omega)
  · exact wbH_tags h
/-- what is told of the first node that is wrong. -/
def ckV (c : Nat) (T : Tr) : Nat × Int := if c = 1 then avlFirst T.pre else if c = 2 then rbChk T else if c = 3 then firstOf wbOne T.pre else firstOf tpOne T.pre
def ptV (c : Nat) (T : Tr) : Bool := if c = 1 then avlMay T else if c = 2 then rbPart T else if c = 3 then wbMay T else tpMay T
theorem MayC.ck {c : Nat} {T : Tr} (h4 : 1 ≤ c ∧ c ≤ 4) (hn : T.count < 100000) (h : MayC c T) : (ckV c T).2 = 0 := by
  obtain rfl | rfl | rfl | rfl : c = 1 ∨ c = 2 ∨ c = 3 ∨ c = 4 := by omega
  · have := (AvlH.may h (by have := T.ht_count; omega)).1
    show (avlFirst T.pre).2 = 0
    simpa [avlMay] using this
  · obtain ⟨b, h⟩ := h
    have := h.may (by have := h.le; omega)
    simp [rbMay, rbPart, mayOf] at this
    show (rbChk T).2 = 0
    unfold rbChk
    rw [if_neg (by simp [this.2])]
    exact this.1
  · have := WbH.may h (by omega)
    show (firstOf wbOne T.pre).2 = 0
    simpa [wbMay, mayOf] using this
  · have := (tpMay_iff T).2 h
    show (firstOf tpOne T.pre).2 = 0
    simpa [tpMay, mayOf] using this
theorem mayC_of {c : Nat} {T : Tr} (h4 : 1 ≤ c ∧ c ≤ 4) (hn : T.count < 100000) (ht : TagsOk T) (h : (ckV c T).2 = 0) : MayC c T := by
  obtain rfl | rfl | rfl | rfl : c = 1 ∨ c = 2 ∨ c = 3 ∨ c = 4 := by omega
  · exact AvlH.of_may (by have h' : (avlFirst T.pre).2 = 0 := h; simpa [avlMay] using h') ht (by omega)
  · have h' : (rbChk T).2 = 0 := h
    unfold rbChk at h'
    split at h'
    · cases h'
    · rename_i hh
      have hr : rbRed T = false := by
        cases hr : rbRed T with
        | false => rfl
        | true => exact (hh ⟨h', hr⟩).elim
      have := RbH.of_part (by simpa [rbPart, mayOf] using h') ht (by omega)
      rw [hr] at this
      exact ⟨_, this⟩
  · exact WbH.of_may (by have h' : (firstOf wbOne T.pre).2 = 0 := h; simpa [wbMay, mayOf] using h') (by omega)
  · exact (tpMay_iff T).1 (by have h' : (firstOf tpOne T.pre).2 = 0 := h; simpa [tpMay, mayOf] using h')
theorem MayC_iff {c : Nat} {T : Tr} (h4 : 1 ≤ c ∧ c ≤ 4) (hn : T.count < 100000) (ht : TagsOk T) : (ckV c T).2 = 0 ↔ MayC c T := ⟨mayC_of h4 hn ht, MayC.ck h4 hn⟩
theorem PartC.pt {c : Nat} {T : Tr} (h4 : 1 ≤ c ∧ c ≤ 4) (hn : T.count < 100000) (h : PartC c T) : ptV c T = true := by
  obtain rfl | rfl | rfl | rfl : c = 1 ∨ c = 2 ∨ c = 3 ∨ c = 4 := by omega
  · exact (AvlH.may h (by have := T.ht_count; omega)).1
  · obtain ⟨b, d, h⟩ := h
    exact h.part (by have := h.le; omega)
  · exact WbH.may h (by omega)
  · exact (tpMay_iff T).2 h
theorem partC_of {c : Nat} {T : Tr} (h4 : 1 ≤ c ∧ c ≤ 4) (hn : T.count < 100000) (ht : TagsOk T) (h : ptV c T = true) : PartC c T := by
  obtain rfl | rfl | rfl | rfl : c = 1 ∨ c = 2 ∨ c = 3 ∨ c = 4 := by omega
  · exact AvlH.of_may h ht (by omega)
  · exact ⟨_, _, RbH.of_part h ht (by omega)⟩
  · exact WbH.of_may h (by omega)
  · exact (tpMay_iff T).1 h
/-- an item, as a scheme has it; a tree's items. -/
def itC (c : Nat) (z : Int × Int × Int) : Int × Int × Int := (z.1, z.2.1, if c = 4 then z.2.2 else 0)
def itsC (c : Nat) (T : Tr) : List (Int × Int × Int) := T.its.map (itC c)
theorem itsC_nil (c : Nat) : itsC c .nil = [] := rfl
theorem itsC_node (c b : Nat) (l : Tr) (k v g : Int) (r : Tr) : itsC c (.node b l k v g r) = itsC c l ++ itC c (k, v, g) :: itsC c r := by simp [itsC, Tr.its]
theorem itsC_len (c : Nat) (T : Tr) : (itsC c T).length = T.count := by rw [itsC, List.length_map, Tr.its_len]
theorem itsC_kvs {c : Nat} (hc : c ≠ 4) (T : Tr) : itsC c T = T.kvs.map (fun z => (z.1, z.2, 0)) := by
  rw [← Tr.its_kvs, itsC, List.map_map]
  refine List.map_congr_left fun z _ => ?_
  simp [itC, hc]
theorem itC_idem (c : Nat) (z : Int × Int × Int) : itC c (itC c z) = itC c z := by
  unfold itC
  split <;> rfl
/-- how many new nodes a join has at most. -/
def mostC (c : Nat) (L R : Tr) : Nat :=
  if c = 1 then max L.ht R.ht - min L.ht R.ht + 1
  else if c = 2 then 2 * max (hiB L).toNat (hiB R).toNat - 2 * min (hiB L).toNat (hiB R).toNat + 3
  else if c = 3 then 6 * (max (Nat.log2 (L.count + 1)) (Nat.log2 (R.count + 1)) - min (Nat.log2 (L.count + 1)) (Nat.log2 (R.count + 1))) + 1
  else L.rway + R.lway + 1
/-- what a join is. -/
structure JoinC (n c : Nat) (L R : Tr) (k v g : Int) (T : Tr) : Prop where
  may : MayC c T
  its : itsC c T = itsC c L ++ itC c (k, v, g) :: itsC c R
  news : L.news n = 0 → R.news n = 0 → T.news n ≤ mostC c L R
  tags : 0 ≤ g → g < 18446744073709551616 → TagsOk L → TagsOk R → T.count < 100000 → TagsOk T
  old : ∀ x ∈ T.pre, x.blk < n → x ∈ L.pre ∨ x ∈ R.pre
  new : n ≤ T.blk
theorem JoinC.count {n c : Nat} {L R : Tr} {k v g : Int} {T : Tr} (h : JoinC n c L R k v g T) : T.count = L.count + 1 + R.count := by
  have := congrArg List.length h.its
  rw [List.length_append, List.length_cons, itsC_len, itsC_len, itsC_len] at this
  omega
theorem JoinC.nn {n c : Nat} {L R : Tr} {k v g : Int} {T : Tr} (h : JoinC n c L R k v g T) : T ≠ .nil := fun e => by
  have := h.count
  rw [e] at this
  simp only [Tr.count, Tr.pre, List.length_nil] at this
  omega
theorem its_of_kvs {c : Nat} (hc : c ≠ 4) {L R T : Tr} {k v : Int} (g : Int) (h : T.kvs = L.kvs ++ (k, v) :: R.kvs) : itsC c T = itsC c L ++ itC c (k, v, g) :: itsC c R := by
  rw [itsC_kvs hc, itsC_kvs hc, itsC_kvs hc, h, List.map_append, List.map_cons]
  simp [itC, hc]
theorem JoinOk.toC {n : Nat} {L R T : Tr} {k v : Int} (g : Int) (h : JoinOk n L R k v T) : JoinC n 1 L R k v g T := by
  have hm : AvlH T T.ht := (join_facts h).2.2
  refine ⟨hm, its_of_kvs (by decide) g h.kvs, fun _ _ => ?_, fun _ _ _ _ hc => (PartC.tags (c := 1) hm (by decide) (by decide) hc), h.old, h.top⟩
  obtain ⟨x, -, -, h3⟩ := h.ex
  show T.news n ≤ max L.ht R.ht - min L.ht R.ht + 1
  omega
theorem RJoinOk.toC {n p q : Nat} {cl cr : Bool} {L R T : Tr} {k v : Int} (g : Int) (hL : RbH L p cl) (hR : RbH R q cr) (hp : p < 90000) (hq : q < 90000) (h : RJoinOk n L R (p + if cl then 1 else 0) (q + if cr then 1 else 0) k v T) : JoinC n 2 L R k v g T := by
  obtain ⟨⟨b, h1, -, h3⟩, h4, h5, h6, -⟩ := h
  refine ⟨⟨b, h1⟩, its_of_kvs (by decide) g h4, fun _ _ => ?_, fun _ _ _ _ hc => (PartC.tags (c := 2) ⟨b, false, h1⟩ (by decide) (by decide) hc), h5, h6⟩
  show T.news n ≤ 2 * max (hiB L).toNat (hiB R).toNat - 2 * min (hiB L).toNat (hiB R).toNat + 3
  rw [hL.hiB (by omega), hR.hiB (by omega), Int.toNat_natCast, Int.toNat_natCast]
  omega
theorem log2_mono {a b : Nat} (h : a ≤ b) (ha : 0 < a) : Nat.log2 a ≤ Nat.log2 b := by
  have h1 := Nat.log2_self_le (n := a) (by omega)
  exact (Nat.le_log2 (by omega)).2 (Nat.le_trans h1 h)
theorem WJoinOk.toC {n : Nat} {L R T : Tr} {k v : Int} (g : Int) (h : WJoinOk n L R k v T) : JoinC n 3 L R k v g T := by
  refine ⟨h.wb, its_of_kvs (by decide) g h.kvs, fun _ _ => ?_, fun _ _ _ _ hc => wbH_tags h.wb, h.old, h.top⟩
  obtain ⟨d, h1, h2⟩ := h.news
  have h3 := lev_le h2 (by omega) (by omega)
  show T.news n ≤ 6 * (max (Nat.log2 (L.count + 1)) (Nat.log2 (R.count + 1)) - min (Nat.log2 (L.count + 1)) (Nat.log2 (R.count + 1))) + 1
  rcases Nat.le_total L.count R.count with hh | hh
  · have := log2_mono (show L.count + 1 ≤ R.count + 1 by omega) (by omega)
    rw [Nat.max_eq_right hh, Nat.min_eq_left hh] at h3
    omega
  · have := log2_mono (show R.count + 1 ≤ L.count + 1 by omega) (by omega)
    rw [Nat.max_eq_left hh, Nat.min_eq_right hh] at h3
    omega
theorem TJoinOk.toC {n : Nat} {L R T : Tr} {k v g : Int} (hL : TpH L) (hR : TpH R) (h : TJoinOk n L R k v g T) : JoinC n 4 L R k v g T := by
  refine ⟨h.tp hL hR, ?_, h.news, fun a b c d _ => h.tags a b c d, h.old, h.new⟩
  rw [itsC, h.its, List.map_append, List.map_cons]
  rfl
end Go.Proofs.YtjiiokhjajfhjaaGreat
