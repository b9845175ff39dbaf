/- share: all of two, New. -/
import Derived.Test.YtpfkolmnejandaaShare2
import Derived.Test.YtpfkolmnejandaaShareLaw
namespace Go.Proofs.Ytpfkolmnejandaa
open Go Go.RowKit Go.Shelf
attribute [local go_sem] Oper.semAt_some

set_option maxRecDepth 100000 in
set_option maxHeartbeats 2000000 in
theorem shareAll_in (n : Nat) (hn : Hid (1 ≤ n)) (A B : Tr) (c : Nat) (ty : TypeId) (w : World) (hc : w.heap[c]? = some (.cells #[.pointer A.ptr, .pointer B.ptr] ty (0, 0))) (hA : InH w A) (hB : InH w B) :
    CallsIn Fence.wide n Try.prog 38 #[.slice (some ⟨c, 0, none⟩) 2 2] w fun e w' =>
      ∃ R, e = .returned (.map (some R)) ∧ w.heap.size ≤ R ∧ SetM w' R (two A B) ∧ Ext w w' := by
  have hfn : ∀ f, Fence.wide.fn f := fun _ => trivial
  have hmm := @run_makeMap Try.prog
  refine callsIn_of_wp_marks Try.func38 rfl trivial ?_ rfl
  simp only [Try.ntmps38, List.size_toArray, List.length_cons, List.length_nil, Nat.reduceAdd, Nat.reduceSub, Array.replicate_succ, Array.replicate_zero, List.push_toArray, List.append_toArray, List.nil_append, List.cons_append]
  gi_wp2_with fail
  have hE1 : Ext w (w.alloc (.map #[] 0)) := (Ext.refl w).alloc _
  have hS1 : SetM (w.alloc (.map #[] 0)) w.heap.size [] := ⟨by simpa [setFrom] using alloc_at w (.map #[] 0) _ rfl, fun b hb => by cases hb⟩
  generalize w.alloc (.map #[] 0) = W1 at *
  refine wpIn_loop_rounds 3 ?_
  rw [roundsIn_succ]
  have hc1 := cell_of (hE1.get hc) 0
  simp at hc1
  gi_wp2_with fail
  refine ⟨wide_room _, (callsIn_wide.2 (shareFresh_any W1 w.heap.size A.ptr)).mono ?_⟩
  rintro e W2 ⟨rfl, e2⟩
  clear hc1
  have hE2 : Ext W1 W2 := by rw [e2]; exact ((Ext.refl W1).alloc _).alloc _
  have hb2 : Boxed W2 W1.heap.size 68 (.map (some w.heap.size)) := by rw [e2]; exact (Boxed.new W1 _ _).alloc _
  have hb3 : Boxed W2 (W1.heap.size + 1) 25 (.pointer A.ptr) := by rw [e2]; exact (by have := Boxed.new (W1.alloc (.cells #[.map (some w.heap.size)] 68)) 25 (.pointer A.ptr); simpa using this)
  clear e2
  gi_wp2_with fail
  refine range_fresh (T := A) (R := w.heap.size) (N := w.heap.size) (w0 := w) (bs := []) hn.out rfl (hA.ext (hE1.trans hE2)) (hS1.ext hE2) hb2 hb3 (Nat.le_refl _) (hE1.trans hE2) ?_
  intro D W3 hD hS3 hk3 hb3' hst3 hK3
  clear hb2 hb3
  have hk1 : K0 w W3 := (Keep.ext (hE1.trans hE2)).trans hk3
  have hB3 := InH.k0 hk1 hB
  have hc2 := cell_of (hk1.cells _ _ _ _ id hc) 1
  simp at hc2
  have hDw : w.heap.size ≤ D := Nat.le_trans (hE1.trans hE2).size hD
  clear hE1 hE2 hS1 hst3 hk3 hmm hA hB
  gi_wp2_with fail
  rw [roundsIn_succ]
  gi_wp2_with fail
  refine ⟨wide_room _, (callsIn_wide.2 (shareFresh_any W3 w.heap.size B.ptr)).mono ?_⟩
  rintro e W4 ⟨rfl, e2⟩
  clear hc2
  have hE4 : Ext W3 W4 := by rw [e2]; exact ((Ext.refl W3).alloc _).alloc _
  have hb2 : Boxed W4 W3.heap.size 68 (.map (some w.heap.size)) := by rw [e2]; exact (Boxed.new W3 _ _).alloc _
  have hb3 : Boxed W4 (W3.heap.size + 1) 25 (.pointer B.ptr) := by rw [e2]; exact (by have := Boxed.new (W3.alloc (.cells #[.map (some w.heap.size)] 68)) 25 (.pointer B.ptr); simpa using this)
  clear e2
  have hlt : w.heap.size ≤ W3.heap.size := hk1.size
  gi_wp2_with fail
  refine range_fresh (T := B) (R := w.heap.size) (N := w.heap.size) (w0 := w) (bs := addT [] A) hn.out rfl (hB3.ext hE4) (hS3.ext hE4) hb2 hb3 (Nat.le_refl _) (hb3'.trans (Below.mono hE4 hlt)) ?_
  intro D2 W5 hD2 hS5 hk5 hb5 hst5 hK5
  have hlw : w.heap.size ≤ W4.heap.size := Nat.le_trans hlt hE4.size
  have hDlt : D < W4.heap.size := Nat.lt_of_lt_of_le (Array.getElem?_eq_some_iff.1 hK3).1 hE4.size
  have hK5' : W5.heap[D]? = some (.deferred (some [])) := by
    have hD4 := hE4.get hK3
    have hlD := (Array.getElem?_eq_some_iff.1 hK3).1
    have hne : D ≠ w.heap.size := fun e => by rw [e, hS3.map] at hK3; cases hK3
    rw [hst5.2 D hne (Nat.lt_of_lt_of_le hlD hE4.size)]; exact hD4
  clear hb2 hb3 hst5 hb3' hE4 hS3 hB3 hk1 hK3 hk5
  gi_wp2_with fail
  rw [roundsIn_succ]
  gi_wp2_with fail
  have g1 : (W5.putObj D2 (.deferred none)).heap[D]? = some (.deferred (some [])) := by rw [World.putObj_heap_other (by omega)]; exact hK5'
  have hS6 : SetM ((W5.putObj D2 (.deferred none)).putObj D (.deferred none)) w.heap.size (two A B) := (hS5.put hK5 rfl (by have := hS5.map; intro e; rw [← e, this] at hK5; cases hK5) _).put g1 rfl (by intro e; rw [← e, hS5.map] at hK5'; cases hK5') _
  refine ⟨by simp, .inl ⟨_, _, rfl, run_takeDeferred hK5, ⟨by simp, .inl ⟨_, _, rfl, run_takeDeferred g1, ?_⟩⟩⟩⟩
  refine ⟨_, by simp [results, Try.results38, go_sem], _, rfl, Nat.le_refl _, hS6, ?_⟩
  exact below_put (below_put hb5 (by have := (Array.getElem?_eq_some_iff.1 hS5.map).1; omega) (by omega) _) (by have := (Array.getElem?_eq_some_iff.1 hS5.map).1; simp; omega) (by omega) _
set_option maxRecDepth 100000 in
set_option maxHeartbeats 2000000 in
theorem shareNew_in (n : Nat) (hn : Hid (1 ≤ n)) (T A B : Tr) (c : Nat) (ty : TypeId) (w : World) (hc : w.heap[c]? = some (.cells #[.pointer A.ptr, .pointer B.ptr] ty (0, 0))) (hT : InH w T) (hA : InH w A) (hB : InH w B) (hle : Hid (((two A B).length ≤ (addT (two A B) T).length) ∧ (addT (two A B) T).length ≤ 99999)) :
    CallsIn Fence.wide n Try.prog 20 #[.pointer T.ptr, .slice (some ⟨c, 0, none⟩) 2 2] w (Ret (.int .i64 (fresh2 A B T : Nat)) w) := by
  have hfn : ∀ f, Fence.wide.fn f := fun _ => trivial
  refine callsIn_of_wp_marks Try.func20 rfl trivial ?_ rfl
  simp only [Try.ntmps20, List.size_toArray, List.length_cons, List.length_nil, Nat.reduceAdd, Nat.reduceSub, Array.replicate_succ, Array.replicate_zero, List.push_toArray, List.append_toArray, List.nil_append, List.cons_append]
  gi_wp2_with fail
  refine ⟨wide_room _, (CallsIn.any (n - 1) (shareAll_in 1 (Lib.hid (Nat.le_refl 1)) A B c ty w hc hA hB)).mono ?_⟩
  rintro e W1 ⟨R, rfl, hR, hS1, hE1⟩
  have hl1 := hS1.len
  clear hc hA hB
  have hT1 := hT.ext hE1
  gi_wp2_with fail
  refine ⟨wide_room _, (callsIn_wide.2 (shareFresh_any W1 R T.ptr)).mono ?_⟩
  rintro e W2 ⟨rfl, e2⟩
  have hE2 : Ext W1 W2 := by rw [e2]; exact ((Ext.refl W1).alloc _).alloc _
  have hb2 : Boxed W2 W1.heap.size 68 (.map (some R)) := by rw [e2]; exact (Boxed.new W1 _ _).alloc _
  have hb3 : Boxed W2 (W1.heap.size + 1) 25 (.pointer T.ptr) := by rw [e2]; exact (by have := Boxed.new (W1.alloc (.cells #[.map (some R)] 68)) 25 (.pointer T.ptr); simpa using this)
  clear e2 hl1
  gi_wp2_with fail
  refine range_fresh (T := T) (R := R) (N := w.heap.size) (w0 := w) (bs := two A B) hn.out rfl (hT1.ext hE2) (hS1.ext hE2) hb2 hb3 hR (hE1.trans hE2) ?_
  intro D W3 hD hS3 hk3 hb3' hst3 hK3
  have hl3 := hS3.len
  clear hb2 hb3
  gi_wp2_with fail
  have hE3 : Ext w (W3.putObj D (.deferred none)) := below_put hb3' (by have := hE1.size; have := hE2.size; have := hst3.1; omega) (by have := hE1.size; have := hE2.size; omega) _
  have e0 : wrap64 (((addT (two A B) T).length : Int) - ((two A B).length : Int)) = (fresh2 A B T : Nat) := by
    have := hle.out.1; have := hle.out.2
    unfold fresh2 wrap64; omega
  rw [e0]
  refine ⟨by simp, .inl ⟨_, _, rfl, run_takeDeferred hK3, ?_⟩⟩
  exact ⟨_, by simp [results, Try.results20, go_sem], rfl, hE3⟩
theorem shareNew_any (T A B : Tr) (c : Nat) (ty : TypeId) (w : World) (hc : w.heap[c]? = some (.cells #[.pointer A.ptr, .pointer B.ptr] ty (0, 0))) (hT : InH w T) (hA : InH w A) (hB : InH w B) (h1 : (two A B).length ≤ (addT (two A B) T).length) (h2 : (addT (two A B) T).length ≤ 99999) :
    Calls Try.prog 20 #[.pointer T.ptr, .slice (some ⟨c, 0, none⟩) 2 2] w (Ret (.int .i64 (fresh2 A B T : Nat)) w) :=
  callsIn_wide.1 (shareNew_in 1 (Lib.hid (Nat.le_refl 1)) T A B c ty w hc hT hA hB (Lib.hid ⟨h1, h2⟩))
/-- how many nodes two trees have. -/
theorem addT_most : ∀ {T : Tr} {bs : List Nat}, (addT bs T).length ≤ bs.length + T.count
  | .nil, _ => Nat.le_add_right _ _
  | .node b l k v g r, bs => by
    rw [addT, Tr.count_node]
    split
    · exact Nat.le_add_right _ _
    · have h1 := addT_most (T := l) (bs := bs)
      have h2 := addT_most (T := r) (bs := addT bs l ++ [b])
      simp at h2
      omega
end Go.Proofs.Ytpfkolmnejandaa
