/- What the functions of the package node do, at any tree. -/
import Derived.Test.YtkbndpemljommaaTr
namespace Go.Proofs.Ytkbndpemljommaa
open Go Go.RowKit
theorem cell_of {w : World} {b : Nat} {c : Array Value} {t : TypeId} {f : Nat × Nat} (h : w.heap[b]? = some (.cells c t f)) (i : Nat) : w.cell? ⟨b, i, none⟩ = c[i]? := by
  simp [World.cell?, h]
theorem frozen_of {w : World} {b : Nat} {c : Array Value} {t : TypeId} (h : w.heap[b]? = some (.cells c t (0, 0))) (i : Nat) : w.frozen? ⟨b, i, none⟩ = false := by
  simp [World.frozen?, h]
theorem lt_of {w : World} {b : Nat} {o : Obj} (h : w.heap[b]? = some o) : b < w.heap.size := (Array.getElem?_eq_some_iff.1 h).1
set_option maxHeartbeats 400000 in
theorem of_nil (w : World) : Calls Try.prog 35 #[.pointer none] w (Ret (.agg #[.int .i64 0, .int .i64 0, .int .i64 0, .int .u64 0, .int .i64 0]) w) := by
  go_enter Try.func35, Try.ntmps35
  go_wp2
  exact bodyPost_ret (v := .agg #[.int .i64 0, .int .i64 0, .int .i64 0, .int .u64 0, .int .i64 0]) (by simp [results, Try.results35, go_sem]) rfl (Ret.mk ((Ext.refl w).alloc _))
set_option maxHeartbeats 400000 in
theorem of_node (w : World) (b : Nat) (k v s g z : Int) (p q : Option Addr) (h : w.heap[b]? = some (.cells #[.int .i64 k, .int .i64 v, .int .i64 s, .int .u64 g, .int .i64 z, .pointer p, .pointer q] 60 (0, 0))) :
   Calls Try.prog 35 #[.pointer (some ⟨b, 0, none⟩)] w (Ret (.agg #[.int .i64 k, .int .i64 v, .int .i64 s, .int .u64 g, .int .i64 z]) w) := by
  have hlt := lt_of h
  have h0 := cell_of h 0
  have h1 := cell_of h 1
  have h2 := cell_of h 2
  have h3 := cell_of h 3
  have h4 := cell_of h 4
  simp at h0 h1 h2 h3 h4
  clear h
  go_enter Try.func35, Try.ntmps35
  go_wp2
  exact bodyPost_ret (v := .agg #[.int .i64 k, .int .i64 v, .int .i64 s, .int .u64 g, .int .i64 z]) (by simp [results, Try.results35, go_sem]) rfl (Ret.mk ((Ext.refl w).alloc _))
set_option linter.unusedSimpArgs false
set_option maxHeartbeats 400000 in
theorem key_any (w : World) (t : Tr) (ht : InH w t) : Calls Try.prog 29 #[.pointer t.ptr] w (Ret (.int .i64 t.key) w) := by
  cases t with
  | nil =>
    simp only [Tr.ptr_nil, Tr.ptr_node, Tr.key_nil, Tr.key_node, Tr.val_nil, Tr.val_node, Tr.tag_nil, Tr.tag_node, Tr.size_nil, Tr.sum_nil, Tr.left_nil, Tr.left_node, Tr.right_nil, Tr.right_node]
    have hfld := fun (a b c d e : Value) (w : World) => (by kernel_rfl : (Instr.field 58 (.agg #[a, b, c, d, e]) 0).run Try.prog w = .ok a w)
    go_enter Try.func29, Try.ntmps29
    go_wp2_with fail
    refine (of_nil _).mono ?_
    rintro e w1 ⟨rfl, h1⟩
    go_wp2
    go_ret
    exact Ret.mk h1
  | node b l k v g r =>
    obtain ⟨h0, -, -⟩ := ht
    simp only [Tr.ptr_nil, Tr.ptr_node, Tr.key_nil, Tr.key_node, Tr.val_nil, Tr.val_node, Tr.tag_nil, Tr.tag_node, Tr.size_nil, Tr.sum_nil, Tr.left_nil, Tr.left_node, Tr.right_nil, Tr.right_node]
    have hfld := fun (a b c d e : Value) (w : World) => (by kernel_rfl : (Instr.field 58 (.agg #[a, b, c, d, e]) 0).run Try.prog w = .ok a w)
    go_enter Try.func29, Try.ntmps29
    go_wp2_with fail
    refine (of_node _ _ _ _ _ _ _ _ _ h0).mono ?_
    rintro e w1 ⟨rfl, h1⟩
    go_wp2
    go_ret
    exact Ret.mk h1

set_option maxHeartbeats 400000 in
theorem val_any (w : World) (t : Tr) (ht : InH w t) : Calls Try.prog 32 #[.pointer t.ptr] w (Ret (.int .i64 t.val) w) := by
  cases t with
  | nil =>
    simp only [Tr.ptr_nil, Tr.ptr_node, Tr.key_nil, Tr.key_node, Tr.val_nil, Tr.val_node, Tr.tag_nil, Tr.tag_node, Tr.size_nil, Tr.sum_nil, Tr.left_nil, Tr.left_node, Tr.right_nil, Tr.right_node]
    have hfld := fun (a b c d e : Value) (w : World) => (by kernel_rfl : (Instr.field 58 (.agg #[a, b, c, d, e]) 1).run Try.prog w = .ok b w)
    go_enter Try.func32, Try.ntmps32
    go_wp2_with fail
    refine (of_nil _).mono ?_
    rintro e w1 ⟨rfl, h1⟩
    go_wp2
    go_ret
    exact Ret.mk h1
  | node b l k v g r =>
    obtain ⟨h0, -, -⟩ := ht
    simp only [Tr.ptr_nil, Tr.ptr_node, Tr.key_nil, Tr.key_node, Tr.val_nil, Tr.val_node, Tr.tag_nil, Tr.tag_node, Tr.size_nil, Tr.sum_nil, Tr.left_nil, Tr.left_node, Tr.right_nil, Tr.right_node]
    have hfld := fun (a b c d e : Value) (w : World) => (by kernel_rfl : (Instr.field 58 (.agg #[a, b, c, d, e]) 1).run Try.prog w = .ok b w)
    go_enter Try.func32, Try.ntmps32
    go_wp2_with fail
    refine (of_node _ _ _ _ _ _ _ _ _ h0).mono ?_
    rintro e w1 ⟨rfl, h1⟩
    go_wp2
    go_ret
    exact Ret.mk h1

set_option maxHeartbeats 400000 in
theorem size_any (w : World) (t : Tr) (ht : InH w t) : Calls Try.prog 25 #[.pointer t.ptr] w (Ret (.int .i64 t.size) w) := by
  cases t with
  | nil =>
    simp only [Tr.ptr_nil, Tr.ptr_node, Tr.key_nil, Tr.key_node, Tr.val_nil, Tr.val_node, Tr.tag_nil, Tr.tag_node, Tr.size_nil, Tr.sum_nil, Tr.left_nil, Tr.left_node, Tr.right_nil, Tr.right_node]
    have hfld := fun (a b c d e : Value) (w : World) => (by kernel_rfl : (Instr.field 58 (.agg #[a, b, c, d, e]) 4).run Try.prog w = .ok e w)
    go_enter Try.func25, Try.ntmps25
    go_wp2_with fail
    refine (of_nil _).mono ?_
    rintro e w1 ⟨rfl, h1⟩
    go_wp2
    go_ret
    exact Ret.mk h1
  | node b l k v g r =>
    obtain ⟨h0, -, -⟩ := ht
    simp only [Tr.ptr_nil, Tr.ptr_node, Tr.key_nil, Tr.key_node, Tr.val_nil, Tr.val_node, Tr.tag_nil, Tr.tag_node, Tr.size_nil, Tr.sum_nil, Tr.left_nil, Tr.left_node, Tr.right_nil, Tr.right_node]
    have hfld := fun (a b c d e : Value) (w : World) => (by kernel_rfl : (Instr.field 58 (.agg #[a, b, c, d, e]) 4).run Try.prog w = .ok e w)
    go_enter Try.func25, Try.ntmps25
    go_wp2_with fail
    refine (of_node _ _ _ _ _ _ _ _ _ h0).mono ?_
    rintro e w1 ⟨rfl, h1⟩
    go_wp2
    go_ret
    exact Ret.mk h1

set_option maxHeartbeats 400000 in
theorem sum_any (w : World) (t : Tr) (ht : InH w t) : Calls Try.prog 26 #[.pointer t.ptr] w (Ret (.int .i64 t.sum) w) := by
  cases t with
  | nil =>
    simp only [Tr.ptr_nil, Tr.ptr_node, Tr.key_nil, Tr.key_node, Tr.val_nil, Tr.val_node, Tr.tag_nil, Tr.tag_node, Tr.size_nil, Tr.sum_nil, Tr.left_nil, Tr.left_node, Tr.right_nil, Tr.right_node]
    have hfld := fun (a b c d e : Value) (w : World) => (by kernel_rfl : (Instr.field 58 (.agg #[a, b, c, d, e]) 2).run Try.prog w = .ok c w)
    go_enter Try.func26, Try.ntmps26
    go_wp2_with fail
    refine (of_nil _).mono ?_
    rintro e w1 ⟨rfl, h1⟩
    go_wp2
    go_ret
    exact Ret.mk h1
  | node b l k v g r =>
    obtain ⟨h0, -, -⟩ := ht
    simp only [Tr.ptr_nil, Tr.ptr_node, Tr.key_nil, Tr.key_node, Tr.val_nil, Tr.val_node, Tr.tag_nil, Tr.tag_node, Tr.size_nil, Tr.sum_nil, Tr.left_nil, Tr.left_node, Tr.right_nil, Tr.right_node]
    have hfld := fun (a b c d e : Value) (w : World) => (by kernel_rfl : (Instr.field 58 (.agg #[a, b, c, d, e]) 2).run Try.prog w = .ok c w)
    go_enter Try.func26, Try.ntmps26
    go_wp2_with fail
    refine (of_node _ _ _ _ _ _ _ _ _ h0).mono ?_
    rintro e w1 ⟨rfl, h1⟩
    go_wp2
    go_ret
    exact Ret.mk h1

set_option maxHeartbeats 400000 in
theorem left_any (w : World) (t : Tr) (ht : InH w t) : Calls Try.prog 23 #[.pointer t.ptr] w (Ret (.pointer t.left.ptr) w) := by
  cases t with
  | nil =>
    simp only [Tr.ptr_nil, Tr.ptr_node, Tr.key_nil, Tr.key_node, Tr.val_nil, Tr.val_node, Tr.tag_nil, Tr.tag_node, Tr.size_nil, Tr.sum_nil, Tr.left_nil, Tr.left_node, Tr.right_nil, Tr.right_node]
    go_enter Try.func23, Try.ntmps23
    go_wp2
    go_ret
    exact Ret.mk (Ext.refl _)
  | node b l k v g r =>
    obtain ⟨h0, -, -⟩ := ht
    simp only [Tr.ptr_nil, Tr.ptr_node, Tr.key_nil, Tr.key_node, Tr.val_nil, Tr.val_node, Tr.tag_nil, Tr.tag_node, Tr.size_nil, Tr.sum_nil, Tr.left_nil, Tr.left_node, Tr.right_nil, Tr.right_node]
    have hc := cell_of h0 5
    simp at hc
    clear h0
    go_enter Try.func23, Try.ntmps23
    go_wp2
    go_ret
    exact Ret.mk (Ext.refl _)

set_option maxHeartbeats 400000 in
theorem right_any (w : World) (t : Tr) (ht : InH w t) : Calls Try.prog 22 #[.pointer t.ptr] w (Ret (.pointer t.right.ptr) w) := by
  cases t with
  | nil =>
    simp only [Tr.ptr_nil, Tr.ptr_node, Tr.key_nil, Tr.key_node, Tr.val_nil, Tr.val_node, Tr.tag_nil, Tr.tag_node, Tr.size_nil, Tr.sum_nil, Tr.left_nil, Tr.left_node, Tr.right_nil, Tr.right_node]
    go_enter Try.func22, Try.ntmps22
    go_wp2
    go_ret
    exact Ret.mk (Ext.refl _)
  | node b l k v g r =>
    obtain ⟨h0, -, -⟩ := ht
    simp only [Tr.ptr_nil, Tr.ptr_node, Tr.key_nil, Tr.key_node, Tr.val_nil, Tr.val_node, Tr.tag_nil, Tr.tag_node, Tr.size_nil, Tr.sum_nil, Tr.left_nil, Tr.left_node, Tr.right_nil, Tr.right_node]
    have hc := cell_of h0 6
    simp at hc
    clear h0
    go_enter Try.func22, Try.ntmps22
    go_wp2
    go_ret
    exact Ret.mk (Ext.refl _)

/-- a new node: it stands in a block of its own. -/
def New (l : Tr) (k v g : Int) (r : Tr) (w : World) (e : Ending) (w' : World) : Prop :=
  ∃ b, e = .returned (.pointer (Tr.node b l k v g r).ptr) ∧ w.heap.size ≤ b ∧ InH w' (.node b l k v g r) ∧ Ext w w'
set_option maxHeartbeats 400000 in
theorem new_any (w : World) (l r : Tr) (k v g : Int) (hl : InH w l) (hr : InH w r) : Calls Try.prog 14 #[.pointer l.ptr, .int .i64 k, .int .i64 v, .int .u64 g, .pointer r.ptr] w (New l k v g r w) := by
  go_enter Try.func14, Try.ntmps14
  go_wp2_with fail
  refine (size_any _ l hl).mono ?_
  rintro e w1 ⟨rfl, h1⟩
  go_wp2_with fail
  refine (size_any _ r (hr.ext h1)).mono ?_
  rintro e w2 ⟨rfl, h2⟩
  go_wp2_with fail
  refine (sum_any _ l (hl.ext (h1.trans h2))).mono ?_
  rintro e w3 ⟨rfl, h3⟩
  go_wp2_with fail
  refine (sum_any _ r (hr.ext ((h1.trans h2).trans h3))).mono ?_
  rintro e w4 ⟨rfl, h4⟩
  go_wp2
  go_ret
  refine ⟨w4.heap.size, rfl, Nat.le_trans h1.size (Nat.le_trans h2.size (Nat.le_trans h3.size h4.size)), ⟨?_, ?_, ?_⟩, (((h1.trans h2).trans h3).trans h4).alloc _⟩
  · show (w4.heap.push _)[w4.heap.size]? = _
    simp [Tr.sum, Tr.size]
  · exact (hl.ext (((h1.trans h2).trans h3).trans h4)).ext ((Ext.refl _).alloc _)
  · exact (hr.ext (((h1.trans h2).trans h3).trans h4)).ext ((Ext.refl _).alloc _)

theorem left_ok {w : World} : ∀ {t : Tr}, InH w t → InH w t.left
  | .nil, _ => trivial
  | .node _ _ _ _ _ _, ⟨_, h, _⟩ => h
theorem right_ok {w : World} : ∀ {t : Tr}, InH w t → InH w t.right
  | .nil, _ => trivial
  | .node _ _ _ _ _ _, ⟨_, _, h⟩ => h
end Go.Proofs.Ytkbndpemljommaa
