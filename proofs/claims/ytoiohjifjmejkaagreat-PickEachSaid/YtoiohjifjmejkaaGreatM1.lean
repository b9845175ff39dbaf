/- Trees of nodes as they lie in memory: the ghost tree, what the heap holds of it, and that it stays where nothing old is written. What the functions of the package node do, at any tree. -/
import Derived.Test.YtoiohjifjmejkaaGreatProg
import Derived.WalkKit
import Derived.Lib.Hide
import Derived.Laws.EntriesVeiled
namespace Go.Proofs.YtoiohjifjmejkaaGreat
open Go Go.RowKit

/-- a tree of nodes: the block in which the root lies, what is left, key, value, tag, what is right. -/
inductive Tr where
  | nil
  | node (b : Nat) (l : Tr) (k v g : Int) (r : Tr)

namespace Tr
def ptr : Tr → Option Addr
  | nil => none
  | node b _ _ _ _ _ => some ⟨b, 0, none⟩
def size : Tr → Int
  | nil => 0
  | node _ l _ _ _ r => wrap64 (wrap64 (l.size + 1) + r.size)
def sum : Tr → Int
  | nil => 0
  | node _ l _ v _ r => wrap64 (wrap64 (l.sum + v) + r.sum)
def key : Tr → Int
  | nil => 0
  | node _ _ k _ _ _ => k
def val : Tr → Int
  | nil => 0
  | node _ _ _ v _ _ => v
def tag : Tr → Int
  | nil => 0
  | node _ _ _ _ g _ => g
def left : Tr → Tr
  | nil => nil
  | node _ l _ _ _ _ => l
def right : Tr → Tr
  | nil => nil
  | node _ _ _ _ _ r => r
theorem ptr_nil : nil.ptr = none := rfl
theorem ptr_node (b l k v g r) : (node b l k v g r).ptr = some ⟨b, 0, none⟩ := rfl
theorem key_nil : nil.key = 0 := rfl
theorem key_node (b l k v g r) : (node b l k v g r).key = k := rfl
theorem val_nil : nil.val = 0 := rfl
theorem val_node (b l k v g r) : (node b l k v g r).val = v := rfl
theorem tag_nil : nil.tag = 0 := rfl
theorem tag_node (b l k v g r) : (node b l k v g r).tag = g := rfl
theorem size_nil : nil.size = 0 := rfl
theorem sum_nil : nil.sum = 0 := rfl
theorem left_nil : nil.left = nil := rfl
theorem left_node (b l k v g r) : (node b l k v g r).left = l := rfl
theorem right_nil : nil.right = nil := rfl
theorem right_node (b l k v g r) : (node b l k v g r).right = r := rfl
end Tr

/-- a tree's nodes, each ahead of its sides. -/
def Tr.pre : Tr → List Tr
  | .nil => []
  | .node b l k v g r => .node b l k v g r :: (l.pre ++ r.pre)

/-- what the heap holds of a tree. -/
def InH (w : World) : Tr → Prop
  | .nil => True
  | .node b l k v g r => w.heap[b]? = some (.cells #[.int .i64 k, .int .i64 v, .int .i64 (Tr.node b l k v g r).sum, .int .u64 g, .int .i64 (Tr.node b l k v g r).size, .pointer l.ptr, .pointer r.ptr] 122 (0, 0)) ∧ InH w l ∧ InH w r

/-- nothing that was there has turned. -/
def Ext (w w' : World) : Prop := Below w.heap.size w w'
theorem Ext.refl (w : World) : Ext w w := Below.refl _ _
theorem Ext.trans {a b c : World} (h : Ext a b) (k : Ext b c) : Ext a c := Below.trans h (Below.mono k h.size)
theorem Ext.alloc {a b : World} (h : Ext a b) (o : Obj) : Ext a (b.alloc o) := Below.alloc h h.size o
theorem Ext.size {a b : World} (h : Ext a b) : a.heap.size ≤ b.heap.size := Below.size h
theorem Ext.get {a b : World} (h : Ext a b) {i : Nat} {o : Obj} (k : a.heap[i]? = some o) : b.heap[i]? = some o :=
  (Below.block h i (Array.getElem?_eq_some_iff.1 k).1).trans k
theorem InH.ext {a b : World} (h : Ext a b) : ∀ {t : Tr}, InH a t → InH b t
  | .nil, _ => trivial
  | .node _ _ _ _ _ _, ⟨h0, h1, h2⟩ => ⟨h.get h0, InH.ext h h1, InH.ext h h2⟩

theorem alloc_get (w : World) (o : Obj) (i : Nat) : (w.alloc o).heap[i]? = if i = w.heap.size then some o else w.heap[i]? := by
  show (w.heap.push o)[i]? = _
  rw [Array.getElem?_push]
theorem alloc_at (w : World) (o : Obj) (i : Nat) (h : i = w.heap.size) : (w.alloc o).heap[i]? = some o := by rw [alloc_get, if_pos h]
theorem alloc_lt (w : World) (o : Obj) (i : Nat) (h : i < w.heap.size) : (w.alloc o).heap[i]? = w.heap[i]? := by rw [alloc_get, if_neg (by omega)]
/-- it hands back a value, and nothing that was there has turned. -/
def Ret (v : Value) (w : World) (e : Ending) (w' : World) : Prop := e = .returned v ∧ Ext w w'
theorem Ret.mk {v : Value} {w w' : World} (h : Ext w w') : Ret v w (.returned v) w' := ⟨rfl, h⟩
end Go.Proofs.YtoiohjifjmejkaaGreat
namespace Go.Proofs.YtoiohjifjmejkaaGreat
open Go Go.RowKit
theorem cell_of {w : World} {b : Nat} {c : Array Value} {t : TypeId} {f : Nat × Nat} (h : w.heap[b]? = some (.cells c t f)) (i : Nat) : w.cell? ⟨b, i, none⟩ = c[i]? := by
  simp [World.cell?, h]
theorem frozen_of {w : World} {b : Nat} {c : Array Value} {t : TypeId} (h : w.heap[b]? = some (.cells c t (0, 0))) (i : Nat) : w.frozen? ⟨b, i, none⟩ = false := by
  simp [World.frozen?, h]
theorem lt_of {w : World} {b : Nat} {o : Obj} (h : w.heap[b]? = some o) : b < w.heap.size := (Array.getElem?_eq_some_iff.1 h).1
set_option maxHeartbeats 400000 in
theorem of_nil (w : World) : Calls Tryz.prog 91 #[.pointer none] w (Ret (.agg #[.int .i64 0, .int .i64 0, .int .i64 0, .int .u64 0, .int .i64 0]) w) := by
  go_enter Tryz.func91, Tryz.ntmps91
  go_wp2
  exact bodyPost_ret (v := .agg #[.int .i64 0, .int .i64 0, .int .i64 0, .int .u64 0, .int .i64 0]) (by simp [results, Tryz.results91, go_sem]) rfl (Ret.mk ((Ext.refl w).alloc _))
set_option maxHeartbeats 400000 in
theorem of_node (w : World) (b : Nat) (k v s g z : Int) (p q : Option Addr) (h : w.heap[b]? = some (.cells #[.int .i64 k, .int .i64 v, .int .i64 s, .int .u64 g, .int .i64 z, .pointer p, .pointer q] 122 (0, 0))) :
   Calls Tryz.prog 91 #[.pointer (some ⟨b, 0, none⟩)] w (Ret (.agg #[.int .i64 k, .int .i64 v, .int .i64 s, .int .u64 g, .int .i64 z]) w) := by
  have hlt := lt_of h
  have h0 := cell_of h 0
  have h1 := cell_of h 1
  have h2 := cell_of h 2
  have h3 := cell_of h 3
  have h4 := cell_of h 4
  simp at h0 h1 h2 h3 h4
  clear h
  go_enter Tryz.func91, Tryz.ntmps91
  go_wp2
  exact bodyPost_ret (v := .agg #[.int .i64 k, .int .i64 v, .int .i64 s, .int .u64 g, .int .i64 z]) (by simp [results, Tryz.results91, go_sem]) rfl (Ret.mk ((Ext.refl w).alloc _))
set_option linter.unusedSimpArgs false
set_option maxHeartbeats 400000 in
theorem key_any (w : World) (t : Tr) (ht : InH w t) : Calls Tryz.prog 59 #[.pointer t.ptr] w (Ret (.int .i64 t.key) w) := by
  cases t with
  | nil =>
    simp only [Tr.ptr_nil, Tr.ptr_node, Tr.key_nil, Tr.key_node, Tr.val_nil, Tr.val_node, Tr.tag_nil, Tr.tag_node, Tr.size_nil, Tr.sum_nil, Tr.left_nil, Tr.left_node, Tr.right_nil, Tr.right_node]
    have hfld := fun (a b c d e : Value) (w : World) => (by kernel_rfl : (Instr.field 120 (.agg #[a, b, c, d, e]) 0).run Tryz.prog w = .ok a w)
    go_enter Tryz.func59, Tryz.ntmps59
    go_wp2_with fail
    refine (of_nil _).mono ?_
    rintro e w1 ⟨rfl, h1⟩
    go_wp2
    go_ret
    exact Ret.mk h1
  | node b l k v g r =>
    obtain ⟨h0, -, -⟩ := ht
    simp only [Tr.ptr_nil, Tr.ptr_node, Tr.key_nil, Tr.key_node, Tr.val_nil, Tr.val_node, Tr.tag_nil, Tr.tag_node, Tr.size_nil, Tr.sum_nil, Tr.left_nil, Tr.left_node, Tr.right_nil, Tr.right_node]
    have hfld := fun (a b c d e : Value) (w : World) => (by kernel_rfl : (Instr.field 120 (.agg #[a, b, c, d, e]) 0).run Tryz.prog w = .ok a w)
    go_enter Tryz.func59, Tryz.ntmps59
    go_wp2_with fail
    refine (of_node _ _ _ _ _ _ _ _ _ h0).mono ?_
    rintro e w1 ⟨rfl, h1⟩
    go_wp2
    go_ret
    exact Ret.mk h1

set_option maxHeartbeats 400000 in
theorem val_any (w : World) (t : Tr) (ht : InH w t) : Calls Tryz.prog 60 #[.pointer t.ptr] w (Ret (.int .i64 t.val) w) := by
  cases t with
  | nil =>
    simp only [Tr.ptr_nil, Tr.ptr_node, Tr.key_nil, Tr.key_node, Tr.val_nil, Tr.val_node, Tr.tag_nil, Tr.tag_node, Tr.size_nil, Tr.sum_nil, Tr.left_nil, Tr.left_node, Tr.right_nil, Tr.right_node]
    have hfld := fun (a b c d e : Value) (w : World) => (by kernel_rfl : (Instr.field 120 (.agg #[a, b, c, d, e]) 1).run Tryz.prog w = .ok b w)
    go_enter Tryz.func60, Tryz.ntmps60
    go_wp2_with fail
    refine (of_nil _).mono ?_
    rintro e w1 ⟨rfl, h1⟩
    go_wp2
    go_ret
    exact Ret.mk h1
  | node b l k v g r =>
    obtain ⟨h0, -, -⟩ := ht
    simp only [Tr.ptr_nil, Tr.ptr_node, Tr.key_nil, Tr.key_node, Tr.val_nil, Tr.val_node, Tr.tag_nil, Tr.tag_node, Tr.size_nil, Tr.sum_nil, Tr.left_nil, Tr.left_node, Tr.right_nil, Tr.right_node]
    have hfld := fun (a b c d e : Value) (w : World) => (by kernel_rfl : (Instr.field 120 (.agg #[a, b, c, d, e]) 1).run Tryz.prog w = .ok b w)
    go_enter Tryz.func60, Tryz.ntmps60
    go_wp2_with fail
    refine (of_node _ _ _ _ _ _ _ _ _ h0).mono ?_
    rintro e w1 ⟨rfl, h1⟩
    go_wp2
    go_ret
    exact Ret.mk h1

set_option maxHeartbeats 400000 in
theorem tag_any (w : World) (t : Tr) (ht : InH w t) : Calls Tryz.prog 61 #[.pointer t.ptr] w (Ret (.int .u64 t.tag) w) := by
  cases t with
  | nil =>
    simp only [Tr.ptr_nil, Tr.ptr_node, Tr.key_nil, Tr.key_node, Tr.val_nil, Tr.val_node, Tr.tag_nil, Tr.tag_node, Tr.size_nil, Tr.sum_nil, Tr.left_nil, Tr.left_node, Tr.right_nil, Tr.right_node]
    have hfld := fun (a b c d e : Value) (w : World) => (by kernel_rfl : (Instr.field 120 (.agg #[a, b, c, d, e]) 3).run Tryz.prog w = .ok d w)
    go_enter Tryz.func61, Tryz.ntmps61
    go_wp2_with fail
    refine (of_nil _).mono ?_
    rintro e w1 ⟨rfl, h1⟩
    go_wp2
    go_ret
    exact Ret.mk h1
  | node b l k v g r =>
    obtain ⟨h0, -, -⟩ := ht
    simp only [Tr.ptr_nil, Tr.ptr_node, Tr.key_nil, Tr.key_node, Tr.val_nil, Tr.val_node, Tr.tag_nil, Tr.tag_node, Tr.size_nil, Tr.sum_nil, Tr.left_nil, Tr.left_node, Tr.right_nil, Tr.right_node]
    have hfld := fun (a b c d e : Value) (w : World) => (by kernel_rfl : (Instr.field 120 (.agg #[a, b, c, d, e]) 3).run Tryz.prog w = .ok d w)
    go_enter Tryz.func61, Tryz.ntmps61
    go_wp2_with fail
    refine (of_node _ _ _ _ _ _ _ _ _ h0).mono ?_
    rintro e w1 ⟨rfl, h1⟩
    go_wp2
    go_ret
    exact Ret.mk h1

set_option maxHeartbeats 400000 in
theorem size_any (w : World) (t : Tr) (ht : InH w t) : Calls Tryz.prog 56 #[.pointer t.ptr] w (Ret (.int .i64 t.size) w) := by
  cases t with
  | nil =>
    simp only [Tr.ptr_nil, Tr.ptr_node, Tr.key_nil, Tr.key_node, Tr.val_nil, Tr.val_node, Tr.tag_nil, Tr.tag_node, Tr.size_nil, Tr.sum_nil, Tr.left_nil, Tr.left_node, Tr.right_nil, Tr.right_node]
    have hfld := fun (a b c d e : Value) (w : World) => (by kernel_rfl : (Instr.field 120 (.agg #[a, b, c, d, e]) 4).run Tryz.prog w = .ok e w)
    go_enter Tryz.func56, Tryz.ntmps56
    go_wp2_with fail
    refine (of_nil _).mono ?_
    rintro e w1 ⟨rfl, h1⟩
    go_wp2
    go_ret
    exact Ret.mk h1
  | node b l k v g r =>
    obtain ⟨h0, -, -⟩ := ht
    simp only [Tr.ptr_nil, Tr.ptr_node, Tr.key_nil, Tr.key_node, Tr.val_nil, Tr.val_node, Tr.tag_nil, Tr.tag_node, Tr.size_nil, Tr.sum_nil, Tr.left_nil, Tr.left_node, Tr.right_nil, Tr.right_node]
    have hfld := fun (a b c d e : Value) (w : World) => (by kernel_rfl : (Instr.field 120 (.agg #[a, b, c, d, e]) 4).run Tryz.prog w = .ok e w)
    go_enter Tryz.func56, Tryz.ntmps56
    go_wp2_with fail
    refine (of_node _ _ _ _ _ _ _ _ _ h0).mono ?_
    rintro e w1 ⟨rfl, h1⟩
    go_wp2
    go_ret
    exact Ret.mk h1

set_option maxHeartbeats 400000 in
theorem sum_any (w : World) (t : Tr) (ht : InH w t) : Calls Tryz.prog 57 #[.pointer t.ptr] w (Ret (.int .i64 t.sum) w) := by
  cases t with
  | nil =>
    simp only [Tr.ptr_nil, Tr.ptr_node, Tr.key_nil, Tr.key_node, Tr.val_nil, Tr.val_node, Tr.tag_nil, Tr.tag_node, Tr.size_nil, Tr.sum_nil, Tr.left_nil, Tr.left_node, Tr.right_nil, Tr.right_node]
    have hfld := fun (a b c d e : Value) (w : World) => (by kernel_rfl : (Instr.field 120 (.agg #[a, b, c, d, e]) 2).run Tryz.prog w = .ok c w)
    go_enter Tryz.func57, Tryz.ntmps57
    go_wp2_with fail
    refine (of_nil _).mono ?_
    rintro e w1 ⟨rfl, h1⟩
    go_wp2
    go_ret
    exact Ret.mk h1
  | node b l k v g r =>
    obtain ⟨h0, -, -⟩ := ht
    simp only [Tr.ptr_nil, Tr.ptr_node, Tr.key_nil, Tr.key_node, Tr.val_nil, Tr.val_node, Tr.tag_nil, Tr.tag_node, Tr.size_nil, Tr.sum_nil, Tr.left_nil, Tr.left_node, Tr.right_nil, Tr.right_node]
    have hfld := fun (a b c d e : Value) (w : World) => (by kernel_rfl : (Instr.field 120 (.agg #[a, b, c, d, e]) 2).run Tryz.prog w = .ok c w)
    go_enter Tryz.func57, Tryz.ntmps57
    go_wp2_with fail
    refine (of_node _ _ _ _ _ _ _ _ _ h0).mono ?_
    rintro e w1 ⟨rfl, h1⟩
    go_wp2
    go_ret
    exact Ret.mk h1

set_option maxHeartbeats 400000 in
theorem left_any (w : World) (t : Tr) (ht : InH w t) : Calls Tryz.prog 36 #[.pointer t.ptr] w (Ret (.pointer t.left.ptr) w) := by
  cases t with
  | nil =>
    simp only [Tr.ptr_nil, Tr.ptr_node, Tr.key_nil, Tr.key_node, Tr.val_nil, Tr.val_node, Tr.tag_nil, Tr.tag_node, Tr.size_nil, Tr.sum_nil, Tr.left_nil, Tr.left_node, Tr.right_nil, Tr.right_node]
    go_enter Tryz.func36, Tryz.ntmps36
    go_wp2
    go_ret
    exact Ret.mk (Ext.refl _)
  | node b l k v g r =>
    obtain ⟨h0, -, -⟩ := ht
    simp only [Tr.ptr_nil, Tr.ptr_node, Tr.key_nil, Tr.key_node, Tr.val_nil, Tr.val_node, Tr.tag_nil, Tr.tag_node, Tr.size_nil, Tr.sum_nil, Tr.left_nil, Tr.left_node, Tr.right_nil, Tr.right_node]
    have hc := cell_of h0 5
    simp at hc
    clear h0
    go_enter Tryz.func36, Tryz.ntmps36
    go_wp2
    go_ret
    exact Ret.mk (Ext.refl _)

set_option maxHeartbeats 400000 in
theorem right_any (w : World) (t : Tr) (ht : InH w t) : Calls Tryz.prog 37 #[.pointer t.ptr] w (Ret (.pointer t.right.ptr) w) := by
  cases t with
  | nil =>
    simp only [Tr.ptr_nil, Tr.ptr_node, Tr.key_nil, Tr.key_node, Tr.val_nil, Tr.val_node, Tr.tag_nil, Tr.tag_node, Tr.size_nil, Tr.sum_nil, Tr.left_nil, Tr.left_node, Tr.right_nil, Tr.right_node]
    go_enter Tryz.func37, Tryz.ntmps37
    go_wp2
    go_ret
    exact Ret.mk (Ext.refl _)
  | node b l k v g r =>
    obtain ⟨h0, -, -⟩ := ht
    simp only [Tr.ptr_nil, Tr.ptr_node, Tr.key_nil, Tr.key_node, Tr.val_nil, Tr.val_node, Tr.tag_nil, Tr.tag_node, Tr.size_nil, Tr.sum_nil, Tr.left_nil, Tr.left_node, Tr.right_nil, Tr.right_node]
    have hc := cell_of h0 6
    simp at hc
    clear h0
    go_enter Tryz.func37, Tryz.ntmps37
    go_wp2
    go_ret
    exact Ret.mk (Ext.refl _)

/-- a new node: it stands in a block of its own. -/
def New (l : Tr) (k v g : Int) (r : Tr) (w : World) (e : Ending) (w' : World) : Prop :=
  ∃ b, e = .returned (.pointer (Tr.node b l k v g r).ptr) ∧ w.heap.size ≤ b ∧ InH w' (.node b l k v g r) ∧ Ext w w'
set_option maxHeartbeats 400000 in
theorem new_any (w : World) (l r : Tr) (k v g : Int) (hl : InH w l) (hr : InH w r) : Calls Tryz.prog 33 #[.pointer l.ptr, .int .i64 k, .int .i64 v, .int .u64 g, .pointer r.ptr] w (New l k v g r w) := by
  go_enter Tryz.func33, Tryz.ntmps33
  go_wp2_with fail
  refine (size_any _ l hl).mono ?_
  rintro e w1 ⟨rfl, h1⟩
  go_wp2_with fail
  refine (size_any _ r (hr.ext h1)).mono ?_
  rintro e w2 ⟨rfl, h2⟩
  go_wp2_with fail
  refine (sum_any _ l (hl.ext (h1.trans h2))).mono ?_
  rintro e w3 ⟨rfl, h3⟩
  go_wp2_with fail
  refine (sum_any _ r (hr.ext ((h1.trans h2).trans h3))).mono ?_
  rintro e w4 ⟨rfl, h4⟩
  go_wp2
  go_ret
  refine ⟨w4.heap.size, rfl, Nat.le_trans h1.size (Nat.le_trans h2.size (Nat.le_trans h3.size h4.size)), ⟨?_, ?_, ?_⟩, (((h1.trans h2).trans h3).trans h4).alloc _⟩
  · show (w4.heap.push _)[w4.heap.size]? = _
    simp [Tr.sum, Tr.size]
  · exact (hl.ext (((h1.trans h2).trans h3).trans h4)).ext ((Ext.refl _).alloc _)
  · exact (hr.ext (((h1.trans h2).trans h3).trans h4)).ext ((Ext.refl _).alloc _)

theorem left_ok {w : World} : ∀ {t : Tr}, InH w t → InH w t.left
  | .nil, _ => trivial
  | .node _ _ _ _ _ _, ⟨_, h, _⟩ => h
theorem right_ok {w : World} : ∀ {t : Tr}, InH w t → InH w t.right
  | .nil, _ => trivial
  | .node _ _ _ _ _ _, ⟨_, _, h⟩ => h
end Go.Proofs.YtoiohjifjmejkaaGreat
