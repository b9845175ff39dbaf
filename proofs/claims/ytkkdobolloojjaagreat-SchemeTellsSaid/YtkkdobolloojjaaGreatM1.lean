/- Trees of nodes as they lie in memory: the ghost tree, what the heap holds of it, and that it stays where nothing old is written. What the functions of the package node do, at any tree. What a going over a tree keeps: all cells but those of some blocks of the caller's own. Beads in memory: rows of api.Bead; joineryref09.ends, May, and what a row of beads parses to. A region that draws its order, inside a wide fence: an operation that yields the same value in every world that meets S may be taken first; behind each that is carried out S is shown anew. Trees of beads: what May says of a row; joineryref09.May, Parts; joinerylaw09.Long, Make. Rows of beads that a call owns: append onto them. joineryref09.Of and Node. -/
import Derived.Test.YtkkdobolloojjaaGreatProg
import Derived.WalkKit
import Derived.Lib.Hide
import Derived.Laws.EntriesVeiled
import Derived.RangeFuncNested
import Derived.RangeFuncBound
import Derived.RangeFuncCalls
import Derived.RangeFuncLeaves
import Derived.Shelf.Abstract
import Derived.Shelf.RegionOpen
import Derived.OwnWalkIn
import Derived.TacticsInMore
import Derived.LoopNIn
import Derived.LoopIn
import Derived.Deep.MidRow
import Derived.OrdersIn
import Derived.OrdersHeld
import Derived.Deep.Quiet
import Derived.BigGuardIn
import Derived.BigQuiet
import Derived.BigRegion
import Derived.Maps.AppendAt
import Derived.Deep.Upon
namespace Go.Proofs.YtkkdobolloojjaaGreat
open Go Go.RowKit

/-- a tree of nodes: the block in which the root lies, what is left, key, value, tag, what is right. -/
inductive Tr where
  | nil
  | node (b : Nat) (l : Tr) (k v g : Int) (r : Tr)

namespace Tr
def ptr : Tr → Option Addr
  | nil => none
  | node b _ _ _ _ _ => some ⟨b, 0, none⟩
def size : Tr → Int
  | nil => 0
  | node _ l _ _ _ r => wrap64 (wrap64 (l.size + 1) + r.size)
def sum : Tr → Int
  | nil => 0
  | node _ l _ v _ r => wrap64 (wrap64 (l.sum + v) + r.sum)
def key : Tr → Int
  | nil => 0
  | node _ _ k _ _ _ => k
def val : Tr → Int
  | nil => 0
  | node _ _ _ v _ _ => v
def tag : Tr → Int
  | nil => 0
  | node _ _ _ _ g _ => g
def left : Tr → Tr
  | nil => nil
  | node _ l _ _ _ _ => l
def right : Tr → Tr
  | nil => nil
  | node _ _ _ _ _ r => r
theorem ptr_nil : nil.ptr = none := rfl
theorem ptr_node (b l k v g r) : (node b l k v g r).ptr = some ⟨b, 0, none⟩ := rfl
theorem key_nil : nil.key = 0 := rfl
theorem key_node (b l k v g r) : (node b l k v g r).key = k := rfl
theorem val_nil : nil.val = 0 := rfl
theorem val_node (b l k v g r) : (node b l k v g r).val = v := rfl
theorem tag_nil : nil.tag = 0 := rfl
theorem tag_node (b l k v g r) : (node b l k v g r).tag = g := rfl
theorem size_nil : nil.size = 0 := rfl
theorem sum_nil : nil.sum = 0 := rfl
theorem left_nil : nil.left = nil := rfl
theorem left_node (b l k v g r) : (node b l k v g r).left = l := rfl
theorem right_nil : nil.right = nil := rfl
theorem right_node (b l k v g r) : (node b l k v g r).right = r := rfl
end Tr

/-- a tree's nodes, each ahead of its sides. -/
def Tr.pre : Tr → List Tr
  | .nil => []
  | .node b l k v g r => .node b l k v g r :: (l.pre ++ r.pre)

/-- what the heap holds of a tree. -/
def InH (w : World) : Tr → Prop
  | .nil => True
  | .node b l k v g r => w.heap[b]? = some (.cells #[.int .i64 k, .int .i64 v, .int .i64 (Tr.node b l k v g r).sum, .int .u64 g, .int .i64 (Tr.node b l k v g r).size, .pointer l.ptr, .pointer r.ptr] 104 (0, 0)) ∧ InH w l ∧ InH w r

/-- nothing that was there has turned. -/
def Ext (w w' : World) : Prop := Below w.heap.size w w'
theorem Ext.refl (w : World) : Ext w w := Below.refl _ _
theorem Ext.trans {a b c : World} (h : Ext a b) (k : Ext b c) : Ext a c := Below.trans h (Below.mono k h.size)
theorem Ext.alloc {a b : World} (h : Ext a b) (o : Obj) : Ext a (b.alloc o) := Below.alloc h h.size o
theorem Ext.size {a b : World} (h : Ext a b) : a.heap.size ≤ b.heap.size := Below.size h
theorem Ext.get {a b : World} (h : Ext a b) {i : Nat} {o : Obj} (k : a.heap[i]? = some o) : b.heap[i]? = some o :=
  (Below.block h i (Array.getElem?_eq_some_iff.1 k).1).trans k
theorem InH.ext {a b : World} (h : Ext a b) : ∀ {t : Tr}, InH a t → InH b t
  | .nil, _ => trivial
  | .node _ _ _ _ _ _, ⟨h0, h1, h2⟩ => ⟨h.get h0, InH.ext h h1, InH.ext h h2⟩

theorem alloc_get (w : World) (o : Obj) (i : Nat) : (w.alloc o).heap[i]? = if i = w.heap.size then some o else w.heap[i]? := by
  show (w.heap.push o)[i]? = _
  rw [Array.getElem?_push]
theorem alloc_at (w : World) (o : Obj) (i : Nat) (h : i = w.heap.size) : (w.alloc o).heap[i]? = some o := by rw [alloc_get, if_pos h]
theorem alloc_lt (w : World) (o : Obj) (i : Nat) (h : i < w.heap.size) : (w.alloc o).heap[i]? = w.heap[i]? := by rw [alloc_get, if_neg (by omega)]
/-- it hands back a value, and nothing that was there has turned. -/
def Ret (v : Value) (w : World) (e : Ending) (w' : World) : Prop := e = .returned v ∧ Ext w w'
theorem Ret.mk {v : Value} {w w' : World} (h : Ext w w') : Ret v w (.returned v) w' := ⟨rfl, h⟩
end Go.Proofs.YtkkdobolloojjaaGreat
namespace Go.Proofs.YtkkdobolloojjaaGreat
open Go Go.RowKit
theorem cell_of {w : World} {b : Nat} {c : Array Value} {t : TypeId} {f : Nat × Nat} (h : w.heap[b]? = some (.cells c t f)) (i : Nat) : w.cell? ⟨b, i, none⟩ = c[i]? := by
  simp [World.cell?, h]
theorem frozen_of {w : World} {b : Nat} {c : Array Value} {t : TypeId} (h : w.heap[b]? = some (.cells c t (0, 0))) (i : Nat) : w.frozen? ⟨b, i, none⟩ = false := by
  simp [World.frozen?, h]
theorem lt_of {w : World} {b : Nat} {o : Obj} (h : w.heap[b]? = some o) : b < w.heap.size := (Array.getElem?_eq_some_iff.1 h).1
set_option maxHeartbeats 400000 in
theorem of_nil (w : World) : Calls Tryz.prog 71 #[.pointer none] w (Ret (.agg #[.int .i64 0, .int .i64 0, .int .i64 0, .int .u64 0, .int .i64 0]) w) := by
  go_enter Tryz.func71, Tryz.ntmps71
  go_wp2
  exact bodyPost_ret (v := .agg #[.int .i64 0, .int .i64 0, .int .i64 0, .int .u64 0, .int .i64 0]) (by simp [results, Tryz.results71, go_sem]) rfl (Ret.mk ((Ext.refl w).alloc _))
set_option maxHeartbeats 400000 in
theorem of_node (w : World) (b : Nat) (k v s g z : Int) (p q : Option Addr) (h : w.heap[b]? = some (.cells #[.int .i64 k, .int .i64 v, .int .i64 s, .int .u64 g, .int .i64 z, .pointer p, .pointer q] 104 (0, 0))) :
   Calls Tryz.prog 71 #[.pointer (some ⟨b, 0, none⟩)] w (Ret (.agg #[.int .i64 k, .int .i64 v, .int .i64 s, .int .u64 g, .int .i64 z]) w) := by
  have hlt := lt_of h
  have h0 := cell_of h 0
  have h1 := cell_of h 1
  have h2 := cell_of h 2
  have h3 := cell_of h 3
  have h4 := cell_of h 4
  simp at h0 h1 h2 h3 h4
  clear h
  go_enter Tryz.func71, Tryz.ntmps71
  go_wp2
  exact bodyPost_ret (v := .agg #[.int .i64 k, .int .i64 v, .int .i64 s, .int .u64 g, .int .i64 z]) (by simp [results, Tryz.results71, go_sem]) rfl (Ret.mk ((Ext.refl w).alloc _))
set_option linter.unusedSimpArgs false
set_option maxHeartbeats 400000 in
theorem key_any (w : World) (t : Tr) (ht : InH w t) : Calls Tryz.prog 43 #[.pointer t.ptr] w (Ret (.int .i64 t.key) w) := by
  cases t with
  | nil =>
    simp only [Tr.ptr_nil, Tr.ptr_node, Tr.key_nil, Tr.key_node, Tr.val_nil, Tr.val_node, Tr.tag_nil, Tr.tag_node, Tr.size_nil, Tr.sum_nil, Tr.left_nil, Tr.left_node, Tr.right_nil, Tr.right_node]
    have hfld := fun (a b c d e : Value) (w : World) => (by kernel_rfl : (Instr.field 102 (.agg #[a, b, c, d, e]) 0).run Tryz.prog w = .ok a w)
    go_enter Tryz.func43, Tryz.ntmps43
    go_wp2_with fail
    refine (of_nil _).mono ?_
    rintro e w1 ⟨rfl, h1⟩
    go_wp2
    go_ret
    exact Ret.mk h1
  | node b l k v g r =>
    obtain ⟨h0, -, -⟩ := ht
    simp only [Tr.ptr_nil, Tr.ptr_node, Tr.key_nil, Tr.key_node, Tr.val_nil, Tr.val_node, Tr.tag_nil, Tr.tag_node, Tr.size_nil, Tr.sum_nil, Tr.left_nil, Tr.left_node, Tr.right_nil, Tr.right_node]
    have hfld := fun (a b c d e : Value) (w : World) => (by kernel_rfl : (Instr.field 102 (.agg #[a, b, c, d, e]) 0).run Tryz.prog w = .ok a w)
    go_enter Tryz.func43, Tryz.ntmps43
    go_wp2_with fail
    refine (of_node _ _ _ _ _ _ _ _ _ h0).mono ?_
    rintro e w1 ⟨rfl, h1⟩
    go_wp2
    go_ret
    exact Ret.mk h1

set_option maxHeartbeats 400000 in
theorem val_any (w : World) (t : Tr) (ht : InH w t) : Calls Tryz.prog 54 #[.pointer t.ptr] w (Ret (.int .i64 t.val) w) := by
  cases t with
  | nil =>
    simp only [Tr.ptr_nil, Tr.ptr_node, Tr.key_nil, Tr.key_node, Tr.val_nil, Tr.val_node, Tr.tag_nil, Tr.tag_node, Tr.size_nil, Tr.sum_nil, Tr.left_nil, Tr.left_node, Tr.right_nil, Tr.right_node]
    have hfld := fun (a b c d e : Value) (w : World) => (by kernel_rfl : (Instr.field 102 (.agg #[a, b, c, d, e]) 1).run Tryz.prog w = .ok b w)
    go_enter Tryz.func54, Tryz.ntmps54
    go_wp2_with fail
    refine (of_nil _).mono ?_
    rintro e w1 ⟨rfl, h1⟩
    go_wp2
    go_ret
    exact Ret.mk h1
  | node b l k v g r =>
    obtain ⟨h0, -, -⟩ := ht
    simp only [Tr.ptr_nil, Tr.ptr_node, Tr.key_nil, Tr.key_node, Tr.val_nil, Tr.val_node, Tr.tag_nil, Tr.tag_node, Tr.size_nil, Tr.sum_nil, Tr.left_nil, Tr.left_node, Tr.right_nil, Tr.right_node]
    have hfld := fun (a b c d e : Value) (w : World) => (by kernel_rfl : (Instr.field 102 (.agg #[a, b, c, d, e]) 1).run Tryz.prog w = .ok b w)
    go_enter Tryz.func54, Tryz.ntmps54
    go_wp2_with fail
    refine (of_node _ _ _ _ _ _ _ _ _ h0).mono ?_
    rintro e w1 ⟨rfl, h1⟩
    go_wp2
    go_ret
    exact Ret.mk h1

set_option maxHeartbeats 400000 in
theorem tag_any (w : World) (t : Tr) (ht : InH w t) : Calls Tryz.prog 55 #[.pointer t.ptr] w (Ret (.int .u64 t.tag) w) := by
  cases t with
  | nil =>
    simp only [Tr.ptr_nil, Tr.ptr_node, Tr.key_nil, Tr.key_node, Tr.val_nil, Tr.val_node, Tr.tag_nil, Tr.tag_node, Tr.size_nil, Tr.sum_nil, Tr.left_nil, Tr.left_node, Tr.right_nil, Tr.right_node]
    have hfld := fun (a b c d e : Value) (w : World) => (by kernel_rfl : (Instr.field 102 (.agg #[a, b, c, d, e]) 3).run Tryz.prog w = .ok d w)
    go_enter Tryz.func55, Tryz.ntmps55
    go_wp2_with fail
    refine (of_nil _).mono ?_
    rintro e w1 ⟨rfl, h1⟩
    go_wp2
    go_ret
    exact Ret.mk h1
  | node b l k v g r =>
    obtain ⟨h0, -, -⟩ := ht
    simp only [Tr.ptr_nil, Tr.ptr_node, Tr.key_nil, Tr.key_node, Tr.val_nil, Tr.val_node, Tr.tag_nil, Tr.tag_node, Tr.size_nil, Tr.sum_nil, Tr.left_nil, Tr.left_node, Tr.right_nil, Tr.right_node]
    have hfld := fun (a b c d e : Value) (w : World) => (by kernel_rfl : (Instr.field 102 (.agg #[a, b, c, d, e]) 3).run Tryz.prog w = .ok d w)
    go_enter Tryz.func55, Tryz.ntmps55
    go_wp2_with fail
    refine (of_node _ _ _ _ _ _ _ _ _ h0).mono ?_
    rintro e w1 ⟨rfl, h1⟩
    go_wp2
    go_ret
    exact Ret.mk h1

set_option maxHeartbeats 400000 in
theorem size_any (w : World) (t : Tr) (ht : InH w t) : Calls Tryz.prog 44 #[.pointer t.ptr] w (Ret (.int .i64 t.size) w) := by
  cases t with
  | nil =>
    simp only [Tr.ptr_nil, Tr.ptr_node, Tr.key_nil, Tr.key_node, Tr.val_nil, Tr.val_node, Tr.tag_nil, Tr.tag_node, Tr.size_nil, Tr.sum_nil, Tr.left_nil, Tr.left_node, Tr.right_nil, Tr.right_node]
    have hfld := fun (a b c d e : Value) (w : World) => (by kernel_rfl : (Instr.field 102 (.agg #[a, b, c, d, e]) 4).run Tryz.prog w = .ok e w)
    go_enter Tryz.func44, Tryz.ntmps44
    go_wp2_with fail
    refine (of_nil _).mono ?_
    rintro e w1 ⟨rfl, h1⟩
    go_wp2
    go_ret
    exact Ret.mk h1
  | node b l k v g r =>
    obtain ⟨h0, -, -⟩ := ht
    simp only [Tr.ptr_nil, Tr.ptr_node, Tr.key_nil, Tr.key_node, Tr.val_nil, Tr.val_node, Tr.tag_nil, Tr.tag_node, Tr.size_nil, Tr.sum_nil, Tr.left_nil, Tr.left_node, Tr.right_nil, Tr.right_node]
    have hfld := fun (a b c d e : Value) (w : World) => (by kernel_rfl : (Instr.field 102 (.agg #[a, b, c, d, e]) 4).run Tryz.prog w = .ok e w)
    go_enter Tryz.func44, Tryz.ntmps44
    go_wp2_with fail
    refine (of_node _ _ _ _ _ _ _ _ _ h0).mono ?_
    rintro e w1 ⟨rfl, h1⟩
    go_wp2
    go_ret
    exact Ret.mk h1

set_option maxHeartbeats 400000 in
theorem sum_any (w : World) (t : Tr) (ht : InH w t) : Calls Tryz.prog 72 #[.pointer t.ptr] w (Ret (.int .i64 t.sum) w) := by
  cases t with
  | nil =>
    simp only [Tr.ptr_nil, Tr.ptr_node, Tr.key_nil, Tr.key_node, Tr.val_nil, Tr.val_node, Tr.tag_nil, Tr.tag_node, Tr.size_nil, Tr.sum_nil, Tr.left_nil, Tr.left_node, Tr.right_nil, Tr.right_node]
    have hfld := fun (a b c d e : Value) (w : World) => (by kernel_rfl : (Instr.field 102 (.agg #[a, b, c, d, e]) 2).run Tryz.prog w = .ok c w)
    go_enter Tryz.func72, Tryz.ntmps72
    go_wp2_with fail
    refine (of_nil _).mono ?_
    rintro e w1 ⟨rfl, h1⟩
    go_wp2
    go_ret
    exact Ret.mk h1
  | node b l k v g r =>
    obtain ⟨h0, -, -⟩ := ht
    simp only [Tr.ptr_nil, Tr.ptr_node, Tr.key_nil, Tr.key_node, Tr.val_nil, Tr.val_node, Tr.tag_nil, Tr.tag_node, Tr.size_nil, Tr.sum_nil, Tr.left_nil, Tr.left_node, Tr.right_nil, Tr.right_node]
    have hfld := fun (a b c d e : Value) (w : World) => (by kernel_rfl : (Instr.field 102 (.agg #[a, b, c, d, e]) 2).run Tryz.prog w = .ok c w)
    go_enter Tryz.func72, Tryz.ntmps72
    go_wp2_with fail
    refine (of_node _ _ _ _ _ _ _ _ _ h0).mono ?_
    rintro e w1 ⟨rfl, h1⟩
    go_wp2
    go_ret
    exact Ret.mk h1

set_option maxHeartbeats 400000 in
theorem left_any (w : World) (t : Tr) (ht : InH w t) : Calls Tryz.prog 19 #[.pointer t.ptr] w (Ret (.pointer t.left.ptr) w) := by
  cases t with
  | nil =>
    simp only [Tr.ptr_nil, Tr.ptr_node, Tr.key_nil, Tr.key_node, Tr.val_nil, Tr.val_node, Tr.tag_nil, Tr.tag_node, Tr.size_nil, Tr.sum_nil, Tr.left_nil, Tr.left_node, Tr.right_nil, Tr.right_node]
    go_enter Tryz.func19, Tryz.ntmps19
    go_wp2
    go_ret
    exact Ret.mk (Ext.refl _)
  | node b l k v g r =>
    obtain ⟨h0, -, -⟩ := ht
    simp only [Tr.ptr_nil, Tr.ptr_node, Tr.key_nil, Tr.key_node, Tr.val_nil, Tr.val_node, Tr.tag_nil, Tr.tag_node, Tr.size_nil, Tr.sum_nil, Tr.left_nil, Tr.left_node, Tr.right_nil, Tr.right_node]
    have hc := cell_of h0 5
    simp at hc
    clear h0
    go_enter Tryz.func19, Tryz.ntmps19
    go_wp2
    go_ret
    exact Ret.mk (Ext.refl _)

set_option maxHeartbeats 400000 in
theorem right_any (w : World) (t : Tr) (ht : InH w t) : Calls Tryz.prog 20 #[.pointer t.ptr] w (Ret (.pointer t.right.ptr) w) := by
  cases t with
  | nil =>
    simp only [Tr.ptr_nil, Tr.ptr_node, Tr.key_nil, Tr.key_node, Tr.val_nil, Tr.val_node, Tr.tag_nil, Tr.tag_node, Tr.size_nil, Tr.sum_nil, Tr.left_nil, Tr.left_node, Tr.right_nil, Tr.right_node]
    go_enter Tryz.func20, Tryz.ntmps20
    go_wp2
    go_ret
    exact Ret.mk (Ext.refl _)
  | node b l k v g r =>
    obtain ⟨h0, -, -⟩ := ht
    simp only [Tr.ptr_nil, Tr.ptr_node, Tr.key_nil, Tr.key_node, Tr.val_nil, Tr.val_node, Tr.tag_nil, Tr.tag_node, Tr.size_nil, Tr.sum_nil, Tr.left_nil, Tr.left_node, Tr.right_nil, Tr.right_node]
    have hc := cell_of h0 6
    simp at hc
    clear h0
    go_enter Tryz.func20, Tryz.ntmps20
    go_wp2
    go_ret
    exact Ret.mk (Ext.refl _)

/-- a new node: it stands in a block of its own. -/
def New (l : Tr) (k v g : Int) (r : Tr) (w : World) (e : Ending) (w' : World) : Prop :=
  ∃ b, e = .returned (.pointer (Tr.node b l k v g r).ptr) ∧ w.heap.size ≤ b ∧ InH w' (.node b l k v g r) ∧ Ext w w'
set_option maxHeartbeats 400000 in
theorem new_any (w : World) (l r : Tr) (k v g : Int) (hl : InH w l) (hr : InH w r) : Calls Tryz.prog 52 #[.pointer l.ptr, .int .i64 k, .int .i64 v, .int .u64 g, .pointer r.ptr] w (New l k v g r w) := by
  go_enter Tryz.func52, Tryz.ntmps52
  go_wp2_with fail
  refine (size_any _ l hl).mono ?_
  rintro e w1 ⟨rfl, h1⟩
  go_wp2_with fail
  refine (size_any _ r (hr.ext h1)).mono ?_
  rintro e w2 ⟨rfl, h2⟩
  go_wp2_with fail
  refine (sum_any _ l (hl.ext (h1.trans h2))).mono ?_
  rintro e w3 ⟨rfl, h3⟩
  go_wp2_with fail
  refine (sum_any _ r (hr.ext ((h1.trans h2).trans h3))).mono ?_
  rintro e w4 ⟨rfl, h4⟩
  go_wp2
  go_ret
  refine ⟨w4.heap.size, rfl, Nat.le_trans h1.size (Nat.le_trans h2.size (Nat.le_trans h3.size h4.size)), ⟨?_, ?_, ?_⟩, (((h1.trans h2).trans h3).trans h4).alloc _⟩
  · show (w4.heap.push _)[w4.heap.size]? = _
    simp [Tr.sum, Tr.size]
  · exact (hl.ext (((h1.trans h2).trans h3).trans h4)).ext ((Ext.refl _).alloc _)
  · exact (hr.ext (((h1.trans h2).trans h3).trans h4)).ext ((Ext.refl _).alloc _)

theorem left_ok {w : World} : ∀ {t : Tr}, InH w t → InH w t.left
  | .nil, _ => trivial
  | .node _ _ _ _ _ _, ⟨_, h, _⟩ => h
theorem right_ok {w : World} : ∀ {t : Tr}, InH w t → InH w t.right
  | .nil, _ => trivial
  | .node _ _ _ _ _ _, ⟨_, _, h⟩ => h
end Go.Proofs.YtkkdobolloojjaaGreat
namespace Go.Proofs.YtkkdobolloojjaaGreat
open Go Go.RowKit Go.Shelf

theorem ret_int {k : IntKind} {a b : Int} (h : a = b) : Ending.returned (.int k a) = .returned (.int k b) := by rw [h]
theorem ret_bool {a b : Bool} (h : a = b) : Ending.returned (.bool a) = .returned (.bool b) := by rw [h]
theorem ret_two {k l : IntKind} {a b c d : Int} (h : a = c) (h' : b = d) : Ending.returned (.tuple #[.int k a, .int l b]) = .returned (.tuple #[.int k c, .int l d]) := by rw [h, h']
/-- all cells stay, but those of the blocks in M; and so do the streams. -/
structure Keep (M : Nat → Prop) (w w' : World) : Prop where
  os : w'.os = w.os
  tape : w'.tape = w.tape
  output : w'.output = w.output
  size : w.heap.size ≤ w'.heap.size
  cells : ∀ (i : Nat) (c : Array Value) (t : TypeId) (f : Nat × Nat), ¬ M i → w.heap[i]? = some (.cells c t f) → w'.heap[i]? = some (.cells c t f)
theorem Keep.refl (M : Nat → Prop) (w : World) : Keep M w w := ⟨rfl, rfl, rfl, Nat.le_refl _, fun _ _ _ _ _ h => h⟩
theorem Keep.trans {M : Nat → Prop} {a b c : World} (h : Keep M a b) (k : Keep M b c) : Keep M a c :=
  ⟨k.os.trans h.os, k.tape.trans h.tape, k.output.trans h.output, Nat.le_trans h.size k.size, fun i x t f hi hx => k.cells i x t f hi (h.cells i x t f hi hx)⟩
theorem Keep.ext {M : Nat → Prop} {a b : World} (h : Ext a b) : Keep M a b := ⟨h.os, h.tape, h.output, Below.size h, fun _ _ _ _ _ hx => Ext.get h hx⟩
theorem Keep.putObj {M : Nat → Prop} (W : World) (l : Nat) (o o' : Obj) (h : W.heap[l]? = some o) (ho : o.isCells = false) : Keep M W (W.putObj l o') :=
  ⟨rfl, rfl, rfl, (grownBy_putObj' W l o').size, fun i c t f _ hx => by
    rw [World.putObj_heap_other (fun e => by subst e; rw [h] at hx; cases hx; cases ho)]; exact hx⟩
theorem Keep.setCell {M : Nat → Prop} (W : World) (p : Addr) (v : Value) (h : M p.block) : Keep M W (W.setCell p v) :=
  ⟨rfl, rfl, rfl, (KeepsWalks.setCell W _ v).size, fun i c t f hi hx => by
    rw [Below.heap_setCell _ _ _ i (fun e => hi (e ▸ h))]; exact hx⟩
theorem Keep.alloc {M : Nat → Prop} (W : World) (o : Obj) : Keep M W (W.alloc o) := Keep.ext ((Ext.refl W).alloc o)
theorem Keep.drew {M : Nat → Prop} (W : World) : Keep M W W.drew := ⟨rfl, rfl, rfl, Nat.le_refl _, fun _ _ _ _ _ hx => hx⟩
theorem Keep.boxed {M : Nat → Prop} {a b : World} (h : Keep M a b) {B : Nat} {t : TypeId} {v : Value} (hB : ¬ M B) (k : Boxed a B t v) : Boxed b B t v := h.cells _ _ _ _ hB k

/-- none of the tree's nodes lies in M. -/
def Off (M : Nat → Prop) : Tr → Prop
  | .nil => True
  | .node b l _ _ _ r => ¬ M b ∧ Off M l ∧ Off M r
theorem InH.keep {M : Nat → Prop} {a b : World} (h : Keep M a b) : ∀ {t : Tr}, Off M t → InH a t → InH b t
  | .nil, _, _ => trivial
  | .node _ _ _ _ _ _, ⟨o0, o1, o2⟩, ⟨h0, h1, h2⟩ => ⟨h.cells _ _ _ _ o0 h0, InH.keep h o1 h1, InH.keep h o2 h2⟩
/-- what lies in the heap lies off whatever lies beyond it. -/
theorem InH.off {w : World} {M : Nat → Prop} (hM : ∀ i, M i → w.heap.size ≤ i) : ∀ {t : Tr}, InH w t → Off M t
  | .nil, _ => trivial
  | .node b _ _ _ _ _, ⟨h0, h1, h2⟩ => ⟨fun hb => by have := hM b hb; have := lt_of h0; omega, InH.off hM h1, InH.off hM h2⟩
theorem keepK_b {M : Nat → Prop} {w : World} (W : World) (l : Nat) (o o' : Obj) (_ : w.heap.size ≤ l) (h : W.heap[l]? = some o) (ho : o.isCells = false) (_ : o.isWalk = false) : Keep M W (W.putObj l o') := Keep.putObj W l o o' h ho

theorem wide_room (k : Nat) : (Fence.wide.depth.isSome = true → 1 ≤ k) := fun h => by cases h
theorem RoundIn.any {m m' : Nat} {P : Program} {l : Nat} {f : FuncId} {tmps : Array Value} {assign body : Code} {w : World} {R : Ending → World → Prop}
    (h : RoundIn Fence.wide m P l f tmps assign body w R) : RoundIn Fence.wide m' P l f tmps assign body w R := ⟨h.1, fun c cs _ => h.2 c cs (fun d h => by cases h)⟩
theorem YieldAt.any {m : Nat} (m' : Nat) {P : Program} {l : Nat} {args : Array Value} {W : World} {R : Ending → World → Prop} (h : YieldAt Fence.wide m P l args W R) : YieldAt Fence.wide m' P l args W R := by
  obtain ⟨fn, tmps, assign, body, hy, hR⟩ := h
  exact ⟨fn, tmps, assign, body, hy, RoundIn.any hR⟩
theorem CallsIn.any {m : Nat} (m' : Nat) {P : Program} {f : FuncId} {args : Array Value} {w : World} {R : Ending → World → Prop} (h : CallsIn Fence.wide m P f args w R) : CallsIn Fence.wide m' P f args w R :=
  callsIn_wide.2 (callsIn_wide.1 h)
/-- what the law on ranges over functions does besides turns no cells. -/
theorem boxed_grown {W W' : World} {row : Option Nat} {B C : Nat} {t : TypeId} {v : Value} (h : Boxed W B t v) (hg : W.grownBy W' row) (hr : ∀ r, row = some r → C ≤ r ∧ ∃ o : Obj, W.heap[r]? = some o ∧ o.isCells = false) : Boxed W' B t v :=
  h.kept hg (fun e => by obtain ⟨_, o, ho, hc⟩ := hr B e.symm; rw [show W.heap[B]? = _ from h] at ho; cases ho; cases hc)
theorem keep_grown {M : Nat → Prop} {W0 W W' : World} {row : Option Nat} {C : Nat} (h : Keep M W0 W) (hg : W.grownBy W' row) (hr : ∀ r, row = some r → C ≤ r ∧ ∃ o : Obj, W.heap[r]? = some o ∧ o.isCells = false) : Keep M W0 W' :=
  h.trans ⟨hg.os, hg.tape, hg.output, hg.size, fun i c t f _ hx => by
    rw [hg.block i (Array.getElem?_eq_some_iff.1 hx).1 (fun e => by obtain ⟨_, o, ho, hc⟩ := hr i e.symm; rw [hx] at ho; cases ho; cases hc)]; exact hx⟩
theorem below_grown {n₀ C : Nat} {w₀ W W' : World} {row : Option Nat} (hn : n₀ ≤ w₀.heap.size) (hC : n₀ ≤ C) (h : Below n₀ w₀ W) (hg : W.grownBy W' row) (hr : ∀ r, row = some r → C ≤ r ∧ ∃ o : Obj, W.heap[r]? = some o ∧ o.isCells = false) : Below n₀ w₀ W' :=
  h.grown hg (Nat.le_trans hn h.size) (fun k e => Nat.le_trans hC (hr k e).1)
theorem keepsFrom_ext {B : Nat} {a b : World} (h : Ext a b) : KeepsFrom B a b := ⟨Below.size h, fun _ _ _ hk _ => Ext.get h hk⟩
theorem keepsFrom_set {B : Nat} (W : World) (p : Addr) (v : Value) : KeepsFrom B W (W.setCell p v) := (KeepsOthers.setCell W p v).from B
/-- a function's end, whose two results lie in boxes of its own that have been written once more, behind a range over a function. -/
theorem two_end {w W0 W : World} {N D : Nat} {t u : TypeId} {a b : Value} (hN : w.heap.size = N) (hE : Ext w W0) (hb : Below N W0 W) (hD : W0.heap.size ≤ D) (hK : W.heap[D]? = some (.deferred (some []))) (h1 : Boxed W N t a) (h2 : Boxed W (N + 1) u b) (hs : N + 2 ≤ W0.heap.size) :
    (((W.setCell ⟨N, 0, none⟩ a).setCell ⟨N + 1, 0, none⟩ b).drew).heap[D]? = some (.deferred (some [])) ∧
    ((((W.setCell ⟨N, 0, none⟩ a).setCell ⟨N + 1, 0, none⟩ b).drew).putObj D (.deferred none)).cell? ⟨N, 0, none⟩ = some a ∧
    ((((W.setCell ⟨N, 0, none⟩ a).setCell ⟨N + 1, 0, none⟩ b).drew).putObj D (.deferred none)).cell? ⟨N + 1, 0, none⟩ = some b ∧
    Ext w ((((W.setCell ⟨N, 0, none⟩ a).setCell ⟨N + 1, 0, none⟩ b).drew).putObj D (.deferred none)) := by
  have hk : (((W.setCell ⟨N, 0, none⟩ a).setCell ⟨N + 1, 0, none⟩ b).drew).heap[D]? = some (.deferred (some [])) := ((KeepsOthers.setCell _ _ _).trans (KeepsOthers.setCell _ _ _)).same D _ hK rfl
  have e1 : Boxed (((W.setCell ⟨N, 0, none⟩ a).setCell ⟨N + 1, 0, none⟩ b).drew) N t a := Boxed.other (h1.set a) (by omega) b
  have e2 : Boxed (((W.setCell ⟨N, 0, none⟩ a).setCell ⟨N + 1, 0, none⟩ b).drew) (N + 1) u b := Boxed.set b (h2.other (by omega) a)
  refine ⟨hk, (Boxed.kept e1 (grownBy_putObj' _ D _) (by simp; omega)).cell, (Boxed.kept e2 (grownBy_putObj' _ D _) (by simp; omega)).cell, ?_⟩
  have hB : Below N w W0 := by have := hE; unfold Ext at this; rwa [hN] at this
  have hB2 := ((((hB.trans hb).setCell (p := ⟨N, 0, none⟩) (Nat.le_refl N) a).setCell (p := ⟨N + 1, 0, none⟩) (Nat.le_succ N) b).drew)
  have := hB2.trans (belowK_b (w := W0) (n₀ := N) (by omega) _ D _ (.deferred none) hD hk rfl rfl)
  unfold Ext
  rwa [hN]
/-- a scope through which the run goes without a jump to its labels. -/
theorem wpIn_scope_wide {n : Nat} {P : Program} {c : Code} {Q : Exit → Act → World → Prop} {a : Act} {w : World} (h : c.wpIn Fence.wide n P (Exit.noGoto Q) a w) : (Code.scope c).wpIn Fence.wide n P Q a w :=
  wpIn_wide.2 (wp_scope_straight (wpIn_wide.1 h))
end Go.Proofs.YtkkdobolloojjaaGreat
namespace Go.Proofs.YtkkdobolloojjaaGreat
open Go Go.RowKit

/-- a bead's seven cells, in Go's order. -/
structure BeadL where
  (key val sum size tag : Int) (left right : Bool)
def BeadL.cells (b : BeadL) : List Value := [.int .i64 b.key, .int .i64 b.val, .int .i64 b.sum, .int .i64 b.size, .int .u64 b.tag, .bool b.left, .bool b.right]
/-- a row's cells. -/
def beadCells (zs : List BeadL) : List Value := zs.flatMap BeadL.cells
theorem beadCells_len : ∀ zs : List BeadL, (beadCells zs).length = zs.length * 7
  | [] => rfl
  | z :: zs => by
    have := beadCells_len zs
    rw [beadCells] at this ⊢
    rw [List.flatMap_cons, List.length_append, this, List.length_cons]
    show 7 + _ = _
    omega
theorem beadCells_at : ∀ (zs : List BeadL) (i : Nat) (z : BeadL) (j : Nat), zs[i]? = some z → j < 7 → (beadCells zs)[i * 7 + j]? = z.cells[j]?
  | [], i, z, j, h, _ => by simp at h
  | y :: zs, 0, z, j, h, hj => by
    obtain rfl : y = z := by simpa using h
    rw [beadCells, List.flatMap_cons, List.getElem?_append_left (show 0 * 7 + j < 7 by omega), Nat.zero_mul, Nat.zero_add]
  | y :: zs, i + 1, z, j, h, hj => by
    have ih := beadCells_at zs i z j (by simpa using h) hj
    rw [beadCells] at ih ⊢
    rw [List.flatMap_cons, List.getElem?_append_right (show 7 ≤ (i + 1) * 7 + j by omega), show (i + 1) * 7 + j - y.cells.length = i * 7 + j from by show _ - 7 = _; omega, ih]
/-- a row of beads: empty, whatever its address; or laid at an address. -/
def Beads (w : World) (v : Value) (zs : List BeadL) : Prop :=
  (zs = [] ∧ ∃ a c, v = .slice a 0 c) ∨ ∃ b o c, v = .slice (some ⟨b, o, none⟩) zs.length c ∧ zs ≠ [] ∧ zs.length ≤ c ∧ w.rangeAt b o (beadCells zs)
theorem rangeAt_cell {w : World} {b o : Nat} {zs : List BeadL} (h : w.rangeAt b o (beadCells zs)) {i : Nat} {z : BeadL} (hi : zs[i]? = some z) {j : Nat} {u : Value} (hj : z.cells[j]? = some u) : w.cell? ⟨b, o + i * 7 + j, none⟩ = some u := by
  have hlt : j < 7 := (List.getElem?_eq_some_iff.1 hj).1
  rw [Nat.add_assoc]
  exact h (i * 7 + j) u (by rw [beadCells_at zs i z j hi hlt, hj])
theorem cell_lt {w : World} {a : Addr} {v : Value} (h : w.cell? a = some v) : a.block < w.heap.size := by
  rcases Nat.lt_or_ge a.block w.heap.size with hl | hl
  · exact hl
  · simp [World.cell?, Array.getElem?_eq_none hl] at h
theorem rangeAt_ext {w w' : World} {b o : Nat} {cs : List Value} (h : w.rangeAt b o cs) (e : Ext w w') : w'.rangeAt b o cs := by
  intro j v hj
  have hc := h j v hj
  rw [e.cell (cell_lt hc)]; exact hc
theorem Beads.ext {w w' : World} {v : Value} {zs : List BeadL} (h : Beads w v zs) (e : Ext w w') : Beads w' v zs := by
  rcases h with h | ⟨b, o, c, rfl, h1, h2, h3⟩
  · exact .inl h
  · exact .inr ⟨b, o, c, rfl, h1, h2, rangeAt_ext h3 e⟩

/-- its numbers fit their kinds. -/
def BeadL.wf (b : BeadL) : Prop := (Lit.int .i64 b.key).wf = true ∧ (Lit.int .i64 b.val).wf = true ∧ (Lit.int .i64 b.sum).wf = true ∧ (Lit.int .i64 b.size).wf = true ∧ (Lit.int .u64 b.tag).wf = true
/-- a row of beads that came in. -/
def IsBeads (w : World) (v : Value) (zs : List BeadL) : Prop := Beads w v zs ∧ ∀ z ∈ zs, z.wf
/-- how many beads the tree has that begins a row. -/
def endsL : Nat → List BeadL → Option Nat
  | 0, _ => none
  | _ + 1, [] => none
  | f + 1, b :: r =>
    match (if b.left then endsL f r else some 0) with
    | none => none
    | some k =>
      match (if b.right then endsL f (r.drop k) else some 0) with
      | none => none
      | some m => some (1 + k + m)
theorem endsL_le : ∀ (f : Nat) (l : List BeadL) (k : Nat), endsL f l = some k → 1 ≤ k ∧ k ≤ l.length
  | 0, l, k, h => by simp [endsL] at h
  | f + 1, [], k, h => by simp [endsL] at h
  | f + 1, b :: r, k, h => by
    unfold endsL at h
    split at h
    · cases h
    · rename_i n hn
      split at h
      · cases h
      · rename_i m hm
        obtain rfl : 1 + n + m = k := by simpa using h
        have h1 : n ≤ r.length := by
          split at hn
          · exact (endsL_le f r n hn).2
          · simp at hn; omega
        have h2 : m ≤ (r.drop n).length := by
          split at hm
          · exact (endsL_le f _ m hm).2
          · simp at hm; omega
        rw [List.length_drop] at h2
        simp only [List.length_cons]
        omega
/-- the answer of 'ends'. -/
def endsV (o : Option Nat) : Int := match o with | none => -1 | some k => k

set_option maxHeartbeats 400000 in
theorem ends_any (b o c : Nat) (zs : List BeadL) : ∀ (f at_ deep : Nat) (w : World), w.rangeAt b o (beadCells zs) → zs.length ≤ 2000 → zs.length - at_ ≤ f → deep + f ≤ 2500 → 
    Calls Tryz.prog 76 #[.slice (some ⟨b, o, none⟩) zs.length c, .int .i64 at_, .int .i64 deep] w (Ret (.int .i64 (endsV (endsL f (zs.drop at_)))) w) := by
  intro f
  induction f with
  | zero =>
    intro at_ deep w hr hl hf hd
    have h1 : (zs.length : Int) ≤ at_ := by omega
    rw [show endsL 0 (zs.drop at_) = none from rfl]
    clear hr
    go_enter Tryz.func76, Tryz.ntmps76
    go_wp2
    go_ret
    exact Ret.mk (Ext.refl _)
  | succ f ih =>
    intro at_ deep w hr hl hf hd
    by_cases h1 : zs.length ≤ at_
    · rw [List.drop_eq_nil_of_le h1, show endsL (f + 1) [] = none from rfl]
      clear hr ih
      go_enter Tryz.func76, Tryz.ntmps76
      go_wp2
      go_ret
      exact Ret.mk (Ext.refl _)
    · have h1 : at_ < zs.length := by omega
      have hdrop : zs.drop at_ = zs[at_] :: zs.drop (at_ + 1) := List.drop_eq_getElem_cons h1
      have hz : zs[at_]? = some zs[at_] := List.getElem?_eq_getElem h1
      generalize zs[at_] = z at hdrop hz
      have hcl := rangeAt_cell hr hz (j := 5) rfl
      have hcr := rangeAt_cell hr hz (j := 6) rfl
      obtain ⟨zk, zv, zs_, zn, zg, zl, zr⟩ := z
      have hlen : (zs.drop (at_ + 1)).length = zs.length - (at_ + 1) := List.length_drop
      have R := Lib.hid hr
      have IH := Lib.hid ih
      obtain ⟨T, hT⟩ : ∃ T, T = endsV (endsL (f + 1) (zs.drop at_)) := ⟨_, rfl⟩
      rw [← hT]
      rw [hdrop] at hT
      have HT := Lib.hid hT
      clear hr ih hdrop hz hT
      cases zl with
      | false =>
        cases zr with
        | false =>
          go_enter Tryz.func76, Tryz.ntmps76
          go_wp2
          go_ret
          exact ⟨ret_int (by rw [HT.out]; rfl), Ext.refl _⟩
        | true =>
          go_enter Tryz.func76, Tryz.ntmps76
          go_wp2_with fail
          rw [show (at_ : Int) + 1 = ((at_ + 1 : Nat) : Int) by omega, show (deep : Int) + 1 = ((deep + 1 : Nat) : Int) by omega]
          refine (IH.out (at_ + 1) (deep + 1) w R.out hl (by omega) (by omega)).mono ?_
          cases hm : endsL f (zs.drop (at_ + 1)) with
          | none =>
            have HM := Lib.hid hm
            clear hm
            rintro e w1 ⟨rfl, h1⟩
            rw [show endsV none = -1 from rfl]
            go_wp2
            go_ret
            exact ⟨ret_int (by rw [HT.out]; simp [endsL, HM.out, endsV]), h1⟩
          | some m =>
            have HM := Lib.hid hm
            have hle := (endsL_le _ _ _ hm).2
            clear hm
            rintro e w1 ⟨rfl, h1⟩
            rw [show endsV (some m) = m from rfl]
            go_wp2
            go_ret
            exact ⟨ret_int (by rw [HT.out]; simp [endsL, HM.out, endsV]), h1⟩
      | true =>
        go_enter Tryz.func76, Tryz.ntmps76
        go_wp2_with fail
        rw [show (at_ : Int) + 1 = ((at_ + 1 : Nat) : Int) by omega, show (deep : Int) + 1 = ((deep + 1 : Nat) : Int) by omega]
        refine (IH.out (at_ + 1) (deep + 1) w R.out hl (by omega) (by omega)).mono ?_
        cases hk : endsL f (zs.drop (at_ + 1)) with
        | none =>
          have HK := Lib.hid hk
          clear hk
          rintro e w1 ⟨rfl, h1⟩
          rw [show endsV none = -1 from rfl]
          go_wp2
          go_ret
          exact ⟨ret_int (by rw [HT.out]; simp [endsL, HK.out, endsV]), h1⟩
        | some k =>
          have HK := Lib.hid hk
          have hle := (endsL_le _ _ _ hk)
          clear hk
          rintro e w1 ⟨rfl, h1⟩
          rw [show endsV (some k) = k from rfl]
          have hcr1 : w1.cell? ⟨b, o + at_ * 7 + 6, none⟩ = some (.bool zr) := by rw [h1.cell (cell_lt hcr)]; exact hcr
          clear hcl hcr
          cases zr with
          | false =>
            go_wp2
            go_ret
            exact ⟨ret_int (by rw [HT.out]; simp [endsL, HK.out, endsV]), h1⟩
          | true =>
            go_wp2_with fail
            rw [show (at_ : Int) + (1 + (k : Int)) = ((at_ + 1 + k : Nat) : Int) by omega, show (deep : Int) + 1 = ((deep + 1 : Nat) : Int) by omega]
            refine (IH.out (at_ + 1 + k) (deep + 1) w1 (rangeAt_ext R.out h1) hl (by omega) (by omega)).mono ?_
            have hlen2 : (zs.drop (at_ + 1 + k)).length = zs.length - (at_ + 1 + k) := List.length_drop
            have e2 : (zs.drop (at_ + 1)).drop k = zs.drop (at_ + 1 + k) := by rw [List.drop_drop]
            cases hm : endsL f (zs.drop (at_ + 1 + k)) with
            | none =>
              have HM := Lib.hid hm
              have E2 := Lib.hid e2
              clear hm e2
              rintro e w2 ⟨rfl, h2⟩
              rw [show endsV none = -1 from rfl]
              go_wp2
              go_ret
              exact ⟨ret_int (by rw [HT.out]; simp [endsL, HK.out, E2.out, HM.out, endsV]), h1.trans h2⟩
            | some m =>
              have HM := Lib.hid hm
              have E2 := Lib.hid e2
              have hle := (endsL_le _ _ _ hm).2
              clear hm e2
              rintro e w2 ⟨rfl, h2⟩
              rw [show endsV (some m) = m from rfl]
              go_wp2
              go_ret
              exact ⟨ret_int (by rw [HT.out]; simp [endsL, HK.out, E2.out, HM.out, endsV]), h1.trans h2⟩
end Go.Proofs.YtkkdobolloojjaaGreat
namespace Go.Proofs.YtkkdobolloojjaaGreat
open Go

section
variable {F : Fence} {n : Nat} {P : Program} {ops : Array Oper} {Q : Exit → Act → World → Prop} {md : Region.Mode} {X : Nat → Bool}

/-- no operation of the region defers. -/
def noDefer (ops : Array Oper) : Bool := ops.all fun o => match o.op with | .defer _ => false | _ => true
theorem noDefer_spec (h : noDefer ops = true) {j : Nat} {o : Oper} (ho : ops[j]? = some o) (c : Call) : o.op ≠ .defer c := by
  intro heq
  have := Array.all_eq_true_iff_forall_mem.1 h o (Array.mem_of_getElem? ho)
  simp [heq] at this

/-- which operations have to come up ahead of which ones (bits), and that this is so. -/
def maskOk (md : Region.Mode) (ops : Array Oper) (B : Array Nat) : Bool :=
  (List.range ops.size).all fun j => (List.range ops.size).all fun i => !(B.getD j 0).testBit i || match ops[j]? with
    | some o => o.after.any fun e => Region.binds md e && (e.on == i || (decide (e.on < j) && (B.getD e.on 0).testBit i))
    | none => false
def Closed (md : Region.Mode) (ops : Array Oper) (listed : Array Bool) : Prop :=
  ∀ k o, ops[k]? = some o → listed.getD k false = true → ∀ e ∈ o.after, Region.binds md e = true → listed.getD e.on false = true
theorem mask_listed {B : Array Nat} (hB : maskOk md ops B = true) {listed : Array Bool} (hc : Closed md ops listed) {i : Nat} (hi : i < ops.size) :
    ∀ (j : Nat) (o : Oper), ops[j]? = some o → (∀ e ∈ o.after, Region.binds md e = true → listed.getD e.on false = true) → (B.getD j 0).testBit i = true → listed.getD i false = true := by
  intro j
  induction j using Nat.strongRecOn with
  | ind j ih =>
    intro o ho ha hb
    have h1 := List.all_eq_true.1 (List.all_eq_true.1 hB j (List.mem_range.2 (Array.getElem?_eq_some_iff.1 ho).1)) i (List.mem_range.2 hi)
    simp only [hb, Bool.not_true, Bool.false_or, ho] at h1
    obtain ⟨e, he, h2⟩ := Array.any_eq_true'.1 h1
    simp only [Bool.and_eq_true, Bool.or_eq_true, beq_iff_eq, decide_eq_true_eq] at h2
    obtain ⟨hbd, h3⟩ := h2
    have hl := ha e he hbd
    rcases h3 with h3 | ⟨h3, h4⟩
    · rw [← h3]; exact hl
    · have hlt : e.on < ops.size := by have := (Array.getElem?_eq_some_iff.1 ho).1; omega
      exact ih e.on h3 ops[e.on] (Array.getElem?_eq_getElem hlt) (fun e' he' hb' => hc e.on ops[e.on] (Array.getElem?_eq_getElem hlt) hl e' he' hb') h4
theorem Closed.empty : Closed md ops (Array.replicate ops.size false) := fun k o ho h => by
  have := (Array.getElem?_eq_some_iff.1 ho).1
  simp [this] at h
theorem Closed.set {listed : Array Bool} (hc : Closed md ops listed) {j : Nat} (hr : j ∈ Region.ready md ops listed) : Closed md ops (listed.setIfInBounds j true) := fun k o ho h e he hb => by
  by_cases hk : k = j
  · subst hk
    obtain ⟨_, o', ho', hall⟩ := mem_ready.1 hr
    rw [ho] at ho'; cases ho'
    exact getD_set_true (hall e he hb)
  · rw [getD_set_ne false (Ne.symm hk)] at h
    exact getD_set_true (hc k o ho h e he hb)

/-- whatever order is picked; behind an operation of X nothing that was there has turned. -/
def wpAnyG (F : Fence) (n : Nat) (P : Program) (md : Region.Mode) (ops : Array Oper) (Q : Exit → Act → World → Prop) (X : Nat → Bool) : Nat → Array Bool → Act → World → Prop
  | 0, listed, a, w => Region.ready md ops listed = [] ∧ Q .normal a w
  | fuel + 1, listed, a, w =>
    (Region.ready md ops listed = [] → Q .normal a w) ∧
    ∀ i ∈ Region.ready md ops listed, wpOpIn F n P ops Q i (fun a' w' => (X i = true → Ext w w') ∧ wpAnyG F n P md ops Q X fuel (listed.setIfInBounds i true) a' w') a w

theorem wpAnyIn_of_G : ∀ (fuel : Nat) (listed : Array Bool) (a : Act) (w : World), wpAnyG F n P md ops Q X fuel listed a w → wpAnyIn F n P md ops Q fuel listed a w
  | 0, _, _, _, h => h
  | fuel + 1, _, _, _, h => ⟨h.1, fun i hi => wpOpIn_mono (fun a' w' h' => wpAnyIn_of_G fuel _ a' w' h'.2) (h.2 i hi)⟩

theorem YieldsIf.weaken {S S' : World → Prop} {o : Oper} {v : Value} {a : Act} (h : YieldsIf P ops S o v a) (hs : ∀ W, S' W → S W) : YieldsIf P ops S' o v a :=
  h.imp (fun ⟨hw, hv⟩ => ⟨hw, fun w hw' => hv w (hs w hw')⟩) id

theorem YieldsIf.wpOpIn' {S : World → Prop} {i : Nat} {o : Oper} {v : Value} {a : Act} (hf : ∀ f, F.fn f) (hnd : ∀ c, o.op ≠ .defer c) (hi : ops[i]? = some o) (hy : YieldsIf P ops S o v a)
    {K : Act → World → Prop} {w : World} (hS : S w) (h : K (a.put o.dst v) w) : wpOpIn F n P ops Q i K a w := by
  unfold Go.wpOpIn
  simp only [hi]
  rcases hy with ⟨hw, hv⟩ | ⟨hw, rfl⟩
  · simp only [hw, if_true, Oper.wpIn, Oper.semAt_eq _ _ _ hnd, hv w hS, Oper.uponIn]; exact ⟨fun f _ => hf f, h⟩
  · simp only [hw, Bool.false_eq_true, if_false]; exact ⟨fun f _ => hf f, h⟩

theorem wpOpIn_putD {S : World → Prop} {j : Nat} {oi oj : Oper} {v : Value} (hnd : ∀ c, oj.op ≠ .defer c) (hj : ops[j]? = some oj) (hap : oi.apart ops oj = true)
    (hsi : ∀ cs b, oi.op ≠ .select cs b) (hsj : ∀ cs b, oj.op ≠ .select cs b)
    (hQ : ∀ c a w, ¬ Q (.panic c) a w) {K : Act → World → Prop} {a : Act} {w : World}
    (hy : YieldsIf P ops S oi v a) (h : wpOpIn F n P ops Q j K (a.put oi.dst v) w) :
    wpOpIn F n P ops Q j (fun a' w' => YieldsIf P ops S oi v a' ∧ K (a'.put oi.dst v) w') a w := by
  obtain ⟨h1, h2, h3⟩ := Oper.apart_spec hap
  have keep : ∀ (a : Act), YieldsIf P ops S oi v a → ∀ u, YieldsIf P ops S oi v (a.put oj.dst u) := fun a hy u =>
    hy.of_same (execOp_put oi hsi a oj.dst u h3) (wanted_put oi a oj.dst u h3)
  have keepD : ∀ d, YieldsIf P ops S oi v { a with defers := d :: a.defers } := fun d => hy.of_same rfl rfl
  unfold wpOpIn at *
  simp only [hj] at *
  rw [wanted_put oj a oi.dst v h1, about_put oj w a oi.dst v h1] at h
  split
  · rename_i hw
    simp only [hw, if_true] at h
    unfold Oper.wpIn at *
    rw [about_put oj w a oi.dst v h1] at h
    refine ⟨h.1, ?_⟩
    have h := h.2
    rw [Oper.semAt_eq _ _ _ hnd, execOp_put oj hsj a oi.dst v h1] at h
    rw [Oper.semAt_eq _ _ _ hnd]
    generalize (execOp a.eval oj).run P w = r at *
    cases r with
    | ok x w' =>
      cases x <;> simp only [Oper.uponIn] at h ⊢
      case value u => exact ⟨keep a hy u, by rw [← Act.put_comm a v u h2]; exact h⟩
      case skip => exact ⟨keep a hy _, by rw [← Act.put_comm a v undef h2]; exact h⟩
      case defer d =>
        refine ⟨keep _ (keepD d) _, ?_⟩
        rw [← Act.put_comm _ v undef h2, ← Act.put_defers]
        exact h
      case enter f args =>
        refine ⟨h.1, CallsIn.mono h.2 fun e w'' he => ?_⟩
        cases e with
        | returned u => exact ⟨keep a hy u, by rw [← Act.put_comm a v u h2]; exact he⟩
        | panicked c => exact (hQ _ _ _ he).elim
        | outgrown => exact he
      case row row args => exact ⟨h.1, RowsIn.mono h.2 fun u w'' he => ⟨keep a hy u, by rw [← Act.put_comm a v u h2]; exact he⟩⟩
      case round l f tmps assign body =>
        refine ⟨h.1, RoundIn.mono h.2 fun e w'' he => ?_⟩
        cases e with
        | returned u => exact ⟨keep a hy u, by rw [← Act.put_comm a v u h2]; exact he⟩
        | panicked c => exact (hQ _ _ _ he).elim
        | outgrown => exact he
    | halt x w' =>
      cases x <;> simp only [Oper.uponIn] at h ⊢
      case panic u => exact (hQ _ _ _ h).elim
  · rename_i hw
    simp only [hw] at h
    exact ⟨h.1, keep a hy _, by rw [← Act.put_comm a v undef h2]; exact h.2⟩

theorem wpAnyG_first {B : Array Nat} (hB : maskOk md ops B = true) {i : Nat} {oi : Oper} {v : Value} (hf : ∀ f, F.fn f) (hnd : noDefer ops = true) (hi : ops[i]? = some oi) (hsel : ∀ (j : Nat) (o : Oper) cs b, ops[j]? = some o → o.op ≠ .select cs b)
    (hQ : ∀ c a w, ¬ Q (.panic c) a w) :
    ∀ (fuel : Nat) (listed : Array Bool) (a : Act) (w : World), Closed md ops listed →
      (∀ j oj, ops[j]? = some oj → j ≠ i → listed.getD j true = false → (B.getD j 0).testBit i = false → oi.apart ops oj = true ∧ X j = true) →
      i ∈ Region.ready md ops listed → YieldsIf P ops (Ext w) oi v a →
      wpAnyG F n P md ops Q X fuel (listed.setIfInBounds i true) (a.put oi.dst v) w → wpAnyG F n P md ops Q X (fuel + 1) listed a w := by
  intro fuel
  induction fuel with
  | zero =>
    intro listed a w _ _ hr hy H
    refine ⟨fun h => (by rw [h] at hr; cases hr), fun j hj => ?_⟩
    by_cases hji : j = i
    · subst hji; exact YieldsIf.wpOpIn' hf (noDefer_spec hnd hi) hi hy (Ext.refl w) ⟨fun _ => Ext.refl w, H⟩
    · have := ready_mono hj hji
      rw [H.1] at this
      cases this
  | succ fuel ih =>
    intro listed a w hcl hfree hr hy H
    refine ⟨fun h => (by rw [h] at hr; cases hr), fun j hj => ?_⟩
    by_cases hji : j = i
    · subst hji; exact YieldsIf.wpOpIn' hf (noDefer_spec hnd hi) hi hy (Ext.refl w) ⟨fun _ => Ext.refl w, H⟩
    · have h1 := H.2 j (ready_mono hj hji)
      obtain ⟨hjun, oj, hoj, hall⟩ := mem_ready.1 hj
      have hnot : (B.getD j 0).testBit i = false := by
        cases hb : (B.getD j 0).testBit i with
        | false => rfl
        | true =>
          have hl := mask_listed hB hcl (Array.getElem?_eq_some_iff.1 hi).1 j oj hoj hall hb
          have h0 := (mem_ready.1 hr).1
          rcases Nat.lt_or_ge i listed.size with h' | h'
          · simp [h'] at h0 hl; rw [h0] at hl; cases hl
          · simp [Array.getElem?_eq_none h'] at hl
      have hfj := hfree j oj hoj hji hjun hnot
      have h2 := wpOpIn_putD (noDefer_spec hnd hoj) hoj hfj.1 (fun cs b => hsel i oi cs b hi) (fun cs b => hsel j oj cs b hoj) hQ hy h1
      have hfree' : ∀ k ok, ops[k]? = some ok → k ≠ i → (listed.setIfInBounds j true).getD k true = false →
          (B.getD k 0).testBit i = false → oi.apart ops ok = true ∧ X k = true := fun k ok hk hki hun hno => by
        refine hfree k ok hk hki ?_ hno
        by_cases hjk : j = k
        · subst hjk; exact hjun
        · rw [getD_set_ne true hjk] at hun; exact hun
      refine wpOpIn_mono (fun a' w' h3 => ⟨h3.2.1, ih (listed.setIfInBounds j true) a' w' (hcl.set hj) hfree' (ready_mono hr (Ne.symm hji)) (YieldsIf.weaken h3.1 fun W hW => (h3.2.1 hfj.2).trans hW) ?_⟩) h2
      rw [Array.setIfInBounds_comm _ _ hji]
      exact h3.2.2

/-- the worlds in which all that there is in w is as it is in w. -/
structure ExtOf (w : World) where
  W : World
  h : Ext w W
instance (w : World) : Nonempty (ExtOf w) := ⟨⟨w, Ext.refl w⟩⟩
abbrev InExt (w W : World) : Prop := ∃ Y : ExtOf w, W = Y.W
theorem inExt {w W : World} (h : Ext w W) : InExt w W := ⟨⟨W, h⟩, rfl⟩
theorem cell_keep {a b : World} (h : Ext a b) {p : Addr} {v : Value} (k : a.cell? p = some v) : b.cell? p = some v :=
  (RowKit.Below.cell h (World.block_lt_of_cell? a p k)).trans k
theorem Ext.drew (w : World) : Ext w w.drew := RowKit.Below.drew (RowKit.Below.refl _ _)
/-- a cell's fact, for all batches of a region. -/
theorem cell_all {a : World} {p : Addr} {v : Value} (k : a.cell? p = some v) : ∀ (w : World), Ext a w → ∀ Y : ExtOf w, Y.W.cell? p = some v := fun _ h Y => cell_keep (h.trans Y.h) k

/-- operations that yield a value, and do nothing else. -/
def Op.yields : Op → Bool
  | .move _ | .assign _ | .pick .. | .build .. | .load .. | .binOp .. | .unOp .. | .convert .. | .makeFunc .. | .fieldAddr .. | .field .. | .indexAddr .. | .index .. | .lookup .. | .extract .. | .makeInterface .. | .slice .. | .nilCheck _ => true
  | _ => false
theorem nilCheck_value {P : Program} {w w' : World} {x : Next} (y : Value) (hr : Sem.run P (match y with
    | .pointer none | .nilIface | .nilFunc => (runtimePanic .nilDeref : Sem Next)
    | .func (.method name) first captured =>
      match (first[0]? : Option Value) with
      | some .nilIface => runtimePanic .nilDeref
      | some (.iface t w) => do
        if (← nilAhead ((← program).types.size + Made.depth) t w name) != some false then
          unsupported (.noEntry "op/nilCheck.the method's receiver behind this interface value is a nil pointer, or cannot be seen to be none, and the arguments act or may panic (ledger 612)")
        pure (.value (.func (.method name) first captured))
      | _ => pure (.value (.func (.method name) first captured))
    | x => pure (.value x) : Sem Next) w = .ok x w') : ∃ v, x = .value v := by
  have hp : ∀ e : RuntimeError, e = .nilDeref → (runtimePanic e : Sem Next).run P w ≠ .ok x w' := fun e he => by
    subst he
    simp [runtimePanic, program, goPanic, Sem.run]
  split at hr
  · exact (hp _ rfl hr).elim
  · exact (hp _ rfl hr).elim
  · exact (hp _ rfl hr).elim
  · split at hr
    · exact (hp _ rfl hr).elim
    · simp only [Sem.run_bind] at hr
      generalize Sem.run P program w = r0 at hr
      cases r0 with
      | halt h w0 => simp at hr
      | ok p w0 =>
        simp only [Result.andThen_ok] at hr
        generalize Sem.run P (nilAhead _ _ _ _) w0 = r1 at hr
        cases r1 with
        | halt h w1 => simp at hr
        | ok b w1 =>
          simp only [Result.andThen_ok] at hr
          split at hr
          · simp [unsupported] at hr
          · simp only [Sem.run_pure, Result.ok.injEq] at hr; exact ⟨_, hr.1.symm⟩
    · simp only [Sem.run_pure, Result.ok.injEq] at hr; exact ⟨_, hr.1.symm⟩
  · simp only [Sem.run_pure, Result.ok.injEq] at hr; exact ⟨_, hr.1.symm⟩
theorem yields_value {ρ : Operand → Value} {o : Oper} (h : Op.yields o.op = true) {w w' : World} {x : Next} (hr : (execOp ρ o).run P w = .ok x w') : ∃ v, x = .value v := by
  revert hr
  unfold execOp
  cases ho : o.op <;> simp only [ho, Op.yields, Bool.false_eq_true] at h <;> dsimp only <;>
    first
    | (intro hr; simp only [Sem.run_pure, Result.ok.injEq] at hr; exact ⟨_, hr.1.symm⟩)
    | exact nilCheck_value _
    | (intro hr
       simp only [Sem.run_bind] at hr
       generalize hs : Sem.run P _ _ = r at hr
       cases r with
       | ok v w1 =>
         first
         | (simp only [Result.andThen_ok, Sem.run_pure, Result.ok.injEq] at hr; exact ⟨_, hr.1.symm⟩)
         | (simp only [Result.andThen_ok] at hr
            generalize hs2 : Sem.run P _ _ = r2 at hr
            cases r2 with
            | ok v w2 => simp only [Result.andThen_ok, Sem.run_pure, Result.ok.injEq] at hr; exact ⟨_, hr.1.symm⟩
            | halt h w2 => simp at hr)
       | halt h w1 => simp at hr)

/-- may number i be taken first, of those that are left? -/
def takeOk (md : Region.Mode) (ops : Array Oper) (B : Array Nat) (X : Nat → Bool) (listed : Array Bool) (i : Nat) : Bool :=
  (Region.ready md ops listed).contains i && (match ops[i]? with
    | none => false
    | some oi => Op.yields oi.op && (List.range ops.size).all fun j => j == i || listed.getD j true || match ops[j]? with
      | some oj => (B.getD j 0).testBit i || (oi.apart ops oj && X j)
      | none => true)
def batchOk (md : Region.Mode) (ops : Array Oper) (B : Array Nat) (X : Nat → Bool) : Array Bool → List Nat → Bool
  | _, [] => true
  | listed, i :: rest => takeOk md ops B X listed i && batchOk md ops B X (listed.setIfInBounds i true) rest
def listAll (listed : Array Bool) : List Nat → Array Bool
  | [] => listed
  | i :: rest => listAll (listed.setIfInBounds i true) rest
def opsAt (ops : List Oper) : List Nat → Option (List Oper)
  | [] => some []
  | i :: rest => match ops[i]?, opsAt ops rest with
    | some o, some l => some (o :: l)
    | _, _ => none

theorem yieldsIf_of_quiet {o : Oper} {a : Act} {C : World → Prop} {v : Value} (hy : Op.yields o.op = true) (hw : Region.wanted o (yielded ops a.tmps) = true) (h : ∀ w, C w → o.quietAt P a C w v) : YieldsIf P ops C o v a := by
  refine .inl ⟨hw, fun w hC => ?_⟩
  have h := h w hC
  unfold Oper.quietAt at h
  generalize hr : (execOp a.eval o).run P w = r at h
  cases r with
  | ok x w' =>
    obtain ⟨u, rfl⟩ := yields_value hy hr
    simp only [Oper.quietUpon] at h
    obtain ⟨h1, h2⟩ := h
    rw [h1, h2]
  | halt x w' => simp only [Oper.quietUpon] at h

/-- several at once, by the walk of those that only read. -/
theorem wpAnyG_batch {B : Array Nat} (hB : maskOk md ops B = true) (hf : ∀ f, F.fn f) (hnd : noDefer ops = true) (hs : Region.noSelect ops = true) (hQ : ∀ c a w, ¬ Q (.panic c) a w) {fuel : Nat} {w : World} :
    ∀ (ms : List Nat) (listed : Array Bool) (l : List Oper) (a : Act), Closed md ops listed → batchOk md ops B X listed ms = true → opsAt ops.toList ms = some l →
      wpQuiet P ops (InExt w) (fun a' => wpAnyG F n P md ops Q X fuel (listAll listed ms) a' w) l a → wpAnyG F n P md ops Q X (fuel + ms.length) listed a w
  | [], listed, l, a, _, _, hl, h => by
    simp only [opsAt, Option.some.injEq] at hl
    subst hl
    exact h
  | i :: ms, listed, l, a, hcl, hb, hl, h => by
    simp only [batchOk, Bool.and_eq_true, takeOk] at hb
    obtain ⟨⟨hr, ht⟩, hb⟩ := hb
    simp only [opsAt, Array.getElem?_toList] at hl
    cases hi : ops[i]? with
    | none => simp [hi] at hl
    | some oi =>
      cases hms : opsAt ops.toList ms with
      | none => simp [hi, hms] at hl
      | some l' =>
        simp only [hi, hms, Option.some.injEq] at hl
        subst hl
        simp only [hi, Bool.and_eq_true, List.all_eq_true, List.mem_range] at ht
        obtain ⟨hyo, ht⟩ := ht
        have hfree : ∀ j oj, ops[j]? = some oj → j ≠ i → listed.getD j true = false → (B.getD j 0).testBit i = false → oi.apart ops oj = true ∧ X j = true := fun j oj hj hne hun hno => by
          have h1 := ht j (Array.getElem?_eq_some_iff.1 hj).1
          simpa only [hj, Bool.or_eq_true, beq_iff_eq, hne, false_or, hun, Bool.false_eq_true, Bool.and_eq_true, hno] using h1
        have hr' : i ∈ Region.ready md ops listed := by simpa using hr
        have step : ∀ v, YieldsIf P ops (Ext w) oi v a → wpQuiet P ops (InExt w) (fun a' => wpAnyG F n P md ops Q X fuel (listAll (listed.setIfInBounds i true) ms) a' w) l' (a.put oi.dst v) → wpAnyG F n P md ops Q X (fuel + (ms.length + 1)) listed a w := fun v hy hk =>
          wpAnyG_first hB hf hnd hi (Region.noSelect_spec hs) hQ (fuel + ms.length) listed a w hcl hfree hr' hy (wpAnyG_batch hB hf hnd hs hQ ms _ l' _ (hcl.set hr') hb hms hk)
        unfold wpQuiet at h
        by_cases hw : Region.wanted oi (yielded ops a.tmps) = true
        · simp only [hw, if_true] at h
          obtain ⟨v, h1, h2⟩ := h
          exact step v (YieldsIf.weaken (yieldsIf_of_quiet hyo hw h1) fun W hW => inExt hW) h2
        · simp only [hw] at h
          exact step undef (.inr ⟨by simpa using hw, rfl⟩) h

/-- Q, but nothing at a panic. -/
def calmQ (Q : Exit → Act → World → Prop) : Exit → Act → World → Prop
  | .normal, a, w => Q .normal a w
  | _, _, _ => False
def closedOk (md : Region.Mode) (ops : Array Oper) (listed : Array Bool) : Bool :=
  (List.range ops.size).all fun k => !listed.getD k false || match ops[k]? with
    | some o => o.after.all fun e => !Region.binds md e || listed.getD e.on false
    | none => true
theorem closed_of_ok {listed : Array Bool} (h : closedOk md ops listed = true) : Closed md ops listed := fun k o ho hl e he hb => by
  have h1 := List.all_eq_true.1 h k (List.mem_range.2 (Array.getElem?_eq_some_iff.1 ho).1)
  simp only [hl, Bool.not_true, Bool.false_or, ho] at h1
  have h2 := Array.all_eq_true_iff_forall_mem.1 h1 e he
  simpa [hb] using h2
/-- all that a batch wants. -/
def stepOk (md : Region.Mode) (ops : Array Oper) (X : Nat → Bool) (listed : Array Bool) (ms : List Nat) : Bool :=
  noDefer ops && (Region.noSelect ops && (maskOk md ops (Region.before ops) && (closedOk md ops listed && batchOk md ops (Region.before ops) X listed ms)))
theorem batchG (hf : ∀ f, F.fn f) {fuel : Nat} {w : World} (ms : List Nat) {listed : Array Bool} {l : List Oper} {a : Act} (h : stepOk md ops X listed ms = true) (hl : opsAt ops.toList ms = some l)
    (hk : wpQuiet P ops (InExt w) (fun a' => wpAnyG F n P md ops (calmQ Q) X fuel (listAll listed ms) a' w) l a) : wpAnyG F n P md ops (calmQ Q) X (fuel + ms.length) listed a w := by
  simp only [stepOk, Bool.and_eq_true] at h
  exact wpAnyG_batch h.2.2.1 hf h.1 h.2.1 (fun _ _ _ h => h.elim) ms listed l a (closed_of_ok h.2.2.2.1) h.2.2.2.2 hl hk
theorem calmQ_normal {Q : Exit → Act → World → Prop} {a : Act} {w : World} (h : Q .normal a w) : calmQ Q .normal a w := h

/-- what is owed behind an operation that is carried out. -/
def onePost (x : Bool) (w : World) (K : Act → World → Prop) : Exit → Act → World → Prop
  | .normal, a', w' => (x = true → Ext w w') ∧ K a' w'
  | _, _, _ => False

theorem onePost_ext {x : Bool} {w w' : World} {K : Act → World → Prop} {a : Act} (h : Ext w w') (k : K a w') : onePost x w K .normal a w' := ⟨fun _ => h, k⟩
theorem onePost_any {x : Bool} {w w' : World} {K : Act → World → Prop} {a : Act} (hx : x = false) (k : K a w') : onePost x w K .normal a w' := ⟨fun h => (by rw [hx] at h; cases h), k⟩

theorem wpOpIn_of_one {i : Nat} {o : Oper} {x : Bool} {K : Act → World → Prop} {a : Act} {w : World} (ho : ops[i]? = some o) (h : wpListIn F n P ops (onePost x w K) [o] a w) : wpOpIn F n P ops Q i (fun a' w' => (x = true → Ext w w') ∧ K a' w') a w := by
  unfold wpOpIn
  simp only [ho]
  unfold wpListIn at h
  split
  · rename_i hw
    simp only [hw, if_true] at h
    unfold Oper.wpIn at *
    refine ⟨h.1, ?_⟩
    have h := h.2
    generalize (o.semAt F.round a.eval).run P w = r at *
    have out : ∀ {p : Prop}, LetsOut (onePost x w K) → p := fun ⟨_, _, h⟩ => h.elim
    cases r with
    | ok y w' =>
      cases y <;> simp only [Oper.uponIn] at h ⊢
      case value u => exact h
      case skip => exact h
      case defer d => exact h
      case enter f args => exact ⟨h.1, CallsIn.mono h.2 fun e w'' he => by cases e <;> first | exact he | exact he.elim | exact out he⟩
      case row row args => exact ⟨h.1, RowsIn.mono h.2 fun u w'' he => he⟩
      case round l f tmps assign body => exact ⟨h.1, RoundIn.mono h.2 fun e w'' he => by cases e <;> first | exact he | exact he.elim | exact out he⟩
    | halt y w' =>
      cases y <;> simp only [Oper.uponIn] at h ⊢
      case panic u => exact h.elim
  · rename_i hw
    simp only [hw] at h
    exact ⟨h.1, h.2⟩

/-- the one that has to come up now. -/
theorem wpAnyG_one {j : Nat} {o : Oper} {fuel : Nat} {listed : Array Bool} {a : Act} {w : World} (hr : Region.ready md ops listed = [j]) (ho : ops.toList[j]? = some o)
    (h : wpListIn F n P ops (onePost (X j) w (wpAnyG F n P md ops Q X fuel (listed.setIfInBounds j true))) [o] a w) : wpAnyG F n P md ops Q X (fuel + 1) listed a w := by
  refine ⟨fun h0 => (by rw [hr] at h0; cases h0), fun i hi => ?_⟩
  rw [hr] at hi
  obtain rfl : i = j := by simpa using hi
  exact wpOpIn_of_one (by simpa using ho) h
/-- the one that has to come up now is passed over by its guard. -/
theorem wpAnyG_skip (hf : ∀ f, F.fn f) {j : Nat} {o : Oper} {fuel : Nat} {listed : Array Bool} {a : Act} {w : World} (hr : Region.ready md ops listed = [j]) (ho : ops.toList[j]? = some o) (hw : Region.wanted o (yielded ops a.tmps) = false)
    (h : wpAnyG F n P md ops Q X fuel (listed.setIfInBounds j true) (a.put o.dst undef) w) : wpAnyG F n P md ops Q X (fuel + 1) listed a w := by
  refine ⟨fun h0 => (by rw [hr] at h0; cases h0), fun i hi => ?_⟩
  rw [hr] at hi
  obtain rfl : i = j := by simpa using hi
  have ho' : ops[i]? = some o := by simpa using ho
  unfold wpOpIn
  simp only [ho', hw]
  exact ⟨fun f _ => hf f, fun _ => Ext.refl w, h⟩
/-- either of two. -/
theorem wpAnyG_two {j k : Nat} {o p : Oper} {fuel : Nat} {listed : Array Bool} {a : Act} {w : World} (hr : Region.ready md ops listed = [j, k]) (ho : ops.toList[j]? = some o) (hp : ops.toList[k]? = some p)
    (h : wpListIn F n P ops (onePost (X j) w (wpAnyG F n P md ops Q X fuel (listed.setIfInBounds j true))) [o] a w)
    (h' : wpListIn F n P ops (onePost (X k) w (wpAnyG F n P md ops Q X fuel (listed.setIfInBounds k true))) [p] a w) : wpAnyG F n P md ops Q X (fuel + 1) listed a w := by
  refine ⟨fun h0 => (by rw [hr] at h0; cases h0), fun i hi => ?_⟩
  rw [hr] at hi
  rcases List.mem_cons.1 hi with rfl | hi
  · exact wpOpIn_of_one (by simpa using ho) h
  · obtain rfl : i = k := by simpa using hi
    exact wpOpIn_of_one (by simpa using hp) h'
theorem wpAnyG_done {listed : Array Bool} {a : Act} {w : World} (hr : Region.ready md ops listed = []) (h : Q .normal a w) : wpAnyG F n P md ops Q X 0 listed a w := ⟨hr, h⟩

theorem calmQ_imp {Q : Exit → Act → World → Prop} : ∀ (e : Exit) (a : Act) (w : World), calmQ Q e a w → Q e a w := fun e a w h => by
  cases e <;> first | exact h | exact (h : False).elim
theorem calmQ_no {Q : Exit → Act → World → Prop} : ∀ c a w, ¬ calmQ Q (.panic c) a w := fun _ _ _ h => h.elim
theorem CodeIn.mono {c : Code} {Q Q' : Exit → Act → World → Prop} {a : Act} {w : World} (hq : ∀ e a w, Q e a w → Q' e a w)
    (h : c.wpIn F n P Q a w) : c.wpIn F n P Q' a w := Code.wpIn_mono hq h

/-- the region's beginning. -/
theorem wpIn_region_G {id : Nat} {a : Act} {w : World} (X : Nat → Bool) (hm : P.follows .mixedOrders = true)
    (h : wpAnyG F n P .any ops (calmQ Q) X ops.size (Array.replicate ops.size false) a w.drew) : (Code.region id ops true).wpIn F n P Q a w :=
  CodeIn.mono calmQ_imp (wpIn_region_any hm (wpAnyIn_of_G _ _ _ _ h))

end
end Go.Proofs.YtkkdobolloojjaaGreat
namespace Go.Proofs.YtkkdobolloojjaaGreat
open Go Go.RowKit

/-- a tree of beads: key, value, sum, size, tag. -/
inductive BT where
  | nil
  | node (k v s n g : Int) (l r : BT)
namespace BT
def isNil : BT → Bool
  | nil => true
  | node .. => false
def enc : BT → List BeadL
  | nil => []
  | node k v s n g l r => ⟨k, v, s, n, g, !l.isNil, !r.isNil⟩ :: (l.enc ++ r.enc)
theorem enc_nil_iff : ∀ t : BT, t.enc.length = 0 ↔ t.isNil = true
  | nil => by simp [enc, isNil]
  | node .. => by simp [enc, isNil]
end BT

theorem ends_sound : ∀ (f : Nat) (zs : List BeadL) (k : Nat), endsL f zs = some k → ∃ t : BT, t.isNil = false ∧ t.enc = zs.take k
  | 0, zs, k, h => by simp [endsL] at h
  | f + 1, [], k, h => by simp [endsL] at h
  | f + 1, b :: r, k, h => by
    unfold endsL at h
    split at h
    · cases h
    · rename_i n hn
      split at h
      · cases h
      · rename_i m hm
        obtain rfl : 1 + n + m = k := by simpa using h
        obtain ⟨l, hl0, hl⟩ : ∃ l : BT, l.isNil = !b.left ∧ l.enc = r.take n := by
          split at hn
          · rename_i hb
            obtain ⟨t, h1, h2⟩ := ends_sound f r n hn
            exact ⟨t, by simp [h1, hb], h2⟩
          · rename_i hb
            obtain rfl : 0 = n := by simpa using hn
            exact ⟨.nil, by simpa [BT.isNil] using hb, by simp [BT.enc]⟩
        obtain ⟨q, hq0, hq⟩ : ∃ q : BT, q.isNil = !b.right ∧ q.enc = (r.drop n).take m := by
          split at hm
          · rename_i hb
            obtain ⟨t, h1, h2⟩ := ends_sound f _ m hm
            exact ⟨t, by simp [h1, hb], h2⟩
          · rename_i hb
            obtain rfl : 0 = m := by simpa using hm
            exact ⟨.nil, by simpa [BT.isNil] using hb, by simp [BT.enc]⟩
        refine ⟨.node b.key b.val b.sum b.size b.tag l q, rfl, ?_⟩
        rw [BT.enc, hl0, hq0, hl, hq, show 1 + n + m = (n + m) + 1 by omega, List.take_succ_cons, List.take_add]
        simp
theorem ends_whole : ∀ (t : BT) (f : Nat) (rest : List BeadL), t.isNil = false → t.enc.length ≤ f → endsL f (t.enc ++ rest) = some t.enc.length
  | .nil, f, rest, h, _ => by simp [BT.isNil] at h
  | .node k v s n g l r, 0, rest, _, hf => by simp [BT.enc] at hf
  | .node k v s n g l r, f + 1, rest, _, hf => by
    have hlen : l.enc.length + r.enc.length ≤ f := by simp [BT.enc] at hf; omega
    have h1 : (if !l.isNil then endsL f (l.enc ++ (r.enc ++ rest)) else some 0) = some l.enc.length := by
      cases hn : l.isNil with
      | true => simp [(BT.enc_nil_iff l).2 hn]
      | false => simpa using ends_whole l f (r.enc ++ rest) hn (by omega)
    have h2 : (if !r.isNil then endsL f ((l.enc ++ (r.enc ++ rest)).drop l.enc.length) else some 0) = some r.enc.length := by
      rw [List.drop_left]
      cases hn : r.isNil with
      | true => simp [(BT.enc_nil_iff r).2 hn]
      | false => simpa using ends_whole r f rest hn (by omega)
    rw [BT.enc, List.cons_append, endsL, List.append_assoc]
    simp only [h1, h2]
    simp [List.length_append]
    omega

theorem beads_slice {w : World} {v : Value} {zs : List BeadL} (h : Beads w v zs) : ∃ a c, v = .slice a zs.length c := by
  rcases h with ⟨rfl, a, c, rfl⟩ | ⟨b, o, c, rfl, hne, hc, hr⟩
  · exact ⟨a, c, rfl⟩
  · exact ⟨_, c, rfl⟩
/-- what May says of a row. -/
def mayB (zs : List BeadL) : Bool := zs.length == 0 || endsV (endsL 400 zs) == zs.length
theorem mayB_tree {zs : List BeadL} (h : mayB zs = true) : ∃ t : BT, t.enc = zs := by
  by_cases h0 : zs.length = 0
  · exact ⟨.nil, by rw [List.eq_nil_of_length_eq_zero h0]; rfl⟩
  · have h1 : endsV (endsL 400 zs) = zs.length := by
      have : (zs.length == 0) = false := by simpa using h0
      unfold mayB at h
      rw [this, Bool.false_or] at h
      exact eq_of_beq h
    rcases hz : endsL 400 zs with _ | k
    · rw [hz] at h1
      simp only [endsV] at h1
      omega
    · rw [hz] at h1
      simp only [endsV] at h1
      obtain ⟨t, _, ht⟩ := ends_sound _ _ _ hz
      exact ⟨t, by rw [ht, show k = zs.length by omega, List.take_length]⟩

theorem beadsMay_any (w : World) (v : Value) (zs : List BeadL) (hb : Beads w v zs) (hl : zs.length ≤ 400) : Calls Tryz.prog 51 #[v] w (Ret (.bool (mayB zs)) w) := by
  rcases hb with ⟨rfl, a, c, rfl⟩ | ⟨b, o, c, rfl, hne, hc, hr⟩
  · go_enter Tryz.func51, Tryz.ntmps51
    go_wp2
    go_ret
    exact Ret.mk (Ext.refl _)
  · obtain ⟨M, hM⟩ : ∃ M, M = mayB zs := ⟨_, rfl⟩
    have h0 : ((zs.length : Int) == 0) = false := by
      have : zs.length ≠ 0 := by simpa using hne
      simp; omega
    rw [← hM]
    have HM := Lib.hid hM
    clear hM hne
    have H := Lib.hid hr
    clear hr
    go_enter Tryz.func51, Tryz.ntmps51
    go_wp2_with fail
    have := ends_any b o c zs 400 0 0 w H.out (by omega) (by omega) (by omega)
    rw [List.drop_zero] at this
    refine this.mono ?_
    rintro e w1 ⟨rfl, h1⟩
    go_wp2
    go_ret
    have h0' := Lib.hid h0
    exact ⟨ret_bool (by rw [HM.out]; unfold mayB; have := h0'.out; have : (zs.length == 0) = false := by simp at this ⊢; omega
                        rw [this]; rfl), h1⟩

theorem beadsLong_any (w : World) (v : Value) (zs : List BeadL) (hb : Beads w v zs) : Calls Tryz.prog 16 #[v] w (Ret (.bool (decide (400 < zs.length) || !mayB zs)) w) := by
  have hlen : ∃ a c, v = .slice a zs.length c := by
    rcases hb with ⟨rfl, a, c, rfl⟩ | ⟨b, o, c, rfl, hne, hc, hr⟩
    · exact ⟨a, c, rfl⟩
    · exact ⟨_, c, rfl⟩
  obtain ⟨a, c, rfl⟩ := hlen
  have H := Lib.hid hb
  clear hb
  by_cases hl : zs.length ≤ 400
  · rw [show decide (400 < zs.length) = false by simp; omega, Bool.false_or]
    go_enter Tryz.func16, Tryz.ntmps16
    go_wp2_with fail
    refine (beadsMay_any _ _ zs H.out hl).mono ?_
    rintro e w1 ⟨rfl, h1⟩
    go_wp2
    go_ret
    exact ⟨ret_bool (by simp; omega), h1⟩
  · have hl : 400 < zs.length := by omega
    rw [show decide (400 < zs.length) = true by simp; omega, Bool.true_or]
    go_enter Tryz.func16, Tryz.ntmps16
    go_wp2
    go_ret
    exact Ret.mk (Ext.refl _)

theorem rangeAt_head {w : World} {b o : Nat} {z : BeadL} {zs : List BeadL} (h : w.rangeAt b o (beadCells (z :: zs))) : w.rangeAt b o z.cells := by
  intro j u hj
  refine h j u ?_
  have hlt : j < z.cells.length := (List.getElem?_eq_some_iff.1 hj).1
  rw [beadCells, List.flatMap_cons, List.getElem?_append_left hlt, hj]
theorem rangeAt_sub {w : World} {b o : Nat} {zs : List BeadL} (h : w.rangeAt b o (beadCells zs)) (i m : Nat) : w.rangeAt b (o + i * 7) (beadCells ((zs.drop i).take m)) := by
  intro j u hj
  have hlt : j < (beadCells ((zs.drop i).take m)).length := (List.getElem?_eq_some_iff.1 hj).1
  rw [beadCells_len, List.length_take, List.length_drop] at hlt
  rw [Nat.add_assoc]
  refine h (i * 7 + j) u ?_
  obtain ⟨q, t, rfl, ht⟩ : ∃ q t, j = q * 7 + t ∧ t < 7 := ⟨j / 7, j % 7, by omega, by omega⟩
  have hi : i + q < zs.length := by omega
  have hq : q < m := by omega
  have hz : zs[i + q]? = some zs[i + q] := List.getElem?_eq_getElem hi
  have hz2 : ((zs.drop i).take m)[q]? = some zs[i + q] := by
    rw [List.getElem?_take_of_lt hq, List.getElem?_drop, hz]
  generalize zs[i + q] = z at hz hz2
  have a1 := beadCells_at zs (i + q) z t hz ht
  have a2 := beadCells_at _ q z t hz2 ht
  rw [hj] at a2
  rw [show i * 7 + (q * 7 + t) = (i + q) * 7 + t by omega, a1, ← a2]
theorem beads_sub {w : World} {b o c : Nat} {zs : List BeadL} (h : w.rangeAt b o (beadCells zs)) (hc : zs.length ≤ c) (i m c' : Nat) (him : i + m ≤ zs.length) (hc' : m ≤ c') (A : Option Addr) (hA : i < c → A = some ⟨b, o + i * 7, none⟩) :
    Beads w (.slice A m c') ((zs.drop i).take m) := by
  by_cases hm : m = 0
  · subst hm; exact .inl ⟨by simp, _, _, rfl⟩
  · have hlen : ((zs.drop i).take m).length = m := by rw [List.length_take, List.length_drop]; omega
    refine .inr ⟨b, o + i * 7, c', ?_, ?_, by omega, rangeAt_sub h i m⟩
    · rw [hA (by omega), hlen]
    · intro e
      rw [e] at hlen
      simp at hlen
      omega
theorem set7 {w : World} {N : Nat} {T : TypeId} {a0 a1 a2 a3 a4 a5 a6 : Value} (h : w.heap[N]? = some (.cells #[a0, a1, a2, a3, a4, a5, a6] T (0, 0))) (b0 b1 b2 b3 b4 b5 b6 : Value) :
    (((((((w.setCell ⟨N, 0, none⟩ b0).setCell ⟨N, 1, none⟩ b1).setCell ⟨N, 2, none⟩ b2).setCell ⟨N, 3, none⟩ b3).setCell ⟨N, 4, none⟩ b4).setCell ⟨N, 5, none⟩ b5).setCell ⟨N, 6, none⟩ b6).heap[N]? = some (.cells #[b0, b1, b2, b3, b4, b5, b6] T (0, 0)) := by
  simp [World.setCell, Array.getElem?_modify, h]
theorem Ext.put {w w1 : World} (h : Ext w w1) (j : Nat) (u : Value) : Ext w (w1.setCell ⟨w.heap.size, j, none⟩ u) := Below.setCell (B := w.heap.size) h (Nat.le_refl _) u
theorem set7_ext {w w1 : World} (h : Ext w w1) {T : TypeId} {a0 a1 a2 a3 a4 a5 a6 : Value} (hn : w1.heap[w.heap.size]? = some (.cells #[a0, a1, a2, a3, a4, a5, a6] T (0, 0))) (b0 b1 b2 b3 b4 b5 b6 : Value) :
    Ext w (World.drew (((((((w1.setCell ⟨w.heap.size, 0, none⟩ b0).setCell ⟨w.heap.size, 1, none⟩ b1).setCell ⟨w.heap.size, 2, none⟩ b2).setCell ⟨w.heap.size, 3, none⟩ b3).setCell ⟨w.heap.size, 4, none⟩ b4).setCell ⟨w.heap.size, 5, none⟩ b5).setCell ⟨w.heap.size, 6, none⟩ b6)) ∧ (World.drew (((((((w1.setCell ⟨w.heap.size, 0, none⟩ b0).setCell ⟨w.heap.size, 1, none⟩ b1).setCell ⟨w.heap.size, 2, none⟩ b2).setCell ⟨w.heap.size, 3, none⟩ b3).setCell ⟨w.heap.size, 4, none⟩ b4).setCell ⟨w.heap.size, 5, none⟩ b5).setCell ⟨w.heap.size, 6, none⟩ b6)).heap[w.heap.size]? = some (.cells #[b0, b1, b2, b3, b4, b5, b6] T (0, 0)) := by
  have e : ∀ W : World, (World.drew W).heap = W.heap := fun _ => rfl
  refine ⟨?_, by rw [e]; exact set7 hn b0 b1 b2 b3 b4 b5 b6⟩
  refine Below.drew ?_
  exact Ext.put (Ext.put (Ext.put (Ext.put (Ext.put (Ext.put (Ext.put h 0 b0) 1 b1) 2 b2) 3 b3) 4 b4) 5 b5) 6 b6
theorem results_row_tmp2 {fn : Func} {p t u : Tmp} {ty : TypeId} (h : fn.results = #[.cell p ty, .tmp t, .tmp u]) (tmps : Array Value) (w : World) {x : Value} {a : Addr} (hp : tmps.getD p undef = .pointer (some a))
    (hl : (loadVar ty a).run Tryz.prog w = .ok x w) : (results fn tmps).run Tryz.prog w = .ok (.tuple #[x, tmps.getD t undef, tmps.getD u undef]) w := by
  simp only [Array.getD_eq_getD_getElem?] at hp
  simp [results, h, hp, hl, asAddr]
theorem load_cells {w : World} {N : Nat} {z : BeadL} (h : w.heap[N]? = some (.cells z.cells.toArray 96 (0, 0))) : (loadVar 96 ⟨N, 0, none⟩).run Tryz.prog w = .ok (.agg z.cells.toArray) w := by
  refine run_loadVar_mid w N 0 _ z.cells _ (fun j v hj => ?_) Tryz.underlying96 rfl (by kernel_rfl)
  rw [Nat.zero_add, cell_of h j]
  simpa using hj
/-- what Parts hands back. -/
def PartsOf (k v s n g : Int) (l r : BT) (w : World) (e : Ending) (w' : World) : Prop :=
  ∃ v1 v2, e = .returned (.tuple #[.agg #[.int .i64 k, .int .i64 v, .int .i64 s, .int .i64 n, .int .u64 g, .bool (!l.isNil), .bool (!r.isNil)], v1, v2]) ∧ Beads w' v1 l.enc ∧ Beads w' v2 r.enc ∧ Ext w w'
set_option maxHeartbeats 400000 in
theorem parts_any (w : World) (p : Value) (k v s n g : Int) (l r : BT) (hb : Beads w p (BT.node k v s n g l r).enc) (hl : (BT.node k v s n g l r).enc.length ≤ 2000) :
    Calls Tryz.prog 49 #[p] w (PartsOf k v s n g l r w) := by
  rcases hb with ⟨h, _⟩ | ⟨b, o, c, rfl, hne, hc, hr⟩
  · simp [BT.enc] at h
  have hcl : w.cell? ⟨b, o + 5, none⟩ = some (.bool (!l.isNil)) := rangeAt_cell hr (i := 0) rfl (j := 5) rfl
  have hh := rangeAt_head hr
  have hcs : ∀ W', Ext w W' → W'.rangeAt b o (BeadL.cells ⟨k, v, s, n, g, !l.isNil, !r.isNil⟩) := fun W' e => rangeAt_ext hh e
  clear hh
  have hlen : (BT.node k v s n g l r).enc.length = 1 + l.enc.length + r.enc.length := by simp [BT.enc]; omega
  have H := Lib.hid hr
  have HC := Lib.hid hcs
  clear hr hne hcs
  have hfn : ∀ f, Fence.wide.fn f := fun _ => trivial
  cases hn : l.isNil with
  | true =>
    rw [hn] at hcl
    have hl0 := (BT.enc_nil_iff l).2 hn
    have hcl1 : (w.alloc (.cells #[.int .i64 0, .int .i64 0, .int .i64 0, .int .i64 0, .int .u64 0, .bool false, .bool false] 96)).cell? ⟨b, o + 5, none⟩ = some (.bool false) := by
      rw [((Ext.refl w).alloc _).cell (cell_lt hcl)]; exact hcl
    have hE := (Ext.refl w).alloc (.cells #[.int .i64 0, .int .i64 0, .int .i64 0, .int .i64 0, .int .u64 0, .bool false, .bool false] 96)
    have hnew := alloc_at w (.cells #[.int .i64 0, .int .i64 0, .int .i64 0, .int .i64 0, .int .u64 0, .bool false, .bool false] 96) _ rfl
    go_enter Tryz.func49, Tryz.ntmps49
    go_wp2_with fail
    generalize w.alloc (.cells #[.int .i64 0, .int .i64 0, .int .i64 0, .int .i64 0, .int .u64 0, .bool false, .bool false] 96) = w1 at *
    have hc0 : w1.cell? ⟨b, o, none⟩ = some (.int .i64 k) := HC.out w1 hE 0 _ rfl
    have hc1 : w1.cell? ⟨b, o + 1, none⟩ = some (.int .i64 v) := HC.out w1 hE 1 _ rfl
    have hc2 : w1.cell? ⟨b, o + 2, none⟩ = some (.int .i64 s) := HC.out w1 hE 2 _ rfl
    have hc3 : w1.cell? ⟨b, o + 3, none⟩ = some (.int .i64 n) := HC.out w1 hE 3 _ rfl
    have hc4 : w1.cell? ⟨b, o + 4, none⟩ = some (.int .u64 g) := HC.out w1 hE 4 _ rfl
    have hc5 : w1.cell? ⟨b, o + 5, none⟩ = some (.bool (!l.isNil)) := HC.out w1 hE 5 _ rfl
    have hc6 : w1.cell? ⟨b, o + 6, none⟩ = some (.bool (!r.isNil)) := HC.out w1 hE 6 _ rfl
    have hn0 := cell_of hnew 0
    have hn1 := cell_of hnew 1
    have hn2 := cell_of hnew 2
    have hn3 := cell_of hnew 3
    have hn4 := cell_of hnew 4
    have hn5 := cell_of hnew 5
    have hn6 := cell_of hnew 6
    have hf0 := frozen_of hnew 0
    have hf1 := frozen_of hnew 1
    have hf2 := frozen_of hnew 2
    have hf3 := frozen_of hnew 3
    have hf4 := frozen_of hnew 4
    have hf5 := frozen_of hnew 5
    have hf6 := frozen_of hnew 6
    simp at hn0 hn1 hn2 hn3 hn4 hn5 hn6
    have hlen1 : 1 ≤ (BT.node k v s n g l r).enc.length := by omega
    clear hcl hn hcl1
    have HLEN := Lib.hid hlen
    clear hlen
    have hlt : b < w.heap.size := cell_lt (HC.out w (Ext.refl w) 0 _ rfl)
    generalize hLL : (BT.node k v s n g l r).enc.length = LL at *
    have HLL := Lib.hid hLL
    clear hLL
    go_region
    generalize hA : (if c = 1 then some (⟨b, o, none⟩ : Addr) else some ⟨b, o + 7, none⟩) = A
    have HA := Lib.hid hA
    clear hA
    go_wp2
    obtain ⟨hb, hh⟩ := set7_ext hE hnew (.int .i64 k) (.int .i64 v) (.int .i64 s) (.int .i64 n) (.int .u64 g) (.bool (!l.isNil)) (.bool (!r.isNil))
    generalize World.drew (((((((w1.setCell ⟨w.heap.size, 0, none⟩ (.int .i64 k)).setCell ⟨w.heap.size, 1, none⟩ (.int .i64 v)).setCell ⟨w.heap.size, 2, none⟩ (.int .i64 s)).setCell ⟨w.heap.size, 3, none⟩ (.int .i64 n)).setCell ⟨w.heap.size, 4, none⟩ (.int .u64 g)).setCell ⟨w.heap.size, 5, none⟩ (.bool (!l.isNil))).setCell ⟨w.heap.size, 6, none⟩ (.bool (!r.isNil))) = W at *
    have hh : W.heap[w.heap.size]? = some (.cells (BeadL.cells ⟨k, v, s, n, g, !l.isNil, !r.isNil⟩).toArray 96 (0, 0)) := hh
    have hres := load_cells hh
    (try simp only [Exit.inBlock, Exit.then])
    refine bodyPost_ret (results_row_tmp2 rfl _ _ rfl hres) rfl ?_
    have h1 := HA.out
    have h2 := HLEN.out
    have h4 := HLL.out
    have h3 := rangeAt_ext H.out hb
    refine ⟨_, _, rfl, ?_, ?_, hb⟩
    · refine .inl ⟨List.eq_nil_of_length_eq_zero hl0, _, _, rfl⟩
    · have := beads_sub (c := c) h3 (by omega) 1 (LL - 1) (c - 1) (by omega) (by omega) A (fun hc => by rw [← h1, if_neg (by omega)])
      rw [show (BT.node k v s n g l r).enc = ⟨k, v, s, n, g, !l.isNil, !r.isNil⟩ :: (l.enc ++ r.enc) from rfl, List.drop_succ_cons, List.drop_zero, List.eq_nil_of_length_eq_zero hl0, List.nil_append, List.take_of_length_le (by omega)] at this
      exact this
  | false =>
    rw [hn] at hcl
    have hl0 : 1 ≤ l.enc.length := by
      have h1 := (BT.enc_nil_iff l).1
      rw [hn] at h1
      rcases Nat.eq_zero_or_pos l.enc.length with h2 | h2
      · simp [h2] at h1
      · exact h2
    have hends : endsL 2000 ((BT.node k v s n g l r).enc.drop 1) = some l.enc.length := ends_whole l 2000 r.enc hn (by omega)
    have hcl1 : (w.alloc (.cells #[.int .i64 0, .int .i64 0, .int .i64 0, .int .i64 0, .int .u64 0, .bool false, .bool false] 96)).cell? ⟨b, o + 5, none⟩ = some (.bool true) := by
      rw [((Ext.refl w).alloc _).cell (cell_lt hcl)]; exact hcl
    have hE := (Ext.refl w).alloc (.cells #[.int .i64 0, .int .i64 0, .int .i64 0, .int .i64 0, .int .u64 0, .bool false, .bool false] 96)
    have hnew := alloc_at w (.cells #[.int .i64 0, .int .i64 0, .int .i64 0, .int .i64 0, .int .u64 0, .bool false, .bool false] 96) _ rfl
    have hcall := ends_any b o c (BT.node k v s n g l r).enc 2000 1 0 (w.alloc (.cells #[.int .i64 0, .int .i64 0, .int .i64 0, .int .i64 0, .int .u64 0, .bool false, .bool false] 96)) (rangeAt_ext H.out hE) hl (by omega) (by omega)
    rw [hends] at hcall
    have HCALL := Lib.hid hcall
    have HLEN := Lib.hid hlen
    have hlL : l.enc.length + 1 ≤ (BT.node k v s n g l r).enc.length := by omega
    clear hn hends hcall hlen
    generalize hLL : (BT.node k v s n g l r).enc.length = LL at *
    have HLL := Lib.hid hLL
    clear hLL
    generalize hL : l.enc.length = L at *
    have HL := Lib.hid hL
    clear hL
    go_enter Tryz.func49, Tryz.ntmps49
    go_wp2_with fail
    refine HCALL.out.mono ?_
    rw [show endsV (some L) = L from rfl]
    rintro e w1 ⟨rfl, h01⟩
    have hE1 : Ext w w1 := hE.trans h01
    have hnew1 : w1.heap[w.heap.size]? = _ := (h01.block w.heap.size (by simp)).trans hnew
    have hc0 : w1.cell? ⟨b, o, none⟩ = some (.int .i64 k) := HC.out w1 hE1 0 _ rfl
    have hc1 : w1.cell? ⟨b, o + 1, none⟩ = some (.int .i64 v) := HC.out w1 hE1 1 _ rfl
    have hc2 : w1.cell? ⟨b, o + 2, none⟩ = some (.int .i64 s) := HC.out w1 hE1 2 _ rfl
    have hc3 : w1.cell? ⟨b, o + 3, none⟩ = some (.int .i64 n) := HC.out w1 hE1 3 _ rfl
    have hc4 : w1.cell? ⟨b, o + 4, none⟩ = some (.int .u64 g) := HC.out w1 hE1 4 _ rfl
    have hc5 : w1.cell? ⟨b, o + 5, none⟩ = some (.bool (!l.isNil)) := HC.out w1 hE1 5 _ rfl
    have hc6 : w1.cell? ⟨b, o + 6, none⟩ = some (.bool (!r.isNil)) := HC.out w1 hE1 6 _ rfl
    have hn0 := cell_of hnew1 0
    have hn1 := cell_of hnew1 1
    have hn2 := cell_of hnew1 2
    have hn3 := cell_of hnew1 3
    have hn4 := cell_of hnew1 4
    have hn5 := cell_of hnew1 5
    have hn6 := cell_of hnew1 6
    have hf0 := frozen_of hnew1 0
    have hf1 := frozen_of hnew1 1
    have hf2 := frozen_of hnew1 2
    have hf3 := frozen_of hnew1 3
    have hf4 := frozen_of hnew1 4
    have hf5 := frozen_of hnew1 5
    have hf6 := frozen_of hnew1 6
    simp at hn0 hn1 hn2 hn3 hn4 hn5 hn6
    have hlt : b < w.heap.size := cell_lt hcl
    clear hcl hcl1 hE hnew h01
    go_wp2_with fail
    go_region
    generalize hA : (if c = 1 + L then some (⟨b, o, none⟩ : Addr) else some ⟨b, o + (1 + L) * 7, none⟩) = A
    have HA := Lib.hid hA
    clear hA
    go_wp2
    obtain ⟨hb, hh⟩ := set7_ext hE1 hnew1 (.int .i64 k) (.int .i64 v) (.int .i64 s) (.int .i64 n) (.int .u64 g) (.bool (!l.isNil)) (.bool (!r.isNil))
    generalize World.drew (((((((w1.setCell ⟨w.heap.size, 0, none⟩ (.int .i64 k)).setCell ⟨w.heap.size, 1, none⟩ (.int .i64 v)).setCell ⟨w.heap.size, 2, none⟩ (.int .i64 s)).setCell ⟨w.heap.size, 3, none⟩ (.int .i64 n)).setCell ⟨w.heap.size, 4, none⟩ (.int .u64 g)).setCell ⟨w.heap.size, 5, none⟩ (.bool (!l.isNil))).setCell ⟨w.heap.size, 6, none⟩ (.bool (!r.isNil))) = W at *
    have hh : W.heap[w.heap.size]? = some (.cells (BeadL.cells ⟨k, v, s, n, g, !l.isNil, !r.isNil⟩).toArray 96 (0, 0)) := hh
    have hres := load_cells hh
    (try simp only [Exit.inBlock, Exit.then])
    refine bodyPost_ret (results_row_tmp2 rfl _ _ rfl hres) rfl ?_
    have h1 := HA.out
    have h2 := HLEN.out
    have h4 := HLL.out
    have h5 := HL.out
    have h3 := rangeAt_ext H.out hb
    have hd : (BT.node k v s n g l r).enc.drop 1 = l.enc ++ r.enc := rfl
    have hd2 : (BT.node k v s n g l r).enc.drop (1 + L) = r.enc := by
      rw [← List.drop_drop, hd, ← h5, List.drop_left]
    refine ⟨_, _, rfl, ?_, ?_, hb⟩
    · have := beads_sub (c := c) h3 (by omega) 1 (1 + L - 1) (c - 1) (by omega) (by omega) (some ⟨b, o + 7, none⟩) (fun _ => by rw [Nat.one_mul])
      rw [hd, show 1 + L - 1 = l.enc.length by omega, List.take_left] at this
      rw [show 1 + L - 1 = l.enc.length by omega]
      exact this
    · have := beads_sub (c := c) h3 (by omega) (1 + L) (LL - (1 + L)) (c - (1 + L)) (by omega) (by omega) A (fun hc => by rw [← h1, if_neg (by omega)])
      rw [hd2, List.take_of_length_le (by omega)] at this
      exact this
end Go.Proofs.YtkkdobolloojjaaGreat
namespace Go.Proofs.YtkkdobolloojjaaGreat
open Go Go.RowKit

/-- a row that was made since the heap had B blocks. -/
def Own (B : Nat) (w : World) (v : Value) (zs : List BeadL) : Prop := w.ownsRow B 96 7 v zs.length (beadCells zs)
theorem Own.beads {B : Nat} {w : World} {v : Value} {zs : List BeadL} (h : Own B w v zs) : Beads w v zs := by
  obtain ⟨h1, ⟨rfl, h0⟩ | ⟨g, cap, cur, rfl, hb, hg, hc, hm, hs, ht⟩⟩ := h
  · exact .inl ⟨List.eq_nil_of_length_eq_zero h0, _, 0, rfl⟩
  · by_cases h0 : zs = []
    · subst h0; exact .inl ⟨rfl, _, _, rfl⟩
    · refine .inr ⟨g, 0, cap, rfl, h0, hc, fun j u hj => ?_⟩
      rw [Nat.zero_add, cell_of hg j]
      rw [← ht, List.getElem?_take] at hj
      split at hj
      · simpa using hj
      · cases hj
theorem Own.nil (B : Nat) (w : World) : Own B w (.slice none 0 0) [] := ⟨rfl, .inl ⟨rfl, rfl⟩⟩
theorem Own.ext {B : Nat} {w w' : World} {v : Value} {zs : List BeadL} (h : Own B w v zs) (e : Ext w w') : Own B w' v zs := by
  obtain ⟨h1, h | ⟨g, cap, cur, hv, hb, hg, hc⟩⟩ := h
  · exact ⟨h1, .inl h⟩
  · exact ⟨h1, .inr ⟨g, cap, cur, hv, hb, (e.block g (lt_of hg)).trans hg, hc⟩⟩
theorem Own.mono {B B' : Nat} {w : World} {v : Value} {zs : List BeadL} (h : Own B w v zs) (e : B' ≤ B) : Own B' w v zs := by
  obtain ⟨h1, h | ⟨g, cap, cur, hv, hb, hg, hc⟩⟩ := h
  · exact ⟨h1, .inl h⟩
  · exact ⟨h1, .inr ⟨g, cap, cur, hv, Nat.le_trans e hb, hg, hc⟩⟩
theorem bead_info : ∃ i : TypeInfo, Tryz.prog.info? 96 = some i ∧ i.zero = some (.agg #[.int .i64 0, .int .i64 0, .int .i64 0, .int .i64 0, .int .u64 0, .bool false, .bool false]) ∧ i.size = 7 ∧ i.bytes = 48 := by
  have h : (Tryz.prog.info? 96).map (fun i => (i.zero, i.size, i.bytes)) = some (some (.agg #[.int .i64 0, .int .i64 0, .int .i64 0, .int .i64 0, .int .u64 0, .bool false, .bool false]), 7, 48) := by kernel_rfl
  cases hi : Tryz.prog.info? 96 with
  | none => rw [hi] at h; cases h
  | some i =>
    rw [hi] at h
    simp only [Option.map_some, Option.some.injEq, Prod.mk.injEq] at h
    exact ⟨i, rfl, h.1, h.2.1, h.2.2⟩
theorem beadCells_one : ∀ (zs : List BeadL), ∀ u ∈ beadCells zs, u.oneCell' = true
  | [], u, h => by simp [beadCells] at h
  | z :: zs, u, h => by
    rw [beadCells, List.flatMap_cons, List.mem_append] at h
    rcases h with h | h
    · simp only [BeadL.cells, List.mem_cons, List.not_mem_nil, or_false] at h
      rcases h with rfl | rfl | rfl | rfl | rfl | rfl | rfl <;> rfl
    · exact beadCells_one zs u h
theorem beadCells_append (a b : List BeadL) : beadCells (a ++ b) = beadCells a ++ beadCells b := by simp [beadCells]
/-- append, onto a row of one's own. -/
theorem append_own {B : Nat} {w : World} {v u : Value} {zs ys : List BeadL} (ty : TypeId) (hv : Own B w v zs) (hu : Beads w u ys) (hlen : zs.length + ys.length ≤ 10000) (hB : B ≤ w.heap.size) :
    ∃ v' w', (Builtin.append_ #[31, 31] ty #[v, u]).run Tryz.prog w = .ok v' w' ∧ Own B w' v' (zs ++ ys) ∧ w.grownBy w' v.ownBlock := by
  obtain ⟨i, hi, hz, hs, hb⟩ := bead_info
  have hml : (10000 : Nat) ≤ maxLen := by decide
  by_cases h0 : ys = []
  · subst h0
    have hu' : ∃ a c, u = .slice a 0 c := by
      obtain ⟨a, c, rfl⟩ := beads_slice hu
      exact ⟨a, c, rfl⟩
    obtain ⟨a, c, rfl⟩ := hu'
    have hsrc : Src Tryz.prog i.size 31 (.slice a 0 c) 0 [] w := by
      cases a with
      | none => exact Src.ofNil w Tryz.underlying31 c
      | some a => exact Src.ofSlice w Tryz.underlying31 a 0 c [] (by simp) (by simp) (by simp)
    have hv' : ∃ p l c', v = .slice p l c' ∧ l ≤ c' := by
      rcases hv with ⟨_, ⟨rfl, h0⟩ | ⟨g, cap, cur, rfl, _, _, hc, _⟩⟩
      · exact ⟨_, _, _, rfl, Nat.le_refl _⟩
      · exact ⟨_, _, _, rfl, hc⟩
    obtain ⟨p, l, c', rfl, hlc⟩ := hv'
    refine ⟨_, w, run_append_nothing w _ _ ty _ i Tryz.underlying31 hi p l c' hlc _ hsrc, by simpa using hv, ⟨rfl, rfl, rfl, Nat.le_refl _, fun _ _ _ => rfl⟩⟩
  · rcases hu with ⟨h, _⟩ | ⟨b, o, c, rfl, _, hc, hr⟩
    · exact (h0 h).elim
    · obtain ⟨v', w', hrun, hown, hg, _, _⟩ := run_append_own_at (P := Tryz.prog) w B _ ty _ i _ 7 48 Tryz.underlying31 hi hz hs hb rfl (by omega) v zs.length (beadCells zs) hv ⟨b, o, none⟩ ys.length c (beadCells ys) (beadCells_len ys)
        (fun j u hj => by rw [Addr.add_mid]; exact hr j u hj) (beadCells_one ys) (by omega) (by omega) hB
      refine ⟨v', w', hrun, ?_, hg⟩
      show w'.ownsRow _ _ _ _ _ _
      rw [List.length_append, beadCells_append]
      exact hown
/-- what append leaves alone. -/
theorem grown_ext {w0 w w' : World} {v : Value} {zs : List BeadL} (hw : Ext w0 w) (hv : Own w0.heap.size w v zs) (hg : w.grownBy w' v.ownBlock) : Ext w0 w' := by
  refine RowKit.Below.grown hw hg hw.size ?_
  intro k hk
  rcases hv with ⟨_, ⟨rfl, h0⟩ | ⟨g, cap, cur, rfl, hb, _⟩⟩
  · cases hk
  · simp only [Value.ownBlock, Option.some.injEq] at hk
    omega

/-- a new row of one bead. -/
theorem own_new {B : Nat} {w : World} (z : BeadL) (h : B ≤ w.heap.size) : Own B (w.alloc (.cells #[.int .i64 z.key, .int .i64 z.val, .int .i64 z.sum, .int .i64 z.size, .int .u64 z.tag, .bool z.left, .bool z.right] 96)) (.slice (some ⟨w.heap.size, 0, none⟩) 1 1) [z] :=
  ⟨rfl, .inr ⟨w.heap.size, 1, _, rfl, h, alloc_at _ _ _ rfl, Nat.le_refl _, by decide, rfl, rfl⟩⟩
section
variable {F : Fence} {n : Nat} {ops : Array Oper} {rest : List Oper} {o : Oper} {a : Act} {Q : Exit → Act → World → Prop}
theorem wpList_append_beads (hgd : o.guard = none) (s x : Operand) (ho : o.op = .call { callee := .builtin .append, args := #[s, x], argTypes := #[31, 31] })
    {B : Nat} {w : World} {v u : Value} {zs ys : List BeadL} (hs : a.eval s = v) (hx : a.eval x = u) (hv : Own B w v zs) (hu : Beads w u ys) (hlen : zs.length + ys.length ≤ 10000) (hB : B ≤ w.heap.size)
    (h : ∀ v' w', Own B w' v' (zs ++ ys) → w.grownBy w' v.ownBlock → wpList Tryz.prog ops Q rest (a.put o.dst v') w') : wpList Tryz.prog ops Q (o :: rest) a w := by
  refine wpList_plain hgd fun K hK => ?_
  obtain ⟨v', w', hr, h2, h3⟩ := append_own o.type hv hu hlen hB
  unfold Oper.wp execOp
  simp only [ho, resolve, invoke, builtin, Sem.run_bind, Sem.run_pure, Result.andThen_ok, List.map_toArray, List.map_cons, List.map_nil, hs, hx, hr]
  exact hK _ _ (h v' w' h2 h3)
theorem wpListIn_append_beads (hgd : o.guard = none) (s x : Operand) (ho : o.op = .call { callee := .builtin .append, args := #[s, x], argTypes := #[31, 31] })
    {B : Nat} {w : World} {v u : Value} {zs ys : List BeadL} (hs : a.eval s = v) (hx : a.eval x = u) (hv : Own B w v zs) (hu : Beads w u ys) (hlen : zs.length + ys.length ≤ 10000) (hB : B ≤ w.heap.size)
    (hfn : ∀ f, F.fn f)
    (h : ∀ v' w', Own B w' v' (zs ++ ys) → w.grownBy w' v.ownBlock → wpListIn F n Tryz.prog ops Q rest (a.put o.dst v') w') : wpListIn F n Tryz.prog ops Q (o :: rest) a w := by
  refine wpListIn_plain hgd fun K hK => ?_
  obtain ⟨v', w', hr, h2, h3⟩ := append_own o.type hv hu hlen hB
  unfold Oper.wpIn
  refine ⟨fun f _ => hfn f, ?_⟩
  rw [Oper.semAt_eq _ _ _ (fun c => by rw [ho]; simp)]
  unfold execOp
  simp only [ho, resolve, invoke, builtin, Sem.run_bind, Sem.run_pure, Result.andThen_ok, List.map_toArray, List.map_cons, List.map_nil, hs, hx, hr]
  exact hK _ _ (h v' w' h2 h3)
end
/-- beads with their sizes and sums. -/
def sumL (zs : List BeadL) : Int := zs.foldl (fun n z => wrap64 (n + z.val)) 0
def BT.of : BT → BT
  | .nil => .nil
  | .node k v s n g l r => .node k v (sumL (BT.node k v s n g l r).enc) (BT.node k v s n g l r).enc.length g l.of r.of
set_option maxHeartbeats 400000 in
theorem sum09_any (w : World) (p : Value) (zs : List BeadL) (hb : Beads w p zs) (hl : zs.length ≤ 2000) : Calls Tryz.prog 69 #[p] w (Ret (.int .i64 (sumL zs)) w) := by
  rcases hb with ⟨rfl, a, c, rfl⟩ | ⟨b, o, c, rfl, hne, hc, hr⟩
  · rw [show sumL [] = 0 from rfl]
    go_enter Tryz.func69, Tryz.ntmps69
    go_wp2
    go_loop [3, 4] (fun n i => n = .int .i64 0 ∧ i = .int .i64 0) (fun _ _ => 0)
    case atStart => exact ⟨rfl, rfl⟩
    case round =>
      obtain ⟨rfl, rfl⟩ := hrel
      go_wp2
      go_ret
      exact Ret.mk (Ext.refl _)
  · have H := Lib.hid hr
    clear hr hne
    go_enter Tryz.func69, Tryz.ntmps69
    go_wp2
    go_loop [3, 4] (fun n i => ∃ k : Nat, k ≤ zs.length ∧ i = .int .i64 k ∧ n = .int .i64 (sumL (zs.take k))) (fun _ i => zs.length - (intOf i).toNat)
    case atStart => exact ⟨0, Nat.zero_le _, rfl, rfl⟩
    case round =>
      obtain ⟨k, hk, rfl, rfl⟩ := hrel
      by_cases hlt : k < zs.length
      · obtain ⟨z, hz⟩ : ∃ z, zs[k]? = some z := ⟨_, List.getElem?_eq_getElem hlt⟩
        have hcv := rangeAt_cell H.out hz (j := 1) rfl
        have hsum : wrap64 (sumL (zs.take k) + z.val) = sumL (zs.take (k + 1)) := by
          rw [List.take_add_one, hz]; simp [sumL]
        have HS := Lib.hid hsum
        clear hz hsum
        go_wp2
        go_round
        case rel => exact ⟨k + 1, by omega, by go_num, by rw [HS.out]⟩
        case measure => simp [intOf]; omega
      · have hk' : k = zs.length := by omega
        have HK := Lib.hid hk'
        clear hk'
        go_wp2
        go_ret
        exact ⟨ret_int (by rw [HK.out, List.take_length]), Ext.refl _⟩
end Go.Proofs.YtkkdobolloojjaaGreat
namespace Go.Proofs.YtkkdobolloojjaaGreat
open Go Go.RowKit

theorem BT.of_isNil : ∀ t : BT, t.of.isNil = t.isNil
  | .nil => rfl
  | .node .. => rfl
theorem BT.of_len : ∀ t : BT, t.of.enc.length = t.enc.length
  | .nil => rfl
  | .node k v s n g l r => by simp [BT.of, BT.enc, BT.of_len l, BT.of_len r]
/-- a row that is the call's own. -/
def GivesRow (zs : List BeadL) (w : World) (e : Ending) (w' : World) : Prop := ∃ v, e = .returned v ∧ Own w.heap.size w' v zs ∧ Ext w w'
set_option maxHeartbeats 1000000 in
theorem of_any (t : BT) : ∀ (w : World) (p : Value), Beads w p t.enc → t.enc.length ≤ 2000 →
    Calls Tryz.prog 41 #[p] w (GivesRow t.of.enc w) := by
  have hfn : ∀ f, Fence.wide.fn f := fun _ => trivial
  induction t with
  | nil =>
    intro w p hb hl
    obtain ⟨a, c, rfl⟩ := beads_slice hb
    rw [show BT.nil.enc.length = 0 from rfl]
    clear hb hl
    go_enter Tryz.func41, Tryz.ntmps41
    go_wp2
    go_ret
    exact ⟨_, rfl, Own.nil _ _, Ext.refl _⟩
  | node k v s n g l r ihl ihr =>
    intro w p hb hl
    have hp := parts_any w p k v s n g l r hb hl
    have hs := fun (w : World) (h : Beads w p (BT.node k v s n g l r).enc) => sum09_any w p _ h hl
    have hlen : (BT.node k v s n g l r).enc.length = 1 + l.enc.length + r.enc.length := by simp [BT.enc]; omega
    have IHl := Lib.hid ihl
    have IHr := Lib.hid ihr
    have HS := Lib.hid hs
    have HLL := Lib.hid (show l.enc.length ≤ 2000 by omega)
    have HLR := Lib.hid (show r.enc.length ≤ 2000 by omega)
    have h1 : 1 ≤ (BT.node k v s n g l r).enc.length := by omega
    have HOF : Hid ((BT.node k v s n g l r).of.enc = ⟨k, v, sumL (BT.node k v s n g l r).enc, (BT.node k v s n g l r).enc.length, g, !l.isNil, !r.isNil⟩ :: (l.of.enc ++ r.of.enc)) := Lib.hid (by
      show BeadL.mk _ _ _ _ _ (!l.of.isNil) (!r.of.isNil) :: _ = _
      rw [BT.of_isNil, BT.of_isNil])
    have HB := Lib.hid hb
    obtain ⟨a, c, rfl⟩ := beads_slice hb
    have HP := Lib.hid hp
    have HLEN := Lib.hid hlen
    clear hb hp hlen ihl ihr hs
    obtain ⟨OF, hOF⟩ : ∃ OF, OF = (BT.node k v s n g l r).of.enc := ⟨_, rfl⟩
    rw [← hOF] at HOF ⊢
    clear hOF
    generalize hZS : (BT.node k v s n g l r).enc = ZS at *
    have HZS := Lib.hid hZS
    clear hZS
    generalize hSS : sumL ZS = SS at *
    clear hSS
    generalize hL : ZS.length = LL at *
    have HL := Lib.hid hL
    clear hL
    go_enter Tryz.func41, Tryz.ntmps41
    obtain ⟨m⟩ : Nonempty Nat := ⟨0⟩
    refine (wpIn_wide (n := m)).1 ?_
    gi_wp2_with fail
    refine ⟨wide_room _, (callsIn_wide.2 (HP.out)).mono ?_⟩
    rintro e w1 ⟨v1, v2, rfl, hv1, hv2, hE⟩
    gi_wp2_with fail
    have hnew := alloc_at w1 (.cells #[.int .i64 k, .int .i64 v, .int .i64 s, .int .i64 LL, .int .u64 g, .bool (!l.isNil), .bool (!r.isNil)] 96) _ rfl
    have hE2 := (Ext.refl w1).alloc (.cells #[.int .i64 k, .int .i64 v, .int .i64 s, .int .i64 LL, .int .u64 g, .bool (!l.isNil), .bool (!r.isNil)] 96)
    generalize w1.alloc (.cells #[.int .i64 k, .int .i64 v, .int .i64 s, .int .i64 LL, .int .u64 g, .bool (!l.isNil), .bool (!r.isNil)] 96) = w2 at *
    refine ⟨wide_room _, (callsIn_wide.2 (HS.out w2 (HB.out.ext (hE.trans hE2)))).mono ?_⟩
    rintro e w3 ⟨rfl, h3⟩
    have hnew3 := (h3.block w1.heap.size (lt_of hnew)).trans hnew
    have hc2 := cell_of hnew3 2
    have hf2 := frozen_of hnew3 2
    simp at hc2
    have hw3 := hE2.trans h3
    gi_wp2_with fail
    have hw4 : Ext w1 (w3.setCell ⟨w1.heap.size, 2, none⟩ (.int .i64 SS)) := Ext.put hw3 2 _
    have hnew4 : (w3.setCell ⟨w1.heap.size, 2, none⟩ (.int .i64 SS)).heap[w1.heap.size]? = some (.cells #[.int .i64 k, .int .i64 v, .int .i64 SS, .int .i64 LL, .int .u64 g, .bool (!l.isNil), .bool (!r.isNil)] 96 (0, 0)) := by
      simp [World.setCell, Array.getElem?_modify, hnew3]
    generalize w3.setCell ⟨w1.heap.size, 2, none⟩ (.int .i64 SS) = w4 at *
    have h01 : Ext w w1 := hE
    have h14 : Ext w1 w4 := hw4
    have HV1 := Lib.hid (hv1.ext hw4)
    have HV2 := Lib.hid hv2
    clear hv1 hv2 hE hE2 hw3 h3 hnew hnew3 hc2 hf2 hw4
    have hc0 := cell_all (cell_of hnew4 0)
    have hc1 := cell_all (cell_of hnew4 1)
    have hc2 := cell_all (cell_of hnew4 2)
    have hc3 := cell_all (cell_of hnew4 3)
    have hc4 := cell_all (cell_of hnew4 4)
    have hc5 := cell_all (cell_of hnew4 5)
    have hc6 := cell_all (cell_of hnew4 6)
    have hx := Ext.drew w4
    clear hnew4
    refine wpIn_region_G (fun j => !(List.contains (α := Nat) [4] j)) (by kernel_rfl) ?_
    refine batchG hfn (fuel := 4) [0, 2] (by kernel_rfl) rfl ?_
    repeat (go_big_quiet_step ((fail)))
    refine wpQuiet_nil ?_
    refine wpAnyG_two (j := 1) (k := 3) (by kernel_rfl) rfl rfl ?_ ?_
    · gi_wp2_with fail
      have hown := (own_new (w := w4) ⟨k, v, SS, LL, g, !l.isNil, !r.isNil⟩ (show w1.heap.size ≤ w4.heap.size from h14.size)).ext (Ext.drew _)
      have h45 := ((Ext.refl w4).alloc (.cells #[.int .i64 k, .int .i64 v, .int .i64 SS, .int .i64 LL, .int .u64 g, .bool (!l.isNil), .bool (!r.isNil)] 96)).trans (Ext.drew _)
      refine onePost_ext ((Ext.refl w4.drew).alloc _) ?_
      clear hx hc0 hc1 hc2 hc3 hc4 hc5 hc6
      refine wpAnyG_one (j := 3) (by kernel_rfl) rfl ?_
      gi_wp2_with fail
      generalize (w4.alloc (.cells #[.int .i64 k, .int .i64 v, .int .i64 SS, .int .i64 LL, .int .u64 g, .bool (!l.isNil), .bool (!r.isNil)] 96)).drew = w5 at *
      generalize w4.heap.size = N5 at *
      refine ⟨wide_room _, (callsIn_wide.2 (IHl.out w5 v1 (HV1.out.ext h45) HLL.out)).mono ?_⟩
      rintro e w6 ⟨v3, rfl, hv3, h56⟩
      gi_wp2_with fail
      refine onePost_ext (h56) ?_
      have hown6 := hown.ext h56
      have hb6 := hv3.beads
      have h16 : Ext w1 w6 := (h14.trans h45).trans h56
      clear hown hv3 h56 h45
      refine wpAnyG_one (j := 4) (by kernel_rfl) rfl ?_
      refine wpListIn_append_beads (B := w1.heap.size) (zs := [⟨k, v, SS, LL, g, !l.isNil, !r.isNil⟩]) (ys := l.of.enc) rfl (.tmp 23) (.tmp 25) rfl rfl rfl hown6 hb6 (by rw [BT.of_len]; have := HLL.out; simp; omega) h16.size hfn ?_
      intro v4 w7 hown7 hg7
      have h17 : Ext w1 w7 := grown_ext h16 hown6 hg7
      simp only [Act.put, List.setIfInBounds_toArray, List.set_cons_zero, List.set_cons_succ]
      refine wpListIn_nil ?_
      refine onePost_any (by kernel_rfl) ?_
      clear hg7 hown6 hb6 h16
      refine batchG hfn (fuel := 0) [5] (by kernel_rfl) rfl ?_
      repeat (go_big_quiet_step ((fail)))
      refine wpQuiet_nil ?_
      refine wpAnyG_done (by kernel_rfl) ?_
      refine calmQ_normal ?_
      gi_wp2_with fail
      refine ⟨wide_room _, (callsIn_wide.2 (IHr.out w7 v2 (HV2.out.ext h17) HLR.out)).mono ?_⟩
      rintro e w8 ⟨v5, rfl, hv5, h78⟩
      have hown8 := hown7.ext h78
      have hb8 := hv5.beads
      have h18 := h17.trans h78
      clear hown7 hv5 h78 h17
      gi_wp2_with (refine wpListIn_append_beads (B := w1.heap.size) rfl (.tmp 27) (.tmp 29) rfl rfl rfl hown8 hb8 ?c1 h18.size hfn ?_)
      case c1 =>
        rw [BT.of_len, List.length_append, BT.of_len]
        have := HLL.out
        have := HLR.out
        simp
        omega
      intro v6 w9 hown9 hg9
      have h19 : Ext w1 w9 := grown_ext h18 hown8 hg9
      clear hg9 hown8 hb8
      gi_wp2
      go_ret
      refine ⟨_, rfl, ?_, h01.trans h19⟩
      rw [HOF.out]
      exact hown9.mono h01.size
    · clear hc0 hc1 hc2 hc3 hc4 hc5 hc6
      gi_wp2_with fail
      refine ⟨wide_room _, (callsIn_wide.2 (IHl.out w4.drew v1 (HV1.out.ext hx) HLL.out)).mono ?_⟩
      rintro e w5 ⟨v3, rfl, hv3, h45'⟩
      gi_wp2_with fail
      refine onePost_ext (h45') ?_
      have h45 := hx.trans h45'
      refine wpAnyG_one (j := 1) (by kernel_rfl) rfl ?_
      gi_wp2_with fail
      have h15 := h14.trans h45
      have hown6 := own_new (w := w5) ⟨k, v, SS, LL, g, !l.isNil, !r.isNil⟩ (show w1.heap.size ≤ w5.heap.size from h15.size)
      refine onePost_ext ((Ext.refl w5).alloc _) ?_
      have h56 := (Ext.refl w5).alloc (.cells #[.int .i64 k, .int .i64 v, .int .i64 SS, .int .i64 LL, .int .u64 g, .bool (!l.isNil), .bool (!r.isNil)] 96)
      generalize w5.alloc (.cells #[.int .i64 k, .int .i64 v, .int .i64 SS, .int .i64 LL, .int .u64 g, .bool (!l.isNil), .bool (!r.isNil)] 96) = w6 at *
      generalize w5.heap.size = N5 at *
      have hb6 := hv3.beads.ext h56
      have h16 : Ext w1 w6 := h15.trans h56
      clear hv3 h56 h45 h45' hx h15
      refine wpAnyG_one (j := 4) (by kernel_rfl) rfl ?_
      refine wpListIn_append_beads (B := w1.heap.size) (zs := [⟨k, v, SS, LL, g, !l.isNil, !r.isNil⟩]) (ys := l.of.enc) rfl (.tmp 23) (.tmp 25) rfl rfl rfl hown6 hb6 (by rw [BT.of_len]; have := HLL.out; simp; omega) h16.size hfn ?_
      intro v4 w7 hown7 hg7
      have h17 : Ext w1 w7 := grown_ext h16 hown6 hg7
      simp only [Act.put, List.setIfInBounds_toArray, List.set_cons_zero, List.set_cons_succ]
      refine wpListIn_nil ?_
      refine onePost_any (by kernel_rfl) ?_
      clear hg7 hown6 hb6 h16
      refine batchG hfn (fuel := 0) [5] (by kernel_rfl) rfl ?_
      repeat (go_big_quiet_step ((fail)))
      refine wpQuiet_nil ?_
      refine wpAnyG_done (by kernel_rfl) ?_
      refine calmQ_normal ?_
      gi_wp2_with fail
      refine ⟨wide_room _, (callsIn_wide.2 (IHr.out w7 v2 (HV2.out.ext h17) HLR.out)).mono ?_⟩
      rintro e w8 ⟨v5, rfl, hv5, h78⟩
      have hown8 := hown7.ext h78
      have hb8 := hv5.beads
      have h18 := h17.trans h78
      clear hown7 hv5 h78 h17
      gi_wp2_with (refine wpListIn_append_beads (B := w1.heap.size) rfl (.tmp 27) (.tmp 29) rfl rfl rfl hown8 hb8 ?c1 h18.size hfn ?_)
      case c1 =>
        rw [BT.of_len, List.length_append, BT.of_len]
        have := HLL.out
        have := HLR.out
        simp
        omega
      intro v6 w9 hown9 hg9
      have h19 : Ext w1 w9 := grown_ext h18 hown8 hg9
      clear hg9 hown8 hb8
      gi_wp2
      go_ret
      refine ⟨_, rfl, ?_, h01.trans h19⟩
      rw [HOF.out]
      exact hown9.mono h01.size
end Go.Proofs.YtkkdobolloojjaaGreat
