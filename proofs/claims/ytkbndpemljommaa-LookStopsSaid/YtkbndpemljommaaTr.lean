/- Trees of nodes as they lie in memory: the ghost tree, what the heap holds of it, and that it stays where nothing old is written. -/
import Derived.Test.YtkbndpemljommaaProg
import Derived.WalkKit
import Derived.Lib.Hide
import Derived.Laws.EntriesVeiled
namespace Go.Proofs.Ytkbndpemljommaa
open Go Go.RowKit

/-- a tree of nodes: the block in which the root lies, what is left, key, value, tag, what is right. -/
inductive Tr where
  | nil
  | node (b : Nat) (l : Tr) (k v g : Int) (r : Tr)

namespace Tr
def ptr : Tr → Option Addr
  | nil => none
  | node b _ _ _ _ _ => some ⟨b, 0, none⟩
def size : Tr → Int
  | nil => 0
  | node _ l _ _ _ r => wrap64 (wrap64 (l.size + 1) + r.size)
def sum : Tr → Int
  | nil => 0
  | node _ l _ v _ r => wrap64 (wrap64 (l.sum + v) + r.sum)
def key : Tr → Int
  | nil => 0
  | node _ _ k _ _ _ => k
def val : Tr → Int
  | nil => 0
  | node _ _ _ v _ _ => v
def tag : Tr → Int
  | nil => 0
  | node _ _ _ _ g _ => g
def left : Tr → Tr
  | nil => nil
  | node _ l _ _ _ _ => l
def right : Tr → Tr
  | nil => nil
  | node _ _ _ _ _ r => r
theorem ptr_nil : nil.ptr = none := rfl
theorem ptr_node (b l k v g r) : (node b l k v g r).ptr = some ⟨b, 0, none⟩ := rfl
theorem key_nil : nil.key = 0 := rfl
theorem key_node (b l k v g r) : (node b l k v g r).key = k := rfl
theorem val_nil : nil.val = 0 := rfl
theorem val_node (b l k v g r) : (node b l k v g r).val = v := rfl
theorem tag_nil : nil.tag = 0 := rfl
theorem tag_node (b l k v g r) : (node b l k v g r).tag = g := rfl
theorem size_nil : nil.size = 0 := rfl
theorem sum_nil : nil.sum = 0 := rfl
theorem left_nil : nil.left = nil := rfl
theorem left_node (b l k v g r) : (node b l k v g r).left = l := rfl
theorem right_nil : nil.right = nil := rfl
theorem right_node (b l k v g r) : (node b l k v g r).right = r := rfl
end Tr

/-- a tree's nodes, each ahead of its sides. -/
def Tr.pre : Tr → List Tr
  | .nil => []
  | .node b l k v g r => .node b l k v g r :: (l.pre ++ r.pre)

/-- what the heap holds of a tree. -/
def InH (w : World) : Tr → Prop
  | .nil => True
  | .node b l k v g r => w.heap[b]? = some (.cells #[.int .i64 k, .int .i64 v, .int .i64 (Tr.node b l k v g r).sum, .int .u64 g, .int .i64 (Tr.node b l k v g r).size, .pointer l.ptr, .pointer r.ptr] 60 (0, 0)) ∧ InH w l ∧ InH w r

/-- nothing that was there has turned. -/
def Ext (w w' : World) : Prop := Below w.heap.size w w'
theorem Ext.refl (w : World) : Ext w w := Below.refl _ _
theorem Ext.trans {a b c : World} (h : Ext a b) (k : Ext b c) : Ext a c := Below.trans h (Below.mono k h.size)
theorem Ext.alloc {a b : World} (h : Ext a b) (o : Obj) : Ext a (b.alloc o) := Below.alloc h h.size o
theorem Ext.size {a b : World} (h : Ext a b) : a.heap.size ≤ b.heap.size := Below.size h
theorem Ext.get {a b : World} (h : Ext a b) {i : Nat} {o : Obj} (k : a.heap[i]? = some o) : b.heap[i]? = some o :=
  (Below.block h i (Array.getElem?_eq_some_iff.1 k).1).trans k
theorem InH.ext {a b : World} (h : Ext a b) : ∀ {t : Tr}, InH a t → InH b t
  | .nil, _ => trivial
  | .node _ _ _ _ _ _, ⟨h0, h1, h2⟩ => ⟨h.get h0, InH.ext h h1, InH.ext h h2⟩

theorem alloc_get (w : World) (o : Obj) (i : Nat) : (w.alloc o).heap[i]? = if i = w.heap.size then some o else w.heap[i]? := by
  show (w.heap.push o)[i]? = _
  rw [Array.getElem?_push]
theorem alloc_at (w : World) (o : Obj) (i : Nat) (h : i = w.heap.size) : (w.alloc o).heap[i]? = some o := by rw [alloc_get, if_pos h]
theorem alloc_lt (w : World) (o : Obj) (i : Nat) (h : i < w.heap.size) : (w.alloc o).heap[i]? = w.heap[i]? := by rw [alloc_get, if_neg (by omega)]
/-- it hands back a value, and nothing that was there has turned. -/
def Ret (v : Value) (w : World) (e : Ending) (w' : World) : Prop := e = .returned v ∧ Ext w w'
theorem Ret.mk {v : Value} {w w' : World} (h : Ext w w') : Ret v w (.returned v) w' := ⟨rfl, h⟩
end Go.Proofs.Ytkbndpemljommaa
