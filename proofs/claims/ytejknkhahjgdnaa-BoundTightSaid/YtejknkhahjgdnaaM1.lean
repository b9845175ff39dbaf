/- Trees of nodes as they lie in memory: the ghost tree, what the heap holds of it, and that it stays where nothing old is written. Numbers in words of 32 bits (plain). What the functions of the package node do, at any tree. What a going over a tree keeps: all cells but those of some blocks of the caller's own. A region that draws its order, inside a wide fence: an operation that yields the same value in every world that meets S may be taken first; behind each that is carried out S is shown anew. Rows of words in memory; nat.trim, May, From, fits, wide. nat.add, Add; joineryref07.Same. nat.mul, Mul. joineryref07.Same; nat.Pow. -/
import Derived.Test.YtejknkhahjgdnaaProg
import Derived.WalkKit
import Derived.Lib.Hide
import Derived.Laws.EntriesVeiled
import Derived.RangeFuncNested
import Derived.RangeFuncBound
import Derived.RangeFuncCalls
import Derived.RangeFuncLeaves
import Derived.Shelf.Abstract
import Derived.Shelf.RegionOpen
import Derived.OwnWalkIn
import Derived.TacticsInMore
import Derived.LoopNIn
import Derived.LoopIn
import Derived.OrdersIn
import Derived.OrdersHeld
import Derived.Deep.Quiet
import Derived.BigGuardIn
import Derived.BigQuiet
import Derived.Deep.MidRow
import Derived.Laws.CopyOwn
import Derived.Laws.MakeOwn
import Derived.BigRegion
namespace Go.Proofs.Ytejknkhahjgdnaa
open Go Go.RowKit

/-- a tree of nodes: the block in which the root lies, what is left, key, value, tag, what is right. -/
inductive Tr where
  | nil
  | node (b : Nat) (l : Tr) (k v g : Int) (r : Tr)

namespace Tr
def ptr : Tr → Option Addr
  | nil => none
  | node b _ _ _ _ _ => some ⟨b, 0, none⟩
def size : Tr → Int
  | nil => 0
  | node _ l _ _ _ r => wrap64 (wrap64 (l.size + 1) + r.size)
def sum : Tr → Int
  | nil => 0
  | node _ l _ v _ r => wrap64 (wrap64 (l.sum + v) + r.sum)
def key : Tr → Int
  | nil => 0
  | node _ _ k _ _ _ => k
def val : Tr → Int
  | nil => 0
  | node _ _ _ v _ _ => v
def tag : Tr → Int
  | nil => 0
  | node _ _ _ _ g _ => g
def left : Tr → Tr
  | nil => nil
  | node _ l _ _ _ _ => l
def right : Tr → Tr
  | nil => nil
  | node _ _ _ _ _ r => r
theorem ptr_nil : nil.ptr = none := rfl
theorem ptr_node (b l k v g r) : (node b l k v g r).ptr = some ⟨b, 0, none⟩ := rfl
theorem key_nil : nil.key = 0 := rfl
theorem key_node (b l k v g r) : (node b l k v g r).key = k := rfl
theorem val_nil : nil.val = 0 := rfl
theorem val_node (b l k v g r) : (node b l k v g r).val = v := rfl
theorem tag_nil : nil.tag = 0 := rfl
theorem tag_node (b l k v g r) : (node b l k v g r).tag = g := rfl
theorem size_nil : nil.size = 0 := rfl
theorem sum_nil : nil.sum = 0 := rfl
theorem left_nil : nil.left = nil := rfl
theorem left_node (b l k v g r) : (node b l k v g r).left = l := rfl
theorem right_nil : nil.right = nil := rfl
theorem right_node (b l k v g r) : (node b l k v g r).right = r := rfl
end Tr

/-- a tree's nodes, each ahead of its sides. -/
def Tr.pre : Tr → List Tr
  | .nil => []
  | .node b l k v g r => .node b l k v g r :: (l.pre ++ r.pre)

/-- what the heap holds of a tree. -/
def InH (w : World) : Tr → Prop
  | .nil => True
  | .node b l k v g r => w.heap[b]? = some (.cells #[.int .i64 k, .int .i64 v, .int .i64 (Tr.node b l k v g r).sum, .int .u64 g, .int .i64 (Tr.node b l k v g r).size, .pointer l.ptr, .pointer r.ptr] 89 (0, 0)) ∧ InH w l ∧ InH w r

/-- nothing that was there has turned. -/
def Ext (w w' : World) : Prop := Below w.heap.size w w'
theorem Ext.refl (w : World) : Ext w w := Below.refl _ _
theorem Ext.trans {a b c : World} (h : Ext a b) (k : Ext b c) : Ext a c := Below.trans h (Below.mono k h.size)
theorem Ext.alloc {a b : World} (h : Ext a b) (o : Obj) : Ext a (b.alloc o) := Below.alloc h h.size o
theorem Ext.size {a b : World} (h : Ext a b) : a.heap.size ≤ b.heap.size := Below.size h
theorem Ext.get {a b : World} (h : Ext a b) {i : Nat} {o : Obj} (k : a.heap[i]? = some o) : b.heap[i]? = some o :=
  (Below.block h i (Array.getElem?_eq_some_iff.1 k).1).trans k
theorem InH.ext {a b : World} (h : Ext a b) : ∀ {t : Tr}, InH a t → InH b t
  | .nil, _ => trivial
  | .node _ _ _ _ _ _, ⟨h0, h1, h2⟩ => ⟨h.get h0, InH.ext h h1, InH.ext h h2⟩

theorem alloc_get (w : World) (o : Obj) (i : Nat) : (w.alloc o).heap[i]? = if i = w.heap.size then some o else w.heap[i]? := by
  show (w.heap.push o)[i]? = _
  rw [Array.getElem?_push]
theorem alloc_at (w : World) (o : Obj) (i : Nat) (h : i = w.heap.size) : (w.alloc o).heap[i]? = some o := by rw [alloc_get, if_pos h]
theorem alloc_lt (w : World) (o : Obj) (i : Nat) (h : i < w.heap.size) : (w.alloc o).heap[i]? = w.heap[i]? := by rw [alloc_get, if_neg (by omega)]
/-- it hands back a value, and nothing that was there has turned. -/
def Ret (v : Value) (w : World) (e : Ending) (w' : World) : Prop := e = .returned v ∧ Ext w w'
theorem Ret.mk {v : Value} {w w' : World} (h : Ext w w') : Ret v w (.returned v) w' := ⟨rfl, h⟩
end Go.Proofs.Ytejknkhahjgdnaa
namespace Go.Proofs.Ytejknkhahjgdnaa

/-- the base. -/
def beta : Nat := 4294967296
theorem beta_pos : 0 < beta := by decide
def nval : List Nat → Nat
  | [] => 0
  | d :: ds => d + beta * nval ds
/-- all words are less than the base. -/
def Words (xs : List Nat) : Prop := ∀ d ∈ xs, d < beta
/-- a number as it should be: no nought at its end. -/
def Norm (xs : List Nat) : Prop := Words xs ∧ (xs = [] ∨ xs.getD (xs.length - 1) 0 ≠ 0)
theorem nval_append : ∀ (xs ys : List Nat), nval (xs ++ ys) = nval xs + beta ^ xs.length * nval ys
  | [], ys => by simp [nval]
  | x :: xs, ys => by
    rw [List.cons_append, nval, nval, nval_append xs ys, List.length_cons, Nat.pow_succ, Nat.mul_add, Nat.mul_comm (beta ^ xs.length) beta, Nat.mul_assoc, Nat.add_assoc]
theorem nval_lt : ∀ {xs : List Nat}, Words xs → nval xs < beta ^ xs.length
  | [], _ => by simp [nval]
  | x :: xs, h => by
    have h1 := nval_lt (xs := xs) (fun d hd => h d (List.mem_cons_of_mem _ hd))
    have h2 := h x (List.mem_cons_self ..)
    rw [nval, List.length_cons, Nat.pow_succ]
    have h3 : beta * (nval xs + 1) ≤ beta * beta ^ xs.length := Nat.mul_le_mul_left _ h1
    rw [Nat.mul_comm (beta ^ xs.length), Nat.mul_add] at *
    omega
theorem nval_zero : ∀ {xs : List Nat}, (∀ d ∈ xs, d = 0) → nval xs = 0
  | [], _ => rfl
  | x :: xs, h => by rw [nval, h x (List.mem_cons_self ..), nval_zero (fun d hd => h d (List.mem_cons_of_mem _ hd))]; rfl
theorem words_tail {x : Nat} {xs : List Nat} (h : Words (x :: xs)) : Words xs := fun d hd => h d (List.mem_cons_of_mem _ hd)
theorem norm_tail {x : Nat} {xs : List Nat} (h : Norm (x :: xs)) : Norm xs := by
  refine ⟨words_tail h.1, ?_⟩
  cases xs with
  | nil => exact .inl rfl
  | cons y ys =>
    rcases h.2 with h | h
    · cases h
    · right
      simpa using h
theorem norm_zero {xs : List Nat} (h : Norm xs) (h0 : nval xs = 0) : xs = [] := by
  induction xs with
  | nil => rfl
  | cons x xs ih =>
    exfalso
    rw [nval] at h0
    have hb := beta_pos
    have hx : x = 0 := by omega
    have h1 : nval xs = 0 := by
      rcases Nat.eq_zero_or_pos (nval xs) with h | h
      · exact h
      · have := Nat.mul_le_mul_left beta h
        omega
    have h2 := ih (norm_tail h) h1
    subst h2
    rcases h.2 with h | h
    · cases h
    · simp [hx] at h
theorem norm_inj : ∀ {xs ys : List Nat}, Norm xs → Norm ys → nval xs = nval ys → xs = ys
  | [], ys, _, hy, e => (norm_zero hy e.symm).symm
  | x :: xs, [], hx, _, e => norm_zero hx e
  | x :: xs, y :: ys, hx, hy, e => by
    have h1 := hx.1 x (List.mem_cons_self ..)
    have h2 := hy.1 y (List.mem_cons_self ..)
    rw [nval, nval] at e
    have e1 : x = y := by
      have := congrArg (· % beta) e
      simpa [Nat.add_mul_mod_self_left, Nat.mod_eq_of_lt h1, Nat.mod_eq_of_lt h2] using this
    subst e1
    have e2 : nval xs = nval ys := Nat.eq_of_mul_eq_mul_left beta_pos (by omega)
    rw [norm_inj (norm_tail hx) (norm_tail hy) e2]
theorem norm_low : ∀ {xs : List Nat}, Norm xs → xs ≠ [] → beta ^ (xs.length - 1) ≤ nval xs
  | [], _, h => absurd rfl h
  | [x], h, _ => by
    rcases h.2 with h | h
    · cases h
    · simp [nval] at h ⊢; omega
  | x :: y :: ys, h, _ => by
    have h1 := norm_low (norm_tail h) (by simp)
    rw [nval]
    simp only [List.length_cons, Nat.add_sub_cancel] at h1 ⊢
    rw [Nat.pow_succ, Nat.mul_comm]
    exact Nat.le_trans (Nat.mul_le_mul_left beta h1) (Nat.le_add_left _ _)
/-- how long a number is. -/
theorem norm_len {xs : List Nat} (h : Norm xs) (k : Nat) : xs.length ≤ k ↔ nval xs < beta ^ k := by
  constructor
  · intro hk
    exact Nat.lt_of_lt_of_le (nval_lt h.1) (Nat.pow_le_pow_right beta_pos hk)
  · intro hk
    rcases Nat.lt_or_ge k xs.length with h1 | h1
    · exfalso
      have h2 := norm_low h (by intro e; subst e; simp at h1)
      have h3 : beta ^ k ≤ beta ^ (xs.length - 1) := Nat.pow_le_pow_right beta_pos (by omega)
      omega
    · exact h1
theorem nval_take (xs : List Nat) (k : Nat) (hk : k < xs.length) : nval (xs.take (k + 1)) = nval (xs.take k) + beta ^ k * xs.getD k 0 := by
  have hz : xs[k]? = some (xs.getD k 0) := by rw [List.getD_eq_getElem?_getD, List.getElem?_eq_getElem hk]; rfl
  rw [List.take_add_one, hz, nval_append, List.length_take, Nat.min_eq_left (Nat.le_of_lt hk)]
  simp [nval]
theorem nval_take_past (xs : List Nat) (k : Nat) (hk : xs.length ≤ k) : nval (xs.take k) = nval xs := by rw [List.take_of_length_le hk]
theorem getD_past (xs : List Nat) (k : Nat) (hk : xs.length ≤ k) : xs.getD k 0 = 0 := by simp [List.getD_eq_getElem?_getD, hk]
/-- the same, past the end as well. -/
theorem nval_take' (xs : List Nat) (k : Nat) : nval (xs.take (k + 1)) = nval (xs.take k) + beta ^ k * xs.getD k 0 := by
  rcases Nat.lt_or_ge k xs.length with h | h
  · exact nval_take xs k h
  · rw [nval_take_past xs k h, nval_take_past xs (k + 1) (by omega), getD_past xs k h, Nat.mul_zero, Nat.add_zero]
theorem nval_set : ∀ (xs : List Nat) (k d : Nat), k < xs.length → nval (xs.set k d) + beta ^ k * xs.getD k 0 = nval xs + beta ^ k * d
  | [], k, _, h => by simp at h
  | x :: xs, 0, d, _ => by simp [nval]; omega
  | x :: xs, k + 1, d, h => by
    have ih := nval_set xs k d (by simpa using h)
    rw [List.set_cons_succ, nval, nval, List.getD_cons_succ, Nat.pow_succ, Nat.mul_comm (beta ^ k) beta, Nat.mul_assoc, Nat.mul_assoc]
    have := congrArg (beta * ·) ih
    simp only [Nat.mul_add] at this
    omega
theorem words_set {xs : List Nat} {k d : Nat} (h : Words xs) (hd : d < beta) : Words (xs.set k d) := fun y hy => by
  rcases List.mem_or_eq_of_mem_set hy with h1 | h1
  · exact h y h1
  · rw [h1]; exact hd
theorem words_getD {xs : List Nat} (h : Words xs) (k : Nat) : xs.getD k 0 < beta := by
  rcases Nat.lt_or_ge k xs.length with hk | hk
  · rw [List.getD_eq_getElem?_getD, List.getElem?_eq_getElem hk]; exact h _ (List.getElem_mem hk)
  · rw [getD_past xs k hk]; exact beta_pos
theorem words_take {xs : List Nat} (h : Words xs) (k : Nat) : Words (xs.take k) := fun d hd => h d (List.mem_of_mem_take hd)
/-- what trim leaves. -/
theorem trim_norm {xs : List Nat} (h : Words xs) {k : Nat} (hk : k ≤ xs.length) (h0 : ∀ j, k ≤ j → xs.getD j 0 = 0) (h1 : k = 0 ∨ xs.getD (k - 1) 0 ≠ 0) : Norm (xs.take k) ∧ nval (xs.take k) = nval xs := by
  refine ⟨⟨words_take h k, ?_⟩, ?_⟩
  · rcases h1 with h1 | h1
    · left; rw [h1]; rfl
    · by_cases hk0 : k = 0
      · left; rw [hk0]; rfl
      · right
        rw [List.length_take, Nat.min_eq_left hk, List.getD_eq_getElem?_getD, List.getElem?_take, if_pos (by omega), ← List.getD_eq_getElem?_getD]
        exact h1
  · have e : nval xs = nval (xs.take k ++ xs.drop k) := by rw [List.take_append_drop]
    rw [e, nval_append, nval_zero (xs := xs.drop k), Nat.mul_zero, Nat.add_zero]
    intro d hd
    obtain ⟨j, hj, e⟩ := List.getElem_of_mem hd
    have := h0 (k + j) (by omega)
    rw [List.getElem_drop] at e
    rw [← e]
    rw [List.getD_eq_getElem?_getD, List.getElem?_eq_getElem (by simp at hj; omega)] at this
    exact this
/-- the round of a sum. -/
theorem add_step {ds xs ys : List Nat} {k c : Nat} (hk : k < ds.length) (hc : c ≤ 1) (hx : Words xs) (hy : Words ys) (hd : ∀ j, k ≤ j → ds.getD j 0 = xs.getD j 0)
    (h : nval (ds.take k) + beta ^ k * c = nval (xs.take k) + nval (ys.take k)) :
    let s := c + xs.getD k 0 + ys.getD k 0
    (s / beta ≤ 1) ∧ (∀ j, k + 1 ≤ j → (ds.set k (s % beta)).getD j 0 = xs.getD j 0) ∧ nval ((ds.set k (s % beta)).take (k + 1)) + beta ^ (k + 1) * (s / beta) = nval (xs.take (k + 1)) + nval (ys.take (k + 1)) := by
  intro s
  have h1 := words_getD hx k
  have h2 := words_getD hy k
  have hb : beta = 4294967296 := rfl
  refine ⟨?_, ?_, ?_⟩
  · have : s < 2 * beta := by show c + xs.getD k 0 + ys.getD k 0 < _; omega
    have := Nat.div_lt_of_lt_mul (show s < beta * 2 by omega)
    omega
  · intro j hj
    rw [List.getD_eq_getElem?_getD, List.getElem?_set_ne (by omega), ← List.getD_eq_getElem?_getD]
    exact hd j (by omega)
  · rw [nval_take _ k (by simpa using hk), nval_take' xs k, nval_take' ys k]
    have e1 : (ds.set k (s % beta)).getD k 0 = s % beta := by simp [List.getD_eq_getElem?_getD, hk]
    have e2 : (ds.set k (s % beta)).take k = ds.take k := by
      apply List.ext_getElem?
      intro i
      rw [List.getElem?_take, List.getElem?_take]
      split
      · rw [List.getElem?_set_ne (by omega)]
      · rfl
    rw [e1, e2, Nat.pow_succ, Nat.mul_assoc]
    have hs := Nat.mod_add_div s beta
    have h3 : beta ^ k * (s % beta) + beta ^ k * (beta * (s / beta)) = beta ^ k * c + beta ^ k * xs.getD k 0 + beta ^ k * ys.getD k 0 := by
      rw [← Nat.mul_add, hs, ← Nat.mul_add, ← Nat.mul_add]
    omega
theorem add_end {ds xs ys : List Nat} {c : Nat} (hx : Words xs) (hy : Words ys) (hl : ds.length = max xs.length ys.length + 1) (h : nval (ds.take ds.length) + beta ^ ds.length * c = nval (xs.take ds.length) + nval (ys.take ds.length)) : nval ds = nval xs + nval ys := by
  rw [List.take_length, nval_take_past xs _ (by omega), nval_take_past ys _ (by omega)] at h
  have h1 := Nat.lt_of_lt_of_le (nval_lt hx) (Nat.pow_le_pow_right beta_pos (show xs.length ≤ ds.length - 1 by omega))
  have h2 := Nat.lt_of_lt_of_le (nval_lt hy) (Nat.pow_le_pow_right beta_pos (show ys.length ≤ ds.length - 1 by omega))
  have h3 : beta ^ ds.length = beta ^ (ds.length - 1) * beta := by rw [← Nat.pow_succ]; congr 1; omega
  have h4 : beta ^ (ds.length - 1) * 2 ≤ beta ^ ds.length := by rw [h3]; exact Nat.mul_le_mul_left _ (by decide)
  rcases Nat.eq_zero_or_pos c with hc | hc
  · subst hc; omega
  · have := Nat.mul_le_mul_left (beta ^ ds.length) hc
    omega
/-- the round of a product. -/
theorem mul_step {ds ys : List Nat} {i k c x V : Nat} (hk : i + k < ds.length) (hd : Words ds) (hy : Words ys) (hx : x < beta) (hc : c < beta)
    (h : nval ds + beta ^ (i + k) * c = V + x * nval (ys.take k) * beta ^ i) :
    let s := c + ds.getD (i + k) 0 + x * ys.getD k 0
    s < 18446744073709551616 ∧ s / beta < beta ∧ nval (ds.set (i + k) (s % beta)) + beta ^ (i + k + 1) * (s / beta) = V + x * nval (ys.take (k + 1)) * beta ^ i := by
  intro s
  have h1 := words_getD hd (i + k)
  have h2 := words_getD hy k
  have hs : s < beta * beta := by
    have h3 : x * ys.getD k 0 ≤ (beta - 1) * (beta - 1) := Nat.mul_le_mul (by omega) (by omega)
    have h4 : (beta - 1) * (beta - 1) + (beta - 1) + (beta - 1) < beta * beta := by decide
    show c + ds.getD (i + k) 0 + x * ys.getD k 0 < _
    omega
  refine ⟨hs, Nat.div_lt_of_lt_mul hs, ?_⟩
  have e := nval_set ds (i + k) (s % beta) hk
  rw [nval_take' ys k, Nat.mul_add, Nat.add_mul, Nat.pow_succ, Nat.mul_assoc]
  have hm := Nat.mod_add_div s beta
  have h3 : beta ^ (i + k) * (s % beta) + beta ^ (i + k) * (beta * (s / beta)) = beta ^ (i + k) * c + beta ^ (i + k) * ds.getD (i + k) 0 + beta ^ (i + k) * (x * ys.getD k 0) := by
    rw [← Nat.mul_add, hm, ← Nat.mul_add, ← Nat.mul_add]
  have h4 : x * (beta ^ k * ys.getD k 0) * beta ^ i = beta ^ (i + k) * (x * ys.getD k 0) := by
    rw [Nat.pow_add]
    simp only [Nat.mul_comm, Nat.mul_left_comm, Nat.mul_assoc]
  rw [h4]
  omega
theorem mul_end {ds xs ys : List Nat} {i c V : Nat} (hx : Words xs) (hy : Words ys) (hi : i < xs.length) (hV : V = nval (xs.take i) * nval ys)
    (h : nval ds + beta ^ (i + (ys.length + 1)) * c = V + xs.getD i 0 * nval (ys.take (ys.length + 1)) * beta ^ i) : nval ds = nval (xs.take (i + 1)) * nval ys := by
  rw [nval_take_past ys _ (by omega)] at h
  have e : V + xs.getD i 0 * nval ys * beta ^ i = nval (xs.take (i + 1)) * nval ys := by
    rw [hV, nval_take xs i hi, Nat.add_mul]
    congr 1
    simp only [Nat.mul_comm, Nat.mul_assoc]
  rw [e] at h
  have h1 := nval_lt (words_take hx (i + 1))
  have h2 := nval_lt hy
  rw [List.length_take, Nat.min_eq_left (by omega)] at h1
  have h3 : nval (xs.take (i + 1)) * nval ys < beta ^ (i + (ys.length + 1)) := by
    rw [show i + (ys.length + 1) = (i + 1) + ys.length by omega, Nat.pow_add]
    exact Nat.mul_lt_mul_of_lt_of_le h1 (Nat.le_of_lt h2) (Nat.pow_pos beta_pos)
  generalize beta ^ (i + (ys.length + 1)) = P at *
  generalize nval (xs.take (i + 1)) * nval ys = R at *
  generalize nval ds = D at *
  clear e h1 h2 hV hx hy hi
  rcases Nat.eq_zero_or_pos c with hc | hc
  · subst hc; rw [← h, Nat.mul_zero, Nat.add_zero]
  · exfalso
    have h4 : P * 1 ≤ P * c := Nat.mul_le_mul_left P hc
    rw [Nat.mul_one] at h4
    exact absurd (Nat.lt_of_le_of_lt (Nat.le_trans h4 (Nat.le_add_left _ D)) (h ▸ h3)) (Nat.lt_irrefl _)
end Go.Proofs.Ytejknkhahjgdnaa
namespace Go.Proofs.Ytejknkhahjgdnaa
open Go Go.RowKit
theorem cell_of {w : World} {b : Nat} {c : Array Value} {t : TypeId} {f : Nat × Nat} (h : w.heap[b]? = some (.cells c t f)) (i : Nat) : w.cell? ⟨b, i, none⟩ = c[i]? := by
  simp [World.cell?, h]
theorem frozen_of {w : World} {b : Nat} {c : Array Value} {t : TypeId} (h : w.heap[b]? = some (.cells c t (0, 0))) (i : Nat) : w.frozen? ⟨b, i, none⟩ = false := by
  simp [World.frozen?, h]
theorem lt_of {w : World} {b : Nat} {o : Obj} (h : w.heap[b]? = some o) : b < w.heap.size := (Array.getElem?_eq_some_iff.1 h).1
set_option maxHeartbeats 400000 in
theorem of_nil (w : World) : Calls Try.prog 84 #[.pointer none] w (Ret (.agg #[.int .i64 0, .int .i64 0, .int .i64 0, .int .u64 0, .int .i64 0]) w) := by
  go_enter Try.func84, Try.ntmps84
  go_wp2
  exact bodyPost_ret (v := .agg #[.int .i64 0, .int .i64 0, .int .i64 0, .int .u64 0, .int .i64 0]) (by simp [results, Try.results84, go_sem]) rfl (Ret.mk ((Ext.refl w).alloc _))
set_option maxHeartbeats 400000 in
theorem of_node (w : World) (b : Nat) (k v s g z : Int) (p q : Option Addr) (h : w.heap[b]? = some (.cells #[.int .i64 k, .int .i64 v, .int .i64 s, .int .u64 g, .int .i64 z, .pointer p, .pointer q] 89 (0, 0))) :
   Calls Try.prog 84 #[.pointer (some ⟨b, 0, none⟩)] w (Ret (.agg #[.int .i64 k, .int .i64 v, .int .i64 s, .int .u64 g, .int .i64 z]) w) := by
  have hlt := lt_of h
  have h0 := cell_of h 0
  have h1 := cell_of h 1
  have h2 := cell_of h 2
  have h3 := cell_of h 3
  have h4 := cell_of h 4
  simp at h0 h1 h2 h3 h4
  clear h
  go_enter Try.func84, Try.ntmps84
  go_wp2
  exact bodyPost_ret (v := .agg #[.int .i64 k, .int .i64 v, .int .i64 s, .int .u64 g, .int .i64 z]) (by simp [results, Try.results84, go_sem]) rfl (Ret.mk ((Ext.refl w).alloc _))
set_option linter.unusedSimpArgs false
set_option maxHeartbeats 400000 in
theorem tag_any (w : World) (t : Tr) (ht : InH w t) : Calls Try.prog 91 #[.pointer t.ptr] w (Ret (.int .u64 t.tag) w) := by
  cases t with
  | nil =>
    simp only [Tr.ptr_nil, Tr.ptr_node, Tr.key_nil, Tr.key_node, Tr.val_nil, Tr.val_node, Tr.tag_nil, Tr.tag_node, Tr.size_nil, Tr.sum_nil, Tr.left_nil, Tr.left_node, Tr.right_nil, Tr.right_node]
    have hfld := fun (a b c d e : Value) (w : World) => (by kernel_rfl : (Instr.field 87 (.agg #[a, b, c, d, e]) 3).run Try.prog w = .ok d w)
    go_enter Try.func91, Try.ntmps91
    go_wp2_with fail
    refine (of_nil _).mono ?_
    rintro e w1 ⟨rfl, h1⟩
    go_wp2
    go_ret
    exact Ret.mk h1
  | node b l k v g r =>
    obtain ⟨h0, -, -⟩ := ht
    simp only [Tr.ptr_nil, Tr.ptr_node, Tr.key_nil, Tr.key_node, Tr.val_nil, Tr.val_node, Tr.tag_nil, Tr.tag_node, Tr.size_nil, Tr.sum_nil, Tr.left_nil, Tr.left_node, Tr.right_nil, Tr.right_node]
    have hfld := fun (a b c d e : Value) (w : World) => (by kernel_rfl : (Instr.field 87 (.agg #[a, b, c, d, e]) 3).run Try.prog w = .ok d w)
    go_enter Try.func91, Try.ntmps91
    go_wp2_with fail
    refine (of_node _ _ _ _ _ _ _ _ _ h0).mono ?_
    rintro e w1 ⟨rfl, h1⟩
    go_wp2
    go_ret
    exact Ret.mk h1

set_option maxHeartbeats 400000 in
theorem size_any (w : World) (t : Tr) (ht : InH w t) : Calls Try.prog 63 #[.pointer t.ptr] w (Ret (.int .i64 t.size) w) := by
  cases t with
  | nil =>
    simp only [Tr.ptr_nil, Tr.ptr_node, Tr.key_nil, Tr.key_node, Tr.val_nil, Tr.val_node, Tr.tag_nil, Tr.tag_node, Tr.size_nil, Tr.sum_nil, Tr.left_nil, Tr.left_node, Tr.right_nil, Tr.right_node]
    have hfld := fun (a b c d e : Value) (w : World) => (by kernel_rfl : (Instr.field 87 (.agg #[a, b, c, d, e]) 4).run Try.prog w = .ok e w)
    go_enter Try.func63, Try.ntmps63
    go_wp2_with fail
    refine (of_nil _).mono ?_
    rintro e w1 ⟨rfl, h1⟩
    go_wp2
    go_ret
    exact Ret.mk h1
  | node b l k v g r =>
    obtain ⟨h0, -, -⟩ := ht
    simp only [Tr.ptr_nil, Tr.ptr_node, Tr.key_nil, Tr.key_node, Tr.val_nil, Tr.val_node, Tr.tag_nil, Tr.tag_node, Tr.size_nil, Tr.sum_nil, Tr.left_nil, Tr.left_node, Tr.right_nil, Tr.right_node]
    have hfld := fun (a b c d e : Value) (w : World) => (by kernel_rfl : (Instr.field 87 (.agg #[a, b, c, d, e]) 4).run Try.prog w = .ok e w)
    go_enter Try.func63, Try.ntmps63
    go_wp2_with fail
    refine (of_node _ _ _ _ _ _ _ _ _ h0).mono ?_
    rintro e w1 ⟨rfl, h1⟩
    go_wp2
    go_ret
    exact Ret.mk h1

set_option maxHeartbeats 400000 in
theorem sum_any (w : World) (t : Tr) (ht : InH w t) : Calls Try.prog 64 #[.pointer t.ptr] w (Ret (.int .i64 t.sum) w) := by
  cases t with
  | nil =>
    simp only [Tr.ptr_nil, Tr.ptr_node, Tr.key_nil, Tr.key_node, Tr.val_nil, Tr.val_node, Tr.tag_nil, Tr.tag_node, Tr.size_nil, Tr.sum_nil, Tr.left_nil, Tr.left_node, Tr.right_nil, Tr.right_node]
    have hfld := fun (a b c d e : Value) (w : World) => (by kernel_rfl : (Instr.field 87 (.agg #[a, b, c, d, e]) 2).run Try.prog w = .ok c w)
    go_enter Try.func64, Try.ntmps64
    go_wp2_with fail
    refine (of_nil _).mono ?_
    rintro e w1 ⟨rfl, h1⟩
    go_wp2
    go_ret
    exact Ret.mk h1
  | node b l k v g r =>
    obtain ⟨h0, -, -⟩ := ht
    simp only [Tr.ptr_nil, Tr.ptr_node, Tr.key_nil, Tr.key_node, Tr.val_nil, Tr.val_node, Tr.tag_nil, Tr.tag_node, Tr.size_nil, Tr.sum_nil, Tr.left_nil, Tr.left_node, Tr.right_nil, Tr.right_node]
    have hfld := fun (a b c d e : Value) (w : World) => (by kernel_rfl : (Instr.field 87 (.agg #[a, b, c, d, e]) 2).run Try.prog w = .ok c w)
    go_enter Try.func64, Try.ntmps64
    go_wp2_with fail
    refine (of_node _ _ _ _ _ _ _ _ _ h0).mono ?_
    rintro e w1 ⟨rfl, h1⟩
    go_wp2
    go_ret
    exact Ret.mk h1

set_option maxHeartbeats 400000 in
theorem left_any (w : World) (t : Tr) (ht : InH w t) : Calls Try.prog 43 #[.pointer t.ptr] w (Ret (.pointer t.left.ptr) w) := by
  cases t with
  | nil =>
    simp only [Tr.ptr_nil, Tr.ptr_node, Tr.key_nil, Tr.key_node, Tr.val_nil, Tr.val_node, Tr.tag_nil, Tr.tag_node, Tr.size_nil, Tr.sum_nil, Tr.left_nil, Tr.left_node, Tr.right_nil, Tr.right_node]
    go_enter Try.func43, Try.ntmps43
    go_wp2
    go_ret
    exact Ret.mk (Ext.refl _)
  | node b l k v g r =>
    obtain ⟨h0, -, -⟩ := ht
    simp only [Tr.ptr_nil, Tr.ptr_node, Tr.key_nil, Tr.key_node, Tr.val_nil, Tr.val_node, Tr.tag_nil, Tr.tag_node, Tr.size_nil, Tr.sum_nil, Tr.left_nil, Tr.left_node, Tr.right_nil, Tr.right_node]
    have hc := cell_of h0 5
    simp at hc
    clear h0
    go_enter Try.func43, Try.ntmps43
    go_wp2
    go_ret
    exact Ret.mk (Ext.refl _)

set_option maxHeartbeats 400000 in
theorem right_any (w : World) (t : Tr) (ht : InH w t) : Calls Try.prog 44 #[.pointer t.ptr] w (Ret (.pointer t.right.ptr) w) := by
  cases t with
  | nil =>
    simp only [Tr.ptr_nil, Tr.ptr_node, Tr.key_nil, Tr.key_node, Tr.val_nil, Tr.val_node, Tr.tag_nil, Tr.tag_node, Tr.size_nil, Tr.sum_nil, Tr.left_nil, Tr.left_node, Tr.right_nil, Tr.right_node]
    go_enter Try.func44, Try.ntmps44
    go_wp2
    go_ret
    exact Ret.mk (Ext.refl _)
  | node b l k v g r =>
    obtain ⟨h0, -, -⟩ := ht
    simp only [Tr.ptr_nil, Tr.ptr_node, Tr.key_nil, Tr.key_node, Tr.val_nil, Tr.val_node, Tr.tag_nil, Tr.tag_node, Tr.size_nil, Tr.sum_nil, Tr.left_nil, Tr.left_node, Tr.right_nil, Tr.right_node]
    have hc := cell_of h0 6
    simp at hc
    clear h0
    go_enter Try.func44, Try.ntmps44
    go_wp2
    go_ret
    exact Ret.mk (Ext.refl _)

/-- a new node: it stands in a block of its own. -/
def New (l : Tr) (k v g : Int) (r : Tr) (w : World) (e : Ending) (w' : World) : Prop :=
  ∃ b, e = .returned (.pointer (Tr.node b l k v g r).ptr) ∧ w.heap.size ≤ b ∧ InH w' (.node b l k v g r) ∧ Ext w w'
set_option maxHeartbeats 400000 in
theorem new_any (w : World) (l r : Tr) (k v g : Int) (hl : InH w l) (hr : InH w r) : Calls Try.prog 39 #[.pointer l.ptr, .int .i64 k, .int .i64 v, .int .u64 g, .pointer r.ptr] w (New l k v g r w) := by
  go_enter Try.func39, Try.ntmps39
  go_wp2_with fail
  refine (size_any _ l hl).mono ?_
  rintro e w1 ⟨rfl, h1⟩
  go_wp2_with fail
  refine (size_any _ r (hr.ext h1)).mono ?_
  rintro e w2 ⟨rfl, h2⟩
  go_wp2_with fail
  refine (sum_any _ l (hl.ext (h1.trans h2))).mono ?_
  rintro e w3 ⟨rfl, h3⟩
  go_wp2_with fail
  refine (sum_any _ r (hr.ext ((h1.trans h2).trans h3))).mono ?_
  rintro e w4 ⟨rfl, h4⟩
  go_wp2
  go_ret
  refine ⟨w4.heap.size, rfl, Nat.le_trans h1.size (Nat.le_trans h2.size (Nat.le_trans h3.size h4.size)), ⟨?_, ?_, ?_⟩, (((h1.trans h2).trans h3).trans h4).alloc _⟩
  · show (w4.heap.push _)[w4.heap.size]? = _
    simp [Tr.sum, Tr.size]
  · exact (hl.ext (((h1.trans h2).trans h3).trans h4)).ext ((Ext.refl _).alloc _)
  · exact (hr.ext (((h1.trans h2).trans h3).trans h4)).ext ((Ext.refl _).alloc _)

theorem left_ok {w : World} : ∀ {t : Tr}, InH w t → InH w t.left
  | .nil, _ => trivial
  | .node _ _ _ _ _ _, ⟨_, h, _⟩ => h
theorem right_ok {w : World} : ∀ {t : Tr}, InH w t → InH w t.right
  | .nil, _ => trivial
  | .node _ _ _ _ _ _, ⟨_, _, h⟩ => h
end Go.Proofs.Ytejknkhahjgdnaa
namespace Go.Proofs.Ytejknkhahjgdnaa
open Go Go.RowKit Go.Shelf

theorem ret_int {k : IntKind} {a b : Int} (h : a = b) : Ending.returned (.int k a) = .returned (.int k b) := by rw [h]
theorem ret_bool {a b : Bool} (h : a = b) : Ending.returned (.bool a) = .returned (.bool b) := by rw [h]
theorem ret_two {k l : IntKind} {a b c d : Int} (h : a = c) (h' : b = d) : Ending.returned (.tuple #[.int k a, .int l b]) = .returned (.tuple #[.int k c, .int l d]) := by rw [h, h']
/-- all cells stay, but those of the blocks in M; and so do the streams. -/
structure Keep (M : Nat → Prop) (w w' : World) : Prop where
  os : w'.os = w.os
  tape : w'.tape = w.tape
  output : w'.output = w.output
  size : w.heap.size ≤ w'.heap.size
  cells : ∀ (i : Nat) (c : Array Value) (t : TypeId) (f : Nat × Nat), ¬ M i → w.heap[i]? = some (.cells c t f) → w'.heap[i]? = some (.cells c t f)
theorem Keep.refl (M : Nat → Prop) (w : World) : Keep M w w := ⟨rfl, rfl, rfl, Nat.le_refl _, fun _ _ _ _ _ h => h⟩
theorem Keep.trans {M : Nat → Prop} {a b c : World} (h : Keep M a b) (k : Keep M b c) : Keep M a c :=
  ⟨k.os.trans h.os, k.tape.trans h.tape, k.output.trans h.output, Nat.le_trans h.size k.size, fun i x t f hi hx => k.cells i x t f hi (h.cells i x t f hi hx)⟩
theorem Keep.ext {M : Nat → Prop} {a b : World} (h : Ext a b) : Keep M a b := ⟨h.os, h.tape, h.output, Below.size h, fun _ _ _ _ _ hx => Ext.get h hx⟩
theorem Keep.putObj {M : Nat → Prop} (W : World) (l : Nat) (o o' : Obj) (h : W.heap[l]? = some o) (ho : o.isCells = false) : Keep M W (W.putObj l o') :=
  ⟨rfl, rfl, rfl, (grownBy_putObj' W l o').size, fun i c t f _ hx => by
    rw [World.putObj_heap_other (fun e => by subst e; rw [h] at hx; cases hx; cases ho)]; exact hx⟩
theorem Keep.setCell {M : Nat → Prop} (W : World) (p : Addr) (v : Value) (h : M p.block) : Keep M W (W.setCell p v) :=
  ⟨rfl, rfl, rfl, (KeepsWalks.setCell W _ v).size, fun i c t f hi hx => by
    rw [Below.heap_setCell _ _ _ i (fun e => hi (e ▸ h))]; exact hx⟩
theorem Keep.alloc {M : Nat → Prop} (W : World) (o : Obj) : Keep M W (W.alloc o) := Keep.ext ((Ext.refl W).alloc o)
theorem Keep.drew {M : Nat → Prop} (W : World) : Keep M W W.drew := ⟨rfl, rfl, rfl, Nat.le_refl _, fun _ _ _ _ _ hx => hx⟩
theorem Keep.boxed {M : Nat → Prop} {a b : World} (h : Keep M a b) {B : Nat} {t : TypeId} {v : Value} (hB : ¬ M B) (k : Boxed a B t v) : Boxed b B t v := h.cells _ _ _ _ hB k

/-- none of the tree's nodes lies in M. -/
def Off (M : Nat → Prop) : Tr → Prop
  | .nil => True
  | .node b l _ _ _ r => ¬ M b ∧ Off M l ∧ Off M r
theorem InH.keep {M : Nat → Prop} {a b : World} (h : Keep M a b) : ∀ {t : Tr}, Off M t → InH a t → InH b t
  | .nil, _, _ => trivial
  | .node _ _ _ _ _ _, ⟨o0, o1, o2⟩, ⟨h0, h1, h2⟩ => ⟨h.cells _ _ _ _ o0 h0, InH.keep h o1 h1, InH.keep h o2 h2⟩
/-- what lies in the heap lies off whatever lies beyond it. -/
theorem InH.off {w : World} {M : Nat → Prop} (hM : ∀ i, M i → w.heap.size ≤ i) : ∀ {t : Tr}, InH w t → Off M t
  | .nil, _ => trivial
  | .node b _ _ _ _ _, ⟨h0, h1, h2⟩ => ⟨fun hb => by have := hM b hb; have := lt_of h0; omega, InH.off hM h1, InH.off hM h2⟩
theorem keepK_b {M : Nat → Prop} {w : World} (W : World) (l : Nat) (o o' : Obj) (_ : w.heap.size ≤ l) (h : W.heap[l]? = some o) (ho : o.isCells = false) (_ : o.isWalk = false) : Keep M W (W.putObj l o') := Keep.putObj W l o o' h ho

theorem wide_room (k : Nat) : (Fence.wide.depth.isSome = true → 1 ≤ k) := fun h => by cases h
theorem RoundIn.any {m m' : Nat} {P : Program} {l : Nat} {f : FuncId} {tmps : Array Value} {assign body : Code} {w : World} {R : Ending → World → Prop}
    (h : RoundIn Fence.wide m P l f tmps assign body w R) : RoundIn Fence.wide m' P l f tmps assign body w R := ⟨h.1, fun c cs _ => h.2 c cs (fun d h => by cases h)⟩
theorem YieldAt.any {m : Nat} (m' : Nat) {P : Program} {l : Nat} {args : Array Value} {W : World} {R : Ending → World → Prop} (h : YieldAt Fence.wide m P l args W R) : YieldAt Fence.wide m' P l args W R := by
  obtain ⟨fn, tmps, assign, body, hy, hR⟩ := h
  exact ⟨fn, tmps, assign, body, hy, RoundIn.any hR⟩
theorem CallsIn.any {m : Nat} (m' : Nat) {P : Program} {f : FuncId} {args : Array Value} {w : World} {R : Ending → World → Prop} (h : CallsIn Fence.wide m P f args w R) : CallsIn Fence.wide m' P f args w R :=
  callsIn_wide.2 (callsIn_wide.1 h)
/-- what the law on ranges over functions does besides turns no cells. -/
theorem boxed_grown {W W' : World} {row : Option Nat} {B C : Nat} {t : TypeId} {v : Value} (h : Boxed W B t v) (hg : W.grownBy W' row) (hr : ∀ r, row = some r → C ≤ r ∧ ∃ o : Obj, W.heap[r]? = some o ∧ o.isCells = false) : Boxed W' B t v :=
  h.kept hg (fun e => by obtain ⟨_, o, ho, hc⟩ := hr B e.symm; rw [show W.heap[B]? = _ from h] at ho; cases ho; cases hc)
theorem keep_grown {M : Nat → Prop} {W0 W W' : World} {row : Option Nat} {C : Nat} (h : Keep M W0 W) (hg : W.grownBy W' row) (hr : ∀ r, row = some r → C ≤ r ∧ ∃ o : Obj, W.heap[r]? = some o ∧ o.isCells = false) : Keep M W0 W' :=
  h.trans ⟨hg.os, hg.tape, hg.output, hg.size, fun i c t f _ hx => by
    rw [hg.block i (Array.getElem?_eq_some_iff.1 hx).1 (fun e => by obtain ⟨_, o, ho, hc⟩ := hr i e.symm; rw [hx] at ho; cases ho; cases hc)]; exact hx⟩
theorem below_grown {n₀ C : Nat} {w₀ W W' : World} {row : Option Nat} (hn : n₀ ≤ w₀.heap.size) (hC : n₀ ≤ C) (h : Below n₀ w₀ W) (hg : W.grownBy W' row) (hr : ∀ r, row = some r → C ≤ r ∧ ∃ o : Obj, W.heap[r]? = some o ∧ o.isCells = false) : Below n₀ w₀ W' :=
  h.grown hg (Nat.le_trans hn h.size) (fun k e => Nat.le_trans hC (hr k e).1)
theorem keepsFrom_ext {B : Nat} {a b : World} (h : Ext a b) : KeepsFrom B a b := ⟨Below.size h, fun _ _ _ hk _ => Ext.get h hk⟩
theorem keepsFrom_set {B : Nat} (W : World) (p : Addr) (v : Value) : KeepsFrom B W (W.setCell p v) := (KeepsOthers.setCell W p v).from B
/-- a function's end, whose two results lie in boxes of its own that have been written once more, behind a range over a function. -/
theorem two_end {w W0 W : World} {N D : Nat} {t u : TypeId} {a b : Value} (hN : w.heap.size = N) (hE : Ext w W0) (hb : Below N W0 W) (hD : W0.heap.size ≤ D) (hK : W.heap[D]? = some (.deferred (some []))) (h1 : Boxed W N t a) (h2 : Boxed W (N + 1) u b) (hs : N + 2 ≤ W0.heap.size) :
    (((W.setCell ⟨N, 0, none⟩ a).setCell ⟨N + 1, 0, none⟩ b).drew).heap[D]? = some (.deferred (some [])) ∧
    ((((W.setCell ⟨N, 0, none⟩ a).setCell ⟨N + 1, 0, none⟩ b).drew).putObj D (.deferred none)).cell? ⟨N, 0, none⟩ = some a ∧
    ((((W.setCell ⟨N, 0, none⟩ a).setCell ⟨N + 1, 0, none⟩ b).drew).putObj D (.deferred none)).cell? ⟨N + 1, 0, none⟩ = some b ∧
    Ext w ((((W.setCell ⟨N, 0, none⟩ a).setCell ⟨N + 1, 0, none⟩ b).drew).putObj D (.deferred none)) := by
  have hk : (((W.setCell ⟨N, 0, none⟩ a).setCell ⟨N + 1, 0, none⟩ b).drew).heap[D]? = some (.deferred (some [])) := ((KeepsOthers.setCell _ _ _).trans (KeepsOthers.setCell _ _ _)).same D _ hK rfl
  have e1 : Boxed (((W.setCell ⟨N, 0, none⟩ a).setCell ⟨N + 1, 0, none⟩ b).drew) N t a := Boxed.other (h1.set a) (by omega) b
  have e2 : Boxed (((W.setCell ⟨N, 0, none⟩ a).setCell ⟨N + 1, 0, none⟩ b).drew) (N + 1) u b := Boxed.set b (h2.other (by omega) a)
  refine ⟨hk, (Boxed.kept e1 (grownBy_putObj' _ D _) (by simp; omega)).cell, (Boxed.kept e2 (grownBy_putObj' _ D _) (by simp; omega)).cell, ?_⟩
  have hB : Below N w W0 := by have := hE; unfold Ext at this; rwa [hN] at this
  have hB2 := ((((hB.trans hb).setCell (p := ⟨N, 0, none⟩) (Nat.le_refl N) a).setCell (p := ⟨N + 1, 0, none⟩) (Nat.le_succ N) b).drew)
  have := hB2.trans (belowK_b (w := W0) (n₀ := N) (by omega) _ D _ (.deferred none) hD hk rfl rfl)
  unfold Ext
  rwa [hN]
/-- a scope through which the run goes without a jump to its labels. -/
theorem wpIn_scope_wide {n : Nat} {P : Program} {c : Code} {Q : Exit → Act → World → Prop} {a : Act} {w : World} (h : c.wpIn Fence.wide n P (Exit.noGoto Q) a w) : (Code.scope c).wpIn Fence.wide n P Q a w :=
  wpIn_wide.2 (wp_scope_straight (wpIn_wide.1 h))
end Go.Proofs.Ytejknkhahjgdnaa
namespace Go.Proofs.Ytejknkhahjgdnaa
open Go

section
variable {F : Fence} {n : Nat} {P : Program} {ops : Array Oper} {Q : Exit → Act → World → Prop} {md : Region.Mode} {X : Nat → Bool}

/-- no operation of the region defers. -/
def noDefer (ops : Array Oper) : Bool := ops.all fun o => match o.op with | .defer _ => false | _ => true
theorem noDefer_spec (h : noDefer ops = true) {j : Nat} {o : Oper} (ho : ops[j]? = some o) (c : Call) : o.op ≠ .defer c := by
  intro heq
  have := Array.all_eq_true_iff_forall_mem.1 h o (Array.mem_of_getElem? ho)
  simp [heq] at this

/-- which operations have to come up ahead of which ones (bits), and that this is so. -/
def maskOk (md : Region.Mode) (ops : Array Oper) (B : Array Nat) : Bool :=
  (List.range ops.size).all fun j => (List.range ops.size).all fun i => !(B.getD j 0).testBit i || match ops[j]? with
    | some o => o.after.any fun e => Region.binds md e && (e.on == i || (decide (e.on < j) && (B.getD e.on 0).testBit i))
    | none => false
def Closed (md : Region.Mode) (ops : Array Oper) (listed : Array Bool) : Prop :=
  ∀ k o, ops[k]? = some o → listed.getD k false = true → ∀ e ∈ o.after, Region.binds md e = true → listed.getD e.on false = true
theorem mask_listed {B : Array Nat} (hB : maskOk md ops B = true) {listed : Array Bool} (hc : Closed md ops listed) {i : Nat} (hi : i < ops.size) :
    ∀ (j : Nat) (o : Oper), ops[j]? = some o → (∀ e ∈ o.after, Region.binds md e = true → listed.getD e.on false = true) → (B.getD j 0).testBit i = true → listed.getD i false = true := by
  intro j
  induction j using Nat.strongRecOn with
  | ind j ih =>
    intro o ho ha hb
    have h1 := List.all_eq_true.1 (List.all_eq_true.1 hB j (List.mem_range.2 (Array.getElem?_eq_some_iff.1 ho).1)) i (List.mem_range.2 hi)
    simp only [hb, Bool.not_true, Bool.false_or, ho] at h1
    obtain ⟨e, he, h2⟩ := Array.any_eq_true'.1 h1
    simp only [Bool.and_eq_true, Bool.or_eq_true, beq_iff_eq, decide_eq_true_eq] at h2
    obtain ⟨hbd, h3⟩ := h2
    have hl := ha e he hbd
    rcases h3 with h3 | ⟨h3, h4⟩
    · rw [← h3]; exact hl
    · have hlt : e.on < ops.size := by have := (Array.getElem?_eq_some_iff.1 ho).1; omega
      exact ih e.on h3 ops[e.on] (Array.getElem?_eq_getElem hlt) (fun e' he' hb' => hc e.on ops[e.on] (Array.getElem?_eq_getElem hlt) hl e' he' hb') h4
theorem Closed.empty : Closed md ops (Array.replicate ops.size false) := fun k o ho h => by
  have := (Array.getElem?_eq_some_iff.1 ho).1
  simp [this] at h
theorem Closed.set {listed : Array Bool} (hc : Closed md ops listed) {j : Nat} (hr : j ∈ Region.ready md ops listed) : Closed md ops (listed.setIfInBounds j true) := fun k o ho h e he hb => by
  by_cases hk : k = j
  · subst hk
    obtain ⟨_, o', ho', hall⟩ := mem_ready.1 hr
    rw [ho] at ho'; cases ho'
    exact getD_set_true (hall e he hb)
  · rw [getD_set_ne false (Ne.symm hk)] at h
    exact getD_set_true (hc k o ho h e he hb)

/-- whatever order is picked; behind an operation of X nothing that was there has turned. -/
def wpAnyG (F : Fence) (n : Nat) (P : Program) (md : Region.Mode) (ops : Array Oper) (Q : Exit → Act → World → Prop) (X : Nat → Bool) : Nat → Array Bool → Act → World → Prop
  | 0, listed, a, w => Region.ready md ops listed = [] ∧ Q .normal a w
  | fuel + 1, listed, a, w =>
    (Region.ready md ops listed = [] → Q .normal a w) ∧
    ∀ i ∈ Region.ready md ops listed, wpOpIn F n P ops Q i (fun a' w' => (X i = true → Ext w w') ∧ wpAnyG F n P md ops Q X fuel (listed.setIfInBounds i true) a' w') a w

theorem wpAnyIn_of_G : ∀ (fuel : Nat) (listed : Array Bool) (a : Act) (w : World), wpAnyG F n P md ops Q X fuel listed a w → wpAnyIn F n P md ops Q fuel listed a w
  | 0, _, _, _, h => h
  | fuel + 1, _, _, _, h => ⟨h.1, fun i hi => wpOpIn_mono (fun a' w' h' => wpAnyIn_of_G fuel _ a' w' h'.2) (h.2 i hi)⟩

theorem YieldsIf.weaken {S S' : World → Prop} {o : Oper} {v : Value} {a : Act} (h : YieldsIf P ops S o v a) (hs : ∀ W, S' W → S W) : YieldsIf P ops S' o v a :=
  h.imp (fun ⟨hw, hv⟩ => ⟨hw, fun w hw' => hv w (hs w hw')⟩) id

theorem YieldsIf.wpOpIn' {S : World → Prop} {i : Nat} {o : Oper} {v : Value} {a : Act} (hf : ∀ f, F.fn f) (hnd : ∀ c, o.op ≠ .defer c) (hi : ops[i]? = some o) (hy : YieldsIf P ops S o v a)
    {K : Act → World → Prop} {w : World} (hS : S w) (h : K (a.put o.dst v) w) : wpOpIn F n P ops Q i K a w := by
  unfold Go.wpOpIn
  simp only [hi]
  rcases hy with ⟨hw, hv⟩ | ⟨hw, rfl⟩
  · simp only [hw, if_true, Oper.wpIn, Oper.semAt_eq _ _ _ hnd, hv w hS, Oper.uponIn]; exact ⟨fun f _ => hf f, h⟩
  · simp only [hw, Bool.false_eq_true, if_false]; exact ⟨fun f _ => hf f, h⟩

theorem wpOpIn_putD {S : World → Prop} {j : Nat} {oi oj : Oper} {v : Value} (hnd : ∀ c, oj.op ≠ .defer c) (hj : ops[j]? = some oj) (hap : oi.apart ops oj = true)
    (hsi : ∀ cs b, oi.op ≠ .select cs b) (hsj : ∀ cs b, oj.op ≠ .select cs b)
    (hQ : ∀ c a w, ¬ Q (.panic c) a w) {K : Act → World → Prop} {a : Act} {w : World}
    (hy : YieldsIf P ops S oi v a) (h : wpOpIn F n P ops Q j K (a.put oi.dst v) w) :
    wpOpIn F n P ops Q j (fun a' w' => YieldsIf P ops S oi v a' ∧ K (a'.put oi.dst v) w') a w := by
  obtain ⟨h1, h2, h3⟩ := Oper.apart_spec hap
  have keep : ∀ (a : Act), YieldsIf P ops S oi v a → ∀ u, YieldsIf P ops S oi v (a.put oj.dst u) := fun a hy u =>
    hy.of_same (execOp_put oi hsi a oj.dst u h3) (wanted_put oi a oj.dst u h3)
  have keepD : ∀ d, YieldsIf P ops S oi v { a with defers := d :: a.defers } := fun d => hy.of_same rfl rfl
  unfold wpOpIn at *
  simp only [hj] at *
  rw [wanted_put oj a oi.dst v h1, about_put oj w a oi.dst v h1] at h
  split
  · rename_i hw
    simp only [hw, if_true] at h
    unfold Oper.wpIn at *
    rw [about_put oj w a oi.dst v h1] at h
    refine ⟨h.1, ?_⟩
    have h := h.2
    rw [Oper.semAt_eq _ _ _ hnd, execOp_put oj hsj a oi.dst v h1] at h
    rw [Oper.semAt_eq _ _ _ hnd]
    generalize (execOp a.eval oj).run P w = r at *
    cases r with
    | ok x w' =>
      cases x <;> simp only [Oper.uponIn] at h ⊢
      case value u => exact ⟨keep a hy u, by rw [← Act.put_comm a v u h2]; exact h⟩
      case skip => exact ⟨keep a hy _, by rw [← Act.put_comm a v undef h2]; exact h⟩
      case defer d =>
        refine ⟨keep _ (keepD d) _, ?_⟩
        rw [← Act.put_comm _ v undef h2, ← Act.put_defers]
        exact h
      case enter f args =>
        refine ⟨h.1, CallsIn.mono h.2 fun e w'' he => ?_⟩
        cases e with
        | returned u => exact ⟨keep a hy u, by rw [← Act.put_comm a v u h2]; exact he⟩
        | panicked c => exact (hQ _ _ _ he).elim
        | outgrown => exact he
      case row row args => exact ⟨h.1, RowsIn.mono h.2 fun u w'' he => ⟨keep a hy u, by rw [← Act.put_comm a v u h2]; exact he⟩⟩
      case round l f tmps assign body =>
        refine ⟨h.1, RoundIn.mono h.2 fun e w'' he => ?_⟩
        cases e with
        | returned u => exact ⟨keep a hy u, by rw [← Act.put_comm a v u h2]; exact he⟩
        | panicked c => exact (hQ _ _ _ he).elim
        | outgrown => exact he
    | halt x w' =>
      cases x <;> simp only [Oper.uponIn] at h ⊢
      case panic u => exact (hQ _ _ _ h).elim
  · rename_i hw
    simp only [hw] at h
    exact ⟨h.1, keep a hy _, by rw [← Act.put_comm a v undef h2]; exact h.2⟩

theorem wpAnyG_first {B : Array Nat} (hB : maskOk md ops B = true) {i : Nat} {oi : Oper} {v : Value} (hf : ∀ f, F.fn f) (hnd : noDefer ops = true) (hi : ops[i]? = some oi) (hsel : ∀ (j : Nat) (o : Oper) cs b, ops[j]? = some o → o.op ≠ .select cs b)
    (hQ : ∀ c a w, ¬ Q (.panic c) a w) :
    ∀ (fuel : Nat) (listed : Array Bool) (a : Act) (w : World), Closed md ops listed →
      (∀ j oj, ops[j]? = some oj → j ≠ i → listed.getD j true = false → (B.getD j 0).testBit i = false → oi.apart ops oj = true ∧ X j = true) →
      i ∈ Region.ready md ops listed → YieldsIf P ops (Ext w) oi v a →
      wpAnyG F n P md ops Q X fuel (listed.setIfInBounds i true) (a.put oi.dst v) w → wpAnyG F n P md ops Q X (fuel + 1) listed a w := by
  intro fuel
  induction fuel with
  | zero =>
    intro listed a w _ _ hr hy H
    refine ⟨fun h => (by rw [h] at hr; cases hr), fun j hj => ?_⟩
    by_cases hji : j = i
    · subst hji; exact YieldsIf.wpOpIn' hf (noDefer_spec hnd hi) hi hy (Ext.refl w) ⟨fun _ => Ext.refl w, H⟩
    · have := ready_mono hj hji
      rw [H.1] at this
      cases this
  | succ fuel ih =>
    intro listed a w hcl hfree hr hy H
    refine ⟨fun h => (by rw [h] at hr; cases hr), fun j hj => ?_⟩
    by_cases hji : j = i
    · subst hji; exact YieldsIf.wpOpIn' hf (noDefer_spec hnd hi) hi hy (Ext.refl w) ⟨fun _ => Ext.refl w, H⟩
    · have h1 := H.2 j (ready_mono hj hji)
      obtain ⟨hjun, oj, hoj, hall⟩ := mem_ready.1 hj
      have hnot : (B.getD j 0).testBit i = false := by
        cases hb : (B.getD j 0).testBit i with
        | false => rfl
        | true =>
          have hl := mask_listed hB hcl (Array.getElem?_eq_some_iff.1 hi).1 j oj hoj hall hb
          have h0 := (mem_ready.1 hr).1
          rcases Nat.lt_or_ge i listed.size with h' | h'
          · simp [h'] at h0 hl; rw [h0] at hl; cases hl
          · simp [Array.getElem?_eq_none h'] at hl
      have hfj := hfree j oj hoj hji hjun hnot
      have h2 := wpOpIn_putD (noDefer_spec hnd hoj) hoj hfj.1 (fun cs b => hsel i oi cs b hi) (fun cs b => hsel j oj cs b hoj) hQ hy h1
      have hfree' : ∀ k ok, ops[k]? = some ok → k ≠ i → (listed.setIfInBounds j true).getD k true = false →
          (B.getD k 0).testBit i = false → oi.apart ops ok = true ∧ X k = true := fun k ok hk hki hun hno => by
        refine hfree k ok hk hki ?_ hno
        by_cases hjk : j = k
        · subst hjk; exact hjun
        · rw [getD_set_ne true hjk] at hun; exact hun
      refine wpOpIn_mono (fun a' w' h3 => ⟨h3.2.1, ih (listed.setIfInBounds j true) a' w' (hcl.set hj) hfree' (ready_mono hr (Ne.symm hji)) (YieldsIf.weaken h3.1 fun W hW => (h3.2.1 hfj.2).trans hW) ?_⟩) h2
      rw [Array.setIfInBounds_comm _ _ hji]
      exact h3.2.2

/-- the worlds in which all that there is in w is as it is in w. -/
structure ExtOf (w : World) where
  W : World
  h : Ext w W
instance (w : World) : Nonempty (ExtOf w) := ⟨⟨w, Ext.refl w⟩⟩
abbrev InExt (w W : World) : Prop := ∃ Y : ExtOf w, W = Y.W
theorem inExt {w W : World} (h : Ext w W) : InExt w W := ⟨⟨W, h⟩, rfl⟩
theorem cell_keep {a b : World} (h : Ext a b) {p : Addr} {v : Value} (k : a.cell? p = some v) : b.cell? p = some v :=
  (RowKit.Below.cell h (World.block_lt_of_cell? a p k)).trans k
theorem Ext.drew (w : World) : Ext w w.drew := RowKit.Below.drew (RowKit.Below.refl _ _)
/-- a cell's fact, for all batches of a region. -/
theorem cell_all {a : World} {p : Addr} {v : Value} (k : a.cell? p = some v) : ∀ (w : World), Ext a w → ∀ Y : ExtOf w, Y.W.cell? p = some v := fun _ h Y => cell_keep (h.trans Y.h) k

/-- operations that yield a value, and do nothing else. -/
def Op.yields : Op → Bool
  | .move _ | .assign _ | .pick .. | .build .. | .load .. | .binOp .. | .unOp .. | .convert .. | .makeFunc .. | .fieldAddr .. | .field .. | .indexAddr .. | .index .. | .lookup .. | .extract .. | .makeInterface .. | .slice .. | .nilCheck _ => true
  | _ => false
theorem nilCheck_value {P : Program} {w w' : World} {x : Next} (y : Value) (hr : Sem.run P (match y with
    | .pointer none | .nilIface | .nilFunc => (runtimePanic .nilDeref : Sem Next)
    | .func (.method name) first captured =>
      match (first[0]? : Option Value) with
      | some .nilIface => runtimePanic .nilDeref
      | some (.iface t w) => do
        if (← nilAhead ((← program).types.size + Made.depth) t w name) != some false then
          unsupported (.noEntry "op/nilCheck.the method's receiver behind this interface value is a nil pointer, or cannot be seen to be none, and the arguments act or may panic (ledger 612)")
        pure (.value (.func (.method name) first captured))
      | _ => pure (.value (.func (.method name) first captured))
    | x => pure (.value x) : Sem Next) w = .ok x w') : ∃ v, x = .value v := by
  have hp : ∀ e : RuntimeError, e = .nilDeref → (runtimePanic e : Sem Next).run P w ≠ .ok x w' := fun e he => by
    subst he
    simp [runtimePanic, program, goPanic, Sem.run]
  split at hr
  · exact (hp _ rfl hr).elim
  · exact (hp _ rfl hr).elim
  · exact (hp _ rfl hr).elim
  · split at hr
    · exact (hp _ rfl hr).elim
    · simp only [Sem.run_bind] at hr
      generalize Sem.run P program w = r0 at hr
      cases r0 with
      | halt h w0 => simp at hr
      | ok p w0 =>
        simp only [Result.andThen_ok] at hr
        generalize Sem.run P (nilAhead _ _ _ _) w0 = r1 at hr
        cases r1 with
        | halt h w1 => simp at hr
        | ok b w1 =>
          simp only [Result.andThen_ok] at hr
          split at hr
          · simp [unsupported] at hr
          · simp only [Sem.run_pure, Result.ok.injEq] at hr; exact ⟨_, hr.1.symm⟩
    · simp only [Sem.run_pure, Result.ok.injEq] at hr; exact ⟨_, hr.1.symm⟩
  · simp only [Sem.run_pure, Result.ok.injEq] at hr; exact ⟨_, hr.1.symm⟩
theorem yields_value {ρ : Operand → Value} {o : Oper} (h : Op.yields o.op = true) {w w' : World} {x : Next} (hr : (execOp ρ o).run P w = .ok x w') : ∃ v, x = .value v := by
  revert hr
  unfold execOp
  cases ho : o.op <;> simp only [ho, Op.yields, Bool.false_eq_true] at h <;> dsimp only <;>
    first
    | (intro hr; simp only [Sem.run_pure, Result.ok.injEq] at hr; exact ⟨_, hr.1.symm⟩)
    | exact nilCheck_value _
    | (intro hr
       simp only [Sem.run_bind] at hr
       generalize hs : Sem.run P _ _ = r at hr
       cases r with
       | ok v w1 =>
         first
         | (simp only [Result.andThen_ok, Sem.run_pure, Result.ok.injEq] at hr; exact ⟨_, hr.1.symm⟩)
         | (simp only [Result.andThen_ok] at hr
            generalize hs2 : Sem.run P _ _ = r2 at hr
            cases r2 with
            | ok v w2 => simp only [Result.andThen_ok, Sem.run_pure, Result.ok.injEq] at hr; exact ⟨_, hr.1.symm⟩
            | halt h w2 => simp at hr)
       | halt h w1 => simp at hr)

/-- may number i be taken first, of those that are left? -/
def takeOk (md : Region.Mode) (ops : Array Oper) (B : Array Nat) (X : Nat → Bool) (listed : Array Bool) (i : Nat) : Bool :=
  (Region.ready md ops listed).contains i && (match ops[i]? with
    | none => false
    | some oi => Op.yields oi.op && (List.range ops.size).all fun j => j == i || listed.getD j true || match ops[j]? with
      | some oj => (B.getD j 0).testBit i || (oi.apart ops oj && X j)
      | none => true)
def batchOk (md : Region.Mode) (ops : Array Oper) (B : Array Nat) (X : Nat → Bool) : Array Bool → List Nat → Bool
  | _, [] => true
  | listed, i :: rest => takeOk md ops B X listed i && batchOk md ops B X (listed.setIfInBounds i true) rest
def listAll (listed : Array Bool) : List Nat → Array Bool
  | [] => listed
  | i :: rest => listAll (listed.setIfInBounds i true) rest
def opsAt (ops : List Oper) : List Nat → Option (List Oper)
  | [] => some []
  | i :: rest => match ops[i]?, opsAt ops rest with
    | some o, some l => some (o :: l)
    | _, _ => none

theorem yieldsIf_of_quiet {o : Oper} {a : Act} {C : World → Prop} {v : Value} (hy : Op.yields o.op = true) (hw : Region.wanted o (yielded ops a.tmps) = true) (h : ∀ w, C w → o.quietAt P a C w v) : YieldsIf P ops C o v a := by
  refine .inl ⟨hw, fun w hC => ?_⟩
  have h := h w hC
  unfold Oper.quietAt at h
  generalize hr : (execOp a.eval o).run P w = r at h
  cases r with
  | ok x w' =>
    obtain ⟨u, rfl⟩ := yields_value hy hr
    simp only [Oper.quietUpon] at h
    obtain ⟨h1, h2⟩ := h
    rw [h1, h2]
  | halt x w' => simp only [Oper.quietUpon] at h

/-- several at once, by the walk of those that only read. -/
theorem wpAnyG_batch {B : Array Nat} (hB : maskOk md ops B = true) (hf : ∀ f, F.fn f) (hnd : noDefer ops = true) (hs : Region.noSelect ops = true) (hQ : ∀ c a w, ¬ Q (.panic c) a w) {fuel : Nat} {w : World} :
    ∀ (ms : List Nat) (listed : Array Bool) (l : List Oper) (a : Act), Closed md ops listed → batchOk md ops B X listed ms = true → opsAt ops.toList ms = some l →
      wpQuiet P ops (InExt w) (fun a' => wpAnyG F n P md ops Q X fuel (listAll listed ms) a' w) l a → wpAnyG F n P md ops Q X (fuel + ms.length) listed a w
  | [], listed, l, a, _, _, hl, h => by
    simp only [opsAt, Option.some.injEq] at hl
    subst hl
    exact h
  | i :: ms, listed, l, a, hcl, hb, hl, h => by
    simp only [batchOk, Bool.and_eq_true, takeOk] at hb
    obtain ⟨⟨hr, ht⟩, hb⟩ := hb
    simp only [opsAt, Array.getElem?_toList] at hl
    cases hi : ops[i]? with
    | none => simp [hi] at hl
    | some oi =>
      cases hms : opsAt ops.toList ms with
      | none => simp [hi, hms] at hl
      | some l' =>
        simp only [hi, hms, Option.some.injEq] at hl
        subst hl
        simp only [hi, Bool.and_eq_true, List.all_eq_true, List.mem_range] at ht
        obtain ⟨hyo, ht⟩ := ht
        have hfree : ∀ j oj, ops[j]? = some oj → j ≠ i → listed.getD j true = false → (B.getD j 0).testBit i = false → oi.apart ops oj = true ∧ X j = true := fun j oj hj hne hun hno => by
          have h1 := ht j (Array.getElem?_eq_some_iff.1 hj).1
          simpa only [hj, Bool.or_eq_true, beq_iff_eq, hne, false_or, hun, Bool.false_eq_true, Bool.and_eq_true, hno] using h1
        have hr' : i ∈ Region.ready md ops listed := by simpa using hr
        have step : ∀ v, YieldsIf P ops (Ext w) oi v a → wpQuiet P ops (InExt w) (fun a' => wpAnyG F n P md ops Q X fuel (listAll (listed.setIfInBounds i true) ms) a' w) l' (a.put oi.dst v) → wpAnyG F n P md ops Q X (fuel + (ms.length + 1)) listed a w := fun v hy hk =>
          wpAnyG_first hB hf hnd hi (Region.noSelect_spec hs) hQ (fuel + ms.length) listed a w hcl hfree hr' hy (wpAnyG_batch hB hf hnd hs hQ ms _ l' _ (hcl.set hr') hb hms hk)
        unfold wpQuiet at h
        by_cases hw : Region.wanted oi (yielded ops a.tmps) = true
        · simp only [hw, if_true] at h
          obtain ⟨v, h1, h2⟩ := h
          exact step v (YieldsIf.weaken (yieldsIf_of_quiet hyo hw h1) fun W hW => inExt hW) h2
        · simp only [hw] at h
          exact step undef (.inr ⟨by simpa using hw, rfl⟩) h

/-- Q, but nothing at a panic. -/
def calmQ (Q : Exit → Act → World → Prop) : Exit → Act → World → Prop
  | .normal, a, w => Q .normal a w
  | _, _, _ => False
def closedOk (md : Region.Mode) (ops : Array Oper) (listed : Array Bool) : Bool :=
  (List.range ops.size).all fun k => !listed.getD k false || match ops[k]? with
    | some o => o.after.all fun e => !Region.binds md e || listed.getD e.on false
    | none => true
theorem closed_of_ok {listed : Array Bool} (h : closedOk md ops listed = true) : Closed md ops listed := fun k o ho hl e he hb => by
  have h1 := List.all_eq_true.1 h k (List.mem_range.2 (Array.getElem?_eq_some_iff.1 ho).1)
  simp only [hl, Bool.not_true, Bool.false_or, ho] at h1
  have h2 := Array.all_eq_true_iff_forall_mem.1 h1 e he
  simpa [hb] using h2
/-- all that a batch wants. -/
def stepOk (md : Region.Mode) (ops : Array Oper) (X : Nat → Bool) (listed : Array Bool) (ms : List Nat) : Bool :=
  noDefer ops && (Region.noSelect ops && (maskOk md ops (Region.before ops) && (closedOk md ops listed && batchOk md ops (Region.before ops) X listed ms)))
theorem batchG (hf : ∀ f, F.fn f) {fuel : Nat} {w : World} (ms : List Nat) {listed : Array Bool} {l : List Oper} {a : Act} (h : stepOk md ops X listed ms = true) (hl : opsAt ops.toList ms = some l)
    (hk : wpQuiet P ops (InExt w) (fun a' => wpAnyG F n P md ops (calmQ Q) X fuel (listAll listed ms) a' w) l a) : wpAnyG F n P md ops (calmQ Q) X (fuel + ms.length) listed a w := by
  simp only [stepOk, Bool.and_eq_true] at h
  exact wpAnyG_batch h.2.2.1 hf h.1 h.2.1 (fun _ _ _ h => h.elim) ms listed l a (closed_of_ok h.2.2.2.1) h.2.2.2.2 hl hk
theorem calmQ_normal {Q : Exit → Act → World → Prop} {a : Act} {w : World} (h : Q .normal a w) : calmQ Q .normal a w := h

/-- what is owed behind an operation that is carried out. -/
def onePost (x : Bool) (w : World) (K : Act → World → Prop) : Exit → Act → World → Prop
  | .normal, a', w' => (x = true → Ext w w') ∧ K a' w'
  | _, _, _ => False

theorem onePost_ext {x : Bool} {w w' : World} {K : Act → World → Prop} {a : Act} (h : Ext w w') (k : K a w') : onePost x w K .normal a w' := ⟨fun _ => h, k⟩
theorem onePost_any {x : Bool} {w w' : World} {K : Act → World → Prop} {a : Act} (hx : x = false) (k : K a w') : onePost x w K .normal a w' := ⟨fun h => (by rw [hx] at h; cases h), k⟩

theorem wpOpIn_of_one {i : Nat} {o : Oper} {x : Bool} {K : Act → World → Prop} {a : Act} {w : World} (ho : ops[i]? = some o) (h : wpListIn F n P ops (onePost x w K) [o] a w) : wpOpIn F n P ops Q i (fun a' w' => (x = true → Ext w w') ∧ K a' w') a w := by
  unfold wpOpIn
  simp only [ho]
  unfold wpListIn at h
  split
  · rename_i hw
    simp only [hw, if_true] at h
    unfold Oper.wpIn at *
    refine ⟨h.1, ?_⟩
    have h := h.2
    generalize (o.semAt F.round a.eval).run P w = r at *
    have out : ∀ {p : Prop}, LetsOut (onePost x w K) → p := fun ⟨_, _, h⟩ => h.elim
    cases r with
    | ok y w' =>
      cases y <;> simp only [Oper.uponIn] at h ⊢
      case value u => exact h
      case skip => exact h
      case defer d => exact h
      case enter f args => exact ⟨h.1, CallsIn.mono h.2 fun e w'' he => by cases e <;> first | exact he | exact he.elim | exact out he⟩
      case row row args => exact ⟨h.1, RowsIn.mono h.2 fun u w'' he => he⟩
      case round l f tmps assign body => exact ⟨h.1, RoundIn.mono h.2 fun e w'' he => by cases e <;> first | exact he | exact he.elim | exact out he⟩
    | halt y w' =>
      cases y <;> simp only [Oper.uponIn] at h ⊢
      case panic u => exact h.elim
  · rename_i hw
    simp only [hw] at h
    exact ⟨h.1, h.2⟩

/-- the one that has to come up now. -/
theorem wpAnyG_one {j : Nat} {o : Oper} {fuel : Nat} {listed : Array Bool} {a : Act} {w : World} (hr : Region.ready md ops listed = [j]) (ho : ops.toList[j]? = some o)
    (h : wpListIn F n P ops (onePost (X j) w (wpAnyG F n P md ops Q X fuel (listed.setIfInBounds j true))) [o] a w) : wpAnyG F n P md ops Q X (fuel + 1) listed a w := by
  refine ⟨fun h0 => (by rw [hr] at h0; cases h0), fun i hi => ?_⟩
  rw [hr] at hi
  obtain rfl : i = j := by simpa using hi
  exact wpOpIn_of_one (by simpa using ho) h
/-- the one that has to come up now is passed over by its guard. -/
theorem wpAnyG_skip (hf : ∀ f, F.fn f) {j : Nat} {o : Oper} {fuel : Nat} {listed : Array Bool} {a : Act} {w : World} (hr : Region.ready md ops listed = [j]) (ho : ops.toList[j]? = some o) (hw : Region.wanted o (yielded ops a.tmps) = false)
    (h : wpAnyG F n P md ops Q X fuel (listed.setIfInBounds j true) (a.put o.dst undef) w) : wpAnyG F n P md ops Q X (fuel + 1) listed a w := by
  refine ⟨fun h0 => (by rw [hr] at h0; cases h0), fun i hi => ?_⟩
  rw [hr] at hi
  obtain rfl : i = j := by simpa using hi
  have ho' : ops[i]? = some o := by simpa using ho
  unfold wpOpIn
  simp only [ho', hw]
  exact ⟨fun f _ => hf f, fun _ => Ext.refl w, h⟩
/-- either of two. -/
theorem wpAnyG_two {j k : Nat} {o p : Oper} {fuel : Nat} {listed : Array Bool} {a : Act} {w : World} (hr : Region.ready md ops listed = [j, k]) (ho : ops.toList[j]? = some o) (hp : ops.toList[k]? = some p)
    (h : wpListIn F n P ops (onePost (X j) w (wpAnyG F n P md ops Q X fuel (listed.setIfInBounds j true))) [o] a w)
    (h' : wpListIn F n P ops (onePost (X k) w (wpAnyG F n P md ops Q X fuel (listed.setIfInBounds k true))) [p] a w) : wpAnyG F n P md ops Q X (fuel + 1) listed a w := by
  refine ⟨fun h0 => (by rw [hr] at h0; cases h0), fun i hi => ?_⟩
  rw [hr] at hi
  rcases List.mem_cons.1 hi with rfl | hi
  · exact wpOpIn_of_one (by simpa using ho) h
  · obtain rfl : i = k := by simpa using hi
    exact wpOpIn_of_one (by simpa using hp) h'
theorem wpAnyG_done {listed : Array Bool} {a : Act} {w : World} (hr : Region.ready md ops listed = []) (h : Q .normal a w) : wpAnyG F n P md ops Q X 0 listed a w := ⟨hr, h⟩

theorem calmQ_imp {Q : Exit → Act → World → Prop} : ∀ (e : Exit) (a : Act) (w : World), calmQ Q e a w → Q e a w := fun e a w h => by
  cases e <;> first | exact h | exact (h : False).elim
theorem calmQ_no {Q : Exit → Act → World → Prop} : ∀ c a w, ¬ calmQ Q (.panic c) a w := fun _ _ _ h => h.elim
theorem CodeIn.mono {c : Code} {Q Q' : Exit → Act → World → Prop} {a : Act} {w : World} (hq : ∀ e a w, Q e a w → Q' e a w)
    (h : c.wpIn F n P Q a w) : c.wpIn F n P Q' a w := Code.wpIn_mono hq h

/-- the region's beginning. -/
theorem wpIn_region_G {id : Nat} {a : Act} {w : World} (X : Nat → Bool) (hm : P.follows .mixedOrders = true)
    (h : wpAnyG F n P .any ops (calmQ Q) X ops.size (Array.replicate ops.size false) a w.drew) : (Code.region id ops true).wpIn F n P Q a w :=
  CodeIn.mono calmQ_imp (wpIn_region_any hm (wpAnyIn_of_G _ _ _ _ h))

end
end Go.Proofs.Ytejknkhahjgdnaa
namespace Go.Proofs.Ytejknkhahjgdnaa
open Go Go.RowKit

def u32 (d : Nat) : Value := .int .u32 (d : Int)
theorem rangeAt_ext' {w w' : World} {b o : Nat} {cs : List Value} (h : w.rangeAt b o cs) (e : Ext w w') : w'.rangeAt b o cs := fun q u hq => by
  have hc := h q u hq
  exact (RowKit.Below.cell e (World.block_lt_of_cell? w _ hc)).trans hc
/-- a row of words: empty, whatever its address; or laid at an address. -/
def URow (w : World) (v : Value) (xs : List Nat) : Prop :=
  (xs = [] ∧ ∃ a c, v = .slice a 0 c) ∨ ∃ b o c, v = .slice (some ⟨b, o, none⟩) xs.length c ∧ xs ≠ [] ∧ xs.length ≤ c ∧ w.rangeAt b o (xs.map u32)
theorem URow.ext {w w' : World} {v : Value} {xs : List Nat} (h : URow w v xs) (e : Ext w w') : URow w' v xs := by
  rcases h with h | ⟨b, o, c, h0, h1, h2, h3⟩
  · exact .inl h
  · exact .inr ⟨b, o, c, h0, h1, h2, rangeAt_ext' h3 e⟩
theorem URow.slice {w : World} {v : Value} {xs : List Nat} (h : URow w v xs) : ∃ a c, v = .slice a xs.length c := by
  rcases h with ⟨rfl, a, c, rfl⟩ | ⟨b, o, c, h0, _⟩
  · exact ⟨a, c, rfl⟩
  · exact ⟨_, c, h0⟩
/-- a word of a row. -/
theorem urow_cell {w : World} {b o : Nat} {xs : List Nat} (h : w.rangeAt b o (xs.map u32)) (k : Nat) (hk : k < xs.length) : w.cell? ⟨b, o + k, none⟩ = some (.int .u32 (xs.getD k 0 : Nat)) := by
  refine h k _ ?_
  rw [List.getElem?_map, List.getD_eq_getElem?_getD, List.getElem?_eq_getElem hk]
  rfl
/-- the first words of a row. -/
theorem URow.take {w : World} {a : Option Addr} {n c : Nat} {xs : List Nat} (h : URow w (.slice a n c) xs) (k : Nat) (hk : k ≤ xs.length) : URow w (.slice a k c) (xs.take k) := by
  rcases h with ⟨rfl, a', c', e⟩ | ⟨b, o, c', e, h1, h2, h3⟩
  · cases e
    obtain rfl : k = 0 := by simpa using hk
    exact .inl ⟨rfl, _, _, rfl⟩
  · cases e
    by_cases h0 : k = 0
    · subst h0; exact .inl ⟨by simp, _, _, rfl⟩
    · refine .inr ⟨b, o, c, by rw [List.length_take, Nat.min_eq_left hk], ?_, by rw [List.length_take]; omega, ?_⟩
      · intro e
        have := congrArg List.length e
        rw [List.length_take, List.length_nil] at this
        have h1' := List.length_pos_iff.2 h1
        omega
      · intro q u hq
        rw [List.map_take, List.getElem?_take] at hq
        split at hq
        · exact h3 q u hq
        · cases hq
/-- what trim hands back. -/
def Trims (a : Option Addr) (xs : List Nat) (c : Nat) (w : World) (e : Ending) (w' : World) : Prop :=
  ∃ k, e = .returned (.slice a k c) ∧ k ≤ xs.length ∧ (∀ j, k ≤ j → xs.getD j 0 = 0) ∧ (k = 0 ∨ xs.getD (k - 1) 0 ≠ 0) ∧ Ext w w'
set_option maxHeartbeats 1000000 in
theorem trim_any (w : World) (a : Option Addr) (c : Nat) (xs : List Nat) (h : URow w (.slice a xs.length c) xs) (hl : xs.length ≤ 2000) : Calls Try.prog 37 #[.slice a xs.length c] w (Trims a xs c w) := by
  have HL := Lib.hid hl
  have H := Lib.hid h
  clear h hl
  go_enter Try.func37, Try.ntmps37
  go_wp2_with fail
  go_loopw [0] (fun v W => W = w ∧ ∃ k : Nat, v = .slice a k c ∧ Hid (k ≤ xs.length ∧ ∀ j, k ≤ j → xs.getD j 0 = 0)) (fun v _ => match v with | .slice _ k _ => k | _ => 0)
  case atStart => exact ⟨rfl, xs.length, rfl, Lib.hid ⟨Nat.le_refl _, fun j hj => getD_past xs j hj⟩⟩
  case round =>
    obtain ⟨rfl, k, rfl, HK⟩ := hrel
    by_cases h0 : k = 0
    · subst h0
      go_wp2
      go_ret
      exact ⟨0, rfl, HK.out.1, HK.out.2, .inl rfl, Ext.refl _⟩
    · obtain ⟨m, rfl⟩ : ∃ m, k = m + 1 := ⟨k - 1, by omega⟩
      clear h0
      have hm : m < xs.length := HK.out.1
      have hm2 : m < 2000 := Nat.lt_of_lt_of_le hm HL.out
      rcases H.out with ⟨h, _⟩ | ⟨b, o, c', hv, _, h2, h3⟩
      · exact absurd h (by intro e; rw [e] at hm; exact absurd hm (Nat.not_lt_zero _))
      · obtain ⟨rfl, rfl⟩ : a = some ⟨b, o, none⟩ ∧ c = c' := by cases hv; exact ⟨rfl, rfl⟩
        have hc := urow_cell h3 m hm
        have hcap : m + 1 ≤ c := by omega
        clear hv h2 h3
        by_cases hz : xs.getD m 0 = 0
        · rw [hz] at hc
          have HZ := Lib.hid hz
          clear hz
          go_wp2
          exact ⟨⟨trivial, m, rfl, Lib.hid ⟨Nat.le_of_lt hm, fun j hj => by
            rcases Nat.eq_or_lt_of_le hj with e | e
            · rw [← e]; exact HZ.out
            · exact HK.out.2 j e⟩⟩, Nat.lt_succ_self m⟩
        · have HZ := Lib.hid hz
          obtain ⟨d, hd⟩ : ∃ d, xs.getD m 0 = d := ⟨_, rfl⟩
          rw [hd] at hc hz
          have hz' : ¬ (d : Int) = 0 := by omega
          have hz2 : ((d : Int) == 0) = false := by simpa using hz
          clear hz hd
          go_wp2
          go_ret
          exact ⟨m + 1, rfl, HK.out.1, HK.out.2, .inr HZ.out, Ext.refl _⟩
/-- a number lies in memory. -/
def NumIs (w : World) (v : Value) (n : Nat) : Prop := ∃ xs, URow w v xs ∧ Norm xs ∧ nval xs = n
theorem NumIs.ext {w w' : World} {v : Value} {n : Nat} (h : NumIs w v n) (e : Ext w w') : NumIs w' v n := by
  obtain ⟨xs, h1, h2⟩ := h; exact ⟨xs, h1.ext e, h2⟩
/-- a number is handed back. -/
def Num (n : Nat) (w : World) (e : Ending) (w' : World) : Prop := ∃ v, e = .returned v ∧ NumIs w' v n ∧ Ext w w'
theorem trim_num (w : World) (a : Option Addr) (c : Nat) (xs : List Nat) (h : URow w (.slice a xs.length c) xs) (hw : Words xs) (hl : xs.length ≤ 2000) : Calls Try.prog 37 #[.slice a xs.length c] w (Num (nval xs) w) := by
  refine (trim_any w a c xs h hl).mono ?_
  rintro e w1 ⟨k, rfl, h1, h2, h3, h4⟩
  obtain ⟨h5, h6⟩ := trim_norm hw h1 h2 h3
  exact ⟨_, rfl, ⟨xs.take k, (h.take k h1).ext h4, h5, h6⟩, h4⟩
/-- may a row of words be a number? -/
def mayN (xs : List Nat) : Bool := decide (xs.length ≤ 128) && decide (xs = [] ∨ xs.getD (xs.length - 1) 0 ≠ 0)
theorem mayN_norm {xs : List Nat} (hw : Words xs) : mayN xs = true ↔ Norm xs ∧ xs.length ≤ 128 := by
  simp only [mayN, Bool.and_eq_true, decide_eq_true_eq]
  exact ⟨fun h => ⟨⟨hw, h.2⟩, h.1⟩, fun h => ⟨h.2, h.1.2⟩⟩
set_option maxHeartbeats 1000000 in
theorem natMay_any (w : World) (p : Value) (xs : List Nat) (h : URow w p xs) : Calls Try.prog 33 #[p] w (Ret (.bool (mayN xs)) w) := by
  by_cases hl : xs.length ≤ 128
  · obtain ⟨a, c, rfl⟩ := h.slice
    have HT := Lib.hid (trim_any w a c xs h (by omega))
    obtain ⟨B, hB⟩ : ∃ B, mayN xs = B := ⟨_, rfl⟩
    have HB := Lib.hid hB
    rw [hB]
    have hl' : (xs.length : Int) ≤ 128 := by omega
    have HL := Lib.hid hl
    clear h hB hl
    go_enter Try.func33, Try.ntmps33
    go_wp2_with fail
    clear hl'
    refine HT.out.mono ?_
    rintro e w1 ⟨k, rfl, h1, h2, h3, h4⟩
    have HK := Lib.hid (And.intro h1 (And.intro h2 h3))
    clear h1 h2 h3
    by_cases hk : k = xs.length
    · subst hk
      go_wp2
      go_ret
      refine ⟨ret_bool ?_, h4⟩
      rw [← HB.out]
      unfold mayN
      have := HL.out
      have h3 := HK.out.2.2
      simp only [this, decide_true, Bool.true_and]
      symm
      rw [decide_eq_true_eq]
      rcases h3 with h3 | h3
      · exact .inl (List.length_eq_zero_iff.1 h3)
      · exact .inr h3
    · have hk' : ¬ (k : Int) = xs.length := by omega
      have HKN := Lib.hid hk
      clear hk
      go_wp2
      go_ret
      refine ⟨ret_bool ?_, h4⟩
      rw [← HB.out]
      unfold mayN
      have h1 := HK.out.1
      have h2 := HK.out.2.1
      have h0 := HKN.out
      rw [show ((k : Int) == (xs.length : Int)) = false by simp; omega]
      symm
      rw [Bool.and_eq_false_iff]
      right
      rw [decide_eq_false_iff_not]
      rintro (h | h)
      · subst h; simp at h1; simp [h1] at h0
      · exact h (h2 _ (by omega))
  · obtain ⟨a, c, rfl⟩ := h.slice
    have e : mayN xs = false := by unfold mayN; simp [hl]
    rw [e]
    have hl' : ¬ (xs.length : Int) ≤ 128 := by omega
    clear h e hl
    go_enter Try.func33, Try.ntmps33
    go_wp2
    go_ret
    exact Ret.mk (Ext.refl _)
theorem wrap_u32 (n : Nat) : IntKind.u32.wrap (n : Int) = ((n % beta : Nat) : Int) := by
  rw [show IntKind.u32.wrap (n : Int) = (n : Int) % 4294967296 by simp [IntKind.wrap, IntKind.bits, IntKind.signed]]
  show _ = ((n % 4294967296 : Nat) : Int)
  omega
set_option maxHeartbeats 1000000 in
theorem from_any (w : World) (n : Nat) (hn : n < 18446744073709551616) : Calls Try.prog 17 #[.int .u64 (n : Nat)] w (Num n w) := by
  have hd : n / beta < beta := Nat.div_lt_of_lt_mul (show n < beta * beta from hn)
  have hE := (Ext.refl w).alloc (.cells #[.int .u32 ((n : Int) % 4294967296), .int .u32 ((n : Int) / 4294967296 % 4294967296)] 34)
  have hrow : URow (w.alloc (.cells #[.int .u32 ((n : Int) % 4294967296), .int .u32 ((n : Int) / 4294967296 % 4294967296)] 34)) (.slice (some ⟨w.heap.size, 0, none⟩) 2 2) [n % beta, n / beta] :=
    .inr ⟨_, 0, 2, rfl, by simp, by simp, fun q u hq => by
      rw [Nat.zero_add, cell_of (alloc_at w _ _ rfl) q]
      have e1 : ((n : Int) % 4294967296) = ((n % beta : Nat) : Int) := by show _ = ((n % 4294967296 : Nat) : Int); omega
      have e2 : ((n : Int) / 4294967296 % 4294967296) = ((n / beta : Nat) : Int) := by
        rw [← Nat.mod_eq_of_lt hd]; show _ = ((n / 4294967296 % 4294967296 : Nat) : Int); omega
      rw [e1, e2]
      simpa [u32] using hq⟩
  have hv : nval [n % beta, n / beta] = n := by
    simp only [nval, Nat.mul_zero, Nat.add_zero]
    exact Nat.mod_add_div n beta
  have HT := Lib.hid (trim_num _ _ 2 [n % beta, n / beta] hrow (fun d hd' => by
    simp only [List.mem_cons, List.not_mem_nil, or_false] at hd'
    rcases hd' with rfl | rfl
    · exact Nat.mod_lt _ beta_pos
    · exact hd) (by simp))
  rw [hv] at HT
  have HE := Lib.hid hE
  clear hrow hv hd hE hn
  go_enter Try.func17, Try.ntmps17
  go_wp2_with fail
  refine HT.out.mono ?_
  rintro e w1 ⟨v, rfl, h1, h2⟩
  go_wp2
  go_ret
  exact ⟨_, rfl, h1, HE.out.trans h2⟩
/-- a number that is not too long. -/
def fitE (n : Nat) : Int := if n < beta ^ 128 then 0 else 5
def fitN (n : Nat) : Nat := if n < beta ^ 128 then n else 0
def Fits (n : Nat) (w : World) (e : Ending) (w' : World) : Prop := ∃ v, e = .returned (.tuple #[v, .int .i64 (fitE n)]) ∧ NumIs w' v (fitN n) ∧ Ext w w'
theorem num_nil (w : World) (a : Option Addr) (c : Nat) : NumIs w (.slice a 0 c) 0 := ⟨[], .inl ⟨rfl, _, _, rfl⟩, ⟨(fun d hd => by cases hd), .inl rfl⟩, rfl⟩
set_option maxHeartbeats 1000000 in
theorem fits_any (w : World) (p : Value) (xs : List Nat) (h : URow w p xs) (hw : Words xs) (hl : xs.length ≤ 2000) : Calls Try.prog 75 #[p] w (Fits (nval xs) w) := by
  obtain ⟨a, c, rfl⟩ := h.slice
  have HT := Lib.hid (trim_num w a c xs h hw hl)
  obtain ⟨n, hn⟩ : ∃ n, nval xs = n := ⟨_, rfl⟩
  rw [hn] at HT ⊢
  clear h hn
  go_enter Try.func75, Try.ntmps75
  go_wp2_with fail
  refine HT.out.mono ?_
  rintro e w1 ⟨v, rfl, ⟨ys, h1, h2, h3⟩, h4⟩
  obtain ⟨b, d, rfl⟩ := h1.slice
  have HL := Lib.hid (norm_len h2 128)
  have H1 := Lib.hid h1
  have H2 := Lib.hid h2
  have H3 := Lib.hid h3
  clear h1 h2 h3
  by_cases hk : ys.length ≤ 128
  · have hk' : ¬ (128 : Int) < ys.length := by omega
    have HK := Lib.hid hk
    clear hk
    go_wp2
    go_ret2
    have h5 : n < beta ^ 128 := by rw [← H3.out]; exact HL.out.1 HK.out
    unfold Fits fitE fitN
    rw [if_pos h5, if_pos h5]
    exact ⟨_, rfl, ⟨ys, H1.out, H2.out, H3.out⟩, h4⟩
  · have hk' : (128 : Int) < ys.length := by omega
    have HK := Lib.hid hk
    clear hk
    go_wp2
    go_ret2
    have h5 : ¬ n < beta ^ 128 := by rw [← H3.out]; exact fun h => HK.out (HL.out.2 h)
    unfold Fits fitE fitN
    rw [if_neg h5, if_neg h5]
    exact ⟨_, rfl, num_nil _ _ _, h4⟩
/-- words in a block of one's own. -/
def UBlk (w : World) (g : Nat) (ds : List Nat) : Prop := w.heap[g]? = some (.cells (ds.map u32).toArray 34 (0, 0))
theorem UBlk.row {w : World} {g : Nat} {ds : List Nat} (h : UBlk w g ds) (c : Nat) (hc : ds.length ≤ c) : URow w (.slice (some ⟨g, 0, none⟩) ds.length c) ds := by
  by_cases h0 : ds = []
  · subst h0; exact .inl ⟨rfl, _, _, rfl⟩
  · refine .inr ⟨g, 0, c, rfl, h0, hc, fun q u hq => ?_⟩
    rw [Nat.zero_add, cell_of h q]
    simpa using hq
theorem UBlk.cell {w : World} {g : Nat} {ds : List Nat} (h : UBlk w g ds) (k : Nat) (hk : k < ds.length) : w.cell? ⟨g, k, none⟩ = some (.int .u32 (ds.getD k 0 : Nat)) ∧ w.frozen? ⟨g, k, none⟩ = false := by
  refine ⟨?_, frozen_of h k⟩
  rw [cell_of h k]
  simp [hk, u32, List.getD_eq_getElem?_getD]
theorem UBlk.set {w : World} {g : Nat} {ds : List Nat} (h : UBlk w g ds) (k d : Nat) : UBlk (w.setCell ⟨g, k, none⟩ (.int .u32 (d : Nat))) g (ds.set k d) := by
  unfold UBlk at *
  simp only [World.setCell, Array.getElem?_modify, h]
  simp [u32, List.map_set]
theorem u32_info : (Try.prog.info? 34).map (·.size) = some 1 := by kernel_rfl
theorem u32_make (w : World) (n : Nat) (hn : n ≤ 3000) : (Instr.makeSlice 23 (.int .i64 (n : Nat)) (.int .i64 (n : Nat))).run Try.prog w = .ok (.slice (some ⟨w.heap.size, 0, none⟩) n n) (w.alloc (.cells ((List.replicate n 0).map u32).toArray 34)) := by
  have h : (Try.prog.info? 34).map (fun i => (i.zero, i.size, i.bytes)) = some (some (.int .u32 0), 1, 4) := by kernel_rfl
  cases hi : Try.prog.info? 34 with
  | none => rw [hi] at h; cases h
  | some i =>
    rw [hi] at h
    simp only [Option.map_some, Option.some.injEq, Prod.mk.injEq] at h
    have := run_make (P := Try.prog) w 23 34 i _ Try.underlying23 hi h.1 .i64 .i64 (n : Nat) (n : Nat) (by omega) (Int.le_refl _) (by rw [h.2.2]; omega) (by omega)
    have e : madeCells (Value.int .u32 0).cells ((n : Int).toNat * 1) = ((List.replicate n 0).map u32).toArray := by
      simp only [madeCells, Value.cells]
      apply Array.ext
      · simp
      · intro i h1 h2
        simp [Nat.mod_one, u32]
    rw [this, h.2.1, e]
    rfl
theorem u32_copy (w0 w : World) (g n : Nat) (xs : List Nat) (a : Option Addr) (c : Nat) (ty : TypeId) (h : URow w (.slice a xs.length c) xs) (hg : w.heap[g]? = some (.cells (Array.replicate n (u32 0)) 34 (0, 0))) (hn : xs.length ≤ n) (hE : Ext w0 w) (hgb : w0.heap.size ≤ g) :
    ∃ w', (Builtin.copy_ #[23, 23] ty #[.slice (some ⟨g, 0, none⟩) n n, .slice a xs.length c]).run Try.prog w = .ok (goInt xs.length) w' ∧ UBlk w' g (xs ++ List.replicate (n - xs.length) 0) ∧ Ext w0 w' := by
  rcases h with ⟨rfl, a', c', e⟩ | ⟨b, o, c', e, h1, h2, h3⟩
  · refine ⟨w, ?_, by unfold UBlk; simpa using hg, hE⟩
    exact run_copy_none (P := Try.prog) w _ _ ty 34 _ _ n n 0 c Try.underlying23 u32_info (by simp)
  · cases e
    have hr := run_copy_row (P := Try.prog) w 23 23 ty 34 g 0 n n ⟨b, o, none⟩ xs.length c _ _ (xs.map u32) Try.underlying23 u32_info hg (by rw [List.length_map]; exact (Nat.min_eq_left hn).symm)
      (fun j v hj => by rw [Addr.add_mid]; exact h3 j v hj) (by simp; omega) (fun v hv => by obtain ⟨d, _, rfl⟩ := List.mem_map.1 hv; rfl)
    rw [List.length_map] at hr
    refine ⟨_, hr, ?_, below_setRow hE hgb _⟩
    have hs := setRow_heap w g _ (((Array.replicate n (u32 0)).toList.take 0 ++ xs.map u32 ++ (Array.replicate n (u32 0)).toList.drop (0 + xs.length)).toArray) _ _ hg
    unfold UBlk
    rw [hs]
    simp [u32]
/-- a number with room for so many words. -/
def Wide (xs : List Nat) (n : Nat) (w : World) (e : Ending) (w' : World) : Prop :=
  ∃ g, e = .returned (.slice (some ⟨g, 0, none⟩) n n) ∧ w.heap.size ≤ g ∧ UBlk w' g (xs ++ List.replicate (n - xs.length) 0) ∧ Ext w w'
set_option maxHeartbeats 1000000 in
theorem wide_any (w : World) (p : Value) (xs : List Nat) (n : Nat) (h : URow w p xs) (hn : xs.length ≤ n) (hl : n ≤ 2000) : Calls Try.prog 34 #[p, .int .i64 (n : Nat)] w (Wide xs n w) := by
  have HU := Lib.hid h
  have HN := Lib.hid (And.intro hn hl)
  obtain ⟨a, c, rfl⟩ := h.slice
  have hmk := u32_make w n (by omega)
  have hE := (Ext.refl w).alloc (.cells (Array.replicate n (u32 0)) 34)
  obtain ⟨w2, hcp, hb, hE2⟩ := u32_copy w (w.alloc (.cells (Array.replicate n (u32 0)) 34)) w.heap.size n xs a c 3 (h.ext hE) (alloc_at _ _ _ rfl) hn hE (Nat.le_refl _)
  have HB := Lib.hid (And.intro hb hE2)
  clear h hn hl hb hE2 hE
  go_enter Try.func34, Try.ntmps34
  go_wp2_with fail
  go_ret
  exact ⟨_, rfl, Nat.le_refl _, HB.out.1, HB.out.2⟩
end Go.Proofs.Ytejknkhahjgdnaa
namespace Go.Proofs.Ytejknkhahjgdnaa
open Go Go.RowKit

/-- the state of the sum's loop. -/
def AddSt (w : World) (g size : Nat) (xs ys : List Nat) (c k : Value) (W : World) : Prop :=
  ∃ (ds : List Nat) (kk cc : Nat), c = .int .u64 (cc : Nat) ∧ k = .int .i64 (kk : Nat) ∧ UBlk W g ds ∧ Ext w W ∧
    Hid (kk ≤ size ∧ ds.length = size ∧ cc ≤ 1 ∧ Words ds ∧ (∀ j, kk ≤ j → ds.getD j 0 = xs.getD j 0) ∧ nval (ds.take kk) + beta ^ kk * cc = nval (xs.take kk) + nval (ys.take kk))
theorem add_rel {w W : World} {g size kk cc s : Nat} {ds xs ys : List Nat} (hU : UBlk W g ds) (hE : Ext w W) (hg : w.heap.size ≤ g)
    (HH : Hid (kk ≤ size ∧ ds.length = size ∧ cc ≤ 1 ∧ Words ds ∧ (∀ j, kk ≤ j → ds.getD j 0 = xs.getD j 0) ∧ nval (ds.take kk) + beta ^ kk * cc = nval (xs.take kk) + nval (ys.take kk)))
    (hx : Words xs) (hy : Words ys) (hk : kk < size) (hs : s = cc + xs.getD kk 0 + ys.getD kk 0) :
    AddSt w g size xs ys (.int .u64 ((s / beta : Nat) : Int)) (.int .i64 ((kk + 1 : Nat) : Int)) (W.setCell ⟨g, kk, none⟩ (.int .u32 ((s % beta : Nat) : Int))) := by
  obtain ⟨h1, h2, h3, h4, h5, h6⟩ := HH.out
  have hkd : kk < ds.length := by rw [h2]; exact hk
  obtain ⟨a1, a2, a3⟩ := add_step (ys := ys) hkd h3 hx hy h5 h6
  rw [← hs] at a1 a2 a3
  exact ⟨ds.set kk (s % beta), kk + 1, s / beta, rfl, rfl, hU.set kk _, Below.setCell (B := w.heap.size) hE hg _, Lib.hid ⟨hk, by rw [List.length_set, h2], a1, words_set h4 (Nat.mod_lt _ beta_pos), a2, a3⟩⟩
theorem cast_mod (s : Nat) : ((s % beta : Nat) : Int) = (s : Int) % 4294967296 := by show ((s % 4294967296 : Nat) : Int) = _; omega
theorem cast_div (s : Nat) : ((s / beta : Nat) : Int) = (s : Int) / 4294967296 := by show ((s / 4294967296 : Nat) : Int) = _; omega
theorem add_close {w W : World} {g size kk cc x y : Nat} {ds xs ys : List Nat} (hU : UBlk W g ds) (hE : Ext w W) (hg : w.heap.size ≤ g)
    (HH : Hid (kk ≤ size ∧ ds.length = size ∧ cc ≤ 1 ∧ Words ds ∧ (∀ j, kk ≤ j → ds.getD j 0 = xs.getD j 0) ∧ nval (ds.take kk) + beta ^ kk * cc = nval (xs.take kk) + nval (ys.take kk)))
    (hx : Words xs) (hy : Words ys) (hk : kk < size) (hs : cc + x + y = cc + xs.getD kk 0 + ys.getD kk 0) :
    AddSt w g size xs ys (.int .u64 (((cc : Int) + (x : Int) + (y : Int)) / 4294967296)) (.int .i64 ((kk : Int) + 1)) (W.setCell ⟨g, kk, none⟩ (.int .u32 (((cc : Int) + (x : Int) + (y : Int)) % 4294967296))) ∧
      size - (intOf (.int .i64 ((kk : Int) + 1))).toNat < size - (intOf (.int .i64 (kk : Int))).toNat := by
  refine ⟨?_, ?_⟩
  · have := add_rel hU hE hg HH hx hy hk hs
    rw [cast_div, cast_mod] at this
    simp only [Int.natCast_add] at this
    exact this
  · show size - (kk + 1) < size - kk
    omega
theorem add_close2 {w W : World} {g size kk cc x : Nat} {ds xs ys : List Nat} (hU : UBlk W g ds) (hE : Ext w W) (hg : w.heap.size ≤ g)
    (HH : Hid (kk ≤ size ∧ ds.length = size ∧ cc ≤ 1 ∧ Words ds ∧ (∀ j, kk ≤ j → ds.getD j 0 = xs.getD j 0) ∧ nval (ds.take kk) + beta ^ kk * cc = nval (xs.take kk) + nval (ys.take kk)))
    (hx : Words xs) (hy : Words ys) (hk : kk < size) (hs : cc + x = cc + xs.getD kk 0 + ys.getD kk 0) :
    AddSt w g size xs ys (.int .u64 (((cc : Int) + (x : Int)) / 4294967296)) (.int .i64 ((kk : Int) + 1)) (W.setCell ⟨g, kk, none⟩ (.int .u32 (((cc : Int) + (x : Int)) % 4294967296))) ∧
      size - (intOf (.int .i64 ((kk : Int) + 1))).toNat < size - (intOf (.int .i64 (kk : Int))).toNat := by
  have := add_close hU hE hg HH hx hy hk (x := x) (y := 0) (by rw [Nat.add_zero]; exact hs)
  simpa using this
set_option maxRecDepth 100000 in
set_option maxHeartbeats 4000000 in
theorem natAdd_any (w : World) (p q : Value) (xs ys : List Nat) (hp : URow w p xs) (hq : URow w q ys) (hx : Words xs) (hy : Words ys) (lx : xs.length ≤ 900) (ly : ys.length ≤ 900) :
    Calls Try.prog 76 #[p, q] w (Num (nval xs + nval ys) w) := by
  obtain ⟨a, c, rfl⟩ := hp.slice
  obtain ⟨b, d, rfl⟩ := hq.slice
  obtain ⟨size, hsize⟩ : ∃ size, size = max xs.length ys.length + 1 := ⟨_, rfl⟩
  have HS := Lib.hid hsize
  have HW := Lib.hid (wide_any w _ xs size hp (by omega) (by omega))
  have HQ := Lib.hid hq
  have HX := Lib.hid (And.intro hx (And.intro hy (And.intro lx ly)))
  have l1 : (xs.length : Int) ≤ 900 := by omega
  have l2 : (ys.length : Int) ≤ 900 := by omega
  by_cases hlt : xs.length < ys.length
  · have hsz : ((ys.length : Nat) : Int) + 1 = (size : Int) := by omega
    clear hp hq hx hy lx ly hsize
    go_enter Try.func76, Try.ntmps76
    go_wp2_with fail
    (try rw [hsz])
    clear hsz hlt l1 l2
    refine HW.out.mono ?_
    rintro e w1 ⟨g, rfl, hg, hb, hx⟩
    have HG := Lib.hid hg
    have HB := Lib.hid hb
    have HE := Lib.hid hx
    clear hg hb hx
    go_wp2_with fail
    go_loopw [6, 18] (fun c k W => AddSt w g size xs ys c k W) (fun _ k _ => size - (intOf k).toNat)
    case atStart =>
      have h0 : xs.length ≤ size := by rw [HS.out]; omega
      exact ⟨_, 0, 0, rfl, rfl, HB.out, HE.out, Lib.hid ⟨Nat.zero_le _, by simp; omega, Nat.zero_le _, fun y hy => by
        rcases List.mem_append.1 hy with h | h
        · exact HX.out.1 y h
        · rw [(List.mem_replicate.1 h).2]; exact beta_pos, fun j _ => by
        rcases Nat.lt_or_ge j xs.length with h | h
        · simp [List.getD_eq_getElem?_getD, List.getElem?_append_left h]
        · rw [getD_past xs j h, List.getD_eq_getElem?_getD, List.getElem?_append_right h, List.getElem?_replicate]
          split <;> rfl, by simp [nval]⟩⟩
    case round =>
      obtain ⟨ds, kk, cc, rfl, rfl, hU, hE, HH⟩ := hrel
      by_cases hk : kk < size
      · obtain ⟨cx, cf⟩ := hU.cell kk (by rw [HH.out.2.1]; exact hk)
        rw [HH.out.2.2.2.2.1 kk (Nat.le_refl _)] at cx
        have HK := Lib.hid hk
        have HU := Lib.hid hU
        have HE2 := Lib.hid hE
        have hc := HH.out.2.2.1
        have bx := words_getD HX.out.1 kk
        have by' := words_getD HX.out.2.1 kk
        have hsz2 : size ≤ 901 := by have := HX.out.2.2; rw [HS.out]; omega
        obtain ⟨x, hx⟩ : ∃ x, xs.getD kk 0 = x := ⟨_, rfl⟩
        obtain ⟨y, hy⟩ : ∃ y, ys.getD kk 0 = y := ⟨_, rfl⟩
        have HXX := Lib.hid hx
        have HYY := Lib.hid hy
        rw [hx] at cx bx
        rw [hy] at by'
        unfold beta at bx by'
        clear hx hy hU hE
        by_cases hky : kk < ys.length
        · rcases HQ.out with ⟨h, _⟩ | ⟨b', o, d', hv, _, h2, h3⟩
          · rw [h] at hky; exact absurd hky (Nat.not_lt_zero _)
          · obtain ⟨rfl, rfl⟩ : b = some ⟨b', o, none⟩ ∧ d = d' := by cases hv; exact ⟨rfl, rfl⟩
            have cy := urow_cell (rangeAt_ext' h3 HE2.out) kk hky
            rw [HYY.out] at cy
            clear hv h2 h3
            go_wp2
            exact add_close HU.out HE2.out HG.out HH HX.out.1 HX.out.2.1 HK.out (by rw [HXX.out, HYY.out])
        · rw [getD_past ys kk (Nat.le_of_not_lt hky)] at HYY
          go_wp2
          exact add_close2 HU.out HE2.out HG.out HH HX.out.1 HX.out.2.1 HK.out (by rw [HXX.out, getD_past ys kk (Nat.le_of_not_lt hky), Nat.add_zero])
      · have HK := Lib.hid (Nat.le_antisymm HH.out.1 (Nat.le_of_not_lt hk))
        have HU := Lib.hid hU
        have HE2 := Lib.hid hE
        have hl2 : ds.length = size := HH.out.2.1
        have HT := Lib.hid (trim_num wr (some ⟨g, 0, none⟩) size ds (hU.row size (Nat.le_of_eq hl2)) HH.out.2.2.2.1 (by have := HX.out.2.2; rw [hl2, HS.out]; omega))
        rw [hl2, add_end HX.out.1 HX.out.2.1 (by rw [hl2]; exact HS.out) (by have := HH.out.2.2.2.2.2; rw [HK.out, ← hl2] at this; exact this)] at HT
        clear hU hE hl2
        go_wp2_with fail
        refine HT.out.mono ?_
        rintro e w3 ⟨v, rfl, h1, h2⟩
        go_wp2
        go_ret
        exact ⟨_, rfl, h1, HE2.out.trans h2⟩
  · have hsz : ((xs.length : Nat) : Int) + 1 = (size : Int) := by omega
    clear hp hq hx hy lx ly hsize
    go_enter Try.func76, Try.ntmps76
    go_wp2_with fail
    (try rw [hsz])
    clear hsz hlt l1 l2
    refine HW.out.mono ?_
    rintro e w1 ⟨g, rfl, hg, hb, hx⟩
    have HG := Lib.hid hg
    have HB := Lib.hid hb
    have HE := Lib.hid hx
    clear hg hb hx
    go_wp2_with fail
    go_loopw [6, 18] (fun c k W => AddSt w g size xs ys c k W) (fun _ k _ => size - (intOf k).toNat)
    case atStart =>
      have h0 : xs.length ≤ size := by rw [HS.out]; omega
      exact ⟨_, 0, 0, rfl, rfl, HB.out, HE.out, Lib.hid ⟨Nat.zero_le _, by simp; omega, Nat.zero_le _, fun y hy => by
        rcases List.mem_append.1 hy with h | h
        · exact HX.out.1 y h
        · rw [(List.mem_replicate.1 h).2]; exact beta_pos, fun j _ => by
        rcases Nat.lt_or_ge j xs.length with h | h
        · simp [List.getD_eq_getElem?_getD, List.getElem?_append_left h]
        · rw [getD_past xs j h, List.getD_eq_getElem?_getD, List.getElem?_append_right h, List.getElem?_replicate]
          split <;> rfl, by simp [nval]⟩⟩
    case round =>
      obtain ⟨ds, kk, cc, rfl, rfl, hU, hE, HH⟩ := hrel
      by_cases hk : kk < size
      · obtain ⟨cx, cf⟩ := hU.cell kk (by rw [HH.out.2.1]; exact hk)
        rw [HH.out.2.2.2.2.1 kk (Nat.le_refl _)] at cx
        have HK := Lib.hid hk
        have HU := Lib.hid hU
        have HE2 := Lib.hid hE
        have hc := HH.out.2.2.1
        have bx := words_getD HX.out.1 kk
        have by' := words_getD HX.out.2.1 kk
        have hsz2 : size ≤ 901 := by have := HX.out.2.2; rw [HS.out]; omega
        obtain ⟨x, hx⟩ : ∃ x, xs.getD kk 0 = x := ⟨_, rfl⟩
        obtain ⟨y, hy⟩ : ∃ y, ys.getD kk 0 = y := ⟨_, rfl⟩
        have HXX := Lib.hid hx
        have HYY := Lib.hid hy
        rw [hx] at cx bx
        rw [hy] at by'
        unfold beta at bx by'
        clear hx hy hU hE
        by_cases hky : kk < ys.length
        · rcases HQ.out with ⟨h, _⟩ | ⟨b', o, d', hv, _, h2, h3⟩
          · rw [h] at hky; exact absurd hky (Nat.not_lt_zero _)
          · obtain ⟨rfl, rfl⟩ : b = some ⟨b', o, none⟩ ∧ d = d' := by cases hv; exact ⟨rfl, rfl⟩
            have cy := urow_cell (rangeAt_ext' h3 HE2.out) kk hky
            rw [HYY.out] at cy
            clear hv h2 h3
            go_wp2
            exact add_close HU.out HE2.out HG.out HH HX.out.1 HX.out.2.1 HK.out (by rw [HXX.out, HYY.out])
        · rw [getD_past ys kk (Nat.le_of_not_lt hky)] at HYY
          go_wp2
          exact add_close2 HU.out HE2.out HG.out HH HX.out.1 HX.out.2.1 HK.out (by rw [HXX.out, getD_past ys kk (Nat.le_of_not_lt hky), Nat.add_zero])
      · have HK := Lib.hid (Nat.le_antisymm HH.out.1 (Nat.le_of_not_lt hk))
        have HU := Lib.hid hU
        have HE2 := Lib.hid hE
        have hl2 : ds.length = size := HH.out.2.1
        have HT := Lib.hid (trim_num wr (some ⟨g, 0, none⟩) size ds (hU.row size (Nat.le_of_eq hl2)) HH.out.2.2.2.1 (by have := HX.out.2.2; rw [hl2, HS.out]; omega))
        rw [hl2, add_end HX.out.1 HX.out.2.1 (by rw [hl2]; exact HS.out) (by have := HH.out.2.2.2.2.2; rw [HK.out, ← hl2] at this; exact this)] at HT
        clear hU hE hl2
        go_wp2_with fail
        refine HT.out.mono ?_
        rintro e w3 ⟨v, rfl, h1, h2⟩
        go_wp2
        go_ret
        exact ⟨_, rfl, h1, HE2.out.trans h2⟩
/-- what Add hands back. -/
def SumE (xs ys : List Nat) (n : Nat) : Int := if mayN xs && mayN ys then fitE n else 2
def SumN (xs ys : List Nat) (n : Nat) : Nat := if mayN xs && mayN ys then fitN n else 0
def Both (xs ys : List Nat) (n : Nat) (w : World) (e : Ending) (w' : World) : Prop :=
  ∃ v, e = .returned (.tuple #[v, .int .i64 (SumE xs ys n)]) ∧ NumIs w' v (SumN xs ys n) ∧ Ext w w'
theorem fits_numAny (w : World) (v : Value) (n : Nat) (h : NumIs w v n) (hn : n < beta ^ 256) : Calls Try.prog 75 #[v] w (Fits n w) := by
  obtain ⟨xs, h1, h2, h3⟩ := h
  have h4 := fits_any w v xs h1 h2.1 (Nat.le_trans ((norm_len h2 256).2 (by rw [h3]; exact hn)) (by decide))
  rw [h3] at h4
  exact h4
set_option maxHeartbeats 1000000 in
theorem natAddE_any (w : World) (p q : Value) (xs ys : List Nat) (hp : URow w p xs) (hq : URow w q ys) (hx : Words xs) (hy : Words ys) : Calls Try.prog 57 #[p, q] w (Both xs ys (nval xs + nval ys) w) := by
  obtain ⟨N, hN⟩ : ∃ N, nval xs + nval ys = N := ⟨_, rfl⟩
  have HNN := Lib.hid hN
  have HBIG := Lib.hid (show (Norm xs ∧ xs.length ≤ 128) → (Norm ys ∧ ys.length ≤ 128) → N < beta ^ 256 by
    intro h1 h2
    have a1 := (norm_len h1.1 128).1 h1.2
    have a2 := (norm_len h2.1 128).1 h2.2
    have a3 : beta ^ 129 ≤ beta ^ 256 := Nat.pow_le_pow_right beta_pos (by decide)
    have a4 : beta ^ 128 * 2 ≤ beta ^ 129 := by rw [Nat.pow_succ]; exact Nat.mul_le_mul_left _ (by decide)
    generalize beta ^ 128 = A at *
    generalize beta ^ 129 = B at *
    generalize beta ^ 256 = C at *
    omega)
  rw [hN]
  clear hN
  have HM1 := Lib.hid (natMay_any w p xs hp)
  have HM2 := Lib.hid (fun W (h : Ext w W) => natMay_any W q ys (hq.ext h))
  have HP := Lib.hid hp
  have HQ := Lib.hid hq
  have HX := Lib.hid (And.intro hx hy)
  cases m1 : mayN xs with
  | false =>
    have HE := Lib.hid (show SumE xs ys N = 2 ∧ SumN xs ys N = 0 by unfold SumE SumN; rw [m1]; exact ⟨rfl, rfl⟩)
    rw [m1] at HM1
    clear hp hq hx hy m1
    go_enter Try.func57, Try.ntmps57
    go_wp2_with fail
    refine HM1.out.mono ?_
    rintro e w1 ⟨rfl, h1⟩
    go_wp2
    go_ret2
    unfold Both
    rw [HE.out.1, HE.out.2]
    exact ⟨_, rfl, num_nil _ _ _, h1⟩
  | true =>
    cases m2 : mayN ys with
    | false =>
      have HE := Lib.hid (show SumE xs ys N = 2 ∧ SumN xs ys N = 0 by unfold SumE SumN; rw [m1, m2]; exact ⟨rfl, rfl⟩)
      rw [m1] at HM1
      rw [m2] at HM2
      clear hp hq hx hy m1 m2
      go_enter Try.func57, Try.ntmps57
      go_wp2_with fail
      refine HM1.out.mono ?_
      rintro e w1 ⟨rfl, h1⟩
      go_wp2_with fail
      refine (HM2.out w1 h1).mono ?_
      rintro e w2 ⟨rfl, h2⟩
      go_wp2
      go_ret2
      unfold Both
      rw [HE.out.1, HE.out.2]
      exact ⟨_, rfl, num_nil _ _ _, h1.trans h2⟩
    | true =>
      have HE := Lib.hid (show SumE xs ys N = fitE N ∧ SumN xs ys N = fitN N by unfold SumE SumN; rw [m1, m2]; exact ⟨rfl, rfl⟩)
      have n1 := (mayN_norm hx).1 m1
      have n2 := (mayN_norm hy).1 m2
      have HN := Lib.hid (And.intro n1 n2)
      rw [m1] at HM1
      rw [m2] at HM2
      clear hp hq hx hy m1 m2 n1 n2
      go_enter Try.func57, Try.ntmps57
      go_wp2_with fail
      refine HM1.out.mono ?_
      rintro e w1 ⟨rfl, h1⟩
      go_wp2_with fail
      refine (HM2.out w1 h1).mono ?_
      rintro e w2 ⟨rfl, h2⟩
      have h02 := h1.trans h2
      go_wp2_with fail
      refine (natAdd_any w2 p q xs ys (HP.out.ext h02) (HQ.out.ext h02) HX.out.1 HX.out.2 (Nat.le_trans HN.out.1.2 (by decide)) (Nat.le_trans HN.out.2.2 (by decide))).mono ?_
      rw [HNN.out]
      rintro e w3 ⟨v, rfl, hv, h3⟩
      go_wp2_with fail
      refine (fits_numAny w3 v N hv (HBIG.out HN.out.1 HN.out.2)).mono ?_
      rintro e w4 ⟨v4, rfl, hv4, h4⟩
      have HV := Lib.hid hv4
      go_wp2
      go_ret2
      unfold Both
      rw [HE.out.1, HE.out.2]
      exact ⟨_, rfl, HV.out, (h02.trans h3).trans h4⟩
end Go.Proofs.Ytejknkhahjgdnaa
namespace Go.Proofs.Ytejknkhahjgdnaa
open Go Go.RowKit

theorem meas_s {k n : Nat} (h : k < n) : n - (intOf (.int .i64 ((k + 1 : Nat) : Int))).toNat < n - (intOf (.int .i64 (k : Int))).toNat := by
  show n - (k + 1) < n - k
  omega
/-- the state of the product's outer loop. -/
def MulSt (w : World) (g size : Nat) (xs ys : List Nat) (i : Value) (W : World) : Prop :=
  ∃ (ds : List Nat) (ii : Nat), i = .int .i64 (ii : Nat) ∧ UBlk W g ds ∧ Ext w W ∧ Hid (ii ≤ xs.length ∧ ds.length = size ∧ Words ds ∧ nval ds = nval (xs.take ii) * nval ys)
/-- the state of its inner loop. -/
def MulIn (w : World) (g size : Nat) (ii V x : Nat) (ys : List Nat) (c k : Value) (W : World) : Prop :=
  ∃ (ds : List Nat) (kk cc : Nat), c = .int .u64 (cc : Nat) ∧ k = .int .i64 (kk : Nat) ∧ UBlk W g ds ∧ Ext w W ∧
    Hid (kk ≤ ys.length + 1 ∧ ds.length = size ∧ cc < beta ∧ Words ds ∧ nval ds + beta ^ (ii + kk) * cc = V + x * nval (ys.take kk) * beta ^ ii)
theorem mul_rel {w W : World} {g size ii V x kk cc s : Nat} {ds ys : List Nat} (hU : UBlk W g ds) (hE : Ext w W) (hg : w.heap.size ≤ g)
    (HH : Hid (kk ≤ ys.length + 1 ∧ ds.length = size ∧ cc < beta ∧ Words ds ∧ nval ds + beta ^ (ii + kk) * cc = V + x * nval (ys.take kk) * beta ^ ii))
    (hy : Words ys) (hx : x < beta) (hk : kk < ys.length + 1) (hi : ii + kk < size) (hs : s = cc + ds.getD (ii + kk) 0 + x * ys.getD kk 0) :
    MulIn w g size ii V x ys (.int .u64 ((s / beta : Nat) : Int)) (.int .i64 ((kk + 1 : Nat) : Int)) (W.setCell ⟨g, ii + kk, none⟩ (.int .u32 ((s % beta : Nat) : Int))) ∧
      ys.length + 1 - (intOf (.int .i64 ((kk + 1 : Nat) : Int))).toNat < ys.length + 1 - (intOf (.int .i64 (kk : Int))).toNat := by
  obtain ⟨h1, h2, h3, h4, h5⟩ := HH.out
  obtain ⟨a1, a2, a3⟩ := mul_step (ds := ds) (ys := ys) (i := ii) (k := kk) (c := cc) (x := x) (V := V) (by rw [h2]; exact hi) h4 hy hx h3 h5
  rw [← hs] at a1 a2 a3
  refine ⟨⟨ds.set (ii + kk) (s % beta), kk + 1, s / beta, rfl, rfl, hU.set _ _, Below.setCell (B := w.heap.size) hE hg _, Lib.hid ⟨hk, by rw [List.length_set, h2], a2, words_set h4 (Nat.mod_lt _ beta_pos), ?_⟩⟩, ?_⟩
  · rw [← Nat.add_assoc]; exact a3
  · show ys.length + 1 - (kk + 1) < ys.length + 1 - kk
    omega
theorem mul_bound {x y : Nat} (h3 : x < beta) (h4 : y < beta) : (x : Int) * (y : Int) ≤ 18446744065119617025 ∧ 0 ≤ (x : Int) * (y : Int) := by
  have h : x * y ≤ (beta - 1) * (beta - 1) := Nat.mul_le_mul (by omega) (by omega)
  have e : (beta - 1) * (beta - 1) = 18446744065119617025 := by decide
  rw [e] at h
  constructor
  · have := Int.ofNat_le.2 h
    rw [Int.natCast_mul] at this
    exact this
  · have := Int.natCast_nonneg (x * y)
    rw [Int.natCast_mul] at this
    exact this
end Go.Proofs.Ytejknkhahjgdnaa
namespace Go.Proofs.Ytejknkhahjgdnaa
open Go Go.RowKit

set_option maxHeartbeats 1000000 in
theorem sameN_any (w : World) (p q : Value) (xs : List Nat) (hp : URow w p xs) (hq : URow w q xs) (hl : xs.length ≤ 5000) : Calls Try.prog 14 #[p, q] w (Ret (.bool true) w) := by
  rcases hp with ⟨h0, a, c, rfl⟩ | ⟨b, o, c, rfl, hne, hc, hr⟩
  · subst h0
    obtain ⟨a2, c2, rfl⟩ := hq.slice
    rw [show ([] : List Nat).length = 0 from rfl]
    clear hq hl
    go_enter Try.func14, Try.ntmps14
    go_wp2
    go_loop [5] (fun i => i = .int .i64 0) (fun _ => 0)
    case atStart => rfl
    case round =>
      subst hrel
      go_wp2
      go_ret
      exact Ret.mk (Ext.refl _)
  · rcases hq with ⟨h0, _⟩ | ⟨b2, o2, c2, rfl, _, hc2, hr2⟩
    · exact (hne h0).elim
    · have H := Lib.hid hr
      have H2 := Lib.hid hr2
      clear hr hr2 hne
      go_enter Try.func14, Try.ntmps14
      go_wp2
      go_loopw [5] (fun i W => Ext w W ∧ ∃ k : Nat, k ≤ xs.length ∧ i = .int .i64 k) (fun i _ => xs.length - (intOf i).toNat)
      case atStart => exact ⟨Ext.refl _, 0, Nat.zero_le _, rfl⟩
      case round =>
        obtain ⟨hX, k, hk, rfl⟩ := hrel
        by_cases hlt : k < xs.length
        · have c0 := urow_cell (rangeAt_ext' H.out hX) k hlt
          have d0 := urow_cell (rangeAt_ext' H2.out hX) k hlt
          generalize xs.getD k 0 = x at *
          go_wp2_with fail
          go_region
          go_wp2
          go_roundw
          case rel => exact ⟨by first | exact hX | exact hX.trans (Ext.drew _), k + 1, by omega, by go_num⟩
          case measure => simp [intOf]; omega
        · go_wp2
          go_ret
          exact Ret.mk hX
theorem sameN_num (w : World) (p q : Value) (n : Nat) (hp : NumIs w p n) (hq : NumIs w q n) (hn : n < beta ^ 256) : Calls Try.prog 14 #[p, q] w (Ret (.bool true) w) := by
  obtain ⟨xs, h1, h2, h3⟩ := hp
  obtain ⟨ys, g1, g2, g3⟩ := hq
  have e := norm_inj h2 g2 (by rw [h3, g3])
  subst e
  exact sameN_any w p q xs h1 g1 (Nat.le_trans ((norm_len h2 256).2 (by rw [h3]; exact hn)) (by decide))
/-- what Pow hands back. -/
def PowE (xs : List Nat) (e : Int) (n : Nat) : Int := if mayN xs ∧ 0 ≤ e ∧ e ≤ 200 then fitE n else 2
def PowN (xs : List Nat) (e : Int) (n : Nat) : Nat := if mayN xs ∧ 0 ≤ e ∧ e ≤ 200 then fitN n else 0
def Pows (xs : List Nat) (e : Int) (n : Nat) (w : World) (r : Ending) (w' : World) : Prop :=
  ∃ v, r = .returned (.tuple #[v, .int .i64 (PowE xs e n)]) ∧ NumIs w' v (PowN xs e n) ∧ Ext w w'
theorem pow_big {n k e : Nat} (hk : k ≤ e) (h : ¬ n ^ k < beta ^ 128) : ¬ n ^ e < beta ^ 128 := by
  rcases Nat.eq_zero_or_pos n with rfl | hn
  · rcases Nat.eq_zero_or_pos k with rfl | h0
    · exact absurd (show 0 ^ 0 < beta ^ 128 from Nat.one_lt_pow (by decide) (by decide)) h
    · rw [Nat.zero_pow h0] at h; exact absurd (Nat.pow_pos beta_pos) h
  · have := Nat.pow_le_pow_right hn hk
    omega
end Go.Proofs.Ytejknkhahjgdnaa
