/- avl.beads, as what goes over a tree; avl.Check, avl.May. -/
import Derived.Test.YtmpglinomjmogaaAvlIter
import Derived.Test.YtmpglinomjmogaaAvl
namespace Go.Proofs.Ytmpglinomjmogaa
open Go Go.RowKit Go.Shelf
attribute [local go_sem] Oper.semAt_some

theorem ext_of_abides {β : Type} {B : Nat} {J : β → World → Prop} (hJ : AbidesFrom B J) {s : β} {W W' : World} (h : J s W) (hE : Ext W W') : J s W' :=
  hJ s W W' none h ⟨hE.os, hE.tape, hE.output, Below.size hE, fun k hk _ => Below.block hE k hk⟩ (fun r e => by cases e)
theorem inH_pre {w : World} : ∀ {t : Tr}, InH w t → ∀ x ∈ t.pre, InH w x
  | .nil, _, _, hx => by simp [Tr.pre] at hx
  | .node b l k v g r, h, x, hx => by
    simp only [Tr.pre, List.mem_cons, List.mem_append] at hx
    rcases hx with rfl | hx | hx
    · exact h
    · exact inH_pre h.2.1 x hx
    · exact inH_pre h.2.2 x hx
/-- lists of what has a property, as lists. -/
def Under {Px : Tr → Prop} (J : List { x : Tr // Px x } → World → Prop) (l : List Tr) (W : World) : Prop := ∃ l' : List { x : Tr // Px x }, l'.map (·.1) = l ∧ J l' W
set_option maxHeartbeats 1000000 in
/-- **avl.beads(t) hands back what goes over t's nodes, each ahead of its sides.** -/
theorem avlBeads_stops (M : Nat → Prop) (Px : Tr → Prop) (n Bt : Nat) (T : Tr) (w : World) (hM : ∀ i, M i → i < w.heap.size) (hBt : Boxed w Bt 25 (.pointer T.ptr)) (hT : InH w T) (ho : Off M T) (hP : ∀ x ∈ T.pre, Px x) :
    SeqStopsK Fence.wide n Try.prog 60 #[.pointer (some ⟨Bt, 0, none⟩)] (fun x : { x : Tr // Px x } => #[Value.pointer x.1.ptr]) (Keep M) (fun ys => ys.map (·.1) = T.pre) (fun q => q.map (·.1) <+: T.pre) T.pre.length w := by
  intro l J Jx W hW hJ hJx hY h0
  have hsz : w.heap.size ≤ W.heap.size := hW.size
  have hE : Ext w W := hW
  have hW2 : Ext W ((W.alloc (.cells #[.func (.yield l) #[] #[]] 41)).alloc (.cells #[.func (.func 61) #[] #[.pointer (some ⟨W.heap.size, 0, none⟩), .pointer (some ⟨W.heap.size + 1, 0, none⟩)]] 41)) := ((Ext.refl W).alloc _).alloc _
  have hon := (avlOn_in M Px l T.pre.length W.heap.size (W.heap.size + 1) (Under J) (Under Jx) (fun h => by have := hM _ h; omega) (fun h => by have := hM _ h; omega)
    (fun m pre x W hx ⟨l', hl', hj⟩ hl => YieldAt.any m (YieldAt.mono (hY l' ⟨x, hx⟩ W hj (by rw [← hl'] at hl; simpa using hl)) fun e W' h => h.elim
      (fun ⟨he, h1, h2⟩ => .inl ⟨he, ⟨l' ++ [⟨x, hx⟩], by simp [hl'], h1⟩, h2⟩) (fun ⟨he, h1⟩ => .inr ⟨he, ⟨l' ++ [⟨x, hx⟩], by simp [hl'], h1⟩⟩)))
    (fun pre W W' ⟨l', hl', h⟩ hE => ⟨l', hl', ext_of_abides hJ h hE⟩) T (n - 1) [] _ ((hT.ext hE).ext hW2) ho hP ⟨[], rfl, ext_of_abides hJ h0 hW2⟩ (by simp)
    ((Boxed.new W _ _).alloc _) (by have := Boxed.new (W.alloc (.cells #[.func (.yield l) #[] #[]] 41)) 41 (.func (.func 61) #[] #[.pointer (some ⟨W.heap.size, 0, none⟩), .pointer (some ⟨W.heap.size + 1, 0, none⟩)]); simpa using this))
  have Hon := Lib.hid hon
  clear hon hY hP
  have hcb := (show Boxed W Bt _ _ from hE.get hBt).cell
  have hlb := (show Boxed W Bt _ _ from hE.get hBt).lt
  have hfn : ∀ f, Fence.wide.fn f := fun _ => trivial
  refine callsIn_of_wp Try.func60 rfl trivial ?_ rfl
  simp only [Try.ntmps60, List.size_toArray, List.length_cons, List.length_nil, Nat.reduceAdd, Nat.reduceSub, Array.replicate_succ, Array.replicate_zero, List.push_toArray, List.append_toArray, List.nil_append, List.cons_append]
  gi_wp2_with fail
  refine ⟨wide_room _, Hon.out.mono ?_⟩
  rintro e W1 (⟨rfl, ⟨l', hl', hJ1⟩, -⟩ | ⟨rfl, q, hq, l', hl', hJ1⟩)
  · gi_wp2
    go_end0
    exact ⟨⟨_, rfl⟩, .inl ⟨_, by simpa using hl', hJ1⟩⟩
  · gi_wp2
    go_end0
    exact ⟨⟨_, rfl⟩, .inr ⟨l', by rw [hl']; simpa using hq, hJ1⟩⟩
theorem avlBeads_any (w : World) (p : Option Addr) : Calls Try.prog 55 #[.pointer p] w fun e w' => e = .returned (.func (.func 60) #[] #[.pointer (some ⟨w.heap.size, 0, none⟩)]) ∧ w' = w.alloc (.cells #[.pointer p] 25) := by
  go_enter Try.func55, Try.ntmps55
  go_wp2
  go_ret
  exact ⟨rfl, rfl⟩
/-- what avl.looks lays into memory. -/
def looksW (w : World) : World := (w.alloc (.cells #[.func (.func 57) #[] #[]] 89)).alloc
  (.cells #[.func (.func 58) #[] #[.pointer (some ⟨w.heap.size, 0, none⟩)], .int .i64 140, .func (.func 59) #[] #[.pointer (some ⟨w.heap.size, 0, none⟩)], .int .i64 8] 87)
set_option maxHeartbeats 400000 in
theorem looks_any (w : World) : Calls Try.prog 54 #[] w fun e w' => e = .returned (.slice (some ⟨w.heap.size + 1, 0, none⟩) 2 2) ∧ w' = looksW w := by
  go_enter Try.func54, Try.ntmps54
  go_wp2
  go_ret
  exact ⟨rfl, rfl⟩
set_option maxHeartbeats 400000 in
theorem tags_any (w : World) (t : Tr) (ht : InH w t) : Calls Try.prog 57 #[.pointer t.ptr] w (Ret (.tuple #[.int .u64 (min t.left.tag t.right.tag), .int .u64 (max t.left.tag t.right.tag)]) w) := by
  go_enter Try.func57, Try.ntmps57
  go_wp2_with fail
  refine (left_any _ t ht).mono ?_
  rintro e w1 ⟨rfl, h1⟩
  go_wp2_with fail
  refine (tag_any _ _ ((left_ok ht).ext h1)).mono ?_
  rintro e w2 ⟨rfl, h2⟩
  have h12 := h1.trans h2
  go_wp2_with fail
  refine (right_any _ t (ht.ext h12)).mono ?_
  rintro e w3 ⟨rfl, h3⟩
  go_wp2_with fail
  refine (tag_any _ _ ((right_ok ht).ext (h12.trans h3))).mono ?_
  rintro e w4 ⟨rfl, h4⟩
  have hE := (h12.trans h3).trans h4
  go_wp2
  all_goals
    go_ret2
    exact ⟨ret_two (by omega) (by omega), hE⟩
/-- the first thing that may be wrong with a node. -/
def avlBadTag (t : Tr) : Bool := t.tag == 0 || IntKind.u64.wrap (t.tag - 1) != max t.left.tag t.right.tag
/-- the second one. -/
def avlBadTree (t : Tr) : Bool := decide (1 < IntKind.u64.wrap (max t.left.tag t.right.tag - min t.left.tag t.right.tag))
set_option maxHeartbeats 400000 in
theorem wrong1_any (w : World) (t : Tr) (B : Nat) (ht : InH w t) (hB : Boxed w B 89 (.func (.func 57) #[] #[])) : Calls Try.prog 58 #[.pointer t.ptr, .pointer (some ⟨B, 0, none⟩)] w (Ret (.bool (avlBadTag t)) w) := by
  have hc := hB.cell
  go_enter Try.func58, Try.ntmps58
  go_wp2_with fail
  refine (tags_any _ t ht).mono ?_
  rintro e w1 ⟨rfl, h1⟩
  go_wp2_with fail
  refine (tag_any _ t (ht.ext h1)).mono ?_
  rintro e w2 ⟨rfl, h2⟩
  have h := h1.trans h2
  clear hc
  by_cases h0 : t.tag = 0
  · have e := beq_iff_eq.2 h0
    clear h0
    have hE := Lib.hid e
    go_wp2
    go_ret
    exact ⟨ret_bool (by simp [avlBadTag, hE.out]), h⟩
  · have e := beq_eq_false_iff_ne.2 h0
    have hE := Lib.hid e
    clear h0
    go_wp2_with fail
    refine (tag_any _ t (ht.ext h)).mono ?_
    rintro e w3 ⟨rfl, h3⟩
    go_wp2
    go_ret
    exact ⟨ret_bool (by simp [avlBadTag, hE.out]), h.trans h3⟩
set_option maxHeartbeats 400000 in
theorem wrong2_any (w : World) (t : Tr) (B : Nat) (ht : InH w t) (hB : Boxed w B 89 (.func (.func 57) #[] #[])) : Calls Try.prog 59 #[.pointer t.ptr, .pointer (some ⟨B, 0, none⟩)] w (Ret (.bool (avlBadTree t)) w) := by
  have hc := hB.cell
  go_enter Try.func59, Try.ntmps59
  go_wp2_with fail
  refine (tags_any _ t ht).mono ?_
  rintro e w1 ⟨rfl, h1⟩
  go_wp2
  go_ret
  exact ⟨ret_bool (by simp [avlBadTree]), h1⟩
end Go.Proofs.Ytmpglinomjmogaa
