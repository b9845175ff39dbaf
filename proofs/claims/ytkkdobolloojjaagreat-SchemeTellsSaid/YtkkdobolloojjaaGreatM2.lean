/- The going over a tree, each node ahead of its sides (avl.beads). The package avl, but for Check and May. avl.beads, as what goes over a tree; avl.Check, avl.May. avl.Check, avl.May. Plain facts of AVL trees; least trees; the examples of layer 14. joinerylaw14.least, joineryref14.Least, joinerylaw14.alive, and the walk of joinerylaw14.AvlLeast. joinerylaw09.Make: the tree in memory of a tree of beads. joineryref09.Same at equal rows; joinerylaw09.see, See, Is. Trees in memory and trees of beads: height, pairs, sides, and what one tells of the other (plain). The first tree of a row with which something is wrong (plain); rows of pointers to nodes that a call owns. Treaps (plain): who stands above whom, what a treap is, and what a join of two comes to. joineryref14: Tag, one, Check, May of a row of beads, as avl's own of the tree in memory. The walk of joinerylaw14.AvlTells. joinerylaw14.height, and the walk of joinerylaw14.AvlHigh. -/
import Derived.Test.YtkkdobolloojjaaGreatM1
import Derived.BigQuiet
import Derived.Maps.AppendAt
import Derived.Deep.Upon
import Derived.Deep.MidRow
namespace Go.Proofs.YtkkdobolloojjaaGreat
open Go Go.RowKit Go.Shelf
attribute [local go_sem] Oper.semAt_some

set_option maxRecDepth 100000 in
set_option maxHeartbeats 2000000 in
theorem avlOn_in (M : Nat → Prop) (Px : Tr → Prop) (l N by_ bo : Nat) (J Jx : List Tr → World → Prop) (hy0 : ¬ M by_) (ho0 : ¬ M bo)
    (hY : ∀ m pre x W, Px x → J pre W → pre.length < N → YieldAt Fence.wide m Tryz.prog l #[.pointer x.ptr] W fun e W' =>
      (e = .returned (.bool true) ∧ J (pre ++ [x]) W' ∧ Keep M W W') ∨ (e = .returned (.bool false) ∧ Jx (pre ++ [x]) W'))
    (hJE : ∀ pre W W', J pre W → Ext W W' → J pre W')
    (T : Tr) :
    ∀ (n : Nat) (pre : List Tr) (W : World), InH W T → Off M T → (∀ x ∈ T.pre, Px x) → J pre W → pre.length + T.pre.length ≤ N →
      Boxed W by_ 45 (.func (.yield l) #[] #[]) → Boxed W bo 45 (.func (.func 136) #[] #[.pointer (some ⟨by_, 0, none⟩), .pointer (some ⟨bo, 0, none⟩)]) →
      CallsIn Fence.wide n Tryz.prog 136 #[.pointer T.ptr, .pointer (some ⟨by_, 0, none⟩), .pointer (some ⟨bo, 0, none⟩)] W fun e W' =>
        (e = .returned (.bool true) ∧ J (pre ++ T.pre) W' ∧ Keep M W W') ∨ (e = .returned (.bool false) ∧ ∃ q, q <+: T.pre ∧ Jx (pre ++ q) W') := by
  have hfn : ∀ f, Fence.wide.fn f := fun _ => trivial
  induction T with
  | nil =>
    intro n pre W _ _ _ hJ _ _ _
    rw [Tr.ptr_nil]
    refine callsIn_of_wp Tryz.func136 rfl trivial ?_ rfl
    simp only [Tryz.ntmps136, List.size_toArray, List.length_cons, List.length_nil, Nat.reduceAdd, Nat.reduceSub, Array.replicate_succ, Array.replicate_zero, List.push_toArray, List.append_toArray, List.nil_append, List.cons_append]
    gi_wp2_with fail
    refine wpIn_region_G (fun j => !(List.contains (α := Nat) [5, 10, 16] j)) (by kernel_rfl) ?_
    refine batchG hfn (fuel := 15) [0, 1, 2, 3, 4] (by kernel_rfl) rfl ?_
    repeat (go_big_quiet_step ((fail)))
    refine wpQuiet_nil ?_
    refine wpAnyG_skip hfn (j := 5) (by kernel_rfl) rfl rfl ?_
    simp only [Act.put, List.setIfInBounds_toArray, List.set_cons_zero, List.set_cons_succ]
    refine batchG hfn (fuel := 11) [6, 7, 8] (by kernel_rfl) rfl ?_
    repeat (go_big_quiet_step ((fail)))
    refine wpQuiet_nil ?_
    refine wpAnyG_skip hfn (j := 9) (by kernel_rfl) rfl rfl ?_
    simp only [Act.put, List.setIfInBounds_toArray, List.set_cons_zero, List.set_cons_succ]
    refine wpAnyG_skip hfn (j := 10) (by kernel_rfl) rfl rfl ?_
    simp only [Act.put, List.setIfInBounds_toArray, List.set_cons_zero, List.set_cons_succ]
    refine batchG hfn (fuel := 5) [11, 12, 13, 14] (by kernel_rfl) rfl ?_
    repeat (go_big_quiet_step ((fail)))
    refine wpQuiet_nil ?_
    refine wpAnyG_skip hfn (j := 15) (by kernel_rfl) rfl rfl ?_
    simp only [Act.put, List.setIfInBounds_toArray, List.set_cons_zero, List.set_cons_succ]
    refine wpAnyG_skip hfn (j := 16) (by kernel_rfl) rfl rfl ?_
    simp only [Act.put, List.setIfInBounds_toArray, List.set_cons_zero, List.set_cons_succ]
    refine batchG hfn (fuel := 0) [17, 18, 19] (by kernel_rfl) rfl ?_
    repeat (go_big_quiet_step ((fail)))
    refine wpQuiet_nil ?_
    refine wpAnyG_done (by kernel_rfl) ?_
    refine calmQ_normal ?_
    gi_wp2
    go_ret
    exact .inl ⟨rfl, by simpa [Tr.pre] using hJE _ _ _ hJ (Ext.drew W), Keep.drew W⟩
  | node b tl k v g tr ihl ihr =>
    intro n pre W ht ho hP hJ hN hy hbo
    simp only [Tr.pre, List.length_cons, List.length_append] at hN
    have hY1 := hY n pre (.node b tl k v g tr) W.drew (hP _ (List.mem_cons_self ..)) (hJE _ _ _ hJ (Ext.drew W)) (by omega)
    rw [Tr.ptr_node] at hY1
    have Hl := Lib.hid ihl
    have Hr := Lib.hid ihr
    clear ihl ihr hY
    have HP := Lib.hid hP
    clear hP
    have hcy := cell_all hy.cell
    have hx0 := Ext.drew W
    obtain ⟨fn, tmps, assign, body, hy1, hR⟩ := hY1
    have HR := Lib.hid hR
    clear hR
    rw [Tr.ptr_node]
    refine callsIn_of_wp Tryz.func136 rfl trivial ?_ rfl
    simp only [Tryz.ntmps136, List.size_toArray, List.length_cons, List.length_nil, Nat.reduceAdd, Nat.reduceSub, Array.replicate_succ, Array.replicate_zero, List.push_toArray, List.append_toArray, List.nil_append, List.cons_append]
    gi_wp2_with fail
    refine wpIn_region_G (fun j => !(List.contains (α := Nat) [5, 10, 16] j)) (by kernel_rfl) ?_
    refine batchG hfn (fuel := 15) [0, 1, 2, 3, 4] (by kernel_rfl) rfl ?_
    repeat (go_big_quiet_step ((fail)))
    refine wpQuiet_nil ?_
    refine wpAnyG_one (j := 5) (by kernel_rfl) rfl ?_
    gi_wp2_with fail
    clear hcy hx0 hy1
    refine ⟨wide_room _, (RoundIn.any HR.out).mono ?_⟩
    rintro e W1 (⟨rfl, hJ1, hk1⟩ | ⟨rfl, hJx1⟩)
    · have hk01 := (Keep.drew (M := M) W).trans hk1
      have ht1 := InH.keep hk01 ho ht
      have hy1 := hk01.boxed hy0 hy
      have hb1 := hk01.boxed ho0 hbo
      clear hy hbo ht hJ hk1
      have hco := cell_all hb1.cell
      have hx1 := Ext.refl W1
      gi_wp2_with fail
      refine onePost_any (by kernel_rfl) ?_
      refine batchG hfn (fuel := 11) [6, 7, 8] (by kernel_rfl) rfl ?_
      repeat (go_big_quiet_step ((fail)))
      refine wpQuiet_nil ?_
      refine wpAnyG_one (j := 9) (by kernel_rfl) rfl ?_
      gi_wp2_with fail
      rw [← Tr.ptr_node b tl k v g tr]
      clear hco hx1
      refine ⟨wide_room _, (callsIn_wide.2 (left_any _ _ ht1)).mono ?_⟩
      rintro e W2 ⟨rfl, h2⟩
      gi_wp2_with fail
      refine onePost_ext (h2) ?_
      refine wpAnyG_one (j := 10) (by kernel_rfl) rfl ?_
      gi_wp2_with fail
      simp only [Tr.left_node]
      have ht2 := ht1.ext h2
      have hb2 := (Keep.ext (M := M) h2).boxed ho0 hb1
      have hy2 := (Keep.ext (M := M) h2).boxed hy0 hy1
      have hJ2 := hJE _ _ _ hJ1 h2
      have hk02 := hk01.trans (Keep.ext h2)
      clear ht1 hb1 hy1 hJ1 hk01
      refine ⟨wide_room _, (Hl.out (n - 1) _ W2 ht2.2.1 ho.2.1 (fun x hx => HP.out x (List.mem_cons_of_mem _ (List.mem_append_left _ hx))) hJ2 (by simp; omega) hy2 hb2).mono ?_⟩
      rintro e W3 (⟨rfl, hJ3, hk3⟩ | ⟨rfl, q, hq, hJx3⟩)
      · have ht3 := InH.keep hk3 ho ht2
        have hy3 := hk3.boxed hy0 hy2
        have hb3 := hk3.boxed ho0 hb2
        have hk03 := hk02.trans hk3
        clear hk3 hk02 hJ2 hb2 hy2 ht2
        have hco := cell_all hb3.cell
        have hx3 := Ext.refl W3
        gi_wp2_with fail
        refine onePost_any (by kernel_rfl) ?_
        refine batchG hfn (fuel := 5) [11, 12, 13, 14] (by kernel_rfl) rfl ?_
        repeat (go_big_quiet_step ((fail)))
        refine wpQuiet_nil ?_
        refine wpAnyG_one (j := 15) (by kernel_rfl) rfl ?_
        gi_wp2_with fail
        clear hco hx3
        refine ⟨wide_room _, (callsIn_wide.2 (right_any _ _ ht3)).mono ?_⟩
        rintro e W4 ⟨rfl, h4⟩
        gi_wp2_with fail
        refine onePost_ext (h4) ?_
        refine wpAnyG_one (j := 16) (by kernel_rfl) rfl ?_
        gi_wp2_with fail
        simp only [Tr.right_node]
        have ht4 := ht3.ext h4
        have hb4 := (Keep.ext (M := M) h4).boxed ho0 hb3
        have hy4 := (Keep.ext (M := M) h4).boxed hy0 hy3
        have hJ4 := hJE _ _ _ hJ3 h4
        have hk04 := hk03.trans (Keep.ext h4)
        clear ht3 hb3 hy3 hJ3 hk03
        refine ⟨wide_room _, (Hr.out (n - 1) _ W4 ht4.2.2 ho.2.2 (fun x hx => HP.out x (List.mem_cons_of_mem _ (List.mem_append_right _ hx))) hJ4 (by simp; omega) hy4 hb4).mono ?_⟩
        rintro e W5 (⟨rfl, hJ5, hk5⟩ | ⟨rfl, q, hq, hJx5⟩)
        · gi_wp2_with fail
          refine onePost_any (by kernel_rfl) ?_
          refine batchG hfn (fuel := 0) [17, 18, 19] (by kernel_rfl) rfl ?_
          repeat (go_big_quiet_step ((fail)))
          refine wpQuiet_nil ?_
          refine wpAnyG_done (by kernel_rfl) ?_
          refine calmQ_normal ?_
          gi_wp2
          go_ret
          exact .inl ⟨rfl, by simpa [Tr.pre, List.append_assoc] using hJ5, hk04.trans hk5⟩
        · gi_wp2_with fail
          refine onePost_any (by kernel_rfl) ?_
          refine batchG hfn (fuel := 0) [17, 18, 19] (by kernel_rfl) rfl ?_
          repeat (go_big_quiet_step ((fail)))
          refine wpQuiet_nil ?_
          refine wpAnyG_done (by kernel_rfl) ?_
          refine calmQ_normal ?_
          gi_wp2
          go_ret
          obtain ⟨r', hr'⟩ := hq
          exact .inr ⟨rfl, .node b tl k v g tr :: (tl.pre ++ q), ⟨r', by simp [Tr.pre, ← hr']⟩, by simpa [List.append_assoc] using hJx5⟩
      · gi_wp2_with fail
        refine onePost_any (by kernel_rfl) ?_
        refine batchG hfn (fuel := 5) [11, 12, 13, 14] (by kernel_rfl) rfl ?_
        repeat (go_big_quiet_step ((fail)))
        refine wpQuiet_nil ?_
        refine wpAnyG_skip hfn (j := 15) (by kernel_rfl) rfl rfl ?_
        simp only [Act.put, List.setIfInBounds_toArray, List.set_cons_zero, List.set_cons_succ]
        refine wpAnyG_skip hfn (j := 16) (by kernel_rfl) rfl rfl ?_
        simp only [Act.put, List.setIfInBounds_toArray, List.set_cons_zero, List.set_cons_succ]
        refine batchG hfn (fuel := 0) [17, 18, 19] (by kernel_rfl) rfl ?_
        repeat (go_big_quiet_step ((fail)))
        refine wpQuiet_nil ?_
        refine wpAnyG_done (by kernel_rfl) ?_
        refine calmQ_normal ?_
        gi_wp2
        go_ret
        obtain ⟨r', hr'⟩ := hq
        exact .inr ⟨rfl, .node b tl k v g tr :: q, ⟨r' ++ tr.pre, by simp [Tr.pre, ← hr']⟩, by simpa [List.append_assoc] using hJx3⟩
    · gi_wp2_with fail
      refine onePost_any (by kernel_rfl) ?_
      refine batchG hfn (fuel := 11) [6, 7, 8] (by kernel_rfl) rfl ?_
      repeat (go_big_quiet_step ((fail)))
      refine wpQuiet_nil ?_
      refine wpAnyG_skip hfn (j := 9) (by kernel_rfl) rfl rfl ?_
      simp only [Act.put, List.setIfInBounds_toArray, List.set_cons_zero, List.set_cons_succ]
      refine wpAnyG_skip hfn (j := 10) (by kernel_rfl) rfl rfl ?_
      simp only [Act.put, List.setIfInBounds_toArray, List.set_cons_zero, List.set_cons_succ]
      refine batchG hfn (fuel := 5) [11, 12, 13, 14] (by kernel_rfl) rfl ?_
      repeat (go_big_quiet_step ((fail)))
      refine wpQuiet_nil ?_
      refine wpAnyG_skip hfn (j := 15) (by kernel_rfl) rfl rfl ?_
      simp only [Act.put, List.setIfInBounds_toArray, List.set_cons_zero, List.set_cons_succ]
      refine wpAnyG_skip hfn (j := 16) (by kernel_rfl) rfl rfl ?_
      simp only [Act.put, List.setIfInBounds_toArray, List.set_cons_zero, List.set_cons_succ]
      refine batchG hfn (fuel := 0) [17, 18, 19] (by kernel_rfl) rfl ?_
      repeat (go_big_quiet_step ((fail)))
      refine wpQuiet_nil ?_
      refine wpAnyG_done (by kernel_rfl) ?_
      refine calmQ_normal ?_
      gi_wp2
      go_ret
      exact .inr ⟨rfl, [.node b tl k v g tr], ⟨tl.pre ++ tr.pre, rfl⟩, hJx1⟩
end Go.Proofs.YtkkdobolloojjaaGreat
namespace Go.Proofs.YtkkdobolloojjaaGreat
open Go Go.RowKit

/-- the tag of a node that is made of two. -/
def avlTag (l r : Tr) : Int := IntKind.u64.wrap (max l.tag r.tag + 1)
theorem avlTag_left {l r : Tr} (h : r.tag ≤ l.tag) : IntKind.u64.wrap (l.tag + 1) = avlTag l r := by unfold avlTag; rw [Int.max_eq_left h]
theorem avlTag_right {l r : Tr} (h : ¬ r.tag ≤ l.tag) : IntKind.u64.wrap (r.tag + 1) = avlTag l r := by unfold avlTag; rw [Int.max_eq_right (by omega)]
set_option maxHeartbeats 400000 in
theorem avlMake_any (w : World) (l r : Tr) (k v : Int) (hl : InH w l) (hr : InH w r) : Calls Tryz.prog 109 #[.pointer l.ptr, .int .i64 k, .int .i64 v, .pointer r.ptr] w (New l k v (avlTag l r) r w) := by
  go_enter Tryz.func109, Tryz.ntmps109
  go_wp2_with fail
  refine (tag_any _ l hl).mono ?_
  rintro e w1 ⟨rfl, h1⟩
  go_wp2_with fail
  refine (tag_any _ r (hr.ext h1)).mono ?_
  rintro e w2 ⟨rfl, h2⟩
  have h := h1.trans h2
  by_cases hc : r.tag ≤ l.tag
  · have e := avlTag_left hc
    have hE := Lib.hid e
    clear e
    go_wp2_with fail
    rw [hE.out]
    refine (new_any _ l r k v _ (hl.ext h) (hr.ext h)).mono ?_
    rintro e w3 ⟨b, rfl, hb, ht, h3⟩
    go_wp2
    go_ret
    exact ⟨b, rfl, Nat.le_trans h.size hb, ht, h.trans h3⟩
  · have e := avlTag_right hc
    have hE := Lib.hid e
    clear e
    go_wp2_with fail
    rw [hE.out]
    refine (new_any _ l r k v _ (hl.ext h) (hr.ext h)).mono ?_
    rintro e w3 ⟨b, rfl, hb, ht, h3⟩
    go_wp2
    go_ret
    exact ⟨b, rfl, Nat.le_trans h.size hb, ht, h.trans h3⟩
set_option maxHeartbeats 400000 in
theorem avlRank_any (w : World) (t : Tr) (ht : InH w t) : Calls Tryz.prog 91 #[.pointer t.ptr] w (Ret (.int .i64 (wrap64 t.tag)) w) := by
  go_enter Tryz.func91, Tryz.ntmps91
  go_wp2_with fail
  refine (tag_any _ t ht).mono ?_
  rintro e w1 ⟨rfl, h1⟩
  go_wp2
  go_ret
  exact Ret.mk h1
/-- by how much a tree is higher on the right. -/
def avlLean (t : Tr) : Int := wrap64 (IntKind.u64.wrap (t.right.tag - t.left.tag))
end Go.Proofs.YtkkdobolloojjaaGreat
namespace Go.Proofs.YtkkdobolloojjaaGreat
open Go Go.RowKit Go.Shelf
attribute [local go_sem] Oper.semAt_some

theorem ext_of_abides {β : Type} {B : Nat} {J : β → World → Prop} (hJ : AbidesFrom B J) {s : β} {W W' : World} (h : J s W) (hE : Ext W W') : J s W' :=
  hJ s W W' none h ⟨hE.os, hE.tape, hE.output, Below.size hE, fun k hk _ => Below.block hE k hk⟩ (fun r e => by cases e)
theorem inH_pre {w : World} : ∀ {t : Tr}, InH w t → ∀ x ∈ t.pre, InH w x
  | .nil, _, _, hx => by simp [Tr.pre] at hx
  | .node b l k v g r, h, x, hx => by
    simp only [Tr.pre, List.mem_cons, List.mem_append] at hx
    rcases hx with rfl | hx | hx
    · exact h
    · exact inH_pre h.2.1 x hx
    · exact inH_pre h.2.2 x hx
/-- lists of what has a property, as lists. -/
def Under {Px : Tr → Prop} (J : List { x : Tr // Px x } → World → Prop) (l : List Tr) (W : World) : Prop := ∃ l' : List { x : Tr // Px x }, l'.map (·.1) = l ∧ J l' W
set_option maxHeartbeats 1000000 in
/-- **avl.beads(t) hands back what goes over t's nodes, each ahead of its sides.** -/
theorem avlBeads_stops (M : Nat → Prop) (Px : Tr → Prop) (n Bt : Nat) (T : Tr) (w : World) (hM : ∀ i, M i → i < w.heap.size) (hBt : Boxed w Bt 28 (.pointer T.ptr)) (hT : InH w T) (ho : Off M T) (hP : ∀ x ∈ T.pre, Px x) :
    SeqStopsK Fence.wide n Tryz.prog 135 #[.pointer (some ⟨Bt, 0, none⟩)] (fun x : { x : Tr // Px x } => #[Value.pointer x.1.ptr]) (Keep M) (fun ys => ys.map (·.1) = T.pre) (fun q => q.map (·.1) <+: T.pre) T.pre.length w := by
  intro l J Jx W hW hJ hJx hY h0
  have hsz : w.heap.size ≤ W.heap.size := hW.size
  have hE : Ext w W := hW
  have hW2 : Ext W ((W.alloc (.cells #[.func (.yield l) #[] #[]] 45)).alloc (.cells #[.func (.func 136) #[] #[.pointer (some ⟨W.heap.size, 0, none⟩), .pointer (some ⟨W.heap.size + 1, 0, none⟩)]] 45)) := ((Ext.refl W).alloc _).alloc _
  have hon := (avlOn_in M Px l T.pre.length W.heap.size (W.heap.size + 1) (Under J) (Under Jx) (fun h => by have := hM _ h; omega) (fun h => by have := hM _ h; omega)
    (fun m pre x W hx ⟨l', hl', hj⟩ hl => YieldAt.any m (YieldAt.mono (hY l' ⟨x, hx⟩ W hj (by rw [← hl'] at hl; simpa using hl)) fun e W' h => h.elim
      (fun ⟨he, h1, h2⟩ => .inl ⟨he, ⟨l' ++ [⟨x, hx⟩], by simp [hl'], h1⟩, h2⟩) (fun ⟨he, h1⟩ => .inr ⟨he, ⟨l' ++ [⟨x, hx⟩], by simp [hl'], h1⟩⟩)))
    (fun pre W W' ⟨l', hl', h⟩ hE => ⟨l', hl', ext_of_abides hJ h hE⟩) T (n - 1) [] _ ((hT.ext hE).ext hW2) ho hP ⟨[], rfl, ext_of_abides hJ h0 hW2⟩ (by simp)
    ((Boxed.new W _ _).alloc _) (by have := Boxed.new (W.alloc (.cells #[.func (.yield l) #[] #[]] 45)) 45 (.func (.func 136) #[] #[.pointer (some ⟨W.heap.size, 0, none⟩), .pointer (some ⟨W.heap.size + 1, 0, none⟩)]); simpa using this))
  have Hon := Lib.hid hon
  clear hon hY hP
  have hcb := (show Boxed W Bt _ _ from hE.get hBt).cell
  have hlb := (show Boxed W Bt _ _ from hE.get hBt).lt
  have hfn : ∀ f, Fence.wide.fn f := fun _ => trivial
  refine callsIn_of_wp Tryz.func135 rfl trivial ?_ rfl
  simp only [Tryz.ntmps135, List.size_toArray, List.length_cons, List.length_nil, Nat.reduceAdd, Nat.reduceSub, Array.replicate_succ, Array.replicate_zero, List.push_toArray, List.append_toArray, List.nil_append, List.cons_append]
  gi_wp2_with fail
  refine ⟨wide_room _, Hon.out.mono ?_⟩
  rintro e W1 (⟨rfl, ⟨l', hl', hJ1⟩, -⟩ | ⟨rfl, q, hq, l', hl', hJ1⟩)
  · gi_wp2
    go_end0
    exact ⟨⟨_, rfl⟩, .inl ⟨_, by simpa using hl', hJ1⟩⟩
  · gi_wp2
    go_end0
    exact ⟨⟨_, rfl⟩, .inr ⟨l', by rw [hl']; simpa using hq, hJ1⟩⟩
theorem avlBeads_any (w : World) (p : Option Addr) : Calls Tryz.prog 114 #[.pointer p] w fun e w' => e = .returned (.func (.func 135) #[] #[.pointer (some ⟨w.heap.size, 0, none⟩)]) ∧ w' = w.alloc (.cells #[.pointer p] 28) := by
  go_enter Tryz.func114, Tryz.ntmps114
  go_wp2
  go_ret
  exact ⟨rfl, rfl⟩
/-- what avl.looks lays into memory. -/
def looksW (w : World) : World := (w.alloc (.cells #[.func (.func 132) #[] #[]] 160)).alloc
  (.cells #[.func (.func 133) #[] #[.pointer (some ⟨w.heap.size, 0, none⟩)], .int .i64 140, .func (.func 134) #[] #[.pointer (some ⟨w.heap.size, 0, none⟩)], .int .i64 8] 148)
set_option maxHeartbeats 400000 in
theorem looks_any (w : World) : Calls Tryz.prog 113 #[] w fun e w' => e = .returned (.slice (some ⟨w.heap.size + 1, 0, none⟩) 2 2) ∧ w' = looksW w := by
  go_enter Tryz.func113, Tryz.ntmps113
  go_wp2
  go_ret
  exact ⟨rfl, rfl⟩
set_option maxHeartbeats 400000 in
theorem tags_any (w : World) (t : Tr) (ht : InH w t) : Calls Tryz.prog 132 #[.pointer t.ptr] w (Ret (.tuple #[.int .u64 (min t.left.tag t.right.tag), .int .u64 (max t.left.tag t.right.tag)]) w) := by
  go_enter Tryz.func132, Tryz.ntmps132
  go_wp2_with fail
  refine (left_any _ t ht).mono ?_
  rintro e w1 ⟨rfl, h1⟩
  go_wp2_with fail
  refine (tag_any _ _ ((left_ok ht).ext h1)).mono ?_
  rintro e w2 ⟨rfl, h2⟩
  have h12 := h1.trans h2
  go_wp2_with fail
  refine (right_any _ t (ht.ext h12)).mono ?_
  rintro e w3 ⟨rfl, h3⟩
  go_wp2_with fail
  refine (tag_any _ _ ((right_ok ht).ext (h12.trans h3))).mono ?_
  rintro e w4 ⟨rfl, h4⟩
  have hE := (h12.trans h3).trans h4
  go_wp2
  all_goals
    go_ret2
    exact ⟨ret_two (by omega) (by omega), hE⟩
/-- the first thing that may be wrong with a node. -/
def avlBadTag (t : Tr) : Bool := t.tag == 0 || IntKind.u64.wrap (t.tag - 1) != max t.left.tag t.right.tag
/-- the second one. -/
def avlBadTree (t : Tr) : Bool := decide (1 < IntKind.u64.wrap (max t.left.tag t.right.tag - min t.left.tag t.right.tag))
set_option maxHeartbeats 400000 in
theorem wrong1_any (w : World) (t : Tr) (B : Nat) (ht : InH w t) (hB : Boxed w B 160 (.func (.func 132) #[] #[])) : Calls Tryz.prog 133 #[.pointer t.ptr, .pointer (some ⟨B, 0, none⟩)] w (Ret (.bool (avlBadTag t)) w) := by
  have hc := hB.cell
  go_enter Tryz.func133, Tryz.ntmps133
  go_wp2_with fail
  refine (tags_any _ t ht).mono ?_
  rintro e w1 ⟨rfl, h1⟩
  go_wp2_with fail
  refine (tag_any _ t (ht.ext h1)).mono ?_
  rintro e w2 ⟨rfl, h2⟩
  have h := h1.trans h2
  clear hc
  by_cases h0 : t.tag = 0
  · have e := beq_iff_eq.2 h0
    clear h0
    have hE := Lib.hid e
    go_wp2
    go_ret
    exact ⟨ret_bool (by simp [avlBadTag, hE.out]), h⟩
  · have e := beq_eq_false_iff_ne.2 h0
    have hE := Lib.hid e
    clear h0
    go_wp2_with fail
    refine (tag_any _ t (ht.ext h)).mono ?_
    rintro e w3 ⟨rfl, h3⟩
    go_wp2
    go_ret
    exact ⟨ret_bool (by simp [avlBadTag, hE.out]), h.trans h3⟩
set_option maxHeartbeats 400000 in
theorem wrong2_any (w : World) (t : Tr) (B : Nat) (ht : InH w t) (hB : Boxed w B 160 (.func (.func 132) #[] #[])) : Calls Tryz.prog 134 #[.pointer t.ptr, .pointer (some ⟨B, 0, none⟩)] w (Ret (.bool (avlBadTree t)) w) := by
  have hc := hB.cell
  go_enter Tryz.func134, Tryz.ntmps134
  go_wp2_with fail
  refine (tags_any _ t ht).mono ?_
  rintro e w1 ⟨rfl, h1⟩
  go_wp2
  go_ret
  exact ⟨ret_bool (by simp [avlBadTree]), h1⟩
end Go.Proofs.YtkkdobolloojjaaGreat
namespace Go.Proofs.YtkkdobolloojjaaGreat
open Go Go.RowKit Go.Shelf
attribute [local go_sem] Oper.semAt_some

/-- the first node that is wrong, and how. -/
def avlFirst : List Tr → Nat × Int
  | [] => (0, 0)
  | t :: r => if avlBadTag t then (0, 140) else if avlBadTree t then (0, 8) else ((avlFirst r).1 + 1, (avlFirst r).2)

theorem avlFirst_good : ∀ {l : List Tr}, (∀ t ∈ l, avlBadTag t = false ∧ avlBadTree t = false) → avlFirst l = (l.length, 0)
  | [], _ => rfl
  | t :: l, h => by
    have h0 := h t (List.mem_cons_self ..)
    have h1 := avlFirst_good (l := l) (fun x hx => h x (List.mem_cons_of_mem _ hx))
    simp [avlFirst, h0.1, h0.2, h1]
theorem avlFirst_bad {x : Tr} {r : List Tr} : ∀ {l : List Tr}, (∀ t ∈ l, avlBadTag t = false ∧ avlBadTree t = false) → avlFirst (l ++ x :: r) = (l.length + (avlFirst (x :: r)).1, (avlFirst (x :: r)).2)
  | [], _ => by simp
  | t :: l, h => by
    have h0 := h t (List.mem_cons_self ..)
    have h1 := avlFirst_bad (l := l) (x := x) (r := r) (fun x hx => h x (List.mem_cons_of_mem _ hx))
    rw [List.cons_append, avlFirst, if_neg (by simp [h0.1]), if_neg (by simp [h0.2]), h1]
    simp; omega
theorem wrap64_succ (a : Int) : wrap64 (wrap64 a + 1) = wrap64 (a + 1) := by unfold wrap64; omega
/-- the world ahead of Check's loop. -/
def chkW (w : World) (p : Option Addr) : World :=
  ((((((w.alloc (.cells #[.int .i64 0] 3)).alloc (.cells #[.int .i64 0] 34)).alloc (.cells #[.func (.func 132) #[] #[]] 160)).alloc
      (.cells #[.func (.func 133) #[] #[.pointer (some ⟨w.heap.size + 1 + 1, 0, none⟩)], .int .i64 140, .func (.func 134) #[] #[.pointer (some ⟨w.heap.size + 1 + 1, 0, none⟩)], .int .i64 8] 148)).alloc
      (.cells #[.slice (some ⟨w.heap.size + 1 + 1 + 1, 0, none⟩) 2 2] 145)).alloc (.cells #[.pointer p] 28))
/-- what of it stays through the loop. -/
structure ChkStays (N : Nat) (W : World) : Prop where
  tags : Boxed W (N + 1 + 1) 160 (.func (.func 132) #[] #[])
  looks : W.heap[N + 1 + 1 + 1]? = some (.cells #[.func (.func 133) #[] #[.pointer (some ⟨N + 1 + 1, 0, none⟩)], .int .i64 140, .func (.func 134) #[] #[.pointer (some ⟨N + 1 + 1, 0, none⟩)], .int .i64 8] 148 (0, 0))
  all : Boxed W (N + 1 + 1 + 1 + 1) 145 (.slice (some ⟨N + 1 + 1 + 1, 0, none⟩) 2 2)
theorem ChkStays.keep {N : Nat} {W W' : World} (h : ChkStays N W) (k : Keep (fun i => i = N ∨ i = N + 1) W W') : ChkStays N W' :=
  ⟨k.boxed (by omega) h.tags, k.cells _ _ _ _ (by omega) h.looks, k.boxed (by omega) h.all⟩
theorem chkW_all (w : World) (p : Option Addr) : Ext w (chkW w p) ∧ (chkW w p).heap.size = w.heap.size + 6 ∧ Boxed (chkW w p) w.heap.size 3 (.int .i64 0) ∧ Boxed (chkW w p) (w.heap.size + 1) 34 (.int .i64 0) ∧
    Boxed (chkW w p) (w.heap.size + 1 + 1 + 1 + 1 + 1) 28 (.pointer p) ∧ ChkStays w.heap.size (chkW w p) := by
  refine ⟨((((((Ext.refl w).alloc _).alloc _).alloc _).alloc _).alloc _).alloc _, by simp [chkW], ?_, ?_, ?_, ?_, ?_, ?_⟩ <;> unfold chkW <;> (try unfold Boxed) <;> (repeat (first | exact alloc_at _ _ _ (by simp) | rw [alloc_lt _ _ _ (by simp <;> omega)]))

theorem results_cells2 {fn : Func} {t u : Tmp} {A B : TypeId} (h : fn.results = #[.cell t A, .cell u B]) (tmps : Array Value) (w : World) {a b : Value} {p q : Addr} (ht : tmps.getD t undef = .pointer (some p)) (hu : tmps.getD u undef = .pointer (some q))
    (hA : ∀ w : World, (isAgg A).run Tryz.prog w = .ok false w) (hB : ∀ w : World, (isAgg B).run Tryz.prog w = .ok false w) (hp : w.cell? p = some a) (hq : w.cell? q = some b) :
    (results fn tmps).run Tryz.prog w = .ok (.tuple #[a, b]) w := by
  simp only [Array.getD_eq_getD_getElem?] at ht hu
  simp [results, h, ht, hu, loadVar, hA, hB, asAddr, hp, hq]
set_option maxRecDepth 100000 in
set_option maxHeartbeats 2000000 in
theorem avlCheck_in (n : Nat) (hn : Hid (1 ≤ n)) (T : Tr) (w : World) (hT : InH w T) :
    CallsIn Fence.wide n Tryz.prog 89 #[.pointer T.ptr] w (Ret (.tuple #[.int .i64 (wrap64 (avlFirst T.pre).1), .int .i64 (avlFirst T.pre).2]) w) := by
  have hfn : ∀ f, Fence.wide.fn f := fun _ => trivial
  refine callsIn_of_wp_marks Tryz.func89 rfl trivial ?_ rfl
  simp only [Tryz.ntmps89, List.size_toArray, List.length_cons, List.length_nil, Nat.reduceAdd, Nat.reduceSub, Array.replicate_succ, Array.replicate_zero, List.push_toArray, List.append_toArray, List.nil_append, List.cons_append]
  gi_wp2_with fail
  refine wpIn_scope_wide ?_
  gi_wp2_with fail
  refine ⟨wide_room _, (callsIn_wide.2 (looks_any _)).mono ?_⟩
  rintro e w1 ⟨rfl, rfl⟩
  unfold looksW
  gi_wp2_with fail
  refine wpIn_label ?_
  gi_wp2_with fail
  refine ⟨wide_room _, (callsIn_wide.2 (avlBeads_any _ _)).mono ?_⟩
  rintro e w2 ⟨rfl, rfl⟩
  gi_wp2_with fail
  change Code.wpIn _ _ _ _ _ _ (chkW w T.ptr)
  obtain ⟨hE, hsz, hat, he, htb, hst⟩ := chkW_all w T.ptr
  generalize chkW w T.ptr = W0 at *
  generalize hN : w.heap.size = N at *
  have HN := Lib.hid hN
  clear hN
  refine wpIn_rangeFunc_ownG rfl (n := n) (w := W0) hn.out (gf := 135) (lb := #[.pointer (some ⟨N + 1 + 1 + 1 + 1 + 1, 0, none⟩)]) rfl trivial (enters_of Tryz.func135 (by kernel_rfl) rfl)
    (avlBeads_stops (fun i => i = N ∨ i = N + 1) (InH w) (n - 1) _ T W0 (by omega) htb (hT.ext hE) (InH.off (fun i h => by rw [HN.out]; omega) hT) (fun x hx => inH_pre hT x hx))
    (fun h k => Keep.trans h k) (fun W l o o' _ h ho _ => Keep.putObj W l o o' h ho) (RowKit.Below.refl _ _) (fun _ => rfl)
    (fun pre W => Boxed W N 3 (.int .i64 (wrap64 pre.length)) ∧ Boxed W (N + 1) 34 (.int .i64 0) ∧ (∀ y ∈ pre, avlBadTag y.1 = false ∧ avlBadTree y.1 = false) ∧ Keep (fun i => i = N ∨ i = N + 1) W0 W ∧ Below N W0 W)
    (fun c pre W => c = .exit 0 ∧ ∃ q x, pre = q ++ [x] ∧ (∀ y ∈ q, avlBadTag y.1 = false ∧ avlBadTree y.1 = false) ∧ Boxed W N 3 (.int .i64 (wrap64 q.length)) ∧
      (avlBadTag x.1 = true ∧ Boxed W (N + 1) 34 (.int .i64 140) ∨ avlBadTag x.1 = false ∧ avlBadTree x.1 = true ∧ Boxed W (N + 1) 34 (.int .i64 8)) ∧ Below N W0 W)
    ?own ?ownx ⟨(by simpa [wrap64] using hat), he, by simp, Keep.refl _ _, Below.refl _ _⟩ (fun x => { tmps := #[Value.pointer T.ptr, undef, Value.pointer (some ⟨N, 0, none⟩), Value.pointer (some ⟨N + 1, 0, none⟩), Value.pointer (some ⟨N + 1 + 1 + 1 + 1, 0, none⟩), Value.pointer x.1.ptr, undef, undef, Value.slice (some ⟨N + 1 + 1 + 1, 0, none⟩) 2 2, Value.pointer T.ptr, Value.func (Fn.func 135) #[] #[Value.pointer (some ⟨N + 1 + 1 + 1 + 1 + 1, 0, none⟩)], Value.pointer x.1.ptr, undef, undef, undef, undef, undef, undef, undef, undef, undef, undef, undef, undef, undef, undef, undef, undef, undef], defers := [] }) ?assign ?body ?done ?stop
  case own =>
    rintro s A A' row ⟨h1, h2, h3, h4, h5⟩ hg hr
    exact ⟨boxed_grown h1 hg hr, boxed_grown h2 hg hr, h3, keep_grown h4 hg hr, below_grown (by omega) (by omega) h5 hg hr⟩
  case ownx =>
    rintro c s A A' row ⟨h0, q, x, h1, h2, h3, h4, h5⟩ hg hr
    exact ⟨h0, q, x, h1, h2, boxed_grown h3 hg hr, h4.imp (fun h => ⟨h.1, boxed_grown h.2 hg hr⟩) (fun h => ⟨h.1, h.2.1, boxed_grown h.2.2 hg hr⟩), below_grown (by omega) (by omega) h5 hg hr⟩
  case assign =>
    intro l x W K hK
    gi_wp2
    exact hK
  case body =>
    rintro l pre x W ⟨hat, he, hg, hk, hb⟩ _
    have hst' := hst.keep hk
    have hx := InH.keep hk (InH.off (fun i h => by rw [HN.out]; omega) x.2) (x.2.ext hE)
    have hle : N + 6 ≤ W.heap.size := by have := hk.size; omega
    have hal := hst'.all.cell
    have hl0 := cell_of hst'.looks 0
    have hl1 := cell_of hst'.looks 1
    have hl2 := cell_of hst'.looks 2
    have hl3 := cell_of hst'.looks 3
    simp at hl0 hl1 hl2 hl3
    have hg' := Lib.hid hg
    have hat' := hat
    have he' := he
    clear hg hsz hat he
    gi_wp2_with fail
    refine wpIn_loop_rounds 3 ?_
    rw [roundsIn_succ]
    gi_wp2_with fail
    have hB1 := hat'
    by_cases e1 : avlBadTag x.1 = true
    · refine ⟨wide_room _, (CallsIn.inRound l (callsIn_wide.2 (wrong1_any _ x.1 _ (hx.ext ((Ext.refl W).alloc _)) (hst'.tags.alloc _)))).mono ?_⟩
      rintro e W1 ⟨rfl, h1⟩
      have h01 : Ext W W1 := ((Ext.refl W).alloc _).trans h1
      have hcn := cell_keep h1 (cell_of (alloc_at W (.cells #[.func (.func 133) #[] #[.pointer (some ⟨N + 1 + 1, 0, none⟩)], .int .i64 140] 148) _ rfl) 1)
      have he1 := (Keep.ext (M := fun _ => False) h01).boxed (fun h => h) he'
      have hce := he1.cell
      have hfe := he1.frozen
      clear hl0 hl1 hl2 hl3 hal
      gi_wp2
      have hBe : Below N W0 W1 := hb.trans (RowKit.Below.mono h01 (by omega))
      exact ⟨(keepsFrom_ext h01).trans (keepsFrom_set _ _ _), rfl, pre, x, rfl, hg'.out, ((Keep.ext (M := fun _ => False) h01).boxed (fun h => h) hat').other (by omega) _, .inl ⟨e1, he1.set _⟩, hBe.setCell (p := ⟨N + 1, 0, none⟩) (Nat.le_succ N) _⟩
    · have e1' : avlBadTag x.1 = false := by simpa using e1
      clear e1
      refine ⟨wide_room _, (CallsIn.inRound l (callsIn_wide.2 (wrong1_any _ x.1 _ (hx.ext ((Ext.refl W).alloc _)) (hst'.tags.alloc _)))).mono ?_⟩
      rintro e W1 ⟨rfl, h1⟩
      have h01 : Ext W W1 := ((Ext.refl W).alloc _).trans h1
      clear hl0 hl1 hl2 hl3 hal h1
      have hst1 := hst'.keep (Keep.ext h01)
      have hl2 := cell_of hst1.looks 2
      have hl3 := cell_of hst1.looks 3
      simp at hl2 hl3
      have hlt1 : N + 6 ≤ W1.heap.size := Nat.le_trans hle h01.size
      gi_wp2_with fail
      rw [roundsIn_succ]
      gi_wp2_with fail
      refine ⟨wide_room _, (CallsIn.inRound l (callsIn_wide.2 (wrong2_any _ x.1 _ ((hx.ext h01).ext ((Ext.refl W1).alloc _)) (hst1.tags.alloc _)))).mono ?_⟩
      rintro e W2 ⟨rfl, h2⟩
      have h12 : Ext W1 W2 := ((Ext.refl W1).alloc _).trans h2
      have h02 := h01.trans h12
      have hcn := cell_keep h2 (cell_of (alloc_at W1 (.cells #[.func (.func 134) #[] #[.pointer (some ⟨N + 1 + 1, 0, none⟩)], .int .i64 8] 148) _ rfl) 1)
      have he2 := (Keep.ext (M := fun _ => False) h02).boxed (fun h => h) he'
      have hat2 := (Keep.ext (M := fun _ => False) h02).boxed (fun h => h) hat'
      have hBe : Below N W0 W2 := hb.trans (RowKit.Below.mono h02 (by omega))
      clear hl2 hl3 hst1 h2
      by_cases e2 : avlBadTree x.1 = true
      · have hce := he2.cell
        have hfe := he2.frozen
        gi_wp2
        exact ⟨(keepsFrom_ext h02).trans (keepsFrom_set _ _ _), rfl, pre, x, rfl, hg'.out, hat2.other (by omega) _, .inr ⟨e1', e2, he2.set _⟩, hBe.setCell (p := ⟨N + 1, 0, none⟩) (Nat.le_succ N) _⟩
      · have e2' : avlBadTree x.1 = false := by simpa using e2
        clear e2
        have hce := hat2.cell
        have hfe := hat2.frozen
        gi_wp2_with fail
        rw [roundsIn_succ]
        gi_wp2
        have hBf := hBe.setCell (p := ⟨N, 0, none⟩) (Nat.le_refl N) (.int .i64 (wrap64 (wrap64 pre.length + 1)))
        have hbx := hat2.set (.int .i64 (wrap64 (wrap64 pre.length + 1)))
        rw [wrap64_succ] at hbx hBf ⊢
        refine ⟨(keepsFrom_ext h02).trans (keepsFrom_set _ _ _), (Keep.ext h02).trans (Keep.setCell _ _ _ (.inl rfl)), ?_, he2.other (by omega) _, ?_, (hk.trans (Keep.ext h02)).trans (Keep.setCell _ _ _ (.inl rfl)), hBf⟩
        · rw [List.length_append]; exact hbx
        · intro y hy
          rcases List.mem_append.1 hy with hy | hy
          · exact hg'.out y hy
          · obtain rfl : y = x := by simpa using hy
            exact ⟨e1', e2'⟩
  case done =>
    rintro D ys W hD hys ⟨hat, he, hg, hk, hb⟩ hK
    clear hst htb
    have hca := hat.cell
    have hfa := hat.frozen
    have hce := he.cell
    have hfe := he.frozen
    gi_wp2_with fail
    gi_region
    gi_wp2
    obtain ⟨f1, f2, f3, f4⟩ := two_end HN.out hE hb hD hK hat he (by omega)
    have e1 : avlFirst T.pre = (ys.length, 0) := by
      rw [← hys, avlFirst_good (fun t ht => by obtain ⟨y, hy, rfl⟩ := List.mem_map.1 ht; exact hg y hy), List.length_map]
    rw [e1]
    refine ⟨by simp, .inl ⟨_, _, rfl, run_takeDeferred f1, ?_⟩⟩
    exact ⟨_, results_cells2 rfl _ _ rfl rfl (fun _ => by kernel_rfl) (fun _ => by kernel_rfl) f2 f3, rfl, f4⟩
  case stop =>
    rintro D c q W hD hq ⟨rfl, q', x, hqx, hg, hat, he, hb⟩ hK
    clear hst htb
    obtain ⟨r, hr⟩ := hq
    have e1 : ∀ er, avlFirst (x.1 :: r) = (0, er) → avlFirst T.pre = (q'.length, er) := fun er h => by
      rw [← hr, hqx, List.map_append, List.append_assoc]
      show avlFirst (q'.map (·.1) ++ x.1 :: r) = _
      rw [avlFirst_bad (fun t ht => by obtain ⟨y, hy, rfl⟩ := List.mem_map.1 ht; exact hg y hy), h, List.length_map]
      simp
    have E1 := Lib.hid e1
    clear e1 hr hg hqx
    rcases he with ⟨b1, he⟩ | ⟨b1, b2, he⟩
    · have e2 := E1.out 140 (by simp [avlFirst, b1])
      have H2 := Lib.hid e2
      clear b1 e2
      have hca := hat.cell
      have hfa := hat.frozen
      have hce := he.cell
      have hfe := he.frozen
      gi_wp2_with fail
      gi_region
      gi_wp2
      obtain ⟨f1, f2, f3, f4⟩ := two_end HN.out hE hb hD hK hat he (by omega)
      rw [H2.out]
      refine ⟨by simp, .inl ⟨_, _, rfl, run_takeDeferred f1, ?_⟩⟩
      exact ⟨_, results_cells2 rfl _ _ rfl rfl (fun _ => by kernel_rfl) (fun _ => by kernel_rfl) f2 f3, rfl, f4⟩
    · have e2 := E1.out 8 (by simp [avlFirst, b1, b2])
      have H2 := Lib.hid e2
      clear b1 b2 e2
      have hca := hat.cell
      have hfa := hat.frozen
      have hce := he.cell
      have hfe := he.frozen
      gi_wp2_with fail
      gi_region
      gi_wp2
      obtain ⟨f1, f2, f3, f4⟩ := two_end HN.out hE hb hD hK hat he (by omega)
      rw [H2.out]
      refine ⟨by simp, .inl ⟨_, _, rfl, run_takeDeferred f1, ?_⟩⟩
      exact ⟨_, results_cells2 rfl _ _ rfl rfl (fun _ => by kernel_rfl) (fun _ => by kernel_rfl) f2 f3, rfl, f4⟩
/-- **avl.Check**, at any tree: the first of its nodes, each ahead of its sides, that is wrong, and how. -/
theorem avlCheck_any (w : World) (T : Tr) (hT : InH w T) : Calls Tryz.prog 89 #[.pointer T.ptr] w (Ret (.tuple #[.int .i64 (wrap64 (avlFirst T.pre).1), .int .i64 (avlFirst T.pre).2]) w) :=
  callsIn_wide.1 (avlCheck_in 9 (Lib.hid (by omega)) T w hT)
/-- may it be? -/
def avlMay (T : Tr) : Bool := (avlFirst T.pre).2 == 0
set_option maxHeartbeats 400000 in
theorem avlMay_any (w : World) (T : Tr) (hT : InH w T) : Calls Tryz.prog 90 #[.pointer T.ptr] w (Ret (.bool (avlMay T)) w) := by
  go_enter Tryz.func90, Tryz.ntmps90
  go_wp2_with fail
  refine (avlCheck_any _ T hT).mono ?_
  rintro e w1 ⟨rfl, h1⟩
  go_wp2
  go_ret
  exact ⟨rfl, h1⟩
end Go.Proofs.YtkkdobolloojjaaGreat
namespace Go.Proofs.YtkkdobolloojjaaGreat
open Go Go.RowKit

theorem avlFirst_cons (t : Tr) (r : List Tr) : avlFirst (t :: r) = if avlBadTag t then (0, 140) else if avlBadTree t then (0, 8) else ((avlFirst r).1 + 1, (avlFirst r).2) := rfl
theorem avlFirst_none : ∀ {l : List Tr}, (avlFirst l).2 = 0 → (avlFirst l).1 = l.length ∧ ∀ t ∈ l, avlBadTag t = false ∧ avlBadTree t = false
  | [], _ => by simp [avlFirst]
  | t :: l, h => by
    unfold avlFirst at h ⊢
    split at h
    · simp at h
    · split at h
      · simp at h
      · rename_i h1 h2
        have := avlFirst_none (l := l) h
        refine ⟨by simp [h1, h2, this.1], ?_⟩
        intro x hx
        rcases List.mem_cons.1 hx with rfl | hx
        · exact ⟨by simpa using h1, by simpa using h2⟩
        · exact this.2 x hx
theorem avlFirst_append (a b : List Tr) : avlFirst (a ++ b) = if (avlFirst a).2 = 0 then (a.length + (avlFirst b).1, (avlFirst b).2) else avlFirst a := by
  induction a with
  | nil => simp [avlFirst]
  | cons t a ih =>
    rw [List.cons_append, avlFirst_cons, avlFirst_cons]
    by_cases h1 : avlBadTag t = true
    · simp [h1]
    · by_cases h2 : avlBadTree t = true
      · simp [h1, h2]
      · simp only [h1, h2, ih]
        by_cases h3 : (avlFirst a).2 = 0
        · simp [h3]; omega
        · simp [h3]

/-- a tree that may be is one whose root is right, and both sides may be. -/
theorem avlMay_node (b : Nat) (l : Tr) (k v g : Int) (r : Tr) : avlMay (.node b l k v g r) = (!avlBadTag (.node b l k v g r) && !avlBadTree (.node b l k v g r) && avlMay l && avlMay r) := by
  unfold avlMay
  simp only [Tr.pre]
  rw [avlFirst_cons]
  by_cases h1 : avlBadTag (.node b l k v g r) = true
  · simp [h1]
  · by_cases h2 : avlBadTree (.node b l k v g r) = true
    · simp [h1, h2]
    · simp only [h1, h2, avlFirst_append]
      by_cases h3 : (avlFirst l.pre).2 = 0 <;> simp [h3]
theorem avlMay_nil : avlMay .nil = true := rfl

/-- a tree's number of nodes. -/
def Tr.count (t : Tr) : Nat := t.pre.length
theorem Tr.count_node (b : Nat) (l : Tr) (k v g : Int) (r : Tr) : (Tr.node b l k v g r).count = l.count + 1 + r.count := by simp [Tr.count, Tr.pre]; omega
theorem Tr.size_count : ∀ t : Tr, t.size = wrap64 t.count
  | .nil => by simp [Tr.size, Tr.count, Tr.pre, wrap64]
  | .node b l k v g r => by
    rw [Tr.size, Tr.size_count l, Tr.size_count r, Tr.count_node]
    have e : ((l.count + 1 + r.count : Nat) : Int) = (l.count : Int) + 1 + (r.count : Int) := by omega
    rw [e]
    unfold wrap64
    omega

/-- the least tree of a height, wherever its nodes lie. -/
def IsLeast : Nat → Tr → Prop
  | 0, t => t = .nil
  | 1, t => ∃ b, t = .node b .nil 1 1 (avlTag .nil .nil) .nil
  | k + 2, t => ∃ b l r, t = .node b l (k + 2) 1 (avlTag l r) r ∧ IsLeast k l ∧ IsLeast (k + 1) r
def leastN : Nat → Nat
  | 0 => 0
  | 1 => 1
  | k + 2 => leastN k + leastN (k + 1) + 1
theorem u64_small {a : Int} (h0 : 0 ≤ a) (h1 : a < 18446744073709551616) : IntKind.u64.wrap a = a := by
  have : (2 : Int) ^ 64 = 18446744073709551616 := by decide
  simp only [IntKind.wrap, IntKind.bits, IntKind.signed, this]
  simp
  omega
theorem isLeast_all : ∀ (k : Nat) (t : Tr), k < 1000000 → IsLeast k t → t.tag = k ∧ avlMay t = true ∧ t.count = leastN k
  | 0, t, _, h => by obtain rfl : t = .nil := h; exact ⟨rfl, rfl, rfl⟩
  | 1, t, _, h => by
    obtain ⟨b, rfl⟩ := h
    have e : avlTag .nil .nil = 1 := by decide
    rw [e]
    exact ⟨rfl, by rw [avlMay_node, show avlBadTag (.node b .nil 1 1 1 .nil) = false from rfl, show avlBadTree (.node b .nil 1 1 1 .nil) = false from rfl]; rfl, rfl⟩
  | k + 2, t, hk, h => by
    obtain ⟨b, l, r, rfl, hl, hr⟩ := h
    obtain ⟨l1, l2, l3⟩ := isLeast_all k l (by omega) hl
    obtain ⟨r1, r2, r3⟩ := isLeast_all (k + 1) r (by omega) hr
    have e : avlTag l r = k + 2 := by
      unfold avlTag
      rw [l1, r1, Int.max_eq_right (by omega), u64_small (by omega) (by omega)]
      omega
    refine ⟨e, ?_, by rw [Tr.count_node, l3, r3, leastN]; omega⟩
    rw [avlMay_node, l2, r2, e]
    have hm : max l.tag r.tag = k + 1 := by rw [l1, r1, Int.max_eq_right (by omega)]; rfl
    have hn : min l.tag r.tag = k := by rw [l1, r1, Int.min_eq_left (by omega)]
    have e1 : avlBadTag (.node b l (k + 2) 1 (k + 2) r) = false := by
      simp only [avlBadTag, Tr.tag_node, Tr.left_node, Tr.right_node, hm]
      rw [u64_small (by omega) (by omega)]
      simp; omega
    have e2 : avlBadTree (.node b l (k + 2) 1 (k + 2) r) = false := by
      simp only [avlBadTree, Tr.left_node, Tr.right_node, hm, hn]
      rw [u64_small (by omega) (by omega)]
      simp; omega
    rw [e1, e2]
    rfl
end Go.Proofs.YtkkdobolloojjaaGreat
namespace Go.Proofs.YtkkdobolloojjaaGreat
open Go Go.RowKit

/-- some tree with a property, made in new memory. -/
def Makes (S : Tr → Prop) (w : World) (e : Ending) (w' : World) : Prop := ∃ t, e = .returned (.pointer t.ptr) ∧ InH w' t ∧ S t ∧ Ext w w'
theorem leastN_lt : ∀ k : Nat, leastN k < 2 ^ k
  | 0 => by decide
  | 1 => by decide
  | k + 2 => by
    have h1 := leastN_lt k
    have h2 := leastN_lt (k + 1)
    rw [leastN]
    have e1 : 2 ^ (k + 1) = 2 * 2 ^ k := by rw [Nat.pow_succ]; omega
    have e2 : 2 ^ (k + 2) = 4 * 2 ^ k := by rw [Nat.pow_succ, e1]; omega
    omega
theorem leastN_wrap (k : Nat) (h : k ≤ 60) : wrap64 (wrap64 ((leastN k : Int) + (leastN (k + 1) : Int)) + 1) = (leastN (k + 1 + 1) : Int) := by
  have h1 := leastN_lt k
  have h2 := leastN_lt (k + 1)
  have h3 : 2 ^ k ≤ 2 ^ 60 := Nat.pow_le_pow_right (by decide) h
  have h4 : 2 ^ (k + 1) ≤ 2 ^ 61 := Nat.pow_le_pow_right (by decide) (by omega)
  rw [show leastN (k + 1 + 1) = leastN k + leastN (k + 1) + 1 from rfl]
  unfold wrap64
  omega
theorem hmod15 {a0 : Int} (w0 : (Lit.int .u8 a0).wf = true) : ∃ k : Nat, k < 15 ∧ wrap64 (a0.tmod 15) = k := by
  have h : 0 ≤ a0 := by
    simp [Lit.wf, IntKind.min, IntKind.max, IntKind.signed, IntKind.bits] at w0
    omega
  refine ⟨(a0.tmod 15).toNat, ?_, ?_⟩
  · rw [Int.tmod_eq_emod_of_nonneg h]; omega
  · rw [Int.tmod_eq_emod_of_nonneg h]; unfold wrap64; omega
end Go.Proofs.YtkkdobolloojjaaGreat
namespace Go.Proofs.YtkkdobolloojjaaGreat
open Go Go.RowKit

/-- a tree in memory is the tree of some beads. -/
def BT.fits : BT → Tr → Prop
  | .nil, .nil => True
  | .node k v _ _ g l r, .node _ L k' v' g' R => k = k' ∧ v = v' ∧ g = g' ∧ l.fits L ∧ r.fits R
  | _, _ => False
set_option maxHeartbeats 1000000 in
theorem beadsMake_any (t : BT) : ∀ (w : World) (p : Value), Beads w p t.enc → t.enc.length ≤ 400 →
    Calls Tryz.prog 17 #[p] w (Makes t.fits w) := by
  have hfn : ∀ f, Fence.wide.fn f := fun _ => trivial
  induction t with
  | nil =>
    intro w p hb hl
    obtain ⟨a, c, rfl⟩ := beads_slice hb
    rw [show BT.nil.enc.length = 0 from rfl]
    clear hb hl
    go_enter Tryz.func17, Tryz.ntmps17
    go_wp2
    go_ret
    exact ⟨.nil, rfl, trivial, trivial, Ext.refl _⟩
  | node k v s n g l r ihl ihr =>
    intro w p hb hl
    have hp := parts_any w p k v s n g l r hb (by omega)
    have hlen : (BT.node k v s n g l r).enc.length = 1 + l.enc.length + r.enc.length := by simp [BT.enc]; omega
    have IHl := Lib.hid ihl
    have IHr := Lib.hid ihr
    have hll : l.enc.length ≤ 400 := by omega
    have hlr : r.enc.length ≤ 400 := by omega
    have HLL := Lib.hid hll
    have HLR := Lib.hid hlr
    have h1 : 1 ≤ (BT.node k v s n g l r).enc.length := by omega
    obtain ⟨a, c, rfl⟩ := beads_slice hb
    have HP := Lib.hid hp
    clear hb hp hlen ihl ihr hll hlr
    generalize (BT.node k v s n g l r).enc.length = LL at *
    go_enter Tryz.func17, Tryz.ntmps17
    obtain ⟨m⟩ : Nonempty Nat := ⟨0⟩
    refine (wpIn_wide (n := m)).1 ?_
    gi_wp2_with fail
    refine ⟨wide_room _, (callsIn_wide.2 (HP.out)).mono ?_⟩
    rintro e w1 ⟨v1, v2, rfl, hv1, hv2, hE⟩
    gi_wp2_with fail
    have hnew := alloc_at w1 (.cells #[.int .i64 k, .int .i64 v, .int .i64 s, .int .i64 n, .int .u64 g, .bool (!l.isNil), .bool (!r.isNil)] 96) _ rfl
    have hE2 := (Ext.refl w1).alloc (.cells #[.int .i64 k, .int .i64 v, .int .i64 s, .int .i64 n, .int .u64 g, .bool (!l.isNil), .bool (!r.isNil)] 96)
    generalize (w1.alloc (.cells #[.int .i64 k, .int .i64 v, .int .i64 s, .int .i64 n, .int .u64 g, .bool (!l.isNil), .bool (!r.isNil)] 96)) = w2 at *
    have hE02 := hE.trans hE2
    have HV1 := Lib.hid (hv1.ext hE2)
    have HV2 := Lib.hid (hv2.ext hE2)
    clear hv1 hv2 hE hE2
    have hc0 := cell_all (cell_of hnew 0)
    have hc1 := cell_all (cell_of hnew 1)
    have hc4 := cell_all (cell_of hnew 4)
    have hx := Ext.drew w2
    clear hnew
    refine wpIn_region_G (fun j => !(List.contains (α := Nat) [10] j)) (by kernel_rfl) ?_
    refine batchG hfn (fuel := 4) [0, 2, 3, 4, 5, 6, 7, 8] (by kernel_rfl) rfl ?_
    repeat (go_big_quiet_step ((fail)))
    refine wpQuiet_nil ?_
    refine wpAnyG_one (j := 1) (by kernel_rfl) rfl ?_
    gi_wp2_with fail
    refine ⟨wide_room _, (callsIn_wide.2 (IHl.out _ _ (HV1.out.ext hx) HLL.out)).mono ?_⟩
    rintro e w3 ⟨L, rfl, hL, hLs, h3⟩
    gi_wp2_with fail
    refine onePost_ext (h3) ?_
    refine wpAnyG_one (j := 9) (by kernel_rfl) rfl ?_
    gi_wp2_with fail
    have h23 := hx.trans h3
    refine ⟨wide_room _, (callsIn_wide.2 (IHr.out _ _ (HV2.out.ext h23) HLR.out)).mono ?_⟩
    rintro e w4 ⟨R, rfl, hR, hRs, h4⟩
    gi_wp2_with fail
    refine onePost_ext (h4) ?_
    refine wpAnyG_one (j := 10) (by kernel_rfl) rfl ?_
    gi_wp2_with fail
    refine ⟨wide_room _, (callsIn_wide.2 (new_any w4 L R k v g (hL.ext h4) hR)).mono ?_⟩
    rintro e w5 ⟨B, rfl, hB, hT, h5⟩
    gi_wp2_with fail
    refine onePost_any (by kernel_rfl) ?_
    refine batchG hfn (fuel := 0) [11] (by kernel_rfl) rfl ?_
    repeat (go_big_quiet_step ((fail)))
    refine wpQuiet_nil ?_
    refine wpAnyG_done (by kernel_rfl) ?_
    refine calmQ_normal ?_
    gi_wp2
    go_ret
    exact ⟨_, rfl, hT, ⟨rfl, rfl, rfl, hLs, hRs⟩, ((hE02.trans h23).trans h4).trans h5⟩
def BT.tag : BT → Int
  | .nil => 0
  | .node _ _ _ _ g _ _ => g
theorem BT.fits_tag : ∀ {t : BT} {T : Tr}, t.fits T → t.tag = T.tag
  | .nil, .nil, _ => rfl
  | .nil, .node .., h => h.elim
  | .node .., .nil, h => h.elim
  | .node .., .node .., h => h.2.2.1
theorem BT.fits_left {k v s n g : Int} {l r : BT} : ∀ {T : Tr}, (BT.node k v s n g l r).fits T → l.fits T.left ∧ r.fits T.right ∧ g = T.tag ∧ k = T.key ∧ v = T.val ∧ T.pre = T :: (T.left.pre ++ T.right.pre)
  | .nil, h => h.elim
  | .node .., h => ⟨h.2.2.2.1, h.2.2.2.2, h.2.2.1, h.1, h.2.1, rfl⟩
theorem BT.fits_len : ∀ {t : BT} {T : Tr}, t.fits T → T.pre.length = t.enc.length
  | .nil, .nil, _ => rfl
  | .nil, .node .., h => h.elim
  | .node .., .nil, h => h.elim
  | .node k v s n g l r, .node b L k' v' g' R, h => by
    have h1 := BT.fits_len h.2.2.2.1
    have h2 := BT.fits_len h.2.2.2.2
    simp [Tr.pre, BT.enc, h1, h2]

end Go.Proofs.YtkkdobolloojjaaGreat
namespace Go.Proofs.YtkkdobolloojjaaGreat
open Go Go.RowKit

set_option maxHeartbeats 1000000 in
theorem same_any (w : World) (p q : Value) (zs : List BeadL) (hp : Beads w p zs) (hq : Beads w q zs) (hl : zs.length ≤ 2000) : Calls Tryz.prog 47 #[p, q] w (Ret (.bool true) w) := by
  rcases hp with ⟨h0, a, c, rfl⟩ | ⟨b, o, c, rfl, hne, hc, hr⟩
  · subst h0
    obtain ⟨a2, c2, rfl⟩ := beads_slice hq
    rw [show ([] : List BeadL).length = 0 from rfl]
    clear hq hl
    go_enter Tryz.func47, Tryz.ntmps47
    go_wp2
    go_loop [5] (fun i => i = .int .i64 0) (fun _ => 0)
    case atStart => rfl
    case round =>
      subst hrel
      go_wp2
      go_ret
      exact Ret.mk (Ext.refl _)
  · rcases hq with ⟨h0, _⟩ | ⟨b2, o2, c2, rfl, _, hc2, hr2⟩
    · exact (hne h0).elim
    · have H := Lib.hid hr
      have H2 := Lib.hid hr2
      clear hr hr2 hne
      go_enter Tryz.func47, Tryz.ntmps47
      go_wp2
      go_loopw [5] (fun i W => Ext w W ∧ ∃ k : Nat, k ≤ zs.length ∧ i = .int .i64 k) (fun i _ => zs.length - (intOf i).toNat)
      case atStart => exact ⟨Ext.refl _, 0, Nat.zero_le _, rfl⟩
      case round =>
        obtain ⟨hX, k, hk, rfl⟩ := hrel
        by_cases hlt : k < zs.length
        · obtain ⟨z, hz⟩ : ∃ z, zs[k]? = some z := ⟨_, List.getElem?_eq_getElem hlt⟩
          obtain ⟨z0, z1, z2, z3, z4, z5, z6⟩ := z
          have c0 : wr.cell? ⟨b, o + k * 7, none⟩ = some (.int .i64 z0) := rangeAt_cell (rangeAt_ext H.out hX) hz (j := 0) rfl
          have c1 : wr.cell? ⟨b, o + k * 7 + 1, none⟩ = some (.int .i64 z1) := rangeAt_cell (rangeAt_ext H.out hX) hz (j := 1) rfl
          have c2 : wr.cell? ⟨b, o + k * 7 + 2, none⟩ = some (.int .i64 z2) := rangeAt_cell (rangeAt_ext H.out hX) hz (j := 2) rfl
          have c3 : wr.cell? ⟨b, o + k * 7 + 3, none⟩ = some (.int .i64 z3) := rangeAt_cell (rangeAt_ext H.out hX) hz (j := 3) rfl
          have c4 : wr.cell? ⟨b, o + k * 7 + 4, none⟩ = some (.int .u64 z4) := rangeAt_cell (rangeAt_ext H.out hX) hz (j := 4) rfl
          have c5 : wr.cell? ⟨b, o + k * 7 + 5, none⟩ = some (.bool z5) := rangeAt_cell (rangeAt_ext H.out hX) hz (j := 5) rfl
          have c6 : wr.cell? ⟨b, o + k * 7 + 6, none⟩ = some (.bool z6) := rangeAt_cell (rangeAt_ext H.out hX) hz (j := 6) rfl
          have d0 : wr.cell? ⟨b2, o2 + k * 7, none⟩ = some (.int .i64 z0) := rangeAt_cell (rangeAt_ext H2.out hX) hz (j := 0) rfl
          have d1 : wr.cell? ⟨b2, o2 + k * 7 + 1, none⟩ = some (.int .i64 z1) := rangeAt_cell (rangeAt_ext H2.out hX) hz (j := 1) rfl
          have d2 : wr.cell? ⟨b2, o2 + k * 7 + 2, none⟩ = some (.int .i64 z2) := rangeAt_cell (rangeAt_ext H2.out hX) hz (j := 2) rfl
          have d3 : wr.cell? ⟨b2, o2 + k * 7 + 3, none⟩ = some (.int .i64 z3) := rangeAt_cell (rangeAt_ext H2.out hX) hz (j := 3) rfl
          have d4 : wr.cell? ⟨b2, o2 + k * 7 + 4, none⟩ = some (.int .u64 z4) := rangeAt_cell (rangeAt_ext H2.out hX) hz (j := 4) rfl
          have d5 : wr.cell? ⟨b2, o2 + k * 7 + 5, none⟩ = some (.bool z5) := rangeAt_cell (rangeAt_ext H2.out hX) hz (j := 5) rfl
          have d6 : wr.cell? ⟨b2, o2 + k * 7 + 6, none⟩ = some (.bool z6) := rangeAt_cell (rangeAt_ext H2.out hX) hz (j := 6) rfl
          clear hz
          go_wp2_with fail
          go_region
          go_wp2
          go_roundw
          case rel => exact ⟨by first | exact hX | exact hX.trans (Ext.drew _), k + 1, by omega, by go_num⟩
          case measure => simp [intOf]; omega
        · go_wp2
          go_ret
          exact Ret.mk hX
/-- a node's bead, as its tree tells it. -/
def Tr.bead (t : Tr) : BeadL := ⟨t.key, t.val, t.sum, t.size, t.tag, t.left.ptr.isSome, t.right.ptr.isSome⟩
def Tr.beads (t : Tr) : List BeadL := t.pre.map Tr.bead
def Tr.high : Tr → Nat
  | .nil => 0
  | .node _ l _ _ _ r => 1 + max l.high r.high
theorem Tr.high_le : ∀ t : Tr, t.high ≤ t.pre.length
  | .nil => by simp [Tr.high]
  | .node b l k v g r => by
    have h1 := Tr.high_le l
    have h2 := Tr.high_le r
    simp [Tr.high, Tr.pre]
    omega
/-- what see hands back. -/
def Sees (zs : List BeadL) (w0 : World) (e : Ending) (w' : World) : Prop := ∃ v, e = .returned (.tuple #[v, .bool true]) ∧ Own w0.heap.size w' v zs ∧ Ext w0 w'
set_option maxHeartbeats 1000000 in
theorem see_any (w0 : World) (T : Tr) : InH w0 T → ∀ (w : World) (v : Value) (zs : List BeadL) (deep : Nat), Ext w0 w → Own w0.heap.size w v zs → zs.length + T.pre.length ≤ 5000 → deep + T.high ≤ 2000 →
    Calls Tryz.prog 45 #[.pointer T.ptr, v, .int .i64 deep] w (Sees (zs ++ T.beads) w0) := by
  induction T with
  | nil =>
    intro _ w v zs deep hE hv _ _
    have H := Lib.hid (And.intro hE hv)
    clear hE hv
    rw [Tr.ptr_nil, show Tr.nil.beads = [] from rfl, List.append_nil]
    go_enter Tryz.func45, Tryz.ntmps45
    go_wp2
    go_ret2
    exact ⟨_, rfl, H.out.2, H.out.1⟩
  | node b l k vv g r ihl ihr =>
    intro hT w v zs deep hE hv hlen hdeep
    obtain ⟨a, c, hvs⟩ := beads_slice hv.beads
    subst hvs
    have hT' := Lib.hid hT
    have hl1 : l.high + 1 ≤ (Tr.node b l k vv g r).high := by simp [Tr.high]; omega
    have hr1 : r.high + 1 ≤ (Tr.node b l k vv g r).high := by simp [Tr.high]; omega
    have hpl : (Tr.node b l k vv g r).pre.length = 1 + l.pre.length + r.pre.length := by simp [Tr.pre]; omega
    have IHl := Lib.hid (ihl hT.2.1)
    have IHr := Lib.hid (ihr hT.2.2)
    have HV := Lib.hid hv
    have hd1 : deep + 1 + l.high ≤ 2000 := by omega
    have hd2 : deep + 1 + r.high ≤ 2000 := by omega
    have hz : zs.length ≤ 5000 := by omega
    have hz2 : deep ≤ 2000 := by omega
    have HLEN := Lib.hid (show zs.length + (1 + l.pre.length + r.pre.length) ≤ 5000 by omega)
    have HD1 := Lib.hid hd1
    have HD2 := Lib.hid hd2
    have HBS := Lib.hid (show (Tr.node b l k vv g r).beads = (Tr.node b l k vv g r).bead :: (l.beads ++ r.beads) by simp [Tr.beads, Tr.pre])
    have hkey := fun w h => key_any w (Tr.node b l k vv g r) (hT'.out.ext h)
    have hval := fun w h => val_any w (Tr.node b l k vv g r) (hT'.out.ext h)
    have htag := fun w h => tag_any w (Tr.node b l k vv g r) (hT'.out.ext h)
    have hsiz := fun w h => size_any w (Tr.node b l k vv g r) (hT'.out.ext h)
    have hsum := fun w h => sum_any w (Tr.node b l k vv g r) (hT'.out.ext h)
    have hlef := fun w h => left_any w (Tr.node b l k vv g r) (hT'.out.ext h)
    have hrig := fun w h => right_any w (Tr.node b l k vv g r) (hT'.out.ext h)
    have hbead : (Tr.node b l k vv g r).bead = ⟨k, vv, (Tr.node b l k vv g r).sum, (Tr.node b l k vv g r).size, g, l.ptr.isSome, r.ptr.isSome⟩ := rfl
    simp only [Tr.ptr_node, Tr.key_node, Tr.val_node, Tr.tag_node, Tr.left_node, Tr.right_node] at hkey hval htag hsiz hsum hlef hrig
    rw [Tr.ptr_node]
    generalize (Tr.node b l k vv g r).beads = BS at *
    generalize (Tr.node b l k vv g r).sum = SM at *
    generalize (Tr.node b l k vv g r).size = SZ at *
    have HK := Lib.hid hkey
    have HVA := Lib.hid hval
    have HT := Lib.hid htag
    have HSZ := Lib.hid hsiz
    have HSM := Lib.hid hsum
    have HLF := Lib.hid hlef
    have HRG := Lib.hid hrig
    have HBD := Lib.hid hbead
    clear hT hl1 hr1 hpl ihl ihr hd1 hd2 hlen hdeep hkey hval htag hsiz hsum hlef hrig hbead hv
    generalize hZL : zs.length = ZL at *
    have HZL := Lib.hid hZL
    clear hZL
    go_enter Tryz.func45, Tryz.ntmps45
    go_wp2_with fail
    refine (HK.out w hE).mono ?_
    rintro e w1 ⟨rfl, h1⟩
    go_wp2_with fail
    refine (HVA.out w1 (hE.trans h1)).mono ?_
    rintro e w2 ⟨rfl, h2⟩
    have h02 := h1.trans h2
    go_wp2_with fail
    refine (HT.out w2 (hE.trans h02)).mono ?_
    rintro e w3 ⟨rfl, h3⟩
    have h03 := h02.trans h3
    clear h1 h2 h02 h3
    go_wp2_with fail
    refine (HSZ.out w3 (hE.trans h03)).mono ?_
    rintro e w4 ⟨rfl, h4⟩
    have h04 := h03.trans h4
    clear h03 h4
    go_wp2_with fail
    refine (HSM.out w4 (hE.trans h04)).mono ?_
    rintro e w5 ⟨rfl, h5⟩
    have h05 := h04.trans h5
    clear h04 h5
    go_wp2_with fail
    refine (HLF.out w5 (hE.trans h05)).mono ?_
    rintro e w6 ⟨rfl, h6⟩
    have h06 := h05.trans h6
    clear h05 h6
    go_wp2_with fail
    refine (HRG.out w6 (hE.trans h06)).mono ?_
    rintro e w7 ⟨rfl, h7⟩
    have h07 := h06.trans h7
    clear h06 h7
    have hA := (Ext.refl w7).alloc (.cells #[.int .i64 k, .int .i64 vv, .int .i64 SM, .int .i64 SZ, .int .u64 g, .bool l.ptr.isSome, .bool r.ptr.isSome] 96)
    have hW7 : Ext w0 w7 := hE.trans h07
    have HZ := Lib.hid (own_new (B := w0.heap.size) (w := w7) ⟨k, vv, SM, SZ, g, l.ptr.isSome, r.ptr.isSome⟩ hW7.size).beads
    have HO := Lib.hid ((HV.out.ext h07).ext hA)
    have HE8 := Lib.hid (hW7.trans hA)
    clear hA hW7 h07 hE
    go_wp2_with (at_builtin; refine wpList_append_beads (B := w0.heap.size) (ys := [⟨k, vv, SM, SZ, g, l.ptr.isSome, r.ptr.isSome⟩]) rfl (.tmp 20) (.tmp 38) rfl rfl rfl HO.out HZ.out ?b1 HE8.out.size ?_)
    case b1 => have := HZL.out; (try simp); omega
    intro v8 w8 hown8 hg8
    have hE8 : Ext w0 w8 := grown_ext HE8.out HO.out hg8
    have HO8 := Lib.hid hown8
    clear hg8 hown8
    go_wp2_with fail
    refine (HLF.out w8 hE8).mono ?_
    rintro e w9 ⟨rfl, h9⟩
    go_wp2_with fail
    rw [show (deep : Int) + 1 = ((deep + 1 : Nat) : Int) by omega]
    refine (IHl.out w9 v8 _ (deep + 1) (hE8.trans h9) (HO8.out.ext h9) (by have h1 := HLEN.out; have h2 := HZL.out; (try simp); omega) HD1.out).mono ?_
    rintro e w10 ⟨v10, rfl, hown10, hE10⟩
    have HO10 := Lib.hid hown10
    clear hown10 h9 hE8
    go_wp2_with fail
    refine (HRG.out w10 hE10).mono ?_
    rintro e w11 ⟨rfl, h11⟩
    go_wp2_with fail
    rw [show (deep : Int) + 1 = ((deep + 1 : Nat) : Int) by omega]
    refine (IHr.out w11 v10 _ (deep + 1) (hE10.trans h11) (HO10.out.ext h11) (by have h1 := HLEN.out; have h2 := HZL.out; have h3 : l.beads.length = l.pre.length := by simp [Tr.beads]
                                                                                 (try simp); omega) HD2.out).mono ?_
    rintro e w12 ⟨v12, rfl, hown12, hE12⟩
    have HO12 := Lib.hid hown12
    clear hown12 h11 hE10
    go_wp2
    go_ret2
    refine ⟨_, rfl, ?_, hE12⟩
    rw [HBS.out, HBD.out]
    have := HO12.out
    simpa using this
theorem see09_any (w : World) (T : Tr) (hT : InH w T) (hl : T.pre.length ≤ 2000) : Calls Tryz.prog 10 #[.pointer T.ptr] w (Sees T.beads w) := by
  have hh := Tr.high_le T
  have H := Lib.hid (see_any w T hT w (.slice none 0 0) [] 0 (Ext.refl w) (Own.nil _ _) (by simp; omega) (by omega))
  clear hh
  go_enter Tryz.func10, Tryz.ntmps10
  go_wp2_with fail
  refine H.out.mono ?_
  rintro e w1 ⟨v1, rfl, hown, hE⟩
  have HO := Lib.hid hown
  clear hown
  go_wp2
  go_ret2
  exact ⟨_, rfl, HO.out, hE⟩
theorem is_any (w : World) (T : Tr) (q : Value) (hT : InH w T) (hq : Beads w q T.beads) (hl : T.pre.length ≤ 2000) : Calls Tryz.prog 40 #[.pointer T.ptr, q] w (Ret (.bool true) w) := by
  have H := Lib.hid (see09_any w T hT hl)
  have HQ := Lib.hid hq
  have HL := Lib.hid (show T.beads.length ≤ 2000 by simpa [Tr.beads] using hl)
  clear hq hl
  go_enter Tryz.func40, Tryz.ntmps40
  go_wp2_with fail
  refine H.out.mono ?_
  rintro e w1 ⟨v1, rfl, hown, hE⟩
  have HO := Lib.hid hown.beads
  clear hown
  go_wp2_with fail
  refine (same_any w1 v1 q T.beads HO.out (HQ.out.ext hE) HL.out).mono ?_
  rintro e w2 ⟨rfl, h2⟩
  go_wp2
  go_ret
  exact Ret.mk (hE.trans h2)

/-- the values together. -/
def tot (zs : List BeadL) : Int := (zs.map BeadL.val).sum
theorem sumL_from (zs : List BeadL) : ∀ a : Int, zs.foldl (fun n z => wrap64 (n + z.val)) (wrap64 a) = wrap64 (a + tot zs) := by
  induction zs with
  | nil => intro a; simp [tot]
  | cons z zs ih =>
    intro a
    rw [List.foldl_cons, show wrap64 (wrap64 a + z.val) = wrap64 (a + z.val) by unfold wrap64; omega, ih]
    simp [tot, Int.add_assoc]
theorem sumL_tot (zs : List BeadL) : sumL zs = wrap64 (tot zs) := by
  have := sumL_from zs 0
  rw [show wrap64 0 = 0 by decide +kernel] at this
  unfold sumL
  rw [this, Int.zero_add]
theorem tot_append (a b : List BeadL) : tot (a ++ b) = tot a + tot b := by simp [tot]
theorem wrap_add (x y : Int) : wrap64 (wrap64 x + y) = wrap64 (x + y) := by unfold wrap64; omega
theorem wrap_three (a v b : Int) : wrap64 (wrap64 (wrap64 a + v) + wrap64 b) = wrap64 (a + v + b) := by
  rw [wrap_add a v, wrap_add (a + v), Int.add_comm (a + v), wrap_add b, Int.add_comm b]
theorem fits_sum : ∀ {t : BT} {T : Tr}, t.fits T → T.sum = wrap64 (tot t.enc) ∧ T.size = wrap64 t.enc.length
  | .nil, .nil, _ => ⟨by simp [Tr.sum, BT.enc, tot, wrap64], by simp [Tr.size, BT.enc, wrap64]⟩
  | .nil, .node .., h => h.elim
  | .node .., .nil, h => h.elim
  | .node k v s n g l r, .node b L k' v' g' R, h => by
    have h1 := fits_sum h.2.2.2.1
    have h2 := fits_sum h.2.2.2.2
    rw [Tr.sum, Tr.size, h1.1, h1.2, h2.1, h2.2]
    have e1 : tot (BT.node k v s n g l r).enc = v + (tot l.enc + tot r.enc) := by
      rw [← tot_append]; simp [BT.enc, tot]
    have e2 : ((BT.node k v s n g l r).enc.length : Int) = 1 + l.enc.length + r.enc.length := by simp [BT.enc]; omega
    rw [e1, e2, ← h.2.1, wrap_three, wrap_three]
    exact ⟨by congr 1; omega, by congr 1; omega⟩
theorem fits_some : ∀ {t : BT} {T : Tr}, t.fits T → T.ptr.isSome = !t.isNil
  | .nil, .nil, _ => rfl
  | .nil, .node .., h => h.elim
  | .node .., .nil, h => h.elim
  | .node .., .node .., _ => rfl
/-- a tree tells the beads that it was made of, with sizes and sums. -/
theorem fits_beads : ∀ {t : BT} {T : Tr}, t.fits T → t.enc.length ≤ 10000 → T.beads = t.of.enc
  | .nil, .nil, _, _ => rfl
  | .nil, .node .., h, _ => h.elim
  | .node .., .nil, h, _ => h.elim
  | .node k v s n g l r, .node b L k' v' g' R, h, hl => by
    have hl' : (BT.node k v s n g l r).enc.length = 1 + l.enc.length + r.enc.length := by simp [BT.enc]; omega
    have h1 := fits_beads h.2.2.2.1 (by omega)
    have h2 := fits_beads h.2.2.2.2 (by omega)
    have h3 := fits_sum h
    have e1 : (Tr.node b L k' v' g' R).beads = (Tr.node b L k' v' g' R).bead :: (L.beads ++ R.beads) := by simp [Tr.beads, Tr.pre]
    rw [e1, h1, h2]
    show _ = BeadL.mk _ _ _ _ _ (!l.of.isNil) (!r.of.isNil) :: (l.of.enc ++ r.of.enc)
    rw [BT.of_isNil, BT.of_isNil, ← fits_some h.2.2.2.1, ← fits_some h.2.2.2.2, sumL_tot, ← h3.1]
    have e3 : (Tr.node b L k' v' g' R).size = (BT.node k v s n g l r).enc.length := by
      rw [h3.2]; unfold wrap64; omega
    rw [← e3, h.1, h.2.1, h.2.2.1]
    rfl
end Go.Proofs.YtkkdobolloojjaaGreat
namespace Go.Proofs.YtkkdobolloojjaaGreat
open Go Go.RowKit

/-- every tag fits uint64. -/
def TagsOk : Tr → Prop
  | .nil => True
  | .node _ l _ _ g r => 0 ≤ g ∧ g < 18446744073709551616 ∧ TagsOk l ∧ TagsOk r
theorem fits_tagsOk : ∀ (t : BT) (T : Tr), t.fits T → (∀ z ∈ t.enc, z.wf) → TagsOk T
  | .nil, .nil, _, _ => trivial
  | .nil, .node .., h, _ => h.elim
  | .node .., .nil, h, _ => h.elim
  | .node k v s n g l r, .node b L k' v' g' R, h, hz => by
    have h0 := hz _ (List.mem_cons_self ..)
    have h1 := h0.2.2.2.2
    simp [Lit.wf, IntKind.min, IntKind.max, IntKind.signed, IntKind.bits] at h1
    rw [h.2.2.1] at h1
    exact ⟨by omega, by omega, fits_tagsOk l L h.2.2.2.1 (fun z hz' => hz z (by simp [BT.enc, hz'])), fits_tagsOk r R h.2.2.2.2 (fun z hz' => hz z (by simp [BT.enc, hz']))⟩
/-- the height of a tree. -/
def Tr.ht : Tr → Nat
  | .nil => 0
  | .node _ l _ _ _ r => 1 + max l.ht r.ht
theorem Tr.ht_count : ∀ t : Tr, t.ht ≤ t.count
  | .nil => by simp [Tr.ht, Tr.count, Tr.pre]
  | .node b l k v g r => by
    have h1 := Tr.ht_count l
    have h2 := Tr.ht_count r
    rw [Tr.ht, Tr.count_node]
    omega
/-- what Long says no to is a tree. -/
theorem long_tree {zs : List BeadL} (h : (decide (400 < zs.length) || !mayB zs) = false) : zs.length ≤ 400 ∧ ∃ t : BT, t.enc = zs := by
  simp only [Bool.or_eq_false_iff, Bool.not_eq_false', decide_eq_false_iff_not] at h
  exact ⟨by omega, mayB_tree h.2⟩
/-- the pairs of a tree, from left to right. -/
def Tr.kvs : Tr → List (Int × Int)
  | .nil => []
  | .node _ l k v _ r => l.kvs ++ (k, v) :: r.kvs
def Tr.blk : Tr → Nat
  | .nil => 0
  | .node b .. => b
/-- how many nodes lie in blocks from a number on. -/
def Tr.news (n : Nat) : Tr → Nat
  | .nil => 0
  | .node b l _ _ _ r => (if n ≤ b then 1 else 0) + l.news n + r.news n
theorem news_zero {w : World} {n : Nat} (hn : w.heap.size ≤ n) : ∀ {t : Tr}, InH w t → t.news n = 0
  | .nil, _ => rfl
  | .node b l k v g r, ⟨h0, h1, h2⟩ => by
    have := lt_of h0
    rw [Tr.news, news_zero hn h1, news_zero hn h2, if_neg (by omega)]

/-- what lies inward of a node, and outward (true: outward is to the right); a node of both. -/
def inOf (s : Bool) (t : Tr) : Tr := if s then t.left else t.right
def outOf (s : Bool) (t : Tr) : Tr := if s then t.right else t.left
def mkN (s : Bool) (b : Nat) (i : Tr) (k v g : Int) (o : Tr) : Tr := if s then .node b i k v g o else .node b o k v g i
def both {α : Type} (s : Bool) (a m b : List α) : List α := if s then a ++ m ++ b else b ++ m ++ a
section
variable {s : Bool} {b : Nat} {i o : Tr} {k v g : Int}
theorem inOf_mk : inOf s (mkN s b i k v g o) = i := by cases s <;> rfl
theorem outOf_mk : outOf s (mkN s b i k v g o) = o := by cases s <;> rfl
theorem mk_sides (s : Bool) (b : Nat) (l : Tr) (k v g : Int) (r : Tr) : Tr.node b l k v g r = mkN s b (inOf s (.node b l k v g r)) k v g (outOf s (.node b l k v g r)) := by cases s <;> rfl
theorem mk_key : (mkN s b i k v g o).key = k := by cases s <;> rfl
theorem mk_val : (mkN s b i k v g o).val = v := by cases s <;> rfl
theorem mk_tag : (mkN s b i k v g o).tag = g := by cases s <;> rfl
theorem mk_blk : (mkN s b i k v g o).blk = b := by cases s <;> rfl
theorem mk_ptr : (mkN s b i k v g o).ptr = some ⟨b, 0, none⟩ := by cases s <;> rfl
theorem mk_nn : mkN s b i k v g o ≠ .nil := by cases s <;> simp [mkN]
theorem mk_kvs : (mkN s b i k v g o).kvs = both s i.kvs [(k, v)] o.kvs := by cases s <;> simp [mkN, both, Tr.kvs]
theorem mk_news (n : Nat) : (mkN s b i k v g o).news n = (if n ≤ b then 1 else 0) + i.news n + o.news n := by cases s <;> simp [mkN, Tr.news] <;> omega
theorem mk_ht : (mkN s b i k v g o).ht = 1 + max i.ht o.ht := by cases s <;> simp [mkN, Tr.ht, Nat.max_comm]
theorem mk_count : (mkN s b i k v g o).count = i.count + 1 + o.count := by cases s <;> simp [mkN, Tr.count_node] <;> omega
theorem mk_pre (x : Tr) : x ∈ (mkN s b i k v g o).pre ↔ x = mkN s b i k v g o ∨ x ∈ i.pre ∨ x ∈ o.pre := by
  cases s <;> simp [mkN, Tr.pre]
  constructor <;> rintro (h | h | h) <;> simp [h]
theorem mk_inH {w : World} (h : InH w (mkN s b i k v g o)) : InH w i ∧ InH w o := by
  cases s
  · exact ⟨h.2.2, h.2.1⟩
  · exact ⟨h.2.1, h.2.2⟩
end
/-- a tree of beads' pairs, from left to right. -/
def BT.kvs : BT → List (Int × Int)
  | .nil => []
  | .node k v _ _ _ l r => l.kvs ++ (k, v) :: r.kvs
theorem BT.fits_kvs : ∀ {t : BT} {T : Tr}, t.fits T → T.kvs = t.kvs
  | .nil, .nil, _ => rfl
  | .nil, .node .., h => h.elim
  | .node .., .nil, h => h.elim
  | .node .., .node .., h => by rw [Tr.kvs, BT.kvs, BT.fits_kvs h.2.2.2.1, BT.fits_kvs h.2.2.2.2, h.1, h.2.1]
theorem BT.kvs_len : ∀ t : BT, t.kvs.length = t.enc.length
  | .nil => rfl
  | .node k v s n g l r => by simp [BT.kvs, BT.enc, BT.kvs_len l, BT.kvs_len r]; omega
/-- the beads of a tree, as a tree of beads. -/
def Tr.bt : Tr → BT
  | .nil => .nil
  | .node b l k v g r => .node k v (Tr.node b l k v g r).sum (Tr.node b l k v g r).size g l.bt r.bt
theorem Tr.bt_fits : ∀ T : Tr, T.bt.fits T
  | .nil => trivial
  | .node _ l _ _ _ r => ⟨rfl, rfl, rfl, Tr.bt_fits l, Tr.bt_fits r⟩
theorem Tr.bt_enc : ∀ T : Tr, T.bt.enc = T.beads
  | .nil => rfl
  | .node b l k v g r => by
    have e1 : (Tr.node b l k v g r).beads = (Tr.node b l k v g r).bead :: (l.beads ++ r.beads) := by simp [Tr.beads, Tr.pre]
    have e2 : (Tr.node b l k v g r).bead = ⟨k, v, (Tr.node b l k v g r).sum, (Tr.node b l k v g r).size, g, l.ptr.isSome, r.ptr.isSome⟩ := rfl
    rw [e1, e2, fits_some (Tr.bt_fits l), fits_some (Tr.bt_fits r), ← Tr.bt_enc l, ← Tr.bt_enc r]
    rfl
theorem Tr.beads_len (T : Tr) : T.beads.length = T.pre.length := by simp [Tr.beads]
theorem beads_bt {w : World} {v : Value} {T : Tr} (h : Beads w v T.beads) : Beads w v T.bt.enc := by rw [Tr.bt_enc]; exact h
theorem Tr.kvs_count : ∀ T : Tr, T.kvs.length = T.count
  | .nil => rfl
  | .node b l k v g r => by rw [Tr.kvs, Tr.count_node, List.length_append, List.length_cons, Tr.kvs_count l, Tr.kvs_count r]; omega
def kvSum (l : List (Int × Int)) : Int := (l.map (·.2)).sum
theorem Tr.sum_kvs : ∀ T : Tr, T.sum = wrap64 (kvSum T.kvs)
  | .nil => by decide +kernel
  | .node b l k v g r => by
    rw [Tr.sum, Tr.sum_kvs l, Tr.sum_kvs r, wrap_three]
    congr 1
    simp [kvSum, Tr.kvs]; omega
/-- a tree with no place in memory. -/
def BT.tr : BT → Tr
  | .nil => .nil
  | .node k v _ _ g l r => .node 0 l.tr k v g r.tr
theorem BT.tr_fits : ∀ t : BT, t.fits t.tr
  | .nil => trivial
  | .node _ _ _ _ _ l r => ⟨rfl, rfl, rfl, l.tr_fits, r.tr_fits⟩
/-- a truth, of which 'no' says something. -/
def Says (S : Prop) (w : World) (e : Ending) (w' : World) : Prop := ∃ b : Bool, e = .returned (.bool b) ∧ (b = false → S) ∧ Ext w w'
theorem BT.of_fits : ∀ {t : BT} {T : Tr}, t.fits T → t.of.fits T
  | .nil, .nil, _ => trivial
  | .nil, .node .., h => h.elim
  | .node .., .nil, h => h.elim
  | .node .., .node .., h => ⟨h.1, h.2.1, h.2.2.1, BT.of_fits h.2.2.2.1, BT.of_fits h.2.2.2.2⟩
theorem sides_ne (s : Bool) {T : Tr} (h : T ≠ .nil) : ∃ b i k v g o, T = mkN s b i k v g o := by
  cases T with
  | nil => exact (h rfl).elim
  | node b l k v g r => exact ⟨b, _, k, v, g, _, mk_sides s b l k v g r⟩
theorem both_out (s : Bool) (a m b c d : List (Int × Int)) : both s a m (both s b c d) = both s (both s a m b) c d := by cases s <;> simp [both]
end Go.Proofs.YtkkdobolloojjaaGreat
namespace Go.Proofs.YtkkdobolloojjaaGreat
open Go Go.RowKit

/-- the first one that is wrong, and how. -/
def firstOf (one : Tr → Int) : List Tr → Nat × Int
  | [] => (0, 0)
  | t :: r => if one t = 0 then ((firstOf one r).1 + 1, (firstOf one r).2) else (0, one t)
def mayOf (one : Tr → Int) (T : Tr) : Bool := (firstOf one T.pre).2 == 0
section
variable {one : Tr → Int}
theorem firstOf_cons (t : Tr) (r : List Tr) : firstOf one (t :: r) = if one t = 0 then ((firstOf one r).1 + 1, (firstOf one r).2) else (0, one t) := rfl
theorem firstOf_none : ∀ {l : List Tr}, (firstOf one l).2 = 0 → (firstOf one l).1 = l.length ∧ ∀ t ∈ l, one t = 0
  | [], _ => by simp [firstOf]
  | t :: l, h => by
    rw [firstOf_cons] at h ⊢
    split at h
    · rename_i h1
      have := firstOf_none (l := l) h
      refine ⟨by simp [this.1, h1], ?_⟩
      intro x hx
      rcases List.mem_cons.1 hx with rfl | hx
      · exact h1
      · exact this.2 x hx
    · rename_i h1
      exact (h1 h).elim
theorem firstOf_append (a b : List Tr) : firstOf one (a ++ b) = if (firstOf one a).2 = 0 then (a.length + (firstOf one b).1, (firstOf one b).2) else firstOf one a := by
  induction a with
  | nil => simp [firstOf]
  | cons t a ih =>
    rw [List.cons_append, firstOf_cons, firstOf_cons]
    by_cases h1 : one t = 0
    · simp only [h1, ih]
      by_cases h3 : (firstOf one a).2 = 0
      · simp [h3]; omega
      · simp [h3]
    · simp [h1]
theorem firstOf_le : ∀ l : List Tr, (firstOf one l).1 ≤ l.length
  | [] => by simp [firstOf]
  | t :: l => by
    have := firstOf_le l
    rw [firstOf_cons]
    split
    · simp; omega
    · simp
theorem mayOf_nil : mayOf one .nil = true := rfl
theorem mayOf_node (b : Nat) (l : Tr) (k v g : Int) (r : Tr) : mayOf one (.node b l k v g r) = (one (.node b l k v g r) == 0 && mayOf one l && mayOf one r) := by
  unfold mayOf
  simp only [Tr.pre]
  rw [firstOf_cons]
  by_cases h1 : one (.node b l k v g r) = 0
  · simp only [h1, firstOf_append]
    by_cases h3 : (firstOf one l.pre).2 = 0 <;> simp [h3]
  · rw [if_neg h1, beq_eq_false_iff_ne.2 h1]; simp
end
/-- what is still to be looked at, of a stack of trees (the next one stands last). -/
def pend (st : List Tr) : List Tr := st.reverse.flatMap Tr.pre
theorem pend_nil : pend [] = [] := rfl
theorem pend_snoc (st : List Tr) (t : Tr) : pend (st ++ [t]) = t.pre ++ pend st := by simp [pend]
theorem pend_two (st : List Tr) (a b : Tr) : pend (st ++ [a, b]) = b.pre ++ (a.pre ++ pend st) := by simp [pend]

/-- a row of pointers that was made since the heap had B blocks. -/
def NOwn (B : Nat) (w : World) (v : Value) (xs : List (Option Addr)) : Prop := w.ownsRow B 28 1 v xs.length (xs.map Value.pointer)
theorem NOwn.nil (B : Nat) (w : World) : NOwn B w (.slice none 0 0) [] := ⟨rfl, .inl ⟨rfl, rfl⟩⟩
theorem NOwn.ext {B : Nat} {w w' : World} {v : Value} {xs : List (Option Addr)} (h : NOwn B w v xs) (e : Ext w w') : NOwn B w' v xs := by
  obtain ⟨h1, h | ⟨g, cap, cur, hv, hb, hg, hc⟩⟩ := h
  · exact ⟨h1, .inl h⟩
  · exact ⟨h1, .inr ⟨g, cap, cur, hv, hb, (e.block g (lt_of hg)).trans hg, hc⟩⟩
theorem NOwn.mono {B B' : Nat} {w : World} {v : Value} {xs : List (Option Addr)} (h : NOwn B w v xs) (e : B' ≤ B) : NOwn B' w v xs := by
  obtain ⟨h1, h | ⟨g, cap, cur, hv, hb, hg, hc⟩⟩ := h
  · exact ⟨h1, .inl h⟩
  · exact ⟨h1, .inr ⟨g, cap, cur, hv, Nat.le_trans e hb, hg, hc⟩⟩
theorem NOwn.slice {B : Nat} {w : World} {v : Value} {xs : List (Option Addr)} (h : NOwn B w v xs) : ∃ a c, v = .slice a xs.length c := by
  obtain ⟨h1, ⟨rfl, h0⟩ | ⟨g, cap, cur, rfl, hb, hg, hc⟩⟩ := h
  · exact ⟨none, 0, by rw [h0]⟩
  · exact ⟨_, _, rfl⟩
/-- its last one, and the row without it. -/
theorem NOwn.pop {B : Nat} {w : World} {v : Value} {xs : List (Option Addr)} {x : Option Addr} (h : NOwn B w v (xs ++ [x])) :
    ∃ g cap, v = .slice (some ⟨g, 0, none⟩) (xs.length + 1) cap ∧ xs.length + 1 ≤ cap ∧ w.cell? ⟨g, xs.length, none⟩ = some (.pointer x) ∧ NOwn B w (.slice (some ⟨g, 0, none⟩) xs.length cap) xs := by
  obtain ⟨h1, ⟨rfl, h0⟩ | ⟨g, cap, cur, hv, hb, hg, hc, hm, hs, ht⟩⟩ := h
  · simp at h0
  · rw [List.length_append, List.length_singleton] at hv hc ht
    refine ⟨g, cap, hv, hc, ?_, by simp, .inr ⟨g, cap, cur, rfl, hb, hg, by omega, hm, hs, ?_⟩⟩
    · rw [cell_of hg]
      have : (cur.toList.take ((xs.length + 1) * 1))[xs.length]? = some (.pointer x) := by rw [ht]; simp
      rw [List.getElem?_take] at this
      split at this
      · simpa using this
      · cases this
    · have := congrArg (List.take (xs.length * 1)) ht
      rw [List.take_take, Nat.min_eq_left (by omega)] at this
      rw [this]; simp
theorem node_info : ∃ i : TypeInfo, Tryz.prog.info? 28 = some i ∧ i.zero = some (.pointer none) ∧ i.size = 1 ∧ i.bytes = 8 := by
  have h : (Tryz.prog.info? 28).map (fun i => (i.zero, i.size, i.bytes)) = some (some (.pointer none), 1, 8) := by kernel_rfl
  cases hi : Tryz.prog.info? 28 with
  | none => rw [hi] at h; cases h
  | some i =>
    rw [hi] at h
    simp only [Option.map_some, Option.some.injEq, Prod.mk.injEq] at h
    exact ⟨i, rfl, h.1, h.2.1, h.2.2⟩
/-- append, onto a row of one's own. -/
theorem append_nown {B : Nat} {w : World} {v : Value} {xs ys : List (Option Addr)} (ty : TypeId) {b o c : Nat} (hv : NOwn B w v xs) (hr : w.rangeAt b o (ys.map Value.pointer)) (hlen : xs.length + ys.length ≤ 10000) (hB : B ≤ w.heap.size) :
    ∃ v' w', (Builtin.append_ #[47, 47] ty #[v, .slice (some ⟨b, o, none⟩) ys.length c]).run Tryz.prog w = .ok v' w' ∧ NOwn B w' v' (xs ++ ys) ∧ w.grownBy w' v.ownBlock := by
  obtain ⟨i, hi, hz, hs, hb⟩ := node_info
  have hml : (10000 : Nat) ≤ maxLen := by decide
  obtain ⟨v', w', hrun, hown, hg, _, _⟩ := run_append_own_at (P := Tryz.prog) w B _ ty _ i _ 1 8 Tryz.underlying47 hi hz hs hb rfl (by omega) v xs.length (xs.map Value.pointer) hv ⟨b, o, none⟩ ys.length c (ys.map Value.pointer) (by simp)
    (fun j u hj => by rw [Addr.add_mid]; exact hr j u hj) (by intro u hu; obtain ⟨x, _, rfl⟩ := List.mem_map.1 hu; rfl) (by omega) (by omega) hB
  refine ⟨v', w', hrun, ?_, hg⟩
  show w'.ownsRow _ _ _ _ _ _
  rw [List.length_append, List.map_append]
  exact hown
/-- what append leaves alone. -/
theorem ngrown_ext {w0 w w' : World} {v : Value} {xs : List (Option Addr)} (hw : Ext w0 w) (hv : NOwn w0.heap.size w v xs) (hg : w.grownBy w' v.ownBlock) : Ext w0 w' := by
  refine RowKit.Below.grown hw hg hw.size ?_
  intro k hk
  rcases hv with ⟨_, ⟨rfl, h0⟩ | ⟨g, cap, cur, rfl, hb, _⟩⟩
  · cases hk
  · simp only [Value.ownBlock, Option.some.injEq] at hk
    omega
section
variable {F : Fence} {n : Nat} {ops : Array Oper} {rest : List Oper} {o : Oper} {a : Act} {Q : Exit → Act → World → Prop}
theorem wpList_append_nodes (hgd : o.guard = none) (s x : Operand) (ho : o.op = .call { callee := .builtin .append, args := #[s, x], argTypes := #[47, 47] })
    {B : Nat} {w : World} {v : Value} {xs ys : List (Option Addr)} {b i c : Nat} (hs : a.eval s = v) (hx : a.eval x = .slice (some ⟨b, i, none⟩) ys.length c) (hv : NOwn B w v xs) (hr : w.rangeAt b i (ys.map Value.pointer)) (hlen : xs.length + ys.length ≤ 10000) (hB : B ≤ w.heap.size)
    (h : ∀ v' w', NOwn B w' v' (xs ++ ys) → w.grownBy w' v.ownBlock → wpList Tryz.prog ops Q rest (a.put o.dst v') w') : wpList Tryz.prog ops Q (o :: rest) a w := by
  refine wpList_plain hgd fun K hK => ?_
  obtain ⟨v', w', hr, h2, h3⟩ := append_nown (c := c) o.type hv hr hlen hB
  unfold Oper.wp execOp
  simp only [ho, resolve, invoke, builtin, Sem.run_bind, Sem.run_pure, Result.andThen_ok, List.map_toArray, List.map_cons, List.map_nil, hs, hx, hr]
  exact hK _ _ (h v' w' h2 h3)
end
end Go.Proofs.YtkkdobolloojjaaGreat
namespace Go.Proofs.YtkkdobolloojjaaGreat
open Go Go.RowKit

/-- does one tag and key stand above others? -/
def aboveB (g k g' k' : Int) : Bool := decide (g' < g) || (decide (g = g') && decide (k' < k))
theorem above_irr (g k : Int) : aboveB g k g k = false := by simp [aboveB]
theorem above_asym {g k g' k' : Int} (h : aboveB g k g' k' = true) : aboveB g' k' g k = false := by
  simp only [aboveB, Bool.or_eq_true, Bool.and_eq_true, decide_eq_true_eq, Bool.or_eq_false_iff, Bool.and_eq_false_iff, decide_eq_false_iff_not] at h ⊢
  omega
theorem above_trans' {a b c d e f : Int} (h1 : aboveB a b c d = false) (h2 : aboveB c d e f = false) : aboveB a b e f = false := by
  simp only [aboveB, Bool.or_eq_false_iff, Bool.and_eq_false_iff, decide_eq_false_iff_not] at h1 h2 ⊢
  omega
/-- does the root of one tree stand above that of another one (false, where one is missing)? -/
def tAbove : Tr → Tr → Bool
  | .node _ _ k _ g _, .node _ _ k' _ g' _ => aboveB g k g' k'
  | _, _ => false
/-- does the root of a tree stand not above a tag and key? -/
def under : Tr → Int → Int → Prop
  | .nil, _, _ => True
  | .node _ _ k _ g _, g', k' => aboveB g k g' k' = false
theorem under_iff (t : Tr) (b : Nat) (l : Tr) (k v g : Int) (r : Tr) : tAbove t (.node b l k v g r) = false ↔ under t g k := by
  cases t <;> simp [tAbove, under]
theorem under_trans {t : Tr} {g k g' k' : Int} (h : under t g k) (h2 : aboveB g k g' k' = false) : under t g' k' := by
  cases t with
  | nil => trivial
  | node => exact above_trans' h h2
/-- what is wrong with a node. -/
def tpOne (n : Tr) : Int := if tAbove n.left n || tAbove n.right n then 8 else 0
def tpMay (T : Tr) : Bool := mayOf tpOne T
def TpH : Tr → Prop
  | .nil => True
  | .node _ l k _ g r => under l g k ∧ under r g k ∧ TpH l ∧ TpH r
theorem tpMay_iff : ∀ T : Tr, tpMay T = true ↔ TpH T
  | .nil => by simp [tpMay, mayOf_nil, TpH]
  | .node b l k v g r => by
    have h1 := tpMay_iff l
    have h2 := tpMay_iff r
    unfold tpMay at h1 h2 ⊢
    have e1 := under_iff l b l k v g r
    have e2 := under_iff r b l k v g r
    rw [mayOf_node, TpH, Bool.and_eq_true, Bool.and_eq_true, h1, h2, ← e1, ← e2]
    unfold tpOne
    simp only [Tr.left_node, Tr.right_node]
    by_cases hx : tAbove l (.node b l k v g r) = true <;> by_cases hy : tAbove r (.node b l k v g r) = true <;> simp [hx, hy]
/-- a tree's items, from left to right. -/
def Tr.its : Tr → List (Int × Int × Int)
  | .nil => []
  | .node _ l k v g r => l.its ++ (k, v, g) :: r.its
theorem Tr.its_len : ∀ T : Tr, T.its.length = T.count
  | .nil => rfl
  | .node b l k v g r => by rw [Tr.its, Tr.count_node, List.length_append, List.length_cons, Tr.its_len l, Tr.its_len r]; omega
theorem Tr.its_kvs : ∀ T : Tr, T.its.map (fun z => (z.1, z.2.1)) = T.kvs
  | .nil => rfl
  | .node b l k v g r => by rw [Tr.its, Tr.kvs, List.map_append, List.map_cons, Tr.its_kvs l, Tr.its_kvs r]
/-- how many nodes there are on the way to one side. -/
def Tr.rway : Tr → Nat
  | .nil => 0
  | .node _ _ _ _ _ r => 1 + r.rway
def Tr.lway : Tr → Nat
  | .nil => 0
  | .node _ l _ _ _ _ => 1 + l.lway
theorem Tr.rway_le : ∀ T : Tr, T.rway ≤ T.count
  | .nil => Nat.le_refl _
  | .node b l k v g r => by rw [Tr.rway, Tr.count_node]; have := Tr.rway_le r; omega
theorem Tr.lway_le : ∀ T : Tr, T.lway ≤ T.count
  | .nil => Nat.le_refl _
  | .node b l k v g r => by rw [Tr.lway, Tr.count_node]; have := Tr.lway_le l; omega
/-- what a join of two treaps has to be. -/
structure TJoinOk (n : Nat) (L R : Tr) (k v g : Int) (T : Tr) : Prop where
  tp : TpH L → TpH R → TpH T
  its : T.its = L.its ++ (k, v, g) :: R.its
  news : L.news n = 0 → R.news n = 0 → T.news n ≤ L.rway + R.lway + 1
  top : ∀ g' k', under L g' k' → under R g' k' → aboveB g k g' k' = false → under T g' k'
  tags : 0 ≤ g → g < 18446744073709551616 → TagsOk L → TagsOk R → TagsOk T
theorem TJoinOk.mid (n b : Nat) {L R : Tr} {k v g : Int} (hl : under L g k) (hr : under R g k) : TJoinOk n L R k v g (.node b L k v g R) :=
  ⟨fun a c => ⟨hl, hr, a, c⟩, rfl, fun a c => by rw [Tr.news, a, c]; split <;> omega, fun g' k' _ _ h => h, fun a c d e => ⟨a, c, d, e⟩⟩
theorem TJoinOk.onLeft {n b b' : Nat} {L R T l r : Tr} {k v g K V G : Int} (hL : L = .node b' l K V G r) (h : TJoinOk n r R k v g T) (ha : aboveB G K g k = true) (hr : under R G K) : TJoinOk n L R k v g (.node b l K V G T) := by
  subst hL
  refine ⟨fun a c => ⟨a.1, h.top _ _ a.2.1 hr (above_asym ha), a.2.2.1, h.tp a.2.2.2 c⟩, ?_, fun a c => ?_, fun g' k' a _ _ => a, fun a c d e => ⟨d.1, d.2.1, d.2.2.1, h.tags a c d.2.2.2 e⟩⟩
  · rw [Tr.its, Tr.its, h.its, List.append_assoc, List.cons_append]
  · rw [Tr.news] at a ⊢
    have := h.news (by omega) c
    have e1 : l.news n = 0 := by omega
    rw [e1, Tr.rway]
    split <;> omega
theorem TJoinOk.onRight {n b b' : Nat} {L R T l r : Tr} {k v g K V G : Int} (hR : R = .node b' l K V G r) (h : TJoinOk n L l k v g T) (ha : aboveB G K g k = true) (hl : under L G K) : TJoinOk n L R k v g (.node b T K V G r) := by
  subst hR
  refine ⟨fun a c => ⟨h.top _ _ hl c.1 (above_asym ha), c.2.1, h.tp a c.2.2.1, c.2.2.2⟩, ?_, fun a c => ?_, fun g' k' _ c _ => c, fun a c d e => ⟨e.1, e.2.1, h.tags a c d e.2.2.1, e.2.2.2⟩⟩
  · rw [Tr.its, Tr.its, h.its, List.append_assoc, List.cons_append]
  · rw [Tr.news] at c ⊢
    have := h.news a (by omega)
    have e1 : r.news n = 0 := by omega
    rw [e1, Tr.lway]
    split <;> omega
/-- does a tree stand above a node, and above another tree? -/
def isB (A M B : Tr) : Bool := tAbove A M && (match B with | .nil => true | .node .. => tAbove A B)
end Go.Proofs.YtkkdobolloojjaaGreat
namespace Go.Proofs.YtkkdobolloojjaaGreat
open Go Go.RowKit

theorem tag14_any (w : World) (p : Value) (t : BT) (hb : Beads w p t.enc) : Calls Tryz.prog 61 #[p] w (Ret (.int .u64 t.tag) w) := by
  rcases hb with ⟨h, a, c, rfl⟩ | ⟨b, o, c, rfl, hne, hc, hr⟩
  · cases t with
    | nil =>
      rw [show BT.nil.tag = 0 from rfl]
      go_enter Tryz.func61, Tryz.ntmps61
      go_wp2
      go_ret
      exact Ret.mk (Ext.refl _)
    | node => simp [BT.enc] at h
  · cases t with
    | nil => exact (hne rfl).elim
    | node k v s n g l r =>
      have hc4 : w.cell? ⟨b, o + 4, none⟩ = some (.int .u64 g) := by
        have := rangeAt_cell hr (i := 0) rfl (j := 4) rfl
        simpa using this
      have hlen : 1 ≤ (BT.node k v s n g l r).enc.length := by simp [BT.enc]
      rw [show (BT.node k v s n g l r).tag = g from rfl]
      clear hr hne
      generalize (BT.node k v s n g l r).enc.length = LL at *
      go_enter Tryz.func61, Tryz.ntmps61
      go_wp2
      go_ret
      exact Ret.mk (Ext.refl _)

/-- what is wrong with a tree's root. -/
def oneOf (T : Tr) : Int := if avlBadTag T then 140 else if avlBadTree T then 8 else 0
set_option maxHeartbeats 1000000 in
theorem one14_any (w : World) (p : Value) (k v s n g : Int) (l r : BT) (T : Tr) (hf : (BT.node k v s n g l r).fits T) (hb : Beads w p (BT.node k v s n g l r).enc) (hl : (BT.node k v s n g l r).enc.length ≤ 2000) :
    Calls Tryz.prog 78 #[p] w (Ret (.int .i64 (oneOf T)) w) := by
  have hp := parts_any w p k v s n g l r hb hl
  obtain ⟨hfl, hfr, hg, -, -, -⟩ := BT.fits_left hf
  have e1 := BT.fits_tag hfl
  have e2 := BT.fits_tag hfr
  obtain ⟨O, hO⟩ : ∃ O, O = oneOf T := ⟨_, rfl⟩
  rw [← hO]
  unfold oneOf avlBadTag avlBadTree at hO
  rw [← hg, ← e1, ← e2] at hO
  have HO := Lib.hid hO
  clear hO e1 e2 hfl hfr hf hg hb
  go_enter Tryz.func78, Tryz.ntmps78
  go_wp2_with fail
  refine (hp).mono ?_
  rintro e w1 ⟨v1, v2, rfl, hv1, hv2, hE⟩
  go_wp2_with fail
  refine (tag14_any _ v1 l (hv1.ext ((Ext.refl w1).alloc _))).mono ?_
  rintro e w2 ⟨rfl, h2⟩
  have hE1 := (Ext.refl w1).alloc (.cells #[.int .i64 k, .int .i64 v, .int .i64 s, .int .i64 n, .int .u64 g, .bool (!l.isNil), .bool (!r.isNil)] 96)
  have h12 := hE1.trans h2
  go_wp2_with fail
  refine (tag14_any _ v2 r (hv2.ext h12)).mono ?_
  rintro e w3 ⟨rfl, h3⟩
  rcases Int.lt_trichotomy l.tag r.tag with c1 | c1 | c1
  · have h13 := h12.trans h3
    go_wp2_with fail
    refine (tag14_any _ v1 l (hv1.ext h13)).mono ?_
    rintro e w4 ⟨rfl, h4⟩
    have h14 := h13.trans h4
    go_wp2_with fail
    refine (tag14_any _ v2 r (hv2.ext h14)).mono ?_
    rintro e w5 ⟨rfl, h5⟩
    have hk := (h2.trans h3).trans (h4.trans h5)
    have hc4 : w5.cell? ⟨w1.heap.size, 4, none⟩ = some (.int .u64 g) := by
      have := cell_of (alloc_at w1 (.cells #[.int .i64 k, .int .i64 v, .int .i64 s, .int .i64 n, .int .u64 g, .bool (!l.isNil), .bool (!r.isNil)] 96) _ rfl) 4
      exact cell_keep hk this
    have hEE := hE.trans (h14.trans h5)
    clear hp hE hE1 h2 h12 h3 h13 h4 h14 h5 hk hv1 hv2
    generalize l.tag = x at *
    generalize r.tag = y at *
    have HM := Lib.hid (show max x y = y ∧ min x y = x by omega)
    by_cases c2 : g = 0
    · subst c2
      go_wp2
      all_goals
        go_ret
        exact ⟨ret_int (by rw [HO.out]; rfl), hEE⟩
    · have c2' := beq_eq_false_iff_ne.2 c2
      cases c3 : (IntKind.u64.wrap (g - 1) != y) with
      | true =>
        go_wp2
        go_ret
        exact ⟨ret_int (by rw [HO.out, HM.out.1, HM.out.2, c2', c3]; rfl), hEE⟩
      | false =>
        cases c4 : decide (1 < IntKind.u64.wrap (y - x)) with
        | true =>
          go_wp2
          go_ret
          exact ⟨ret_int (by rw [HO.out, HM.out.1, HM.out.2, c2', c3, c4]; rfl), hEE⟩
        | false =>
          go_wp2
          go_ret
          exact ⟨ret_int (by rw [HO.out, HM.out.1, HM.out.2, c2', c3, c4]; rfl), hEE⟩
  · have h13 := h12.trans h3
    go_wp2_with fail
    refine (tag14_any _ v1 l (hv1.ext h13)).mono ?_
    rintro e w4 ⟨rfl, h4⟩
    have h14 := h13.trans h4
    go_wp2_with fail
    refine (tag14_any _ v2 r (hv2.ext h14)).mono ?_
    rintro e w5 ⟨rfl, h5⟩
    have hk := (h2.trans h3).trans (h4.trans h5)
    have hc4 : w5.cell? ⟨w1.heap.size, 4, none⟩ = some (.int .u64 g) := by
      have := cell_of (alloc_at w1 (.cells #[.int .i64 k, .int .i64 v, .int .i64 s, .int .i64 n, .int .u64 g, .bool (!l.isNil), .bool (!r.isNil)] 96) _ rfl) 4
      exact cell_keep hk this
    have hEE := hE.trans (h14.trans h5)
    clear hp hE hE1 h2 h12 h3 h13 h4 h14 h5 hk hv1 hv2
    generalize l.tag = x at *
    generalize r.tag = y at *
    subst c1
    have HM := Lib.hid (show max x x = x ∧ min x x = x by omega)
    by_cases c2 : g = 0
    · subst c2
      go_wp2
      all_goals
        go_ret
        exact ⟨ret_int (by rw [HO.out]; rfl), hEE⟩
    · have c2' := beq_eq_false_iff_ne.2 c2
      cases c3 : (IntKind.u64.wrap (g - 1) != x) with
      | true =>
        go_wp2
        go_ret
        exact ⟨ret_int (by rw [HO.out, HM.out.1, HM.out.2, c2', c3]; rfl), hEE⟩
      | false =>
        have c4 : decide (1 < IntKind.u64.wrap (x - x)) = false := by rw [Int.sub_self]; decide +kernel
        have C4 := Lib.hid c4
        clear c4
        go_wp2
        go_ret
        exact ⟨ret_int (by rw [HO.out, HM.out.1, HM.out.2, c2', c3, C4.out]; rfl), hEE⟩
  · have h13 := h12.trans h3
    go_wp2_with fail
    refine (tag14_any _ v1 l (hv1.ext h13)).mono ?_
    rintro e w4 ⟨rfl, h4⟩
    have h14 := h13.trans h4
    go_wp2_with fail
    refine (tag14_any _ v2 r (hv2.ext h14)).mono ?_
    rintro e w5 ⟨rfl, h5⟩
    have hk := (h2.trans h3).trans (h4.trans h5)
    have hc4 : w5.cell? ⟨w1.heap.size, 4, none⟩ = some (.int .u64 g) := by
      have := cell_of (alloc_at w1 (.cells #[.int .i64 k, .int .i64 v, .int .i64 s, .int .i64 n, .int .u64 g, .bool (!l.isNil), .bool (!r.isNil)] 96) _ rfl) 4
      exact cell_keep hk this
    have hEE := hE.trans (h14.trans h5)
    clear hp hE hE1 h2 h12 h3 h13 h4 h14 h5 hk hv1 hv2
    generalize l.tag = x at *
    generalize r.tag = y at *
    have HM := Lib.hid (show max x y = x ∧ min x y = y by omega)
    by_cases c2 : g = 0
    · subst c2
      go_wp2
      all_goals
        go_ret
        exact ⟨ret_int (by rw [HO.out]; rfl), hEE⟩
    · have c2' := beq_eq_false_iff_ne.2 c2
      cases c3 : (IntKind.u64.wrap (g - 1) != x) with
      | true =>
        go_wp2
        go_ret
        exact ⟨ret_int (by rw [HO.out, HM.out.1, HM.out.2, c2', c3]; rfl), hEE⟩
      | false =>
        cases c4 : decide (1 < IntKind.u64.wrap (x - y)) with
        | true =>
          go_wp2
          go_ret
          exact ⟨ret_int (by rw [HO.out, HM.out.1, HM.out.2, c2', c3, c4]; rfl), hEE⟩
        | false =>
          go_wp2
          go_ret
          exact ⟨ret_int (by rw [HO.out, HM.out.1, HM.out.2, c2', c3, c4]; rfl), hEE⟩
theorem avlFirst_le : ∀ l : List Tr, (avlFirst l).1 ≤ l.length
  | [] => by simp [avlFirst]
  | t :: l => by
    have := avlFirst_le l
    rw [avlFirst_cons]
    split
    · simp
    · split
      · simp
      · simp; omega
set_option maxHeartbeats 1000000 in
theorem check14_any (t : BT) : ∀ (T : Tr) (w : World) (p : Value), t.fits T → Beads w p t.enc → t.enc.length ≤ 2000 →
    Calls Tryz.prog 56 #[p] w (Ret (.tuple #[.int .i64 (avlFirst T.pre).1, .int .i64 (avlFirst T.pre).2]) w) := by
  induction t with
  | nil =>
    intro T w p hf hb hl
    obtain ⟨a, c, rfl⟩ := beads_slice hb
    have e : T = .nil := by cases T with | nil => rfl | node => exact hf.elim
    subst e
    rw [show BT.nil.enc.length = 0 from rfl, show avlFirst Tr.nil.pre = (0, 0) from rfl]
    clear hb hl hf
    go_enter Tryz.func56, Tryz.ntmps56
    go_wp2
    go_ret2
    exact ⟨rfl, Ext.refl _⟩
  | node k v s n g l r ihl ihr =>
    intro T w p hf hb hl
    obtain ⟨hfl, hfr, hg, -, -, hpre⟩ := BT.fits_left hf
    have ho := fun (w : World) (hb : Beads w p _) => one14_any w p k v s n g l r T hf hb hl
    have hp := fun (w : World) (hb : Beads w p _) => parts_any w p k v s n g l r hb hl
    have hlen : (BT.node k v s n g l r).enc.length = 1 + l.enc.length + r.enc.length := by simp [BT.enc]; omega
    have hll : l.enc.length ≤ 2000 := by omega
    have hlr : r.enc.length ≤ 2000 := by omega
    have hcl : (avlFirst T.left.pre).1 ≤ l.enc.length := by rw [← BT.fits_len hfl]; exact avlFirst_le _
    have hcr : (avlFirst T.right.pre).1 ≤ r.enc.length := by rw [← BT.fits_len hfr]; exact avlFirst_le _
    have IHl := Lib.hid (ihl T.left)
    have IHr := Lib.hid (ihr T.right)
    have HO := Lib.hid ho
    have HP := Lib.hid hp
    have HF := Lib.hid (And.intro hfl hfr)
    have h1 : 1 ≤ (BT.node k v s n g l r).enc.length := by omega
    have hsl := beads_slice hb
    obtain ⟨A, hA⟩ : ∃ A, A = avlFirst T.pre := ⟨_, rfl⟩
    rw [← hA]
    rw [hpre, avlFirst_cons, avlFirst_append] at hA
    have hnone : (avlFirst T.left.pre).2 = 0 → (avlFirst T.left.pre).1 = T.left.pre.length := fun h => (avlFirst_none h).1
    have HB := Lib.hid hb
    have hone : oneOf T = if avlBadTag T then 140 else if avlBadTree T then 8 else 0 := rfl
    generalize avlFirst T.left.pre = L at *
    generalize avlFirst T.right.pre = R at *
    obtain ⟨Ln, Le⟩ := L
    obtain ⟨Rn, Re⟩ := R
    simp only at hnone hcl hcr hA
    have HLL := Lib.hid hll
    have HLR := Lib.hid hlr
    have hLn : Ln ≤ 2000 := by omega
    have hRn : Rn ≤ 2000 := by omega
    obtain ⟨a, c, rfl⟩ := hsl
    clear hb ihl ihr ho hp hlen hll hlr hcl hcr hpre hg hf hfl hfr
    generalize (BT.node k v s n g l r).enc.length = LL at *
    cases b1 : avlBadTag T with
    | true =>
      rw [b1] at hA hone
      have h140 : oneOf T = 140 := by rw [hone]; rfl
      have HA := Lib.hid hA
      clear hA hone hnone b1
      go_enter Tryz.func56, Tryz.ntmps56
      go_wp2_with fail
      refine (HO.out w HB.out).mono ?_
      rw [h140]
      rintro e w1 ⟨rfl, h1⟩
      go_wp2
      go_ret2
      exact ⟨ret_two (by rw [HA.out]; rfl) (by rw [HA.out]; rfl), h1⟩
    | false =>
      cases b2 : avlBadTree T with
      | true =>
        rw [b1, b2] at hA hone
        have h140 : oneOf T = 8 := by rw [hone]; rfl
        have HA := Lib.hid hA
        clear hA hone hnone b1 b2
        go_enter Tryz.func56, Tryz.ntmps56
        go_wp2_with fail
        refine (HO.out w HB.out).mono ?_
        rw [h140]
        rintro e w1 ⟨rfl, h1⟩
        go_wp2
        go_ret2
        exact ⟨ret_two (by rw [HA.out]; rfl) (by rw [HA.out]; rfl), h1⟩
      | false =>
        rw [b1, b2] at hA hone
        have h140 : oneOf T = 0 := by rw [hone]; rfl
        have HA := Lib.hid hA
        have HNONE := Lib.hid hnone
        clear hA hone hnone b1 b2
        go_enter Tryz.func56, Tryz.ntmps56
        go_wp2_with fail
        refine (HO.out w HB.out).mono ?_
        rw [h140]
        rintro e w1 ⟨rfl, h1⟩
        go_wp2_with fail
        refine (HP.out w1 (HB.out.ext h1)).mono ?_
        rintro e w2 ⟨v1, v2, rfl, hv1, hv2, h2⟩
        have hE2 := (Ext.refl w2).alloc (.cells #[.int .i64 k, .int .i64 v, .int .i64 s, .int .i64 n, .int .u64 g, .bool (!l.isNil), .bool (!r.isNil)] 96)
        have HV1 := Lib.hid (hv1.ext hE2)
        have HV2 := Lib.hid (hv2.ext hE2)
        clear hv1 hv2
        go_wp2_with fail
        refine (IHl.out _ v1 HF.out.1 HV1.out HLL.out).mono ?_
        rintro e w3 ⟨rfl, h3⟩
        by_cases c1 : Le = 0
        · subst c1
          go_wp2_with fail
          refine (IHr.out _ v2 HF.out.2 (HV2.out.ext h3) HLR.out).mono ?_
          rintro e w4 ⟨rfl, h4⟩
          go_wp2
          go_ret2
          exact ⟨ret_two (by rw [HA.out]; have h9 := HNONE.out trivial; simp; omega) (by rw [HA.out]; rfl), (((h1.trans h2).trans hE2).trans h3).trans h4⟩
        · have c1' := bne_iff_ne.2 c1
          go_wp2
          go_ret2
          exact ⟨ret_two (by rw [HA.out]; simp [c1]; omega) (by rw [HA.out]; simp [c1]), ((h1.trans h2).trans hE2).trans h3⟩
end Go.Proofs.YtkkdobolloojjaaGreat
namespace Go.Proofs.YtkkdobolloojjaaGreat
open Go Go.RowKit

theorem avlLean_nil : avlLean .nil = 0 := by decide +kernel
end Go.Proofs.YtkkdobolloojjaaGreat
namespace Go.Proofs.YtkkdobolloojjaaGreat
open Go Go.RowKit

/-- a tree's height, while it is no higher than a bound; -1 else. -/
def heightN : Nat → Tr → Int
  | _, .nil => 0
  | 0, .node .. => -1
  | k + 1, .node _ l _ _ _ r => if heightN k l < 0 ∨ heightN k r < 0 then -1 else 1 + max (heightN k l) (heightN k r)
theorem heightN_le : ∀ (k : Nat) (t : Tr), -1 ≤ heightN k t ∧ heightN k t ≤ k
  | k, .nil => by unfold heightN; omega
  | 0, .node .. => by unfold heightN; omega
  | k + 1, .node b l _ _ _ r => by
    have h1 := heightN_le k l
    have h2 := heightN_le k r
    unfold heightN
    split <;> omega
theorem heightN_ht : ∀ (k : Nat) (t : Tr), t.ht ≤ k → heightN k t = t.ht
  | k, .nil, _ => by unfold heightN; rfl
  | 0, .node .., h => by simp [Tr.ht] at h
  | k + 1, .node b l _ _ _ r, h => by
    rw [Tr.ht] at h
    have h1 := heightN_ht k l (by omega)
    have h2 := heightN_ht k r (by omega)
    unfold heightN
    rw [h1, h2, if_neg (by omega), Tr.ht]
    omega
theorem leastN_step : ∀ k : Nat, leastN k ≤ leastN (k + 1)
  | 0 => by decide
  | k + 1 => by rw [leastN]; omega
theorem leastN_mono {a b : Nat} (h : a ≤ b) : leastN a ≤ leastN b := by
  induction b with
  | zero => obtain rfl : a = 0 := by omega
            exact Nat.le_refl _
  | succ b ih =>
    rcases Nat.lt_or_ge a (b + 1) with h1 | h1
    · exact Nat.le_trans (ih (by omega)) (leastN_step b)
    · obtain rfl : a = b + 1 := by omega
      exact Nat.le_refl _
theorem may_ht : ∀ t : Tr, avlMay t = true → TagsOk t → t.count < 1000000 → t.tag = t.ht ∧ leastN t.ht ≤ t.count ∧ (t ≠ .nil → max t.left.ht t.right.ht ≤ min t.left.ht t.right.ht + 1)
  | .nil, _, _, _ => ⟨rfl, Nat.le_refl _, fun h => (h rfl).elim⟩
  | .node b l k v g r, hm, ho, hc => by
    rw [avlMay_node] at hm
    simp only [Bool.and_eq_true, Bool.not_eq_true'] at hm
    obtain ⟨⟨⟨m1, m2⟩, m3⟩, m4⟩ := hm
    obtain ⟨o1, o2, o3, o4⟩ := ho
    rw [Tr.count_node] at hc
    obtain ⟨l1, l2, -⟩ := may_ht l m3 o3 (by omega)
    obtain ⟨r1, r2, -⟩ := may_ht r m4 o4 (by omega)
    have hl := Tr.ht_count l
    have hr := Tr.ht_count r
    simp only [avlBadTag, Tr.tag_node, Tr.left_node, Tr.right_node, l1, r1, Bool.or_eq_false_iff, beq_eq_false_iff_ne, bne_eq_false_iff_eq] at m1
    simp only [avlBadTree, Tr.left_node, Tr.right_node, l1, r1, decide_eq_false_iff_not] at m2
    have e1 := u64_small (a := g - 1) (by omega) (by omega)
    rw [e1] at m1
    have e2 := u64_small (a := max (l.ht : Int) (r.ht : Int) - min (l.ht : Int) (r.ht : Int)) (by omega) (by omega)
    rw [e2] at m2
    rw [Tr.tag_node, Tr.ht, Tr.count_node, Tr.left_node, Tr.right_node]
    refine ⟨by omega, ?_, fun _ => by omega⟩
    rcases Nat.le_total l.ht r.ht with h | h
    · rw [Nat.max_eq_right h]
      rcases Nat.eq_zero_or_pos r.ht with h0 | h0
      · rw [h0]; show 1 ≤ _; omega
      · obtain ⟨q, hq⟩ : ∃ q, r.ht = q + 1 := ⟨r.ht - 1, by omega⟩
        have := leastN_mono (a := q) (b := l.ht) (by omega)
        rw [hq] at r2 ⊢
        rw [show 1 + (q + 1) = q + 2 by omega, leastN]
        omega
    · rw [Nat.max_eq_left h]
      rcases Nat.eq_zero_or_pos l.ht with h0 | h0
      · rw [h0]; show 1 ≤ _; omega
      · obtain ⟨q, hq⟩ : ∃ q, l.ht = q + 1 := ⟨l.ht - 1, by omega⟩
        have := leastN_mono (a := q) (b := r.ht) (by omega)
        rw [hq] at l2 ⊢
        rw [show 1 + (q + 1) = q + 2 by omega, leastN]
        omega
theorem avlMay_sides : ∀ {t : Tr}, avlMay t = true → avlMay t.left = true ∧ avlMay t.right = true
  | .nil, _ => ⟨rfl, rfl⟩
  | .node b l k v g r, hm => by
    rw [avlMay_node] at hm
    simp only [Bool.and_eq_true] at hm
    exact ⟨hm.1.2, hm.2⟩
theorem avlHigh_law (T : Tr) (hm : avlMay T = true) (ho : TagsOk T) (hc : T.count ≤ 400) :
    ∃ h : Nat, heightN 500 T = h ∧ wrap64 T.tag = h ∧ h ≤ 12 ∧ (leastN h : Int) ≤ T.size ∧ avlMay T.left = true ∧ avlMay T.right = true ∧ -1 ≤ avlLean T ∧ avlLean T ≤ 1 := by
  obtain ⟨h1, h2, h3⟩ := may_ht T hm ho (by omega)
  have h4 := Tr.ht_count T
  have hs : T.size = T.count := by rw [Tr.size_count]; unfold wrap64; omega
  refine ⟨T.ht, heightN_ht 500 T (by omega), ?_, ?_, ?_, (avlMay_sides hm).1, (avlMay_sides hm).2, ?_⟩
  · rw [h1]; unfold wrap64; omega
  · rcases Nat.lt_or_ge 12 T.ht with h | h
    · have := leastN_mono (a := 13) (b := T.ht) h
      have e : leastN 13 = 609 := by decide
      omega
    · exact h
  · rw [hs]; omega
  · cases T with
    | nil => rw [avlLean_nil]; omega
    | node b l k v g r =>
      have h5 := h3 (by simp)
      rw [avlMay_node] at hm
      simp only [Bool.and_eq_true] at hm
      obtain ⟨⟨⟨m1, m2⟩, m3⟩, m4⟩ := hm
      obtain ⟨o1, o2, o3, o4⟩ := ho
      rw [Tr.count_node] at hc
      obtain ⟨l1, -, -⟩ := may_ht l m3 o3 (by omega)
      obtain ⟨r1, -, -⟩ := may_ht r m4 o4 (by omega)
      have hl := Tr.ht_count l
      have hr := Tr.ht_count r
      simp only [Tr.left_node, Tr.right_node] at h5
      have e : ∀ a : Int, -1 ≤ a → a ≤ 1 → -1 ≤ wrap64 (IntKind.u64.wrap a) ∧ wrap64 (IntKind.u64.wrap a) ≤ 1 := by
        intro a ha hb
        have : a = -1 ∨ a = 0 ∨ a = 1 := by omega
        rcases this with rfl | rfl | rfl <;> decide +kernel
      unfold avlLean
      rw [Tr.left_node, Tr.right_node, l1, r1]
      exact e _ (by omega) (by omega)
end Go.Proofs.YtkkdobolloojjaaGreat
