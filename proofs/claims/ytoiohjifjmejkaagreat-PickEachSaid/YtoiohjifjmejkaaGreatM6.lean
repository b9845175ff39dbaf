/- The going over a tree, each node ahead of its sides (avl.beads). The package avl, but for Check and May. avl.beads, as what goes over a tree; avl.Check, avl.May. -/
import Derived.BigQuiet
import Derived.Test.YtoiohjifjmejkaaGreatM3
namespace Go.Proofs.YtoiohjifjmejkaaGreat
open Go Go.RowKit Go.Shelf
attribute [local go_sem] Oper.semAt_some

set_option maxRecDepth 100000 in
set_option maxHeartbeats 2000000 in
theorem avlOn_in (M : Nat → Prop) (Px : Tr → Prop) (l N by_ bo : Nat) (J Jx : List Tr → World → Prop) (hy0 : ¬ M by_) (ho0 : ¬ M bo)
    (hY : ∀ m pre x W, Px x → J pre W → pre.length < N → YieldAt Fence.wide m Tryz.prog l #[.pointer x.ptr] W fun e W' =>
      (e = .returned (.bool true) ∧ J (pre ++ [x]) W' ∧ Keep M W W') ∨ (e = .returned (.bool false) ∧ Jx (pre ++ [x]) W'))
    (hJE : ∀ pre W W', J pre W → Ext W W' → J pre W')
    (T : Tr) :
    ∀ (n : Nat) (pre : List Tr) (W : World), InH W T → Off M T → (∀ x ∈ T.pre, Px x) → J pre W → pre.length + T.pre.length ≤ N →
      Boxed W by_ 104 (.func (.yield l) #[] #[]) → Boxed W bo 104 (.func (.func 140) #[] #[.pointer (some ⟨by_, 0, none⟩), .pointer (some ⟨bo, 0, none⟩)]) →
      CallsIn Fence.wide n Tryz.prog 140 #[.pointer T.ptr, .pointer (some ⟨by_, 0, none⟩), .pointer (some ⟨bo, 0, none⟩)] W fun e W' =>
        (e = .returned (.bool true) ∧ J (pre ++ T.pre) W' ∧ Keep M W W') ∨ (e = .returned (.bool false) ∧ ∃ q, q <+: T.pre ∧ Jx (pre ++ q) W') := by
  have hfn : ∀ f, Fence.wide.fn f := fun _ => trivial
  induction T with
  | nil =>
    intro n pre W _ _ _ hJ _ _ _
    rw [Tr.ptr_nil]
    refine callsIn_of_wp Tryz.func140 rfl trivial ?_ rfl
    simp only [Tryz.ntmps140, List.size_toArray, List.length_cons, List.length_nil, Nat.reduceAdd, Nat.reduceSub, Array.replicate_succ, Array.replicate_zero, List.push_toArray, List.append_toArray, List.nil_append, List.cons_append]
    gi_wp2_with fail
    refine wpIn_region_G (fun j => !(List.contains (α := Nat) [5, 10, 16] j)) (by kernel_rfl) ?_
    refine batchG hfn (fuel := 15) [0, 1, 2, 3, 4] (by kernel_rfl) rfl ?_
    repeat (go_big_quiet_step ((fail)))
    refine wpQuiet_nil ?_
    refine wpAnyG_skip hfn (j := 5) (by kernel_rfl) rfl rfl ?_
    simp only [Act.put, List.setIfInBounds_toArray, List.set_cons_zero, List.set_cons_succ]
    refine batchG hfn (fuel := 11) [6, 7, 8] (by kernel_rfl) rfl ?_
    repeat (go_big_quiet_step ((fail)))
    refine wpQuiet_nil ?_
    refine wpAnyG_skip hfn (j := 9) (by kernel_rfl) rfl rfl ?_
    simp only [Act.put, List.setIfInBounds_toArray, List.set_cons_zero, List.set_cons_succ]
    refine wpAnyG_skip hfn (j := 10) (by kernel_rfl) rfl rfl ?_
    simp only [Act.put, List.setIfInBounds_toArray, List.set_cons_zero, List.set_cons_succ]
    refine batchG hfn (fuel := 5) [11, 12, 13, 14] (by kernel_rfl) rfl ?_
    repeat (go_big_quiet_step ((fail)))
    refine wpQuiet_nil ?_
    refine wpAnyG_skip hfn (j := 15) (by kernel_rfl) rfl rfl ?_
    simp only [Act.put, List.setIfInBounds_toArray, List.set_cons_zero, List.set_cons_succ]
    refine wpAnyG_skip hfn (j := 16) (by kernel_rfl) rfl rfl ?_
    simp only [Act.put, List.setIfInBounds_toArray, List.set_cons_zero, List.set_cons_succ]
    refine batchG hfn (fuel := 0) [17, 18, 19] (by kernel_rfl) rfl ?_
    repeat (go_big_quiet_step ((fail)))
    refine wpQuiet_nil ?_
    refine wpAnyG_done (by kernel_rfl) ?_
    refine calmQ_normal ?_
    gi_wp2
    go_ret
    exact .inl ⟨rfl, by simpa [Tr.pre] using hJE _ _ _ hJ (Ext.drew W), Keep.drew W⟩
  | node b tl k v g tr ihl ihr =>
    intro n pre W ht ho hP hJ hN hy hbo
    simp only [Tr.pre, List.length_cons, List.length_append] at hN
    have hY1 := hY n pre (.node b tl k v g tr) W.drew (hP _ (List.mem_cons_self ..)) (hJE _ _ _ hJ (Ext.drew W)) (by omega)
    rw [Tr.ptr_node] at hY1
    have Hl := Lib.hid ihl
    have Hr := Lib.hid ihr
    clear ihl ihr hY
    have HP := Lib.hid hP
    clear hP
    have hcy := cell_all hy.cell
    have hx0 := Ext.drew W
    obtain ⟨fn, tmps, assign, body, hy1, hR⟩ := hY1
    have HR := Lib.hid hR
    clear hR
    rw [Tr.ptr_node]
    refine callsIn_of_wp Tryz.func140 rfl trivial ?_ rfl
    simp only [Tryz.ntmps140, List.size_toArray, List.length_cons, List.length_nil, Nat.reduceAdd, Nat.reduceSub, Array.replicate_succ, Array.replicate_zero, List.push_toArray, List.append_toArray, List.nil_append, List.cons_append]
    gi_wp2_with fail
    refine wpIn_region_G (fun j => !(List.contains (α := Nat) [5, 10, 16] j)) (by kernel_rfl) ?_
    refine batchG hfn (fuel := 15) [0, 1, 2, 3, 4] (by kernel_rfl) rfl ?_
    repeat (go_big_quiet_step ((fail)))
    refine wpQuiet_nil ?_
    refine wpAnyG_one (j := 5) (by kernel_rfl) rfl ?_
    gi_wp2_with fail
    clear hcy hx0 hy1
    refine ⟨wide_room _, (RoundIn.any HR.out).mono ?_⟩
    rintro e W1 (⟨rfl, hJ1, hk1⟩ | ⟨rfl, hJx1⟩)
    · have hk01 := (Keep.drew (M := M) W).trans hk1
      have ht1 := InH.keep hk01 ho ht
      have hy1 := hk01.boxed hy0 hy
      have hb1 := hk01.boxed ho0 hbo
      clear hy hbo ht hJ hk1
      have hco := cell_all hb1.cell
      have hx1 := Ext.refl W1
      gi_wp2_with fail
      refine onePost_any (by kernel_rfl) ?_
      refine batchG hfn (fuel := 11) [6, 7, 8] (by kernel_rfl) rfl ?_
      repeat (go_big_quiet_step ((fail)))
      refine wpQuiet_nil ?_
      refine wpAnyG_one (j := 9) (by kernel_rfl) rfl ?_
      gi_wp2_with fail
      rw [← Tr.ptr_node b tl k v g tr]
      clear hco hx1
      refine ⟨wide_room _, (callsIn_wide.2 (left_any _ _ ht1)).mono ?_⟩
      rintro e W2 ⟨rfl, h2⟩
      gi_wp2_with fail
      refine onePost_ext (h2) ?_
      refine wpAnyG_one (j := 10) (by kernel_rfl) rfl ?_
      gi_wp2_with fail
      simp only [Tr.left_node]
      have ht2 := ht1.ext h2
      have hb2 := (Keep.ext (M := M) h2).boxed ho0 hb1
      have hy2 := (Keep.ext (M := M) h2).boxed hy0 hy1
      have hJ2 := hJE _ _ _ hJ1 h2
      have hk02 := hk01.trans (Keep.ext h2)
      clear ht1 hb1 hy1 hJ1 hk01
      refine ⟨wide_room _, (Hl.out (n - 1) _ W2 ht2.2.1 ho.2.1 (fun x hx => HP.out x (List.mem_cons_of_mem _ (List.mem_append_left _ hx))) hJ2 (by simp; omega) hy2 hb2).mono ?_⟩
      rintro e W3 (⟨rfl, hJ3, hk3⟩ | ⟨rfl, q, hq, hJx3⟩)
      · have ht3 := InH.keep hk3 ho ht2
        have hy3 := hk3.boxed hy0 hy2
        have hb3 := hk3.boxed ho0 hb2
        have hk03 := hk02.trans hk3
        clear hk3 hk02 hJ2 hb2 hy2 ht2
        have hco := cell_all hb3.cell
        have hx3 := Ext.refl W3
        gi_wp2_with fail
        refine onePost_any (by kernel_rfl) ?_
        refine batchG hfn (fuel := 5) [11, 12, 13, 14] (by kernel_rfl) rfl ?_
        repeat (go_big_quiet_step ((fail)))
        refine wpQuiet_nil ?_
        refine wpAnyG_one (j := 15) (by kernel_rfl) rfl ?_
        gi_wp2_with fail
        clear hco hx3
        refine ⟨wide_room _, (callsIn_wide.2 (right_any _ _ ht3)).mono ?_⟩
        rintro e W4 ⟨rfl, h4⟩
        gi_wp2_with fail
        refine onePost_ext (h4) ?_
        refine wpAnyG_one (j := 16) (by kernel_rfl) rfl ?_
        gi_wp2_with fail
        simp only [Tr.right_node]
        have ht4 := ht3.ext h4
        have hb4 := (Keep.ext (M := M) h4).boxed ho0 hb3
        have hy4 := (Keep.ext (M := M) h4).boxed hy0 hy3
        have hJ4 := hJE _ _ _ hJ3 h4
        have hk04 := hk03.trans (Keep.ext h4)
        clear ht3 hb3 hy3 hJ3 hk03
        refine ⟨wide_room _, (Hr.out (n - 1) _ W4 ht4.2.2 ho.2.2 (fun x hx => HP.out x (List.mem_cons_of_mem _ (List.mem_append_right _ hx))) hJ4 (by simp; omega) hy4 hb4).mono ?_⟩
        rintro e W5 (⟨rfl, hJ5, hk5⟩ | ⟨rfl, q, hq, hJx5⟩)
        · gi_wp2_with fail
          refine onePost_any (by kernel_rfl) ?_
          refine batchG hfn (fuel := 0) [17, 18, 19] (by kernel_rfl) rfl ?_
          repeat (go_big_quiet_step ((fail)))
          refine wpQuiet_nil ?_
          refine wpAnyG_done (by kernel_rfl) ?_
          refine calmQ_normal ?_
          gi_wp2
          go_ret
          exact .inl ⟨rfl, by simpa [Tr.pre, List.append_assoc] using hJ5, hk04.trans hk5⟩
        · gi_wp2_with fail
          refine onePost_any (by kernel_rfl) ?_
          refine batchG hfn (fuel := 0) [17, 18, 19] (by kernel_rfl) rfl ?_
          repeat (go_big_quiet_step ((fail)))
          refine wpQuiet_nil ?_
          refine wpAnyG_done (by kernel_rfl) ?_
          refine calmQ_normal ?_
          gi_wp2
          go_ret
          obtain ⟨r', hr'⟩ := hq
          exact .inr ⟨rfl, .node b tl k v g tr :: (tl.pre ++ q), ⟨r', by simp [Tr.pre, ← hr']⟩, by simpa [List.append_assoc] using hJx5⟩
      · gi_wp2_with fail
        refine onePost_any (by kernel_rfl) ?_
        refine batchG hfn (fuel := 5) [11, 12, 13, 14] (by kernel_rfl) rfl ?_
        repeat (go_big_quiet_step ((fail)))
        refine wpQuiet_nil ?_
        refine wpAnyG_skip hfn (j := 15) (by kernel_rfl) rfl rfl ?_
        simp only [Act.put, List.setIfInBounds_toArray, List.set_cons_zero, List.set_cons_succ]
        refine wpAnyG_skip hfn (j := 16) (by kernel_rfl) rfl rfl ?_
        simp only [Act.put, List.setIfInBounds_toArray, List.set_cons_zero, List.set_cons_succ]
        refine batchG hfn (fuel := 0) [17, 18, 19] (by kernel_rfl) rfl ?_
        repeat (go_big_quiet_step ((fail)))
        refine wpQuiet_nil ?_
        refine wpAnyG_done (by kernel_rfl) ?_
        refine calmQ_normal ?_
        gi_wp2
        go_ret
        obtain ⟨r', hr'⟩ := hq
        exact .inr ⟨rfl, .node b tl k v g tr :: q, ⟨r' ++ tr.pre, by simp [Tr.pre, ← hr']⟩, by simpa [List.append_assoc] using hJx3⟩
    · gi_wp2_with fail
      refine onePost_any (by kernel_rfl) ?_
      refine batchG hfn (fuel := 11) [6, 7, 8] (by kernel_rfl) rfl ?_
      repeat (go_big_quiet_step ((fail)))
      refine wpQuiet_nil ?_
      refine wpAnyG_skip hfn (j := 9) (by kernel_rfl) rfl rfl ?_
      simp only [Act.put, List.setIfInBounds_toArray, List.set_cons_zero, List.set_cons_succ]
      refine wpAnyG_skip hfn (j := 10) (by kernel_rfl) rfl rfl ?_
      simp only [Act.put, List.setIfInBounds_toArray, List.set_cons_zero, List.set_cons_succ]
      refine batchG hfn (fuel := 5) [11, 12, 13, 14] (by kernel_rfl) rfl ?_
      repeat (go_big_quiet_step ((fail)))
      refine wpQuiet_nil ?_
      refine wpAnyG_skip hfn (j := 15) (by kernel_rfl) rfl rfl ?_
      simp only [Act.put, List.setIfInBounds_toArray, List.set_cons_zero, List.set_cons_succ]
      refine wpAnyG_skip hfn (j := 16) (by kernel_rfl) rfl rfl ?_
      simp only [Act.put, List.setIfInBounds_toArray, List.set_cons_zero, List.set_cons_succ]
      refine batchG hfn (fuel := 0) [17, 18, 19] (by kernel_rfl) rfl ?_
      repeat (go_big_quiet_step ((fail)))
      refine wpQuiet_nil ?_
      refine wpAnyG_done (by kernel_rfl) ?_
      refine calmQ_normal ?_
      gi_wp2
      go_ret
      exact .inr ⟨rfl, [.node b tl k v g tr], ⟨tl.pre ++ tr.pre, rfl⟩, hJx1⟩
end Go.Proofs.YtoiohjifjmejkaaGreat
namespace Go.Proofs.YtoiohjifjmejkaaGreat
open Go Go.RowKit

/-- the tag of a node that is made of two. -/
def avlTag (l r : Tr) : Int := IntKind.u64.wrap (max l.tag r.tag + 1)
theorem avlTag_left {l r : Tr} (h : r.tag ≤ l.tag) : IntKind.u64.wrap (l.tag + 1) = avlTag l r := by unfold avlTag; rw [Int.max_eq_left h]
theorem avlTag_right {l r : Tr} (h : ¬ r.tag ≤ l.tag) : IntKind.u64.wrap (r.tag + 1) = avlTag l r := by unfold avlTag; rw [Int.max_eq_right (by omega)]
set_option maxHeartbeats 400000 in
theorem avlMake_any (w : World) (l r : Tr) (k v : Int) (hl : InH w l) (hr : InH w r) : Calls Tryz.prog 107 #[.pointer l.ptr, .int .i64 k, .int .i64 v, .pointer r.ptr] w (New l k v (avlTag l r) r w) := by
  go_enter Tryz.func107, Tryz.ntmps107
  go_wp2_with fail
  refine (tag_any _ l hl).mono ?_
  rintro e w1 ⟨rfl, h1⟩
  go_wp2_with fail
  refine (tag_any _ r (hr.ext h1)).mono ?_
  rintro e w2 ⟨rfl, h2⟩
  have h := h1.trans h2
  by_cases hc : r.tag ≤ l.tag
  · have e := avlTag_left hc
    have hE := Lib.hid e
    clear e
    go_wp2_with fail
    rw [hE.out]
    refine (new_any _ l r k v _ (hl.ext h) (hr.ext h)).mono ?_
    rintro e w3 ⟨b, rfl, hb, ht, h3⟩
    go_wp2
    go_ret
    exact ⟨b, rfl, Nat.le_trans h.size hb, ht, h.trans h3⟩
  · have e := avlTag_right hc
    have hE := Lib.hid e
    clear e
    go_wp2_with fail
    rw [hE.out]
    refine (new_any _ l r k v _ (hl.ext h) (hr.ext h)).mono ?_
    rintro e w3 ⟨b, rfl, hb, ht, h3⟩
    go_wp2
    go_ret
    exact ⟨b, rfl, Nat.le_trans h.size hb, ht, h.trans h3⟩
set_option maxHeartbeats 400000 in
theorem avlRank_any (w : World) (t : Tr) (ht : InH w t) : Calls Tryz.prog 72 #[.pointer t.ptr] w (Ret (.int .i64 (wrap64 t.tag)) w) := by
  go_enter Tryz.func72, Tryz.ntmps72
  go_wp2_with fail
  refine (tag_any _ t ht).mono ?_
  rintro e w1 ⟨rfl, h1⟩
  go_wp2
  go_ret
  exact Ret.mk h1
/-- by how much a tree is higher on the right. -/
def avlLean (t : Tr) : Int := wrap64 (IntKind.u64.wrap (t.right.tag - t.left.tag))
end Go.Proofs.YtoiohjifjmejkaaGreat
namespace Go.Proofs.YtoiohjifjmejkaaGreat
open Go Go.RowKit Go.Shelf
attribute [local go_sem] Oper.semAt_some

theorem ext_of_abides {β : Type} {B : Nat} {J : β → World → Prop} (hJ : AbidesFrom B J) {s : β} {W W' : World} (h : J s W) (hE : Ext W W') : J s W' :=
  hJ s W W' none h ⟨hE.os, hE.tape, hE.output, Below.size hE, fun k hk _ => Below.block hE k hk⟩ (fun r e => by cases e)
theorem inH_pre {w : World} : ∀ {t : Tr}, InH w t → ∀ x ∈ t.pre, InH w x
  | .nil, _, _, hx => by simp [Tr.pre] at hx
  | .node b l k v g r, h, x, hx => by
    simp only [Tr.pre, List.mem_cons, List.mem_append] at hx
    rcases hx with rfl | hx | hx
    · exact h
    · exact inH_pre h.2.1 x hx
    · exact inH_pre h.2.2 x hx
/-- lists of what has a property, as lists. -/
def Under {Px : Tr → Prop} (J : List { x : Tr // Px x } → World → Prop) (l : List Tr) (W : World) : Prop := ∃ l' : List { x : Tr // Px x }, l'.map (·.1) = l ∧ J l' W
set_option maxHeartbeats 1000000 in
/-- **avl.beads(t) hands back what goes over t's nodes, each ahead of its sides.** -/
theorem avlBeads_stops (M : Nat → Prop) (Px : Tr → Prop) (n Bt : Nat) (T : Tr) (w : World) (hM : ∀ i, M i → i < w.heap.size) (hBt : Boxed w Bt 31 (.pointer T.ptr)) (hT : InH w T) (ho : Off M T) (hP : ∀ x ∈ T.pre, Px x) :
    SeqStopsK Fence.wide n Tryz.prog 139 #[.pointer (some ⟨Bt, 0, none⟩)] (fun x : { x : Tr // Px x } => #[Value.pointer x.1.ptr]) (Keep M) (fun ys => ys.map (·.1) = T.pre) (fun q => q.map (·.1) <+: T.pre) T.pre.length w := by
  intro l J Jx W hW hJ hJx hY h0
  have hsz : w.heap.size ≤ W.heap.size := hW.size
  have hE : Ext w W := hW
  have hW2 : Ext W ((W.alloc (.cells #[.func (.yield l) #[] #[]] 104)).alloc (.cells #[.func (.func 140) #[] #[.pointer (some ⟨W.heap.size, 0, none⟩), .pointer (some ⟨W.heap.size + 1, 0, none⟩)]] 104)) := ((Ext.refl W).alloc _).alloc _
  have hon := (avlOn_in M Px l T.pre.length W.heap.size (W.heap.size + 1) (Under J) (Under Jx) (fun h => by have := hM _ h; omega) (fun h => by have := hM _ h; omega)
    (fun m pre x W hx ⟨l', hl', hj⟩ hl => YieldAt.any m (YieldAt.mono (hY l' ⟨x, hx⟩ W hj (by rw [← hl'] at hl; simpa using hl)) fun e W' h => h.elim
      (fun ⟨he, h1, h2⟩ => .inl ⟨he, ⟨l' ++ [⟨x, hx⟩], by simp [hl'], h1⟩, h2⟩) (fun ⟨he, h1⟩ => .inr ⟨he, ⟨l' ++ [⟨x, hx⟩], by simp [hl'], h1⟩⟩)))
    (fun pre W W' ⟨l', hl', h⟩ hE => ⟨l', hl', ext_of_abides hJ h hE⟩) T (n - 1) [] _ ((hT.ext hE).ext hW2) ho hP ⟨[], rfl, ext_of_abides hJ h0 hW2⟩ (by simp)
    ((Boxed.new W _ _).alloc _) (by have := Boxed.new (W.alloc (.cells #[.func (.yield l) #[] #[]] 104)) 104 (.func (.func 140) #[] #[.pointer (some ⟨W.heap.size, 0, none⟩), .pointer (some ⟨W.heap.size + 1, 0, none⟩)]); simpa using this))
  have Hon := Lib.hid hon
  clear hon hY hP
  have hcb := (show Boxed W Bt _ _ from hE.get hBt).cell
  have hlb := (show Boxed W Bt _ _ from hE.get hBt).lt
  have hfn : ∀ f, Fence.wide.fn f := fun _ => trivial
  refine callsIn_of_wp Tryz.func139 rfl trivial ?_ rfl
  simp only [Tryz.ntmps139, List.size_toArray, List.length_cons, List.length_nil, Nat.reduceAdd, Nat.reduceSub, Array.replicate_succ, Array.replicate_zero, List.push_toArray, List.append_toArray, List.nil_append, List.cons_append]
  gi_wp2_with fail
  refine ⟨wide_room _, Hon.out.mono ?_⟩
  rintro e W1 (⟨rfl, ⟨l', hl', hJ1⟩, -⟩ | ⟨rfl, q, hq, l', hl', hJ1⟩)
  · gi_wp2
    go_end0
    exact ⟨⟨_, rfl⟩, .inl ⟨_, by simpa using hl', hJ1⟩⟩
  · gi_wp2
    go_end0
    exact ⟨⟨_, rfl⟩, .inr ⟨l', by rw [hl']; simpa using hq, hJ1⟩⟩
theorem avlBeads_any (w : World) (p : Option Addr) : Calls Tryz.prog 112 #[.pointer p] w fun e w' => e = .returned (.func (.func 139) #[] #[.pointer (some ⟨w.heap.size, 0, none⟩)]) ∧ w' = w.alloc (.cells #[.pointer p] 31) := by
  go_enter Tryz.func112, Tryz.ntmps112
  go_wp2
  go_ret
  exact ⟨rfl, rfl⟩
/-- what avl.looks lays into memory. -/
def looksW (w : World) : World := (w.alloc (.cells #[.func (.func 136) #[] #[]] 179)).alloc
  (.cells #[.func (.func 137) #[] #[.pointer (some ⟨w.heap.size, 0, none⟩)], .int .i64 140, .func (.func 138) #[] #[.pointer (some ⟨w.heap.size, 0, none⟩)], .int .i64 8] 167)
set_option maxHeartbeats 400000 in
theorem looks_any (w : World) : Calls Tryz.prog 111 #[] w fun e w' => e = .returned (.slice (some ⟨w.heap.size + 1, 0, none⟩) 2 2) ∧ w' = looksW w := by
  go_enter Tryz.func111, Tryz.ntmps111
  go_wp2
  go_ret
  exact ⟨rfl, rfl⟩
set_option maxHeartbeats 400000 in
theorem tags_any (w : World) (t : Tr) (ht : InH w t) : Calls Tryz.prog 136 #[.pointer t.ptr] w (Ret (.tuple #[.int .u64 (min t.left.tag t.right.tag), .int .u64 (max t.left.tag t.right.tag)]) w) := by
  go_enter Tryz.func136, Tryz.ntmps136
  go_wp2_with fail
  refine (left_any _ t ht).mono ?_
  rintro e w1 ⟨rfl, h1⟩
  go_wp2_with fail
  refine (tag_any _ _ ((left_ok ht).ext h1)).mono ?_
  rintro e w2 ⟨rfl, h2⟩
  have h12 := h1.trans h2
  go_wp2_with fail
  refine (right_any _ t (ht.ext h12)).mono ?_
  rintro e w3 ⟨rfl, h3⟩
  go_wp2_with fail
  refine (tag_any _ _ ((right_ok ht).ext (h12.trans h3))).mono ?_
  rintro e w4 ⟨rfl, h4⟩
  have hE := (h12.trans h3).trans h4
  go_wp2
  all_goals
    go_ret2
    exact ⟨ret_two (by omega) (by omega), hE⟩
/-- the first thing that may be wrong with a node. -/
def avlBadTag (t : Tr) : Bool := t.tag == 0 || IntKind.u64.wrap (t.tag - 1) != max t.left.tag t.right.tag
/-- the second one. -/
def avlBadTree (t : Tr) : Bool := decide (1 < IntKind.u64.wrap (max t.left.tag t.right.tag - min t.left.tag t.right.tag))
set_option maxHeartbeats 400000 in
theorem wrong1_any (w : World) (t : Tr) (B : Nat) (ht : InH w t) (hB : Boxed w B 179 (.func (.func 136) #[] #[])) : Calls Tryz.prog 137 #[.pointer t.ptr, .pointer (some ⟨B, 0, none⟩)] w (Ret (.bool (avlBadTag t)) w) := by
  have hc := hB.cell
  go_enter Tryz.func137, Tryz.ntmps137
  go_wp2_with fail
  refine (tags_any _ t ht).mono ?_
  rintro e w1 ⟨rfl, h1⟩
  go_wp2_with fail
  refine (tag_any _ t (ht.ext h1)).mono ?_
  rintro e w2 ⟨rfl, h2⟩
  have h := h1.trans h2
  clear hc
  by_cases h0 : t.tag = 0
  · have e := beq_iff_eq.2 h0
    clear h0
    have hE := Lib.hid e
    go_wp2
    go_ret
    exact ⟨ret_bool (by simp [avlBadTag, hE.out]), h⟩
  · have e := beq_eq_false_iff_ne.2 h0
    have hE := Lib.hid e
    clear h0
    go_wp2_with fail
    refine (tag_any _ t (ht.ext h)).mono ?_
    rintro e w3 ⟨rfl, h3⟩
    go_wp2
    go_ret
    exact ⟨ret_bool (by simp [avlBadTag, hE.out]), h.trans h3⟩
set_option maxHeartbeats 400000 in
theorem wrong2_any (w : World) (t : Tr) (B : Nat) (ht : InH w t) (hB : Boxed w B 179 (.func (.func 136) #[] #[])) : Calls Tryz.prog 138 #[.pointer t.ptr, .pointer (some ⟨B, 0, none⟩)] w (Ret (.bool (avlBadTree t)) w) := by
  have hc := hB.cell
  go_enter Tryz.func138, Tryz.ntmps138
  go_wp2_with fail
  refine (tags_any _ t ht).mono ?_
  rintro e w1 ⟨rfl, h1⟩
  go_wp2
  go_ret
  exact ⟨ret_bool (by simp [avlBadTree]), h1⟩
end Go.Proofs.YtoiohjifjmejkaaGreat
