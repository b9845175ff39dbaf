/- The going over a tree, each node ahead of its sides, and what is wrong with it (rb.wrong). -/
import Derived.Test.YthkbmedfccoliaaRbOne
import Derived.Test.YthkbmedfccoliaaFirst
import Derived.Test.YthkbmedfccoliaaDraw
import Derived.BigQuiet
namespace Go.Proofs.Ythkbmedfccoliaa
open Go Go.RowKit Go.Shelf
attribute [local go_sem] Oper.semAt_some

set_option maxRecDepth 100000 in
set_option maxHeartbeats 2000000 in
theorem rbOn_in (M : Nat → Prop) (Px : Tr → Prop) (l N by_ bo : Nat) (J Jx : List Tr → World → Prop) (hy0 : ¬ M by_) (ho0 : ¬ M bo)
    (hY : ∀ m pre x W, Px x → J pre W → pre.length < N → YieldAt Fence.wide m Try.prog l #[.int .i64 (rbOne x)] W fun e W' =>
      (e = .returned (.bool true) ∧ J (pre ++ [x]) W' ∧ Keep M W W') ∨ (e = .returned (.bool false) ∧ Jx (pre ++ [x]) W'))
    (hJE : ∀ pre W W', J pre W → Ext W W' → J pre W')
    (T : Tr) :
    ∀ (n : Nat) (pre : List Tr) (W : World), InH W T → TagsOk T → Off M T → (∀ x ∈ T.pre, Px x) → J pre W → pre.length + T.pre.length ≤ N →
      Boxed W by_ 98 (.func (.yield l) #[] #[]) → Boxed W bo 39 (.func (.func 64) #[] #[.pointer (some ⟨by_, 0, none⟩), .pointer (some ⟨bo, 0, none⟩)]) →
      CallsIn Fence.wide n Try.prog 64 #[.pointer T.ptr, .pointer (some ⟨by_, 0, none⟩), .pointer (some ⟨bo, 0, none⟩)] W fun e W' =>
        (e = .returned (.bool true) ∧ J (pre ++ T.pre) W' ∧ Keep M W W') ∨ (e = .returned (.bool false) ∧ ∃ q, q <+: T.pre ∧ Jx (pre ++ q) W') := by
  have hfn : ∀ f, Fence.wide.fn f := fun _ => trivial
  induction T with
  | nil =>
    intro n pre W _ _ _ _ hJ _ _ _
    rw [Tr.ptr_nil]
    refine callsIn_of_wp Try.func64 rfl trivial ?_ rfl
    simp only [Try.ntmps64, List.size_toArray, List.length_cons, List.length_nil, Nat.reduceAdd, Nat.reduceSub, Array.replicate_succ, Array.replicate_zero, List.push_toArray, List.append_toArray, List.nil_append, List.cons_append]
    gi_wp2_with fail
    refine wpIn_region_G (fun j => !(List.contains (α := Nat) [6, 11, 17] j)) (by kernel_rfl) ?_
    refine batchG hfn (fuel := 16) [0, 1, 2, 3, 4] (by kernel_rfl) rfl ?_
    repeat (go_big_quiet_step ((fail)))
    refine wpQuiet_nil ?_
    refine wpAnyG_skip hfn (j := 5) (by kernel_rfl) rfl rfl ?_
    simp only [Act.put, List.setIfInBounds_toArray, List.set_cons_zero, List.set_cons_succ]
    refine wpAnyG_skip hfn (j := 6) (by kernel_rfl) rfl rfl ?_
    simp only [Act.put, List.setIfInBounds_toArray, List.set_cons_zero, List.set_cons_succ]
    refine batchG hfn (fuel := 11) [7, 8, 9] (by kernel_rfl) rfl ?_
    repeat (go_big_quiet_step ((fail)))
    refine wpQuiet_nil ?_
    refine wpAnyG_skip hfn (j := 10) (by kernel_rfl) rfl rfl ?_
    simp only [Act.put, List.setIfInBounds_toArray, List.set_cons_zero, List.set_cons_succ]
    refine wpAnyG_skip hfn (j := 11) (by kernel_rfl) rfl rfl ?_
    simp only [Act.put, List.setIfInBounds_toArray, List.set_cons_zero, List.set_cons_succ]
    refine batchG hfn (fuel := 5) [12, 13, 14, 15] (by kernel_rfl) rfl ?_
    repeat (go_big_quiet_step ((fail)))
    refine wpQuiet_nil ?_
    refine wpAnyG_skip hfn (j := 16) (by kernel_rfl) rfl rfl ?_
    simp only [Act.put, List.setIfInBounds_toArray, List.set_cons_zero, List.set_cons_succ]
    refine wpAnyG_skip hfn (j := 17) (by kernel_rfl) rfl rfl ?_
    simp only [Act.put, List.setIfInBounds_toArray, List.set_cons_zero, List.set_cons_succ]
    refine batchG hfn (fuel := 0) [18, 19, 20] (by kernel_rfl) rfl ?_
    repeat (go_big_quiet_step ((fail)))
    refine wpQuiet_nil ?_
    refine wpAnyG_done (by kernel_rfl) ?_
    refine calmQ_normal ?_
    gi_wp2
    go_ret
    exact .inl ⟨rfl, by simpa [Tr.pre] using hJE _ _ _ hJ (Ext.drew W), Keep.drew W⟩
  | node b tl k v g tr ihl ihr =>
    intro n pre W ht hto ho hP hJ hN hy hbo
    simp only [Tr.pre, List.length_cons, List.length_append] at hN
    have Hl := Lib.hid ihl
    have Hr := Lib.hid ihr
    clear ihl ihr
    have HP := Lib.hid hP
    clear hP
    have hcy := cell_all hy.cell
    have hx0 := Ext.drew W
    rw [Tr.ptr_node]
    refine callsIn_of_wp Try.func64 rfl trivial ?_ rfl
    simp only [Try.ntmps64, List.size_toArray, List.length_cons, List.length_nil, Nat.reduceAdd, Nat.reduceSub, Array.replicate_succ, Array.replicate_zero, List.push_toArray, List.append_toArray, List.nil_append, List.cons_append]
    gi_wp2_with fail
    refine wpIn_region_G (fun j => !(List.contains (α := Nat) [6, 11, 17] j)) (by kernel_rfl) ?_
    refine batchG hfn (fuel := 16) [0, 1, 2, 3, 4] (by kernel_rfl) rfl ?_
    repeat (go_big_quiet_step ((fail)))
    refine wpQuiet_nil ?_
    clear hcy
    refine wpAnyG_one (j := 5) (by kernel_rfl) rfl ?_
    gi_wp2_with fail
    refine ⟨wide_room _, (callsIn_wide.2 (rbOne_any _ (.node b tl k v g tr) (ht.ext hx0) hto)).mono ?_⟩
    rintro e W0 ⟨rfl, h0⟩
    gi_wp2_with fail
    refine onePost_ext (h0) ?_
    have h00 := hx0.trans h0
    obtain ⟨fn, tmps, assign, body, hy1, hR⟩ := hY n pre (.node b tl k v g tr) W0 (HP.out _ (List.mem_cons_self ..)) (hJE _ _ _ hJ h00) (by omega)
    have HR := Lib.hid hR
    clear hR hY
    refine wpAnyG_one (j := 6) (by kernel_rfl) rfl ?_
    gi_wp2_with fail
    clear hy1
    refine ⟨wide_room _, (RoundIn.any HR.out).mono ?_⟩
    rintro e W1 (⟨rfl, hJ1, hk1⟩ | ⟨rfl, hJx1⟩)
    · have hk01 := (Keep.ext (M := M) h00).trans hk1
      have ht1 := InH.keep hk01 ho ht
      have hy1 := hk01.boxed hy0 hy
      have hb1 := hk01.boxed ho0 hbo
      clear hy hbo ht hJ hk1
      have hco := cell_all hb1.cell
      have hx1 := Ext.refl W1
      gi_wp2_with fail
      refine onePost_any (by kernel_rfl) ?_
      refine batchG hfn (fuel := 11) [7, 8, 9] (by kernel_rfl) rfl ?_
      repeat (go_big_quiet_step ((fail)))
      refine wpQuiet_nil ?_
      refine wpAnyG_one (j := 10) (by kernel_rfl) rfl ?_
      gi_wp2_with fail
      rw [← Tr.ptr_node b tl k v g tr]
      clear hco hx1
      refine ⟨wide_room _, (callsIn_wide.2 (left_any _ _ ht1)).mono ?_⟩
      rintro e W2 ⟨rfl, h2⟩
      gi_wp2_with fail
      refine onePost_ext (h2) ?_
      refine wpAnyG_one (j := 11) (by kernel_rfl) rfl ?_
      gi_wp2_with fail
      simp only [Tr.left_node]
      have ht2 := ht1.ext h2
      have hb2 := (Keep.ext (M := M) h2).boxed ho0 hb1
      have hy2 := (Keep.ext (M := M) h2).boxed hy0 hy1
      have hJ2 := hJE _ _ _ hJ1 h2
      have hk02 := hk01.trans (Keep.ext h2)
      clear ht1 hb1 hy1 hJ1 hk01
      refine ⟨wide_room _, (Hl.out (n - 1) _ W2 ht2.2.1 hto.2.2.1 ho.2.1 (fun x hx => HP.out x (List.mem_cons_of_mem _ (List.mem_append_left _ hx))) hJ2 (by simp; omega) hy2 hb2).mono ?_⟩
      rintro e W3 (⟨rfl, hJ3, hk3⟩ | ⟨rfl, q, hq, hJx3⟩)
      · have ht3 := InH.keep hk3 ho ht2
        have hy3 := hk3.boxed hy0 hy2
        have hb3 := hk3.boxed ho0 hb2
        have hk03 := hk02.trans hk3
        clear hk3 hk02 hJ2 hb2 hy2 ht2
        have hco := cell_all hb3.cell
        have hx3 := Ext.refl W3
        gi_wp2_with fail
        refine onePost_any (by kernel_rfl) ?_
        refine batchG hfn (fuel := 5) [12, 13, 14, 15] (by kernel_rfl) rfl ?_
        repeat (go_big_quiet_step ((fail)))
        refine wpQuiet_nil ?_
        refine wpAnyG_one (j := 16) (by kernel_rfl) rfl ?_
        gi_wp2_with fail
        clear hco hx3
        refine ⟨wide_room _, (callsIn_wide.2 (right_any _ _ ht3)).mono ?_⟩
        rintro e W4 ⟨rfl, h4⟩
        gi_wp2_with fail
        refine onePost_ext (h4) ?_
        refine wpAnyG_one (j := 17) (by kernel_rfl) rfl ?_
        gi_wp2_with fail
        simp only [Tr.right_node]
        have ht4 := ht3.ext h4
        have hb4 := (Keep.ext (M := M) h4).boxed ho0 hb3
        have hy4 := (Keep.ext (M := M) h4).boxed hy0 hy3
        have hJ4 := hJE _ _ _ hJ3 h4
        have hk04 := hk03.trans (Keep.ext h4)
        clear ht3 hb3 hy3 hJ3 hk03
        refine ⟨wide_room _, (Hr.out (n - 1) _ W4 ht4.2.2 hto.2.2.2 ho.2.2 (fun x hx => HP.out x (List.mem_cons_of_mem _ (List.mem_append_right _ hx))) hJ4 (by simp; omega) hy4 hb4).mono ?_⟩
        rintro e W5 (⟨rfl, hJ5, hk5⟩ | ⟨rfl, q, hq, hJx5⟩)
        · gi_wp2_with fail
          refine onePost_any (by kernel_rfl) ?_
          refine batchG hfn (fuel := 0) [18, 19, 20] (by kernel_rfl) rfl ?_
          repeat (go_big_quiet_step ((fail)))
          refine wpQuiet_nil ?_
          refine wpAnyG_done (by kernel_rfl) ?_
          refine calmQ_normal ?_
          gi_wp2
          go_ret
          exact .inl ⟨rfl, by simpa [Tr.pre, List.append_assoc] using hJ5, hk04.trans hk5⟩
        · gi_wp2_with fail
          refine onePost_any (by kernel_rfl) ?_
          refine batchG hfn (fuel := 0) [18, 19, 20] (by kernel_rfl) rfl ?_
          repeat (go_big_quiet_step ((fail)))
          refine wpQuiet_nil ?_
          refine wpAnyG_done (by kernel_rfl) ?_
          refine calmQ_normal ?_
          gi_wp2
          go_ret
          obtain ⟨r', hr'⟩ := hq
          exact .inr ⟨rfl, .node b tl k v g tr :: (tl.pre ++ q), ⟨r', by simp [Tr.pre, ← hr']⟩, by simpa [List.append_assoc] using hJx5⟩
      · gi_wp2_with fail
        refine onePost_any (by kernel_rfl) ?_
        refine batchG hfn (fuel := 5) [12, 13, 14, 15] (by kernel_rfl) rfl ?_
        repeat (go_big_quiet_step ((fail)))
        refine wpQuiet_nil ?_
        refine wpAnyG_skip hfn (j := 16) (by kernel_rfl) rfl rfl ?_
        simp only [Act.put, List.setIfInBounds_toArray, List.set_cons_zero, List.set_cons_succ]
        refine wpAnyG_skip hfn (j := 17) (by kernel_rfl) rfl rfl ?_
        simp only [Act.put, List.setIfInBounds_toArray, List.set_cons_zero, List.set_cons_succ]
        refine batchG hfn (fuel := 0) [18, 19, 20] (by kernel_rfl) rfl ?_
        repeat (go_big_quiet_step ((fail)))
        refine wpQuiet_nil ?_
        refine wpAnyG_done (by kernel_rfl) ?_
        refine calmQ_normal ?_
        gi_wp2
        go_ret
        obtain ⟨r', hr'⟩ := hq
        exact .inr ⟨rfl, .node b tl k v g tr :: q, ⟨r' ++ tr.pre, by simp [Tr.pre, ← hr']⟩, by simpa [List.append_assoc] using hJx3⟩
    · gi_wp2_with fail
      refine onePost_any (by kernel_rfl) ?_
      refine batchG hfn (fuel := 11) [7, 8, 9] (by kernel_rfl) rfl ?_
      repeat (go_big_quiet_step ((fail)))
      refine wpQuiet_nil ?_
      refine wpAnyG_skip hfn (j := 10) (by kernel_rfl) rfl rfl ?_
      simp only [Act.put, List.setIfInBounds_toArray, List.set_cons_zero, List.set_cons_succ]
      refine wpAnyG_skip hfn (j := 11) (by kernel_rfl) rfl rfl ?_
      simp only [Act.put, List.setIfInBounds_toArray, List.set_cons_zero, List.set_cons_succ]
      refine batchG hfn (fuel := 5) [12, 13, 14, 15] (by kernel_rfl) rfl ?_
      repeat (go_big_quiet_step ((fail)))
      refine wpQuiet_nil ?_
      refine wpAnyG_skip hfn (j := 16) (by kernel_rfl) rfl rfl ?_
      simp only [Act.put, List.setIfInBounds_toArray, List.set_cons_zero, List.set_cons_succ]
      refine wpAnyG_skip hfn (j := 17) (by kernel_rfl) rfl rfl ?_
      simp only [Act.put, List.setIfInBounds_toArray, List.set_cons_zero, List.set_cons_succ]
      refine batchG hfn (fuel := 0) [18, 19, 20] (by kernel_rfl) rfl ?_
      repeat (go_big_quiet_step ((fail)))
      refine wpQuiet_nil ?_
      refine wpAnyG_done (by kernel_rfl) ?_
      refine calmQ_normal ?_
      gi_wp2
      go_ret
      exact .inr ⟨rfl, [.node b tl k v g tr], ⟨tl.pre ++ tr.pre, rfl⟩, hJx1⟩
end Go.Proofs.Ythkbmedfccoliaa
