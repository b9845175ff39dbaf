/- look.goes: the going over a tree, from left to right, or from right to left. -/
import Derived.BigQuiet
import Derived.Test.YtoiohjifjmejkaaGreatM3
namespace Go.Proofs.YtoiohjifjmejkaaGreat
open Go Go.RowKit Go.Shelf
attribute [local go_sem] Oper.semAt_some

/-- a tree's nodes, from left to right. -/
def Tr.inl : Tr → List Tr
  | .nil => []
  | .node b l k v g r => l.inl ++ .node b l k v g r :: r.inl
/-- from right to left. -/
def Tr.inr : Tr → List Tr
  | .nil => []
  | .node b l k v g r => r.inr ++ .node b l k v g r :: l.inr
theorem inr_rev : ∀ t : Tr, t.inr = t.inl.reverse
  | .nil => rfl
  | .node b l k v g r => by simp [Tr.inl, Tr.inr, inr_rev l, inr_rev r]
set_option maxRecDepth 100000 in
set_option maxHeartbeats 4000000 in
theorem lookOnL_in
  (M : Nat → Prop) (Px : Tr → Prop) (l N by_ bo ba bb : Nat) (J Jx : List Tr → World → Prop) (hy0 : ¬ M by_) (ho0 : ¬ M bo) (ha0 : ¬ M ba) (hb0 : ¬ M bb)
    (hY : ∀ m pre x W, Px x → J pre W → pre.length < N → YieldAt Fence.wide m Tryz.prog l #[.pointer x.ptr] W fun e W' =>
      (e = .returned (.bool true) ∧ J (pre ++ [x]) W' ∧ Keep M W W') ∨ (e = .returned (.bool false) ∧ Jx (pre ++ [x]) W'))
    (hJE : ∀ pre W W', J pre W → Ext W W' → J pre W')
    (T : Tr) :
    ∀ (n : Nat) (pre : List Tr) (W : World), InH W T → Off M T → (∀ x ∈ T.inl, Px x) → J pre W → pre.length + (T.inl).length ≤ N →
      Boxed W by_ 104 (.func (.yield l) #[] #[]) → Boxed W bo 104 (.func (.func 131) #[] #[.pointer (some ⟨bo, 0, none⟩), .pointer (some ⟨ba, 0, none⟩), .pointer (some ⟨by_, 0, none⟩), .pointer (some ⟨bb, 0, none⟩)]) →
      Boxed W ba 87 (.func (.func 36) #[] #[]) → Boxed W bb 87 (.func (.func 37) #[] #[]) →
      CallsIn Fence.wide n Tryz.prog 131 #[.pointer T.ptr, .pointer (some ⟨bo, 0, none⟩), .pointer (some ⟨ba, 0, none⟩), .pointer (some ⟨by_, 0, none⟩), .pointer (some ⟨bb, 0, none⟩)] W fun e W' =>
        (e = .returned (.bool true) ∧ J (pre ++ T.inl) W' ∧ Keep M W W') ∨ (e = .returned (.bool false) ∧ ∃ q, q <+: T.inl ∧ Jx (pre ++ q) W') := by
  have hfn : ∀ f, Fence.wide.fn f := fun _ => trivial
  induction T with
  | nil =>
    intro n pre W _ _ _ hJ _ _ _ _ _
    rw [Tr.ptr_nil]
    refine callsIn_of_wp Tryz.func131 rfl trivial ?_ rfl
    simp only [Tryz.ntmps131, List.size_toArray, List.length_cons, List.length_nil, Nat.reduceAdd, Nat.reduceSub, Array.replicate_succ, Array.replicate_zero, List.push_toArray, List.append_toArray, List.nil_append, List.cons_append]
    gi_wp2_with fail
    refine wpIn_region_G (fun j => !(List.contains (α := Nat) [7, 11, 18] j)) (by kernel_rfl) ?_
    refine batchG hfn (fuel := 16) [0, 1, 2, 3, 4, 5] (by kernel_rfl) rfl ?_
    repeat (go_big_quiet_step ((fail)))
    refine wpQuiet_nil ?_
    refine wpAnyG_skip hfn (j := 6) (by kernel_rfl) rfl rfl ?_
    simp only [Act.put, List.setIfInBounds_toArray, List.set_cons_zero, List.set_cons_succ]
    refine wpAnyG_skip hfn (j := 7) (by kernel_rfl) rfl rfl ?_
    simp only [Act.put, List.setIfInBounds_toArray, List.set_cons_zero, List.set_cons_succ]
    refine batchG hfn (fuel := 11) [8, 9, 10] (by kernel_rfl) rfl ?_
    repeat (go_big_quiet_step ((fail)))
    refine wpQuiet_nil ?_
    refine wpAnyG_skip hfn (j := 11) (by kernel_rfl) rfl rfl ?_
    simp only [Act.put, List.setIfInBounds_toArray, List.set_cons_zero, List.set_cons_succ]
    refine batchG hfn (fuel := 5) [12, 13, 14, 15, 16] (by kernel_rfl) rfl ?_
    repeat (go_big_quiet_step ((fail)))
    refine wpQuiet_nil ?_
    refine wpAnyG_skip hfn (j := 17) (by kernel_rfl) rfl rfl ?_
    simp only [Act.put, List.setIfInBounds_toArray, List.set_cons_zero, List.set_cons_succ]
    refine wpAnyG_skip hfn (j := 18) (by kernel_rfl) rfl rfl ?_
    simp only [Act.put, List.setIfInBounds_toArray, List.set_cons_zero, List.set_cons_succ]
    refine batchG hfn (fuel := 0) [19, 20, 21] (by kernel_rfl) rfl ?_
    repeat (go_big_quiet_step ((fail)))
    refine wpQuiet_nil ?_
    refine wpAnyG_done (by kernel_rfl) ?_
    refine calmQ_normal ?_
    gi_wp2
    go_ret
    exact .inl ⟨rfl, by simpa [Tr.inl] using hJE _ _ _ hJ (Ext.drew W), Keep.drew W⟩
  | node b tl k v g tr ihl ihr =>
    intro n pre W ht ho hP hJ hN hy hbo hba hbb
    simp only [Tr.inl, List.length_cons, List.length_append] at hN
    have Hl := Lib.hid ihl
    have Hr := Lib.hid ihr
    have HY := Lib.hid hY
    clear ihl ihr hY
    have HP := Lib.hid hP
    clear hP
    have hco := cell_all hbo.cell
    have hca := cell_all hba.cell
    have hx0 := Ext.drew W
    rw [Tr.ptr_node]
    refine callsIn_of_wp Tryz.func131 rfl trivial ?_ rfl
    simp only [Tryz.ntmps131, List.size_toArray, List.length_cons, List.length_nil, Nat.reduceAdd, Nat.reduceSub, Array.replicate_succ, Array.replicate_zero, List.push_toArray, List.append_toArray, List.nil_append, List.cons_append]
    gi_wp2_with fail
    refine wpIn_region_G (fun j => !(List.contains (α := Nat) [7, 11, 18] j)) (by kernel_rfl) ?_
    refine batchG hfn (fuel := 16) [0, 1, 2, 3, 4, 5] (by kernel_rfl) rfl ?_
    repeat (go_big_quiet_step ((fail)))
    refine wpQuiet_nil ?_
    clear hco hca hx0
    refine wpAnyG_one (j := 6) (by kernel_rfl) rfl ?_
    gi_wp2_with fail
    rw [← Tr.ptr_node b tl k v g tr]
    have ht0 := ht.ext (Ext.drew W)
    refine ⟨wide_room _, (callsIn_wide.2 (left_any _ _ ht0)).mono ?_⟩
    rintro e W1 ⟨rfl, h1⟩
    have hk1 : Keep M W W1 := (Keep.drew W).trans (Keep.ext h1)
    have ht1 := ht0.ext h1
    have hJ1 := hJE _ _ _ (hJE _ _ _ hJ (Ext.drew W)) h1
    have hy1 := hk1.boxed hy0 hy
    have hbo1 := hk1.boxed ho0 hbo
    have hba1 := hk1.boxed ha0 hba
    have hbb1 := hk1.boxed hb0 hbb
    clear ht ht0 hJ hy hbo hba hbb
    gi_wp2_with fail
    refine onePost_ext (h1) ?_
    refine wpAnyG_one (j := 7) (by kernel_rfl) rfl ?_
    gi_wp2_with fail
    simp only [Tr.left_node]
    refine ⟨wide_room _, (Hl.out (n - 1) _ W1 ht1.2.1 ho.2.1 (fun x hx => HP.out x (List.mem_append_left _ hx)) hJ1 (by omega) hy1 hbo1 hba1 hbb1).mono ?_⟩
    rintro e W2 (⟨rfl, hJ2, hk2⟩ | ⟨rfl, q, hq, hJx2⟩)
    · have hk02 := hk1.trans hk2
      have ht2 := InH.keep hk2 ho ht1
      have hy2 := hk2.boxed hy0 hy1
      have hbo2 := hk2.boxed ho0 hbo1
      have hba2 := hk2.boxed ha0 hba1
      have hbb2 := hk2.boxed hb0 hbb1
      clear ht1 hJ1 hy1 hbo1 hba1 hbb1 hk1 hk2
      have hcy := cell_all hy2.cell
      have hx2 := Ext.refl W2
      obtain ⟨fn, tmps, assign, body, hy3, hR⟩ := HY.out n (pre ++ tl.inl) (.node b tl k v g tr) W2 (HP.out _ (List.mem_append_right _ (List.mem_cons_self ..))) hJ2 (by rw [List.length_append]; omega)
      have HR := Lib.hid hR
      clear hR
      rw [Tr.ptr_node] at hy3
      gi_wp2_with fail
      refine onePost_any (by kernel_rfl) ?_
      refine batchG hfn (fuel := 11) [8, 9, 10] (by kernel_rfl) rfl ?_
      repeat (go_big_quiet_step ((fail)))
      refine wpQuiet_nil ?_
      rw [Tr.ptr_node]
      refine wpAnyG_one (j := 11) (by kernel_rfl) rfl ?_
      gi_wp2_with fail
      clear hcy hx2 hy3
      refine ⟨wide_room _, (RoundIn.any HR.out).mono ?_⟩
      rintro e W3 (⟨rfl, hJ3, hk3⟩ | ⟨rfl, hJx3⟩)
      · have hk03 := hk02.trans hk3
        have ht3 := InH.keep hk3 ho ht2
        have hy3 := hk3.boxed hy0 hy2
        have hbo3 := hk3.boxed ho0 hbo2
        have hba3 := hk3.boxed ha0 hba2
        have hbb3 := hk3.boxed hb0 hbb2
        clear ht2 hJ2 hy2 hbo2 hba2 hbb2 hk02 hk3
        have hco := cell_all hbo3.cell
        have hcb := cell_all hbb3.cell
        have hx3 := Ext.refl W3
        gi_wp2_with fail
        refine onePost_any (by kernel_rfl) ?_
        refine batchG hfn (fuel := 5) [12, 13, 14, 15, 16] (by kernel_rfl) rfl ?_
        repeat (go_big_quiet_step ((fail)))
        refine wpQuiet_nil ?_
        clear hco hcb hx3
        refine wpAnyG_one (j := 17) (by kernel_rfl) rfl ?_
        gi_wp2_with fail
        rw [← Tr.ptr_node b tl k v g tr]
        refine ⟨wide_room _, (callsIn_wide.2 (right_any _ _ ht3)).mono ?_⟩
        rintro e W4 ⟨rfl, h4⟩
        have hk4 : Keep M W3 W4 := Keep.ext h4
        have hk04 := hk03.trans hk4
        have ht4 := ht3.ext h4
        have hJ4 := hJE _ _ _ hJ3 h4
        have hy4 := hk4.boxed hy0 hy3
        have hbo4 := hk4.boxed ho0 hbo3
        have hba4 := hk4.boxed ha0 hba3
        have hbb4 := hk4.boxed hb0 hbb3
        clear ht3 hJ3 hy3 hbo3 hba3 hbb3 hk03 hk4
        gi_wp2_with fail
        refine onePost_ext (h4) ?_
        refine wpAnyG_one (j := 18) (by kernel_rfl) rfl ?_
        gi_wp2_with fail
        simp only [Tr.right_node]
        refine ⟨wide_room _, (Hr.out (n - 1) _ W4 ht4.2.2 ho.2.2 (fun x hx => HP.out x (List.mem_append_right _ (List.mem_cons_of_mem _ hx))) hJ4 (by simp only [List.length_append, List.length_cons, List.length_nil]; omega) hy4 hbo4 hba4 hbb4).mono ?_⟩
        rintro e W5 (⟨rfl, hJ5, hk5⟩ | ⟨rfl, q, hq, hJx5⟩)
        · gi_wp2_with fail
          refine onePost_any (by kernel_rfl) ?_
          refine batchG hfn (fuel := 0) [19, 20, 21] (by kernel_rfl) rfl ?_
          repeat (go_big_quiet_step ((fail)))
          refine wpQuiet_nil ?_
          refine wpAnyG_done (by kernel_rfl) ?_
          refine calmQ_normal ?_
          gi_wp2
          go_ret
          exact .inl ⟨rfl, by simpa [Tr.inl, List.append_assoc] using hJ5, hk04.trans hk5⟩
        · gi_wp2_with fail
          refine onePost_any (by kernel_rfl) ?_
          refine batchG hfn (fuel := 0) [19, 20, 21] (by kernel_rfl) rfl ?_
          repeat (go_big_quiet_step ((fail)))
          refine wpQuiet_nil ?_
          refine wpAnyG_done (by kernel_rfl) ?_
          refine calmQ_normal ?_
          gi_wp2
          go_ret
          obtain ⟨r', hr'⟩ := hq
          exact .inr ⟨rfl, tl.inl ++ .node b tl k v g tr :: q, ⟨r', by simp [Tr.inl, ← hr']⟩, by simpa [List.append_assoc] using hJx5⟩
      · gi_wp2_with fail
        refine onePost_any (by kernel_rfl) ?_
        refine batchG hfn (fuel := 5) [12, 13, 14, 15, 16] (by kernel_rfl) rfl ?_
        repeat (go_big_quiet_step ((fail)))
        refine wpQuiet_nil ?_
        refine wpAnyG_skip hfn (j := 17) (by kernel_rfl) rfl rfl ?_
        simp only [Act.put, List.setIfInBounds_toArray, List.set_cons_zero, List.set_cons_succ]
        refine wpAnyG_skip hfn (j := 18) (by kernel_rfl) rfl rfl ?_
        simp only [Act.put, List.setIfInBounds_toArray, List.set_cons_zero, List.set_cons_succ]
        refine batchG hfn (fuel := 0) [19, 20, 21] (by kernel_rfl) rfl ?_
        repeat (go_big_quiet_step ((fail)))
        refine wpQuiet_nil ?_
        refine wpAnyG_done (by kernel_rfl) ?_
        refine calmQ_normal ?_
        gi_wp2
        go_ret
        exact .inr ⟨rfl, tl.inl ++ [.node b tl k v g tr], ⟨tr.inl, by simp [Tr.inl]⟩, by simpa [List.append_assoc] using hJx3⟩
    · gi_wp2_with fail
      refine onePost_any (by kernel_rfl) ?_
      refine batchG hfn (fuel := 11) [8, 9, 10] (by kernel_rfl) rfl ?_
      repeat (go_big_quiet_step ((fail)))
      refine wpQuiet_nil ?_
      refine wpAnyG_skip hfn (j := 11) (by kernel_rfl) rfl rfl ?_
      simp only [Act.put, List.setIfInBounds_toArray, List.set_cons_zero, List.set_cons_succ]
      refine batchG hfn (fuel := 5) [12, 13, 14, 15, 16] (by kernel_rfl) rfl ?_
      repeat (go_big_quiet_step ((fail)))
      refine wpQuiet_nil ?_
      refine wpAnyG_skip hfn (j := 17) (by kernel_rfl) rfl rfl ?_
      simp only [Act.put, List.setIfInBounds_toArray, List.set_cons_zero, List.set_cons_succ]
      refine wpAnyG_skip hfn (j := 18) (by kernel_rfl) rfl rfl ?_
      simp only [Act.put, List.setIfInBounds_toArray, List.set_cons_zero, List.set_cons_succ]
      refine batchG hfn (fuel := 0) [19, 20, 21] (by kernel_rfl) rfl ?_
      repeat (go_big_quiet_step ((fail)))
      refine wpQuiet_nil ?_
      refine wpAnyG_done (by kernel_rfl) ?_
      refine calmQ_normal ?_
      gi_wp2
      go_ret
      obtain ⟨r', hr'⟩ := hq
      exact .inr ⟨rfl, q, ⟨r' ++ .node b tl k v g tr :: tr.inl, by simp [Tr.inl, ← hr']⟩, hJx2⟩
set_option maxRecDepth 100000 in
set_option maxHeartbeats 4000000 in
theorem lookOnR_in
  (M : Nat → Prop) (Px : Tr → Prop) (l N by_ bo ba bb : Nat) (J Jx : List Tr → World → Prop) (hy0 : ¬ M by_) (ho0 : ¬ M bo) (ha0 : ¬ M ba) (hb0 : ¬ M bb)
    (hY : ∀ m pre x W, Px x → J pre W → pre.length < N → YieldAt Fence.wide m Tryz.prog l #[.pointer x.ptr] W fun e W' =>
      (e = .returned (.bool true) ∧ J (pre ++ [x]) W' ∧ Keep M W W') ∨ (e = .returned (.bool false) ∧ Jx (pre ++ [x]) W'))
    (hJE : ∀ pre W W', J pre W → Ext W W' → J pre W')
    (T : Tr) :
    ∀ (n : Nat) (pre : List Tr) (W : World), InH W T → Off M T → (∀ x ∈ T.inr, Px x) → J pre W → pre.length + (T.inr).length ≤ N →
      Boxed W by_ 104 (.func (.yield l) #[] #[]) → Boxed W bo 104 (.func (.func 131) #[] #[.pointer (some ⟨bo, 0, none⟩), .pointer (some ⟨ba, 0, none⟩), .pointer (some ⟨by_, 0, none⟩), .pointer (some ⟨bb, 0, none⟩)]) →
      Boxed W ba 87 (.func (.func 37) #[] #[]) → Boxed W bb 87 (.func (.func 36) #[] #[]) →
      CallsIn Fence.wide n Tryz.prog 131 #[.pointer T.ptr, .pointer (some ⟨bo, 0, none⟩), .pointer (some ⟨ba, 0, none⟩), .pointer (some ⟨by_, 0, none⟩), .pointer (some ⟨bb, 0, none⟩)] W fun e W' =>
        (e = .returned (.bool true) ∧ J (pre ++ T.inr) W' ∧ Keep M W W') ∨ (e = .returned (.bool false) ∧ ∃ q, q <+: T.inr ∧ Jx (pre ++ q) W') := by
  have hfn : ∀ f, Fence.wide.fn f := fun _ => trivial
  induction T with
  | nil =>
    intro n pre W _ _ _ hJ _ _ _ _ _
    rw [Tr.ptr_nil]
    refine callsIn_of_wp Tryz.func131 rfl trivial ?_ rfl
    simp only [Tryz.ntmps131, List.size_toArray, List.length_cons, List.length_nil, Nat.reduceAdd, Nat.reduceSub, Array.replicate_succ, Array.replicate_zero, List.push_toArray, List.append_toArray, List.nil_append, List.cons_append]
    gi_wp2_with fail
    refine wpIn_region_G (fun j => !(List.contains (α := Nat) [7, 11, 18] j)) (by kernel_rfl) ?_
    refine batchG hfn (fuel := 16) [0, 1, 2, 3, 4, 5] (by kernel_rfl) rfl ?_
    repeat (go_big_quiet_step ((fail)))
    refine wpQuiet_nil ?_
    refine wpAnyG_skip hfn (j := 6) (by kernel_rfl) rfl rfl ?_
    simp only [Act.put, List.setIfInBounds_toArray, List.set_cons_zero, List.set_cons_succ]
    refine wpAnyG_skip hfn (j := 7) (by kernel_rfl) rfl rfl ?_
    simp only [Act.put, List.setIfInBounds_toArray, List.set_cons_zero, List.set_cons_succ]
    refine batchG hfn (fuel := 11) [8, 9, 10] (by kernel_rfl) rfl ?_
    repeat (go_big_quiet_step ((fail)))
    refine wpQuiet_nil ?_
    refine wpAnyG_skip hfn (j := 11) (by kernel_rfl) rfl rfl ?_
    simp only [Act.put, List.setIfInBounds_toArray, List.set_cons_zero, List.set_cons_succ]
    refine batchG hfn (fuel := 5) [12, 13, 14, 15, 16] (by kernel_rfl) rfl ?_
    repeat (go_big_quiet_step ((fail)))
    refine wpQuiet_nil ?_
    refine wpAnyG_skip hfn (j := 17) (by kernel_rfl) rfl rfl ?_
    simp only [Act.put, List.setIfInBounds_toArray, List.set_cons_zero, List.set_cons_succ]
    refine wpAnyG_skip hfn (j := 18) (by kernel_rfl) rfl rfl ?_
    simp only [Act.put, List.setIfInBounds_toArray, List.set_cons_zero, List.set_cons_succ]
    refine batchG hfn (fuel := 0) [19, 20, 21] (by kernel_rfl) rfl ?_
    repeat (go_big_quiet_step ((fail)))
    refine wpQuiet_nil ?_
    refine wpAnyG_done (by kernel_rfl) ?_
    refine calmQ_normal ?_
    gi_wp2
    go_ret
    exact .inl ⟨rfl, by simpa [Tr.inr] using hJE _ _ _ hJ (Ext.drew W), Keep.drew W⟩
  | node b tl k v g tr ihl ihr =>
    intro n pre W ht ho hP hJ hN hy hbo hba hbb
    simp only [Tr.inr, List.length_cons, List.length_append] at hN
    have Hl := Lib.hid ihl
    have Hr := Lib.hid ihr
    have HY := Lib.hid hY
    clear ihl ihr hY
    have HP := Lib.hid hP
    clear hP
    have hco := cell_all hbo.cell
    have hca := cell_all hba.cell
    have hx0 := Ext.drew W
    rw [Tr.ptr_node]
    refine callsIn_of_wp Tryz.func131 rfl trivial ?_ rfl
    simp only [Tryz.ntmps131, List.size_toArray, List.length_cons, List.length_nil, Nat.reduceAdd, Nat.reduceSub, Array.replicate_succ, Array.replicate_zero, List.push_toArray, List.append_toArray, List.nil_append, List.cons_append]
    gi_wp2_with fail
    refine wpIn_region_G (fun j => !(List.contains (α := Nat) [7, 11, 18] j)) (by kernel_rfl) ?_
    refine batchG hfn (fuel := 16) [0, 1, 2, 3, 4, 5] (by kernel_rfl) rfl ?_
    repeat (go_big_quiet_step ((fail)))
    refine wpQuiet_nil ?_
    clear hco hca hx0
    refine wpAnyG_one (j := 6) (by kernel_rfl) rfl ?_
    gi_wp2_with fail
    rw [← Tr.ptr_node b tl k v g tr]
    have ht0 := ht.ext (Ext.drew W)
    refine ⟨wide_room _, (callsIn_wide.2 (right_any _ _ ht0)).mono ?_⟩
    rintro e W1 ⟨rfl, h1⟩
    have hk1 : Keep M W W1 := (Keep.drew W).trans (Keep.ext h1)
    have ht1 := ht0.ext h1
    have hJ1 := hJE _ _ _ (hJE _ _ _ hJ (Ext.drew W)) h1
    have hy1 := hk1.boxed hy0 hy
    have hbo1 := hk1.boxed ho0 hbo
    have hba1 := hk1.boxed ha0 hba
    have hbb1 := hk1.boxed hb0 hbb
    clear ht ht0 hJ hy hbo hba hbb
    gi_wp2_with fail
    refine onePost_ext (h1) ?_
    refine wpAnyG_one (j := 7) (by kernel_rfl) rfl ?_
    gi_wp2_with fail
    simp only [Tr.right_node]
    refine ⟨wide_room _, (Hr.out (n - 1) _ W1 ht1.2.2 ho.2.2 (fun x hx => HP.out x (List.mem_append_left _ hx)) hJ1 (by omega) hy1 hbo1 hba1 hbb1).mono ?_⟩
    rintro e W2 (⟨rfl, hJ2, hk2⟩ | ⟨rfl, q, hq, hJx2⟩)
    · have hk02 := hk1.trans hk2
      have ht2 := InH.keep hk2 ho ht1
      have hy2 := hk2.boxed hy0 hy1
      have hbo2 := hk2.boxed ho0 hbo1
      have hba2 := hk2.boxed ha0 hba1
      have hbb2 := hk2.boxed hb0 hbb1
      clear ht1 hJ1 hy1 hbo1 hba1 hbb1 hk1 hk2
      have hcy := cell_all hy2.cell
      have hx2 := Ext.refl W2
      obtain ⟨fn, tmps, assign, body, hy3, hR⟩ := HY.out n (pre ++ tr.inr) (.node b tl k v g tr) W2 (HP.out _ (List.mem_append_right _ (List.mem_cons_self ..))) hJ2 (by rw [List.length_append]; omega)
      have HR := Lib.hid hR
      clear hR
      rw [Tr.ptr_node] at hy3
      gi_wp2_with fail
      refine onePost_any (by kernel_rfl) ?_
      refine batchG hfn (fuel := 11) [8, 9, 10] (by kernel_rfl) rfl ?_
      repeat (go_big_quiet_step ((fail)))
      refine wpQuiet_nil ?_
      rw [Tr.ptr_node]
      refine wpAnyG_one (j := 11) (by kernel_rfl) rfl ?_
      gi_wp2_with fail
      clear hcy hx2 hy3
      refine ⟨wide_room _, (RoundIn.any HR.out).mono ?_⟩
      rintro e W3 (⟨rfl, hJ3, hk3⟩ | ⟨rfl, hJx3⟩)
      · have hk03 := hk02.trans hk3
        have ht3 := InH.keep hk3 ho ht2
        have hy3 := hk3.boxed hy0 hy2
        have hbo3 := hk3.boxed ho0 hbo2
        have hba3 := hk3.boxed ha0 hba2
        have hbb3 := hk3.boxed hb0 hbb2
        clear ht2 hJ2 hy2 hbo2 hba2 hbb2 hk02 hk3
        have hco := cell_all hbo3.cell
        have hcb := cell_all hbb3.cell
        have hx3 := Ext.refl W3
        gi_wp2_with fail
        refine onePost_any (by kernel_rfl) ?_
        refine batchG hfn (fuel := 5) [12, 13, 14, 15, 16] (by kernel_rfl) rfl ?_
        repeat (go_big_quiet_step ((fail)))
        refine wpQuiet_nil ?_
        clear hco hcb hx3
        refine wpAnyG_one (j := 17) (by kernel_rfl) rfl ?_
        gi_wp2_with fail
        rw [← Tr.ptr_node b tl k v g tr]
        refine ⟨wide_room _, (callsIn_wide.2 (left_any _ _ ht3)).mono ?_⟩
        rintro e W4 ⟨rfl, h4⟩
        have hk4 : Keep M W3 W4 := Keep.ext h4
        have hk04 := hk03.trans hk4
        have ht4 := ht3.ext h4
        have hJ4 := hJE _ _ _ hJ3 h4
        have hy4 := hk4.boxed hy0 hy3
        have hbo4 := hk4.boxed ho0 hbo3
        have hba4 := hk4.boxed ha0 hba3
        have hbb4 := hk4.boxed hb0 hbb3
        clear ht3 hJ3 hy3 hbo3 hba3 hbb3 hk03 hk4
        gi_wp2_with fail
        refine onePost_ext (h4) ?_
        refine wpAnyG_one (j := 18) (by kernel_rfl) rfl ?_
        gi_wp2_with fail
        simp only [Tr.left_node]
        refine ⟨wide_room _, (Hl.out (n - 1) _ W4 ht4.2.1 ho.2.1 (fun x hx => HP.out x (List.mem_append_right _ (List.mem_cons_of_mem _ hx))) hJ4 (by simp only [List.length_append, List.length_cons, List.length_nil]; omega) hy4 hbo4 hba4 hbb4).mono ?_⟩
        rintro e W5 (⟨rfl, hJ5, hk5⟩ | ⟨rfl, q, hq, hJx5⟩)
        · gi_wp2_with fail
          refine onePost_any (by kernel_rfl) ?_
          refine batchG hfn (fuel := 0) [19, 20, 21] (by kernel_rfl) rfl ?_
          repeat (go_big_quiet_step ((fail)))
          refine wpQuiet_nil ?_
          refine wpAnyG_done (by kernel_rfl) ?_
          refine calmQ_normal ?_
          gi_wp2
          go_ret
          exact .inl ⟨rfl, by simpa [Tr.inr, List.append_assoc] using hJ5, hk04.trans hk5⟩
        · gi_wp2_with fail
          refine onePost_any (by kernel_rfl) ?_
          refine batchG hfn (fuel := 0) [19, 20, 21] (by kernel_rfl) rfl ?_
          repeat (go_big_quiet_step ((fail)))
          refine wpQuiet_nil ?_
          refine wpAnyG_done (by kernel_rfl) ?_
          refine calmQ_normal ?_
          gi_wp2
          go_ret
          obtain ⟨r', hr'⟩ := hq
          exact .inr ⟨rfl, tr.inr ++ .node b tl k v g tr :: q, ⟨r', by simp [Tr.inr, ← hr']⟩, by simpa [List.append_assoc] using hJx5⟩
      · gi_wp2_with fail
        refine onePost_any (by kernel_rfl) ?_
        refine batchG hfn (fuel := 5) [12, 13, 14, 15, 16] (by kernel_rfl) rfl ?_
        repeat (go_big_quiet_step ((fail)))
        refine wpQuiet_nil ?_
        refine wpAnyG_skip hfn (j := 17) (by kernel_rfl) rfl rfl ?_
        simp only [Act.put, List.setIfInBounds_toArray, List.set_cons_zero, List.set_cons_succ]
        refine wpAnyG_skip hfn (j := 18) (by kernel_rfl) rfl rfl ?_
        simp only [Act.put, List.setIfInBounds_toArray, List.set_cons_zero, List.set_cons_succ]
        refine batchG hfn (fuel := 0) [19, 20, 21] (by kernel_rfl) rfl ?_
        repeat (go_big_quiet_step ((fail)))
        refine wpQuiet_nil ?_
        refine wpAnyG_done (by kernel_rfl) ?_
        refine calmQ_normal ?_
        gi_wp2
        go_ret
        exact .inr ⟨rfl, tr.inr ++ [.node b tl k v g tr], ⟨tl.inr, by simp [Tr.inr]⟩, by simpa [List.append_assoc] using hJx3⟩
    · gi_wp2_with fail
      refine onePost_any (by kernel_rfl) ?_
      refine batchG hfn (fuel := 11) [8, 9, 10] (by kernel_rfl) rfl ?_
      repeat (go_big_quiet_step ((fail)))
      refine wpQuiet_nil ?_
      refine wpAnyG_skip hfn (j := 11) (by kernel_rfl) rfl rfl ?_
      simp only [Act.put, List.setIfInBounds_toArray, List.set_cons_zero, List.set_cons_succ]
      refine batchG hfn (fuel := 5) [12, 13, 14, 15, 16] (by kernel_rfl) rfl ?_
      repeat (go_big_quiet_step ((fail)))
      refine wpQuiet_nil ?_
      refine wpAnyG_skip hfn (j := 17) (by kernel_rfl) rfl rfl ?_
      simp only [Act.put, List.setIfInBounds_toArray, List.set_cons_zero, List.set_cons_succ]
      refine wpAnyG_skip hfn (j := 18) (by kernel_rfl) rfl rfl ?_
      simp only [Act.put, List.setIfInBounds_toArray, List.set_cons_zero, List.set_cons_succ]
      refine batchG hfn (fuel := 0) [19, 20, 21] (by kernel_rfl) rfl ?_
      repeat (go_big_quiet_step ((fail)))
      refine wpQuiet_nil ?_
      refine wpAnyG_done (by kernel_rfl) ?_
      refine calmQ_normal ?_
      gi_wp2
      go_ret
      obtain ⟨r', hr'⟩ := hq
      exact .inr ⟨rfl, q, ⟨r' ++ .node b tl k v g tr :: tl.inr, by simp [Tr.inr, ← hr']⟩, hJx2⟩
end Go.Proofs.YtoiohjifjmejkaaGreat
