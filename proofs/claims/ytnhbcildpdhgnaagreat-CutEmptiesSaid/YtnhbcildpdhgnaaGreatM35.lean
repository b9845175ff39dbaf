/- cut.each: the going over a tree's items (a scheme's faces may be made on the way). -/
import Derived.Test.YtnhbcildpdhgnaaGreatM33
import Derived.Test.YtnhbcildpdhgnaaGreatM34
namespace Go.Proofs.YtnhbcildpdhgnaaGreat
open Go Go.RowKit Go.Shelf
attribute [local go_sem] Oper.semAt_some

theorem Keep.bt {M : Nat → Prop} {L : List Nat} {a b : World} (h : Bt L a b) (hL : ∀ i ∈ L, M i) : Keep M a b :=
  ⟨h.os, h.tape, h.output, h.size, fun i _ _ _ hi hx => (h.block i (lt_of hx) (fun hm => hi (hL i hm))).trans hx⟩
theorem inl_its (c : Nat) : ∀ T : Tr, T.inl.map (rootIt c) = itsC c T
  | .nil => (itsC_nil c).symm
  | .node b l k v g r => by rw [Tr.inl, List.map_append, List.map_cons, inl_its c l, inl_its c r, itsC_node, rootIt_it]
theorem inl_len : ∀ T : Tr, T.inl.length = T.count
  | .nil => rfl
  | .node b l k v g r => by rw [Tr.inl, List.length_append, List.length_cons, inl_len l, inl_len r, Tr.count_node]; omega
set_option maxRecDepth 100000 in
set_option maxHeartbeats 4000000 in
theorem cutOn_in (M : Nat → Prop) (P c : Nat) (nn : Int) (l N by_ bo bs : Nat) (J Jx : List Tr → World → Prop) (hy0 : ¬ M by_) (ho0 : ¬ M bo) (hs0 : ¬ M bs) (hP0 : M P)
    (hY : ∀ m pre x W, J pre W → pre.length < N → YieldAt Fence.wide m Tryz.prog l #[itemV c x] W fun e W' =>
      (e = .returned (.bool true) ∧ J (pre ++ [x]) W' ∧ Keep M W W') ∨ (e = .returned (.bool false) ∧ Jx (pre ++ [x]) W'))
    (hJE : ∀ pre W W', J pre W → Ext W W' → J pre W') (hJS : ∀ pre W, J pre W → Sch P c nn W) (hJP : ∀ pre W W', J pre W → Bt [P] W W' → Sch P c nn W' → J pre W')
    (T : Tr) :
    ∀ (n : Nat) (pre : List Tr) (W : World), InH W T → Off M T → J pre W → pre.length + T.inl.length ≤ N →
      Boxed W by_ 115 (.func (.yield l) #[] #[]) → Boxed W bo 69 (.func (.func 50) #[] #[.pointer (some ⟨bo, 0, none⟩), .pointer (some ⟨by_, 0, none⟩), .pointer (some ⟨bs, 0, none⟩)]) →
      Boxed W bs 23 (.pointer (some ⟨P, 0, none⟩)) →
      CallsIn Fence.wide n Tryz.prog 50 #[.pointer T.ptr, .pointer (some ⟨bo, 0, none⟩), .pointer (some ⟨by_, 0, none⟩), .pointer (some ⟨bs, 0, none⟩)] W fun e W' =>
        (e = .returned (.bool true) ∧ J (pre ++ T.inl) W' ∧ Keep M W W') ∨ (e = .returned (.bool false) ∧ ∃ q, q <+: T.inl ∧ Jx (pre ++ q) W') := by
  have hfn : ∀ f, Fence.wide.fn f := fun _ => trivial
  induction T with
  | nil =>
    intro n pre W _ _ hJ _ _ _ _
    rw [Tr.ptr_nil]
    refine callsIn_of_wp Tryz.func50 rfl trivial ?_ rfl
    simp only [Tryz.ntmps50, List.size_toArray, List.length_cons, List.length_nil, Nat.reduceAdd, Nat.reduceSub, Array.replicate_succ, Array.replicate_zero, List.push_toArray, List.append_toArray, List.nil_append, List.cons_append]
    gi_wp2_with fail
    refine wpIn_region_G (fun j => !(List.contains (α := Nat) [6, 12, 18] j)) (by kernel_rfl) ?_
    refine batchG hfn (fuel := 17) [0, 1, 2, 3, 4] (by kernel_rfl) rfl ?_
    repeat (go_big_quiet_step ((fail)))
    refine wpQuiet_nil ?_
    refine wpAnyG_skip hfn (j := 5) (by kernel_rfl) rfl rfl ?_
    simp only [Act.put, List.setIfInBounds_toArray, List.set_cons_zero, List.set_cons_succ]
    refine wpAnyG_skip hfn (j := 6) (by kernel_rfl) rfl rfl ?_
    simp only [Act.put, List.setIfInBounds_toArray, List.set_cons_zero, List.set_cons_succ]
    refine batchG hfn (fuel := 11) [7, 8, 9, 10] (by kernel_rfl) rfl ?_
    repeat (go_big_quiet_step ((fail)))
    refine wpQuiet_nil ?_
    refine wpAnyG_skip hfn (j := 11) (by kernel_rfl) rfl rfl ?_
    simp only [Act.put, List.setIfInBounds_toArray, List.set_cons_zero, List.set_cons_succ]
    refine wpAnyG_skip hfn (j := 12) (by kernel_rfl) rfl rfl ?_
    simp only [Act.put, List.setIfInBounds_toArray, List.set_cons_zero, List.set_cons_succ]
    refine batchG hfn (fuel := 5) [13, 14, 15, 16] (by kernel_rfl) rfl ?_
    repeat (go_big_quiet_step ((fail)))
    refine wpQuiet_nil ?_
    refine wpAnyG_skip hfn (j := 17) (by kernel_rfl) rfl rfl ?_
    simp only [Act.put, List.setIfInBounds_toArray, List.set_cons_zero, List.set_cons_succ]
    refine wpAnyG_skip hfn (j := 18) (by kernel_rfl) rfl rfl ?_
    simp only [Act.put, List.setIfInBounds_toArray, List.set_cons_zero, List.set_cons_succ]
    refine batchG hfn (fuel := 0) [19, 20, 21] (by kernel_rfl) rfl ?_
    repeat (go_big_quiet_step ((fail)))
    refine wpQuiet_nil ?_
    refine wpAnyG_done (by kernel_rfl) ?_
    refine calmQ_normal ?_
    gi_wp2
    go_ret
    exact .inl ⟨rfl, by simpa [Tr.inl] using hJE _ _ _ hJ (Ext.drew W), Keep.drew W⟩
  | node b tl k v g tr ihl ihr =>
    intro n pre W ht ho hJ hN hy hbo hbs
    simp only [Tr.inl, List.length_cons, List.length_append] at hN
    have Hl := Lib.hid ihl
    have Hr := Lib.hid ihr
    have HY := Lib.hid hY
    clear ihl ihr hY
    have hco := cell_all hbo.cell
    have hx0 := Ext.drew W
    rw [Tr.ptr_node]
    refine callsIn_of_wp Tryz.func50 rfl trivial ?_ rfl
    simp only [Tryz.ntmps50, List.size_toArray, List.length_cons, List.length_nil, Nat.reduceAdd, Nat.reduceSub, Array.replicate_succ, Array.replicate_zero, List.push_toArray, List.append_toArray, List.nil_append, List.cons_append]
    gi_wp2_with fail
    refine wpIn_region_G (fun j => !(List.contains (α := Nat) [6, 11, 12, 18] j)) (by kernel_rfl) ?_
    refine batchG hfn (fuel := 17) [0, 1, 2, 3, 4] (by kernel_rfl) rfl ?_
    repeat (go_big_quiet_step ((fail)))
    refine wpQuiet_nil ?_
    clear hco hx0
    refine wpAnyG_one (j := 5) (by kernel_rfl) rfl ?_
    gi_wp2_with fail
    rw [← Tr.ptr_node b tl k v g tr]
    have ht0 := ht.ext (Ext.drew W)
    refine ⟨wide_room _, (callsIn_wide.2 (left_any _ _ ht0)).mono ?_⟩
    rintro e W1 ⟨rfl, h1⟩
    have hk1 : Keep M W W1 := (Keep.drew W).trans (Keep.ext h1)
    have ht1 := ht0.ext h1
    have hJ1 := hJE _ _ _ (hJE _ _ _ hJ (Ext.drew W)) h1
    have hy1 := hk1.boxed hy0 hy
    have hbo1 := hk1.boxed ho0 hbo
    have hbs1 := hk1.boxed hs0 hbs
    clear ht ht0 hJ hy hbo hbs
    gi_wp2_with fail
    refine onePost_ext (h1) ?_
    refine wpAnyG_one (j := 6) (by kernel_rfl) rfl ?_
    gi_wp2_with fail
    simp only [Tr.left_node]
    refine ⟨wide_room _, (Hl.out (n - 1) _ W1 ht1.2.1 ho.2.1 hJ1 (by omega) hy1 hbo1 hbs1).mono ?_⟩
    rintro e W2 (⟨rfl, hJ2, hk2⟩ | ⟨rfl, q, hq, hJx2⟩)
    · have hk02 := hk1.trans hk2
      have ht2 := InH.keep hk2 ho ht1
      have hy2 := hk2.boxed hy0 hy1
      have hbo2 := hk2.boxed ho0 hbo1
      have hbs2 := hk2.boxed hs0 hbs1
      clear ht1 hJ1 hy1 hbo1 hbs1 hk1 hk2
      have hcs := cell_all hbs2.cell
      have hx2 := Ext.refl W2
      gi_wp2_with fail
      refine onePost_any (by kernel_rfl) ?_
      refine batchG hfn (fuel := 12) [7, 9, 10] (by kernel_rfl) rfl ?_
      repeat (go_big_quiet_step ((fail)))
      refine wpQuiet_nil ?_
      clear hcs hx2
      refine wpAnyG_two (j := 8) (k := 11) (by kernel_rfl) rfl rfl ?_ ?_
      · have hcy := hy2.cell
        gi_wp2_with fail
        refine onePost_ext (Ext.refl _) ?_
        clear hcy
        refine wpAnyG_one (j := 11) (by kernel_rfl) rfl ?_
        gi_wp2_with fail
        refine ⟨wide_room _, (callsIn_wide.2 (schItem_any P c nn W2 (.node b tl k v g tr) (hJS _ _ hJ2) ht2)).mono ?_⟩
        rintro e W3 ⟨x, rfl, B3, S3, rfl⟩
        have hk3 : Keep M W2 W3 := Keep.bt B3 (by simpa using hP0)
        have hk03 := hk02.trans hk3
        have ht3 := InH.keep hk3 ho ht2
        have hJ3 := hJP _ _ _ hJ2 B3 S3
        have hy3 := hk3.boxed hy0 hy2
        have hbo3 := hk3.boxed ho0 hbo2
        have hbs3 := hk3.boxed hs0 hbs2
        clear ht2 hJ2 hy2 hbo2 hbs2 hk02 hk3 B3 S3
        gi_wp2_with fail
        refine onePost_any (by kernel_rfl) ?_
        obtain ⟨fn, tmps, assign, body, hyy, hR⟩ := HY.out n (pre ++ tl.inl) (.node b tl k v g tr) W3 hJ3 (by rw [List.length_append]; omega)
        have HR := Lib.hid hR
        clear hR
        refine wpAnyG_one (j := 12) (by kernel_rfl) rfl ?_
        gi_wp2_with fail
        refine ⟨wide_room _, (RoundIn.any HR.out).mono ?_⟩
        rintro e W4 (⟨rfl, hJ4, hk4⟩ | ⟨rfl, hJx4⟩)
        · have hk04 := hk03.trans hk4
          have ht4 := InH.keep hk4 ho ht3
          have hy4 := hk4.boxed hy0 hy3
          have hbo4 := hk4.boxed ho0 hbo3
          have hbs4 := hk4.boxed hs0 hbs3
          clear ht3 hJ3 hy3 hbo3 hbs3 hk03 hk4
          have hco := cell_all hbo4.cell
          have hx4 := Ext.refl W4
          gi_wp2_with fail
          refine onePost_any (by kernel_rfl) ?_
          refine batchG hfn (fuel := 5) [13, 14, 15, 16] (by kernel_rfl) rfl ?_
          repeat (go_big_quiet_step ((fail)))
          refine wpQuiet_nil ?_
          clear hco hx4
          refine wpAnyG_one (j := 17) (by kernel_rfl) rfl ?_
          gi_wp2_with fail
          refine ⟨wide_room _, (callsIn_wide.2 (right_any _ _ ht4)).mono ?_⟩
          rintro e W5 ⟨rfl, h5⟩
          have hk5 : Keep M W4 W5 := Keep.ext h5
          have hk05 := hk04.trans hk5
          have ht5 := ht4.ext h5
          have hJ5 := hJE _ _ _ hJ4 h5
          have hy5 := hk5.boxed hy0 hy4
          have hbo5 := hk5.boxed ho0 hbo4
          have hbs5 := hk5.boxed hs0 hbs4
          clear ht4 hJ4 hy4 hbo4 hbs4 hk04 hk5
          gi_wp2_with fail
          refine onePost_ext (h5) ?_
          refine wpAnyG_one (j := 18) (by kernel_rfl) rfl ?_
          gi_wp2_with fail
          simp only [Tr.right_node]
          refine ⟨wide_room _, (Hr.out (n - 1) _ W5 ht5.2.2 ho.2.2 hJ5 (by simp only [List.length_append, List.length_cons, List.length_nil]; omega) hy5 hbo5 hbs5).mono ?_⟩
          rintro e W6 (⟨rfl, hJ6, hk6⟩ | ⟨rfl, q, hq, hJx6⟩)
          · gi_wp2_with fail
            refine onePost_any (by kernel_rfl) ?_
            refine batchG hfn (fuel := 0) [19, 20, 21] (by kernel_rfl) rfl ?_
            repeat (go_big_quiet_step ((fail)))
            refine wpQuiet_nil ?_
            refine wpAnyG_done (by kernel_rfl) ?_
            refine calmQ_normal ?_
            gi_wp2
            go_ret
            exact .inl ⟨rfl, by simpa [Tr.inl, List.append_assoc] using hJ6, hk05.trans hk6⟩
          · gi_wp2_with fail
            refine onePost_any (by kernel_rfl) ?_
            refine batchG hfn (fuel := 0) [19, 20, 21] (by kernel_rfl) rfl ?_
            repeat (go_big_quiet_step ((fail)))
            refine wpQuiet_nil ?_
            refine wpAnyG_done (by kernel_rfl) ?_
            refine calmQ_normal ?_
            gi_wp2
            go_ret
            obtain ⟨r', hr'⟩ := hq
            exact .inr ⟨rfl, tl.inl ++ .node b tl k v g tr :: q, ⟨r', by simp [Tr.inl, ← hr']⟩, by simpa [List.append_assoc] using hJx6⟩
        · gi_wp2_with fail
          refine onePost_any (by kernel_rfl) ?_
          refine batchG hfn (fuel := 5) [13, 14, 15, 16] (by kernel_rfl) rfl ?_
          repeat (go_big_quiet_step ((fail)))
          refine wpQuiet_nil ?_
          refine wpAnyG_skip hfn (j := 17) (by kernel_rfl) rfl rfl ?_
          simp only [Act.put, List.setIfInBounds_toArray, List.set_cons_zero, List.set_cons_succ]
          refine wpAnyG_skip hfn (j := 18) (by kernel_rfl) rfl rfl ?_
          simp only [Act.put, List.setIfInBounds_toArray, List.set_cons_zero, List.set_cons_succ]
          refine batchG hfn (fuel := 0) [19, 20, 21] (by kernel_rfl) rfl ?_
          repeat (go_big_quiet_step ((fail)))
          refine wpQuiet_nil ?_
          refine wpAnyG_done (by kernel_rfl) ?_
          refine calmQ_normal ?_
          gi_wp2
          go_ret
          exact .inr ⟨rfl, tl.inl ++ [.node b tl k v g tr], ⟨tr.inl, by simp [Tr.inl]⟩, by simpa [List.append_assoc] using hJx4⟩
      · gi_wp2_with fail
        refine ⟨wide_room _, (callsIn_wide.2 (schItem_any P c nn W2 (.node b tl k v g tr) (hJS _ _ hJ2) ht2)).mono ?_⟩
        rintro e W3 ⟨x, rfl, B3, S3, rfl⟩
        have hk3 : Keep M W2 W3 := Keep.bt B3 (by simpa using hP0)
        have hk03 := hk02.trans hk3
        have ht3 := InH.keep hk3 ho ht2
        have hJ3 := hJP _ _ _ hJ2 B3 S3
        have hy3 := hk3.boxed hy0 hy2
        have hbo3 := hk3.boxed ho0 hbo2
        have hbs3 := hk3.boxed hs0 hbs2
        clear ht2 hJ2 hy2 hbo2 hbs2 hk02 hk3 B3 S3
        gi_wp2_with fail
        refine onePost_any (by kernel_rfl) ?_
        obtain ⟨fn, tmps, assign, body, hyy, hR⟩ := HY.out n (pre ++ tl.inl) (.node b tl k v g tr) W3 hJ3 (by rw [List.length_append]; omega)
        have HR := Lib.hid hR
        clear hR
        have hcy := hy3.cell
        refine wpAnyG_one (j := 8) (by kernel_rfl) rfl ?_
        gi_wp2_with fail
        refine onePost_ext (Ext.refl _) ?_
        clear hcy
        refine wpAnyG_one (j := 12) (by kernel_rfl) rfl ?_
        gi_wp2_with fail
        refine ⟨wide_room _, (RoundIn.any HR.out).mono ?_⟩
        rintro e W4 (⟨rfl, hJ4, hk4⟩ | ⟨rfl, hJx4⟩)
        · have hk04 := hk03.trans hk4
          have ht4 := InH.keep hk4 ho ht3
          have hy4 := hk4.boxed hy0 hy3
          have hbo4 := hk4.boxed ho0 hbo3
          have hbs4 := hk4.boxed hs0 hbs3
          clear ht3 hJ3 hy3 hbo3 hbs3 hk03 hk4
          have hco := cell_all hbo4.cell
          have hx4 := Ext.refl W4
          gi_wp2_with fail
          refine onePost_any (by kernel_rfl) ?_
          refine batchG hfn (fuel := 5) [13, 14, 15, 16] (by kernel_rfl) rfl ?_
          repeat (go_big_quiet_step ((fail)))
          refine wpQuiet_nil ?_
          clear hco hx4
          refine wpAnyG_one (j := 17) (by kernel_rfl) rfl ?_
          gi_wp2_with fail
          refine ⟨wide_room _, (callsIn_wide.2 (right_any _ _ ht4)).mono ?_⟩
          rintro e W5 ⟨rfl, h5⟩
          have hk5 : Keep M W4 W5 := Keep.ext h5
          have hk05 := hk04.trans hk5
          have ht5 := ht4.ext h5
          have hJ5 := hJE _ _ _ hJ4 h5
          have hy5 := hk5.boxed hy0 hy4
          have hbo5 := hk5.boxed ho0 hbo4
          have hbs5 := hk5.boxed hs0 hbs4
          clear ht4 hJ4 hy4 hbo4 hbs4 hk04 hk5
          gi_wp2_with fail
          refine onePost_ext (h5) ?_
          refine wpAnyG_one (j := 18) (by kernel_rfl) rfl ?_
          gi_wp2_with fail
          simp only [Tr.right_node]
          refine ⟨wide_room _, (Hr.out (n - 1) _ W5 ht5.2.2 ho.2.2 hJ5 (by simp only [List.length_append, List.length_cons, List.length_nil]; omega) hy5 hbo5 hbs5).mono ?_⟩
          rintro e W6 (⟨rfl, hJ6, hk6⟩ | ⟨rfl, q, hq, hJx6⟩)
          · gi_wp2_with fail
            refine onePost_any (by kernel_rfl) ?_
            refine batchG hfn (fuel := 0) [19, 20, 21] (by kernel_rfl) rfl ?_
            repeat (go_big_quiet_step ((fail)))
            refine wpQuiet_nil ?_
            refine wpAnyG_done (by kernel_rfl) ?_
            refine calmQ_normal ?_
            gi_wp2
            go_ret
            exact .inl ⟨rfl, by simpa [Tr.inl, List.append_assoc] using hJ6, hk05.trans hk6⟩
          · gi_wp2_with fail
            refine onePost_any (by kernel_rfl) ?_
            refine batchG hfn (fuel := 0) [19, 20, 21] (by kernel_rfl) rfl ?_
            repeat (go_big_quiet_step ((fail)))
            refine wpQuiet_nil ?_
            refine wpAnyG_done (by kernel_rfl) ?_
            refine calmQ_normal ?_
            gi_wp2
            go_ret
            obtain ⟨r', hr'⟩ := hq
            exact .inr ⟨rfl, tl.inl ++ .node b tl k v g tr :: q, ⟨r', by simp [Tr.inl, ← hr']⟩, by simpa [List.append_assoc] using hJx6⟩
        · gi_wp2_with fail
          refine onePost_any (by kernel_rfl) ?_
          refine batchG hfn (fuel := 5) [13, 14, 15, 16] (by kernel_rfl) rfl ?_
          repeat (go_big_quiet_step ((fail)))
          refine wpQuiet_nil ?_
          refine wpAnyG_skip hfn (j := 17) (by kernel_rfl) rfl rfl ?_
          simp only [Act.put, List.setIfInBounds_toArray, List.set_cons_zero, List.set_cons_succ]
          refine wpAnyG_skip hfn (j := 18) (by kernel_rfl) rfl rfl ?_
          simp only [Act.put, List.setIfInBounds_toArray, List.set_cons_zero, List.set_cons_succ]
          refine batchG hfn (fuel := 0) [19, 20, 21] (by kernel_rfl) rfl ?_
          repeat (go_big_quiet_step ((fail)))
          refine wpQuiet_nil ?_
          refine wpAnyG_done (by kernel_rfl) ?_
          refine calmQ_normal ?_
          gi_wp2
          go_ret
          exact .inr ⟨rfl, tl.inl ++ [.node b tl k v g tr], ⟨tr.inl, by simp [Tr.inl]⟩, by simpa [List.append_assoc] using hJx4⟩
    · gi_wp2_with fail
      refine onePost_any (by kernel_rfl) ?_
      refine batchG hfn (fuel := 12) [7, 9, 10] (by kernel_rfl) rfl ?_
      repeat (go_big_quiet_step ((fail)))
      refine wpQuiet_nil ?_
      refine wpAnyG_two (j := 8) (k := 11) (by kernel_rfl) rfl rfl ?_ ?_
      · gi_wp2_with fail
        refine onePost_ext (Ext.refl _) ?_
        refine wpAnyG_skip hfn (j := 11) (by kernel_rfl) rfl rfl ?_
        simp only [Act.put, List.setIfInBounds_toArray, List.set_cons_zero, List.set_cons_succ]
        refine wpAnyG_skip hfn (j := 12) (by kernel_rfl) rfl rfl ?_
        simp only [Act.put, List.setIfInBounds_toArray, List.set_cons_zero, List.set_cons_succ]
        refine batchG hfn (fuel := 5) [13, 14, 15, 16] (by kernel_rfl) rfl ?_
        repeat (go_big_quiet_step ((fail)))
        refine wpQuiet_nil ?_
        refine wpAnyG_skip hfn (j := 17) (by kernel_rfl) rfl rfl ?_
        simp only [Act.put, List.setIfInBounds_toArray, List.set_cons_zero, List.set_cons_succ]
        refine wpAnyG_skip hfn (j := 18) (by kernel_rfl) rfl rfl ?_
        simp only [Act.put, List.setIfInBounds_toArray, List.set_cons_zero, List.set_cons_succ]
        refine batchG hfn (fuel := 0) [19, 20, 21] (by kernel_rfl) rfl ?_
        repeat (go_big_quiet_step ((fail)))
        refine wpQuiet_nil ?_
        refine wpAnyG_done (by kernel_rfl) ?_
        refine calmQ_normal ?_
        gi_wp2
        go_ret
        obtain ⟨r', hr'⟩ := hq
        exact .inr ⟨rfl, q, ⟨r' ++ .node b tl k v g tr :: tr.inl, by simp [Tr.inl, ← hr']⟩, hJx2⟩
      · gi_wp2_with fail
        refine onePost_any (by kernel_rfl) ?_
        refine wpAnyG_skip hfn (j := 8) (by kernel_rfl) rfl rfl ?_
        simp only [Act.put, List.setIfInBounds_toArray, List.set_cons_zero, List.set_cons_succ]
        refine wpAnyG_skip hfn (j := 12) (by kernel_rfl) rfl rfl ?_
        simp only [Act.put, List.setIfInBounds_toArray, List.set_cons_zero, List.set_cons_succ]
        refine batchG hfn (fuel := 5) [13, 14, 15, 16] (by kernel_rfl) rfl ?_
        repeat (go_big_quiet_step ((fail)))
        refine wpQuiet_nil ?_
        refine wpAnyG_skip hfn (j := 17) (by kernel_rfl) rfl rfl ?_
        simp only [Act.put, List.setIfInBounds_toArray, List.set_cons_zero, List.set_cons_succ]
        refine wpAnyG_skip hfn (j := 18) (by kernel_rfl) rfl rfl ?_
        simp only [Act.put, List.setIfInBounds_toArray, List.set_cons_zero, List.set_cons_succ]
        refine batchG hfn (fuel := 0) [19, 20, 21] (by kernel_rfl) rfl ?_
        repeat (go_big_quiet_step ((fail)))
        refine wpQuiet_nil ?_
        refine wpAnyG_done (by kernel_rfl) ?_
        refine calmQ_normal ?_
        gi_wp2
        go_ret
        obtain ⟨r', hr'⟩ := hq
        exact .inr ⟨rfl, q, ⟨r' ++ .node b tl k v g tr :: tr.inl, by simp [Tr.inl, ← hr']⟩, hJx2⟩
end Go.Proofs.YtnhbcildpdhgnaaGreat
