/- rb.one: what is wrong with a node. The going over a tree, each node ahead of its sides, and what is wrong with it (rb.wrong). -/
import Derived.BigQuiet
import Derived.Test.YtoiohjifjmejkaaGreatM3
import Derived.Test.YtoiohjifjmejkaaGreatM9
import Derived.Test.YtoiohjifjmejkaaGreatM14
namespace Go.Proofs.YtoiohjifjmejkaaGreat
open Go Go.RowKit

theorem what_neq (a b c d : Int) (w : World) : (binOp .neq 182 (.agg #[.int .u64 a, .int .u64 b]) (.agg #[.int .u64 c, .int .u64 d])).run Tryz.prog w = .ok (.bool (!(a == c && b == d))) w := by
  have h := Tryz.underlying182
  simp only [Bool.not_and]
  by_cases h1 : a = c <;> by_cases h2 : b = d <;> simp [go_sem, h, h1, h2]
/-- is the tag wrong? -/
def rbBadTag (t : Tr) : Bool := t.tag == 0 || (!(col t == 1 && hi t == hi t.left) && t.tag != rbTag t.left false)
def rbBadTree (t : Tr) : Bool := hi t.left != hi t.right || (col t == 1 && (col t.left == 1 || col t.right == 1))
def rbOne (t : Tr) : Int := if rbBadTag t then 140 else if rbBadTree t then 8 else 0
theorem rbBadTree_eq (t : Tr) (a b c d : Bool) (h1 : (hi t.left != hi t.right) = a) (h2 : (col t == 1) = b) (h3 : (col t.left == 1) = c) (h4 : (col t.right == 1) = d) : rbBadTree t = (a || (b && (c || d))) := by
  unfold rbBadTree
  rw [h1, h2, h3, h4]
theorem three {w : World} {A B C : Array Value} {T : TypeId} : (((w.alloc (.cells A T)).alloc (.cells B T)).alloc (.cells C T)).heap[w.heap.size]? = some (.cells A T (0, 0)) ∧
    (((w.alloc (.cells A T)).alloc (.cells B T)).alloc (.cells C T)).heap[w.heap.size + 1]? = some (.cells B T (0, 0)) ∧ (((w.alloc (.cells A T)).alloc (.cells B T)).alloc (.cells C T)).heap[w.heap.size + 1 + 1]? = some (.cells C T (0, 0)) := by
  refine ⟨?_, ?_, ?_⟩ <;> (repeat (first | exact alloc_at _ _ _ (by simp) | rw [alloc_lt _ _ _ (by simp <;> omega)]))
set_option maxHeartbeats 4000000 in
theorem rbOne_any (w : World) (t : Tr) (ht : InH w t) (ho : TagsOk t) : Calls Tryz.prog 162 #[.pointer t.ptr] w (Ret (.int .i64 (rbOne t)) w) := by
  have hfn : ∀ f, Fence.wide.fn f := fun _ => trivial
  have hx := Ext.refl w
  obtain ⟨X, eX⟩ : ∃ X, X = rbOne t := ⟨_, rfl⟩
  have hX : X = if rbBadTag t = true then 140 else if rbBadTree t = true then 8 else 0 := eX
  rw [← eX]
  have HX := Lib.hid hX
  have HL := Lib.hid (fun W h => rbOf_any W t.left h (tags_left ho))
  have HR := Lib.hid (fun W h => rbOf_any W t.right h (tags_right ho))
  have HM := Lib.hid (fun W h => rbOf_any W t h ho)
  have HBT := Lib.hid (show rbBadTag t = (t.tag == 0 || (!(col t == 1 && hi t == hi t.left) && t.tag != rbTag t.left false)) from rfl)
  clear eX hX ho
  unfold whatV at HL HR HM
  go_enter Tryz.func162, Tryz.ntmps162
  obtain ⟨m⟩ : Nonempty Nat := ⟨0⟩
  refine (wpIn_wide (n := m)).1 ?_
  gi_wp2_with fail
  refine ⟨wide_room _, (callsIn_wide.2 (left_any _ t ht)).mono ?_⟩
  rintro e w1 ⟨rfl, hS⟩
  replace hx := hx.trans hS
  replace ht := ht.ext hS
  clear hS
  gi_wp2_with fail
  refine ⟨wide_room _, (callsIn_wide.2 (HL.out _ (left_ok ht))).mono ?_⟩
  rintro e w2 ⟨rfl, hS⟩
  replace hx := hx.trans hS
  replace ht := ht.ext hS
  clear hS
  gi_wp2_with fail
  refine ⟨wide_room _, (callsIn_wide.2 (right_any _ t ht)).mono ?_⟩
  rintro e w3 ⟨rfl, hS⟩
  replace hx := hx.trans hS
  replace ht := ht.ext hS
  clear hS
  gi_wp2_with fail
  refine ⟨wide_room _, (callsIn_wide.2 (HR.out _ (right_ok ht))).mono ?_⟩
  rintro e w4 ⟨rfl, hS⟩
  replace hx := hx.trans hS
  replace ht := ht.ext hS
  clear hS
  gi_wp2_with fail
  refine ⟨wide_room _, (callsIn_wide.2 (HM.out _ ht)).mono ?_⟩
  rintro e w5 ⟨rfl, hS⟩
  replace hx := hx.trans hS
  replace ht := ht.ext hS
  clear hS
  gi_wp2_with fail
  have hE := ((((Ext.refl w5).alloc (.cells #[.int .u64 (col t.left), .int .u64 (hi t.left)] 182)).alloc (.cells #[.int .u64 (col t.right), .int .u64 (hi t.right)] 182)).alloc (.cells #[.int .u64 (col t), .int .u64 (hi t)] 182))
  obtain ⟨hbl, hbr, hbm⟩ := three (w := w5) (A := #[.int .u64 (col t.left), .int .u64 (hi t.left)]) (B := #[.int .u64 (col t.right), .int .u64 (hi t.right)]) (C := #[.int .u64 (col t), .int .u64 (hi t)]) (T := 182)
  replace ht := ht.ext hE
  replace hx := hx.trans hE
  clear hE HL HR HM
  generalize (((w5.alloc (.cells #[.int .u64 (col t.left), .int .u64 (hi t.left)] 182)).alloc (.cells #[.int .u64 (col t.right), .int .u64 (hi t.right)] 182)).alloc (.cells #[.int .u64 (col t), .int .u64 (hi t)] 182)) = w6 at *
  generalize w5.heap.size = N at *
  refine ⟨wide_room _, (callsIn_wide.2 (tag_any w6 t ht)).mono ?_⟩
  rintro e w7 ⟨rfl, hS⟩
  by_cases c0 : t.tag = 0
  · have HB := Lib.hid (show rbBadTag t = true by rw [HBT.out, c0]; rfl)
    have c1 := beq_iff_eq.2 c0
    clear c0
    gi_wp2
    go_ret
    exact ⟨ret_int (by rw [HX.out, if_pos HB.out]), hx.trans hS⟩
  · have c0' := beq_eq_false_iff_ne.2 c0
    clear c0
    replace hx := hx.trans hS
    replace ht := ht.ext hS
    replace hbl := (hS.block _ (lt_of hbl)).trans hbl
    replace hbr := (hS.block _ (lt_of hbr)).trans hbr
    replace hbm := (hS.block _ (lt_of hbm)).trans hbm
    clear hS
    gi_wp2_with fail
    have hl1 := cell_all (cell_of hbl 1)
    have hm0 := cell_all (cell_of hbm 0)
    have hm1 := cell_all (cell_of hbm 1)
    have hxd := Ext.drew w7
    cases ce : (col t == 1 && hi t == hi t.left) with
    | true =>
      have HB := Lib.hid (show rbBadTag t = false by rw [HBT.out, c0', ce]; rfl)
      have hneq := fun W => what_neq (col t) (hi t) 1 (hi t.left) W
      rw [ce] at hneq
      simp only [Bool.not_true] at hneq
      clear ce
      refine wpIn_region_G (fun j => !(List.contains (α := Nat) [10, 11] j)) (by kernel_rfl) ?_
      refine batchG hfn (fuel := 12) [0, 1, 2] (by kernel_rfl) rfl ?_
      repeat (go_big_quiet_step ((fail)))
      refine wpQuiet_nil ?_
      refine wpAnyG_one (j := 3) (by kernel_rfl) rfl ?_
      gi_wp2_with fail
      refine ⟨wide_room _, (callsIn_wide.2 (rbOver_any _ (hi t.left) true)).mono ?_⟩
      rw [show overV (hi t.left) true = .agg #[.int .u64 1, .int .u64 (hi t.left)] from rfl]
      rintro e w8 ⟨rfl, h8⟩
      gi_wp2_with fail
      refine onePost_ext (h8) ?_
      have hk := hxd.trans h8
      replace hx := hx.trans hk
      clear hl1 hm0 hm1
      refine batchG hfn (fuel := 6) [4, 5, 6, 8, 9] (by kernel_rfl) rfl ?_
      repeat (go_big_quiet_step ((fail)))
      refine wpQuiet_nil ?_
      refine wpAnyG_skip hfn (j := 7) (by kernel_rfl) rfl rfl ?_
      simp only [Act.put, List.setIfInBounds_toArray, List.set_cons_zero, List.set_cons_succ]
      refine wpAnyG_skip hfn (j := 10) (by kernel_rfl) rfl rfl ?_
      simp only [Act.put, List.setIfInBounds_toArray, List.set_cons_zero, List.set_cons_succ]
      refine wpAnyG_skip hfn (j := 11) (by kernel_rfl) rfl rfl ?_
      simp only [Act.put, List.setIfInBounds_toArray, List.set_cons_zero, List.set_cons_succ]
      refine batchG hfn (fuel := 0) [12, 13, 14] (by kernel_rfl) rfl ?_
      repeat (go_big_quiet_step ((fail)))
      refine wpQuiet_nil ?_
      refine wpAnyG_done (by kernel_rfl) ?_
      refine calmQ_normal ?_
      clear hneq hxd h8
      have bl := (hk.block _ (lt_of hbl)).trans hbl
      have br := (hk.block _ (lt_of hbr)).trans hbr
      have bm := (hk.block _ (lt_of hbm)).trans hbm
      have hl0 := cell_of bl 0
      have hl1 := cell_of bl 1
      have hr0 := cell_of br 0
      have hr1 := cell_of br 1
      have hm0 := cell_of bm 0
      simp at hl0 hl1 hr0 hr1 hm0
      clear hbl hbr hbm bl br bm
      cases h1 : (hi t.left != hi t.right) <;> cases h2 : (col t == 1) <;> cases h3 : (col t.left == 1) <;> cases h4 : (col t.right == 1)
      all_goals
        have HT := Lib.hid (rbBadTree_eq t _ _ _ _ h1 h2 h3 h4)
        gi_wp2
        go_ret
        exact ⟨ret_int (by rw [HX.out, HB.out, HT.out]; rfl), hx⟩
    | false =>
      have hneq := fun W => what_neq (col t) (hi t) 1 (hi t.left) W
      rw [ce] at hneq
      simp only [Bool.not_false] at hneq
      refine wpIn_region_G (fun j => !(List.contains (α := Nat) [10, 11] j)) (by kernel_rfl) ?_
      refine batchG hfn (fuel := 12) [0, 1, 2] (by kernel_rfl) rfl ?_
      repeat (go_big_quiet_step ((fail)))
      refine wpQuiet_nil ?_
      refine wpAnyG_one (j := 3) (by kernel_rfl) rfl ?_
      gi_wp2_with fail
      refine ⟨wide_room _, (callsIn_wide.2 (rbOver_any _ (hi t.left) true)).mono ?_⟩
      rw [show overV (hi t.left) true = .agg #[.int .u64 1, .int .u64 (hi t.left)] from rfl]
      rintro e w8 ⟨rfl, h8⟩
      gi_wp2_with fail
      refine onePost_ext (h8) ?_
      have hk0 := hxd.trans h8
      clear hl1 hm0 hm1
      have hl1 := cell_all (cell_of ((hk0.block _ (lt_of hbl)).trans hbl) 1)
      have hx8 := Ext.refl w8
      refine batchG hfn (fuel := 6) [4, 5, 6, 8, 9] (by kernel_rfl) rfl ?_
      repeat (go_big_quiet_step ((fail)))
      refine wpQuiet_nil ?_
      refine wpAnyG_one (j := 7) (by kernel_rfl) rfl ?_
      gi_wp2_with fail
      refine ⟨wide_room _, (callsIn_wide.2 (tag_any _ t (ht.ext hk0))).mono ?_⟩
      rintro e w9 ⟨rfl, h9⟩
      gi_wp2_with fail
      refine onePost_ext (h9) ?_
      clear hl1 hneq hxd hx8
      refine wpAnyG_one (j := 10) (by kernel_rfl) rfl ?_
      gi_wp2_with fail
      refine ⟨wide_room _, (callsIn_wide.2 (rbOver_any _ (hi t.left) false)).mono ?_⟩
      rintro e w10 ⟨rfl, h10⟩
      gi_wp2_with fail
      refine onePost_any (by kernel_rfl) ?_
      refine wpAnyG_one (j := 11) (by kernel_rfl) rfl ?_
      gi_wp2_with fail
      refine ⟨wide_room _, (callsIn_wide.2 (rbOverTag_any _ t.left false)).mono ?_⟩
      rintro e w11 ⟨rfl, h11⟩
      gi_wp2_with fail
      refine onePost_any (by kernel_rfl) ?_
      have hk := ((hk0.trans h9).trans h10).trans h11
      replace hx := hx.trans hk
      cases ct : (t.tag != rbTag t.left false) with
      | true =>
        have HB := Lib.hid (show rbBadTag t = true by rw [HBT.out, c0', ce, ct]; rfl)
        clear ce h8 hk0 h9 h10 h11
        refine batchG hfn (fuel := 0) [12, 13, 14] (by kernel_rfl) rfl ?_
        repeat (go_big_quiet_step ((fail)))
        refine wpQuiet_nil ?_
        refine wpAnyG_done (by kernel_rfl) ?_
        refine calmQ_normal ?_
        gi_wp2
        go_ret
        exact ⟨ret_int (by rw [HX.out, if_pos HB.out]), hx⟩
      | false =>
        have HB := Lib.hid (show rbBadTag t = false by rw [HBT.out, c0', ce, ct]; rfl)
        clear ce h8 hk0 h9 h10 h11
        refine batchG hfn (fuel := 0) [12, 13, 14] (by kernel_rfl) rfl ?_
        repeat (go_big_quiet_step ((fail)))
        refine wpQuiet_nil ?_
        refine wpAnyG_done (by kernel_rfl) ?_
        refine calmQ_normal ?_
        have bl := (hk.block _ (lt_of hbl)).trans hbl
        have br := (hk.block _ (lt_of hbr)).trans hbr
        have bm := (hk.block _ (lt_of hbm)).trans hbm
        have hl0 := cell_of bl 0
        have hl1 := cell_of bl 1
        have hr0 := cell_of br 0
        have hr1 := cell_of br 1
        have hm0 := cell_of bm 0
        simp at hl0 hl1 hr0 hr1 hm0
        clear hbl hbr hbm bl br bm
        cases h1 : (hi t.left != hi t.right) <;> cases h2 : (col t == 1) <;> cases h3 : (col t.left == 1) <;> cases h4 : (col t.right == 1)
        all_goals
          have HT := Lib.hid (rbBadTree_eq t _ _ _ _ h1 h2 h3 h4)
          gi_wp2
          go_ret
          exact ⟨ret_int (by rw [HX.out, HB.out, HT.out]; rfl), hx⟩
end Go.Proofs.YtoiohjifjmejkaaGreat
namespace Go.Proofs.YtoiohjifjmejkaaGreat
open Go Go.RowKit Go.Shelf
attribute [local go_sem] Oper.semAt_some

set_option maxRecDepth 100000 in
set_option maxHeartbeats 2000000 in
theorem rbOn_in (M : Nat → Prop) (Px : Tr → Prop) (l N by_ bo : Nat) (J Jx : List Tr → World → Prop) (hy0 : ¬ M by_) (ho0 : ¬ M bo)
    (hY : ∀ m pre x W, Px x → J pre W → pre.length < N → YieldAt Fence.wide m Tryz.prog l #[.int .i64 (rbOne x)] W fun e W' =>
      (e = .returned (.bool true) ∧ J (pre ++ [x]) W' ∧ Keep M W W') ∨ (e = .returned (.bool false) ∧ Jx (pre ++ [x]) W'))
    (hJE : ∀ pre W W', J pre W → Ext W W' → J pre W')
    (T : Tr) :
    ∀ (n : Nat) (pre : List Tr) (W : World), InH W T → TagsOk T → Off M T → (∀ x ∈ T.pre, Px x) → J pre W → pre.length + T.pre.length ≤ N →
      Boxed W by_ 200 (.func (.yield l) #[] #[]) → Boxed W bo 104 (.func (.func 161) #[] #[.pointer (some ⟨by_, 0, none⟩), .pointer (some ⟨bo, 0, none⟩)]) →
      CallsIn Fence.wide n Tryz.prog 161 #[.pointer T.ptr, .pointer (some ⟨by_, 0, none⟩), .pointer (some ⟨bo, 0, none⟩)] W fun e W' =>
        (e = .returned (.bool true) ∧ J (pre ++ T.pre) W' ∧ Keep M W W') ∨ (e = .returned (.bool false) ∧ ∃ q, q <+: T.pre ∧ Jx (pre ++ q) W') := by
  have hfn : ∀ f, Fence.wide.fn f := fun _ => trivial
  induction T with
  | nil =>
    intro n pre W _ _ _ _ hJ _ _ _
    rw [Tr.ptr_nil]
    refine callsIn_of_wp Tryz.func161 rfl trivial ?_ rfl
    simp only [Tryz.ntmps161, List.size_toArray, List.length_cons, List.length_nil, Nat.reduceAdd, Nat.reduceSub, Array.replicate_succ, Array.replicate_zero, List.push_toArray, List.append_toArray, List.nil_append, List.cons_append]
    gi_wp2_with fail
    refine wpIn_region_G (fun j => !(List.contains (α := Nat) [6, 11, 17] j)) (by kernel_rfl) ?_
    refine batchG hfn (fuel := 16) [0, 1, 2, 3, 4] (by kernel_rfl) rfl ?_
    repeat (go_big_quiet_step ((fail)))
    refine wpQuiet_nil ?_
    refine wpAnyG_skip hfn (j := 5) (by kernel_rfl) rfl rfl ?_
    simp only [Act.put, List.setIfInBounds_toArray, List.set_cons_zero, List.set_cons_succ]
    refine wpAnyG_skip hfn (j := 6) (by kernel_rfl) rfl rfl ?_
    simp only [Act.put, List.setIfInBounds_toArray, List.set_cons_zero, List.set_cons_succ]
    refine batchG hfn (fuel := 11) [7, 8, 9] (by kernel_rfl) rfl ?_
    repeat (go_big_quiet_step ((fail)))
    refine wpQuiet_nil ?_
    refine wpAnyG_skip hfn (j := 10) (by kernel_rfl) rfl rfl ?_
    simp only [Act.put, List.setIfInBounds_toArray, List.set_cons_zero, List.set_cons_succ]
    refine wpAnyG_skip hfn (j := 11) (by kernel_rfl) rfl rfl ?_
    simp only [Act.put, List.setIfInBounds_toArray, List.set_cons_zero, List.set_cons_succ]
    refine batchG hfn (fuel := 5) [12, 13, 14, 15] (by kernel_rfl) rfl ?_
    repeat (go_big_quiet_step ((fail)))
    refine wpQuiet_nil ?_
    refine wpAnyG_skip hfn (j := 16) (by kernel_rfl) rfl rfl ?_
    simp only [Act.put, List.setIfInBounds_toArray, List.set_cons_zero, List.set_cons_succ]
    refine wpAnyG_skip hfn (j := 17) (by kernel_rfl) rfl rfl ?_
    simp only [Act.put, List.setIfInBounds_toArray, List.set_cons_zero, List.set_cons_succ]
    refine batchG hfn (fuel := 0) [18, 19, 20] (by kernel_rfl) rfl ?_
    repeat (go_big_quiet_step ((fail)))
    refine wpQuiet_nil ?_
    refine wpAnyG_done (by kernel_rfl) ?_
    refine calmQ_normal ?_
    gi_wp2
    go_ret
    exact .inl ⟨rfl, by simpa [Tr.pre] using hJE _ _ _ hJ (Ext.drew W), Keep.drew W⟩
  | node b tl k v g tr ihl ihr =>
    intro n pre W ht hto ho hP hJ hN hy hbo
    simp only [Tr.pre, List.length_cons, List.length_append] at hN
    have Hl := Lib.hid ihl
    have Hr := Lib.hid ihr
    clear ihl ihr
    have HP := Lib.hid hP
    clear hP
    have hcy := cell_all hy.cell
    have hx0 := Ext.drew W
    rw [Tr.ptr_node]
    refine callsIn_of_wp Tryz.func161 rfl trivial ?_ rfl
    simp only [Tryz.ntmps161, List.size_toArray, List.length_cons, List.length_nil, Nat.reduceAdd, Nat.reduceSub, Array.replicate_succ, Array.replicate_zero, List.push_toArray, List.append_toArray, List.nil_append, List.cons_append]
    gi_wp2_with fail
    refine wpIn_region_G (fun j => !(List.contains (α := Nat) [6, 11, 17] j)) (by kernel_rfl) ?_
    refine batchG hfn (fuel := 16) [0, 1, 2, 3, 4] (by kernel_rfl) rfl ?_
    repeat (go_big_quiet_step ((fail)))
    refine wpQuiet_nil ?_
    clear hcy
    refine wpAnyG_one (j := 5) (by kernel_rfl) rfl ?_
    gi_wp2_with fail
    refine ⟨wide_room _, (callsIn_wide.2 (rbOne_any _ (.node b tl k v g tr) (ht.ext hx0) hto)).mono ?_⟩
    rintro e W0 ⟨rfl, h0⟩
    gi_wp2_with fail
    refine onePost_ext (h0) ?_
    have h00 := hx0.trans h0
    obtain ⟨fn, tmps, assign, body, hy1, hR⟩ := hY n pre (.node b tl k v g tr) W0 (HP.out _ (List.mem_cons_self ..)) (hJE _ _ _ hJ h00) (by omega)
    have HR := Lib.hid hR
    clear hR hY
    refine wpAnyG_one (j := 6) (by kernel_rfl) rfl ?_
    gi_wp2_with fail
    clear hy1
    refine ⟨wide_room _, (RoundIn.any HR.out).mono ?_⟩
    rintro e W1 (⟨rfl, hJ1, hk1⟩ | ⟨rfl, hJx1⟩)
    · have hk01 := (Keep.ext (M := M) h00).trans hk1
      have ht1 := InH.keep hk01 ho ht
      have hy1 := hk01.boxed hy0 hy
      have hb1 := hk01.boxed ho0 hbo
      clear hy hbo ht hJ hk1
      have hco := cell_all hb1.cell
      have hx1 := Ext.refl W1
      gi_wp2_with fail
      refine onePost_any (by kernel_rfl) ?_
      refine batchG hfn (fuel := 11) [7, 8, 9] (by kernel_rfl) rfl ?_
      repeat (go_big_quiet_step ((fail)))
      refine wpQuiet_nil ?_
      refine wpAnyG_one (j := 10) (by kernel_rfl) rfl ?_
      gi_wp2_with fail
      rw [← Tr.ptr_node b tl k v g tr]
      clear hco hx1
      refine ⟨wide_room _, (callsIn_wide.2 (left_any _ _ ht1)).mono ?_⟩
      rintro e W2 ⟨rfl, h2⟩
      gi_wp2_with fail
      refine onePost_ext (h2) ?_
      refine wpAnyG_one (j := 11) (by kernel_rfl) rfl ?_
      gi_wp2_with fail
      simp only [Tr.left_node]
      have ht2 := ht1.ext h2
      have hb2 := (Keep.ext (M := M) h2).boxed ho0 hb1
      have hy2 := (Keep.ext (M := M) h2).boxed hy0 hy1
      have hJ2 := hJE _ _ _ hJ1 h2
      have hk02 := hk01.trans (Keep.ext h2)
      clear ht1 hb1 hy1 hJ1 hk01
      refine ⟨wide_room _, (Hl.out (n - 1) _ W2 ht2.2.1 hto.2.2.1 ho.2.1 (fun x hx => HP.out x (List.mem_cons_of_mem _ (List.mem_append_left _ hx))) hJ2 (by simp; omega) hy2 hb2).mono ?_⟩
      rintro e W3 (⟨rfl, hJ3, hk3⟩ | ⟨rfl, q, hq, hJx3⟩)
      · have ht3 := InH.keep hk3 ho ht2
        have hy3 := hk3.boxed hy0 hy2
        have hb3 := hk3.boxed ho0 hb2
        have hk03 := hk02.trans hk3
        clear hk3 hk02 hJ2 hb2 hy2 ht2
        have hco := cell_all hb3.cell
        have hx3 := Ext.refl W3
        gi_wp2_with fail
        refine onePost_any (by kernel_rfl) ?_
        refine batchG hfn (fuel := 5) [12, 13, 14, 15] (by kernel_rfl) rfl ?_
        repeat (go_big_quiet_step ((fail)))
        refine wpQuiet_nil ?_
        refine wpAnyG_one (j := 16) (by kernel_rfl) rfl ?_
        gi_wp2_with fail
        clear hco hx3
        refine ⟨wide_room _, (callsIn_wide.2 (right_any _ _ ht3)).mono ?_⟩
        rintro e W4 ⟨rfl, h4⟩
        gi_wp2_with fail
        refine onePost_ext (h4) ?_
        refine wpAnyG_one (j := 17) (by kernel_rfl) rfl ?_
        gi_wp2_with fail
        simp only [Tr.right_node]
        have ht4 := ht3.ext h4
        have hb4 := (Keep.ext (M := M) h4).boxed ho0 hb3
        have hy4 := (Keep.ext (M := M) h4).boxed hy0 hy3
        have hJ4 := hJE _ _ _ hJ3 h4
        have hk04 := hk03.trans (Keep.ext h4)
        clear ht3 hb3 hy3 hJ3 hk03
        refine ⟨wide_room _, (Hr.out (n - 1) _ W4 ht4.2.2 hto.2.2.2 ho.2.2 (fun x hx => HP.out x (List.mem_cons_of_mem _ (List.mem_append_right _ hx))) hJ4 (by simp; omega) hy4 hb4).mono ?_⟩
        rintro e W5 (⟨rfl, hJ5, hk5⟩ | ⟨rfl, q, hq, hJx5⟩)
        · gi_wp2_with fail
          refine onePost_any (by kernel_rfl) ?_
          refine batchG hfn (fuel := 0) [18, 19, 20] (by kernel_rfl) rfl ?_
          repeat (go_big_quiet_step ((fail)))
          refine wpQuiet_nil ?_
          refine wpAnyG_done (by kernel_rfl) ?_
          refine calmQ_normal ?_
          gi_wp2
          go_ret
          exact .inl ⟨rfl, by simpa [Tr.pre, List.append_assoc] using hJ5, hk04.trans hk5⟩
        · gi_wp2_with fail
          refine onePost_any (by kernel_rfl) ?_
          refine batchG hfn (fuel := 0) [18, 19, 20] (by kernel_rfl) rfl ?_
          repeat (go_big_quiet_step ((fail)))
          refine wpQuiet_nil ?_
          refine wpAnyG_done (by kernel_rfl) ?_
          refine calmQ_normal ?_
          gi_wp2
          go_ret
          obtain ⟨r', hr'⟩ := hq
          exact .inr ⟨rfl, .node b tl k v g tr :: (tl.pre ++ q), ⟨r', by simp [Tr.pre, ← hr']⟩, by simpa [List.append_assoc] using hJx5⟩
      · gi_wp2_with fail
        refine onePost_any (by kernel_rfl) ?_
        refine batchG hfn (fuel := 5) [12, 13, 14, 15] (by kernel_rfl) rfl ?_
        repeat (go_big_quiet_step ((fail)))
        refine wpQuiet_nil ?_
        refine wpAnyG_skip hfn (j := 16) (by kernel_rfl) rfl rfl ?_
        simp only [Act.put, List.setIfInBounds_toArray, List.set_cons_zero, List.set_cons_succ]
        refine wpAnyG_skip hfn (j := 17) (by kernel_rfl) rfl rfl ?_
        simp only [Act.put, List.setIfInBounds_toArray, List.set_cons_zero, List.set_cons_succ]
        refine batchG hfn (fuel := 0) [18, 19, 20] (by kernel_rfl) rfl ?_
        repeat (go_big_quiet_step ((fail)))
        refine wpQuiet_nil ?_
        refine wpAnyG_done (by kernel_rfl) ?_
        refine calmQ_normal ?_
        gi_wp2
        go_ret
        obtain ⟨r', hr'⟩ := hq
        exact .inr ⟨rfl, .node b tl k v g tr :: q, ⟨r' ++ tr.pre, by simp [Tr.pre, ← hr']⟩, by simpa [List.append_assoc] using hJx3⟩
    · gi_wp2_with fail
      refine onePost_any (by kernel_rfl) ?_
      refine batchG hfn (fuel := 11) [7, 8, 9] (by kernel_rfl) rfl ?_
      repeat (go_big_quiet_step ((fail)))
      refine wpQuiet_nil ?_
      refine wpAnyG_skip hfn (j := 10) (by kernel_rfl) rfl rfl ?_
      simp only [Act.put, List.setIfInBounds_toArray, List.set_cons_zero, List.set_cons_succ]
      refine wpAnyG_skip hfn (j := 11) (by kernel_rfl) rfl rfl ?_
      simp only [Act.put, List.setIfInBounds_toArray, List.set_cons_zero, List.set_cons_succ]
      refine batchG hfn (fuel := 5) [12, 13, 14, 15] (by kernel_rfl) rfl ?_
      repeat (go_big_quiet_step ((fail)))
      refine wpQuiet_nil ?_
      refine wpAnyG_skip hfn (j := 16) (by kernel_rfl) rfl rfl ?_
      simp only [Act.put, List.setIfInBounds_toArray, List.set_cons_zero, List.set_cons_succ]
      refine wpAnyG_skip hfn (j := 17) (by kernel_rfl) rfl rfl ?_
      simp only [Act.put, List.setIfInBounds_toArray, List.set_cons_zero, List.set_cons_succ]
      refine batchG hfn (fuel := 0) [18, 19, 20] (by kernel_rfl) rfl ?_
      repeat (go_big_quiet_step ((fail)))
      refine wpQuiet_nil ?_
      refine wpAnyG_done (by kernel_rfl) ?_
      refine calmQ_normal ?_
      gi_wp2
      go_ret
      exact .inr ⟨rfl, [.node b tl k v g tr], ⟨tl.pre ++ tr.pre, rfl⟩, hJx1⟩
end Go.Proofs.YtoiohjifjmejkaaGreat
