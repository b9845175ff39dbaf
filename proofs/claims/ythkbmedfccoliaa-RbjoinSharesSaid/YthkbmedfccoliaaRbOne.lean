/- rb.one: what is wrong with a node. -/
import Derived.Test.YthkbmedfccoliaaRb
import Derived.BigQuiet
namespace Go.Proofs.Ythkbmedfccoliaa
open Go Go.RowKit

theorem what_neq (a b c d : Int) (w : World) : (binOp .neq 72 (.agg #[.int .u64 a, .int .u64 b]) (.agg #[.int .u64 c, .int .u64 d])).run Try.prog w = .ok (.bool (!(a == c && b == d))) w := by
  have h := Try.underlying72
  simp only [Bool.not_and]
  by_cases h1 : a = c <;> by_cases h2 : b = d <;> simp [go_sem, h, h1, h2]
/-- is the tag wrong? -/
def rbBadTag (t : Tr) : Bool := t.tag == 0 || (!(col t == 1 && hi t == hi t.left) && t.tag != rbTag t.left false)
def rbBadTree (t : Tr) : Bool := hi t.left != hi t.right || (col t == 1 && (col t.left == 1 || col t.right == 1))
def rbOne (t : Tr) : Int := if rbBadTag t then 140 else if rbBadTree t then 8 else 0
theorem rbBadTree_eq (t : Tr) (a b c d : Bool) (h1 : (hi t.left != hi t.right) = a) (h2 : (col t == 1) = b) (h3 : (col t.left == 1) = c) (h4 : (col t.right == 1) = d) : rbBadTree t = (a || (b && (c || d))) := by
  unfold rbBadTree
  rw [h1, h2, h3, h4]
theorem three {w : World} {A B C : Array Value} {T : TypeId} : (((w.alloc (.cells A T)).alloc (.cells B T)).alloc (.cells C T)).heap[w.heap.size]? = some (.cells A T (0, 0)) ∧
    (((w.alloc (.cells A T)).alloc (.cells B T)).alloc (.cells C T)).heap[w.heap.size + 1]? = some (.cells B T (0, 0)) ∧ (((w.alloc (.cells A T)).alloc (.cells B T)).alloc (.cells C T)).heap[w.heap.size + 1 + 1]? = some (.cells C T (0, 0)) := by
  refine ⟨?_, ?_, ?_⟩ <;> (repeat (first | exact alloc_at _ _ _ (by simp) | rw [alloc_lt _ _ _ (by simp <;> omega)]))
set_option maxHeartbeats 4000000 in
theorem rbOne_any (w : World) (t : Tr) (ht : InH w t) (ho : TagsOk t) : Calls Try.prog 65 #[.pointer t.ptr] w (Ret (.int .i64 (rbOne t)) w) := by
  have hfn : ∀ f, Fence.wide.fn f := fun _ => trivial
  have hx := Ext.refl w
  obtain ⟨X, eX⟩ : ∃ X, X = rbOne t := ⟨_, rfl⟩
  have hX : X = if rbBadTag t = true then 140 else if rbBadTree t = true then 8 else 0 := eX
  rw [← eX]
  have HX := Lib.hid hX
  have HL := Lib.hid (fun W h => rbOf_any W t.left h (tags_left ho))
  have HR := Lib.hid (fun W h => rbOf_any W t.right h (tags_right ho))
  have HM := Lib.hid (fun W h => rbOf_any W t h ho)
  have HBT := Lib.hid (show rbBadTag t = (t.tag == 0 || (!(col t == 1 && hi t == hi t.left) && t.tag != rbTag t.left false)) from rfl)
  clear eX hX ho
  unfold whatV at HL HR HM
  go_enter Try.func65, Try.ntmps65
  obtain ⟨m⟩ : Nonempty Nat := ⟨0⟩
  refine (wpIn_wide (n := m)).1 ?_
  gi_wp2_with fail
  refine ⟨wide_room _, (callsIn_wide.2 (left_any _ t ht)).mono ?_⟩
  rintro e w1 ⟨rfl, hS⟩
  replace hx := hx.trans hS
  replace ht := ht.ext hS
  clear hS
  gi_wp2_with fail
  refine ⟨wide_room _, (callsIn_wide.2 (HL.out _ (left_ok ht))).mono ?_⟩
  rintro e w2 ⟨rfl, hS⟩
  replace hx := hx.trans hS
  replace ht := ht.ext hS
  clear hS
  gi_wp2_with fail
  refine ⟨wide_room _, (callsIn_wide.2 (right_any _ t ht)).mono ?_⟩
  rintro e w3 ⟨rfl, hS⟩
  replace hx := hx.trans hS
  replace ht := ht.ext hS
  clear hS
  gi_wp2_with fail
  refine ⟨wide_room _, (callsIn_wide.2 (HR.out _ (right_ok ht))).mono ?_⟩
  rintro e w4 ⟨rfl, hS⟩
  replace hx := hx.trans hS
  replace ht := ht.ext hS
  clear hS
  gi_wp2_with fail
  refine ⟨wide_room _, (callsIn_wide.2 (HM.out _ ht)).mono ?_⟩
  rintro e w5 ⟨rfl, hS⟩
  replace hx := hx.trans hS
  replace ht := ht.ext hS
  clear hS
  gi_wp2_with fail
  have hE := ((((Ext.refl w5).alloc (.cells #[.int .u64 (col t.left), .int .u64 (hi t.left)] 72)).alloc (.cells #[.int .u64 (col t.right), .int .u64 (hi t.right)] 72)).alloc (.cells #[.int .u64 (col t), .int .u64 (hi t)] 72))
  obtain ⟨hbl, hbr, hbm⟩ := three (w := w5) (A := #[.int .u64 (col t.left), .int .u64 (hi t.left)]) (B := #[.int .u64 (col t.right), .int .u64 (hi t.right)]) (C := #[.int .u64 (col t), .int .u64 (hi t)]) (T := 72)
  replace ht := ht.ext hE
  replace hx := hx.trans hE
  clear hE HL HR HM
  generalize (((w5.alloc (.cells #[.int .u64 (col t.left), .int .u64 (hi t.left)] 72)).alloc (.cells #[.int .u64 (col t.right), .int .u64 (hi t.right)] 72)).alloc (.cells #[.int .u64 (col t), .int .u64 (hi t)] 72)) = w6 at *
  generalize w5.heap.size = N at *
  refine ⟨wide_room _, (callsIn_wide.2 (tag_any w6 t ht)).mono ?_⟩
  rintro e w7 ⟨rfl, hS⟩
  by_cases c0 : t.tag = 0
  · have HB := Lib.hid (show rbBadTag t = true by rw [HBT.out, c0]; rfl)
    have c1 := beq_iff_eq.2 c0
    clear c0
    gi_wp2
    go_ret
    exact ⟨ret_int (by rw [HX.out, if_pos HB.out]), hx.trans hS⟩
  · have c0' := beq_eq_false_iff_ne.2 c0
    clear c0
    replace hx := hx.trans hS
    replace ht := ht.ext hS
    replace hbl := (hS.block _ (lt_of hbl)).trans hbl
    replace hbr := (hS.block _ (lt_of hbr)).trans hbr
    replace hbm := (hS.block _ (lt_of hbm)).trans hbm
    clear hS
    gi_wp2_with fail
    have hl1 := cell_all (cell_of hbl 1)
    have hm0 := cell_all (cell_of hbm 0)
    have hm1 := cell_all (cell_of hbm 1)
    have hxd := Ext.drew w7
    cases ce : (col t == 1 && hi t == hi t.left) with
    | true =>
      have HB := Lib.hid (show rbBadTag t = false by rw [HBT.out, c0', ce]; rfl)
      have hneq := fun W => what_neq (col t) (hi t) 1 (hi t.left) W
      rw [ce] at hneq
      simp only [Bool.not_true] at hneq
      clear ce
      refine wpIn_region_G (fun j => !(List.contains (α := Nat) [10, 11] j)) (by kernel_rfl) ?_
      refine batchG hfn (fuel := 12) [0, 1, 2] (by kernel_rfl) rfl ?_
      repeat (go_big_quiet_step ((fail)))
      refine wpQuiet_nil ?_
      refine wpAnyG_one (j := 3) (by kernel_rfl) rfl ?_
      gi_wp2_with fail
      refine ⟨wide_room _, (callsIn_wide.2 (rbOver_any _ (hi t.left) true)).mono ?_⟩
      rw [show overV (hi t.left) true = .agg #[.int .u64 1, .int .u64 (hi t.left)] from rfl]
      rintro e w8 ⟨rfl, h8⟩
      gi_wp2_with fail
      refine onePost_ext (h8) ?_
      have hk := hxd.trans h8
      replace hx := hx.trans hk
      clear hl1 hm0 hm1
      refine batchG hfn (fuel := 6) [4, 5, 6, 8, 9] (by kernel_rfl) rfl ?_
      repeat (go_big_quiet_step ((fail)))
      refine wpQuiet_nil ?_
      refine wpAnyG_skip hfn (j := 7) (by kernel_rfl) rfl rfl ?_
      simp only [Act.put, List.setIfInBounds_toArray, List.set_cons_zero, List.set_cons_succ]
      refine wpAnyG_skip hfn (j := 10) (by kernel_rfl) rfl rfl ?_
      simp only [Act.put, List.setIfInBounds_toArray, List.set_cons_zero, List.set_cons_succ]
      refine wpAnyG_skip hfn (j := 11) (by kernel_rfl) rfl rfl ?_
      simp only [Act.put, List.setIfInBounds_toArray, List.set_cons_zero, List.set_cons_succ]
      refine batchG hfn (fuel := 0) [12, 13, 14] (by kernel_rfl) rfl ?_
      repeat (go_big_quiet_step ((fail)))
      refine wpQuiet_nil ?_
      refine wpAnyG_done (by kernel_rfl) ?_
      refine calmQ_normal ?_
      clear hneq hxd h8
      have bl := (hk.block _ (lt_of hbl)).trans hbl
      have br := (hk.block _ (lt_of hbr)).trans hbr
      have bm := (hk.block _ (lt_of hbm)).trans hbm
      have hl0 := cell_of bl 0
      have hl1 := cell_of bl 1
      have hr0 := cell_of br 0
      have hr1 := cell_of br 1
      have hm0 := cell_of bm 0
      simp at hl0 hl1 hr0 hr1 hm0
      clear hbl hbr hbm bl br bm
      cases h1 : (hi t.left != hi t.right) <;> cases h2 : (col t == 1) <;> cases h3 : (col t.left == 1) <;> cases h4 : (col t.right == 1)
      all_goals
        have HT := Lib.hid (rbBadTree_eq t _ _ _ _ h1 h2 h3 h4)
        gi_wp2
        go_ret
        exact ⟨ret_int (by rw [HX.out, HB.out, HT.out]; rfl), hx⟩
    | false =>
      have hneq := fun W => what_neq (col t) (hi t) 1 (hi t.left) W
      rw [ce] at hneq
      simp only [Bool.not_false] at hneq
      refine wpIn_region_G (fun j => !(List.contains (α := Nat) [10, 11] j)) (by kernel_rfl) ?_
      refine batchG hfn (fuel := 12) [0, 1, 2] (by kernel_rfl) rfl ?_
      repeat (go_big_quiet_step ((fail)))
      refine wpQuiet_nil ?_
      refine wpAnyG_one (j := 3) (by kernel_rfl) rfl ?_
      gi_wp2_with fail
      refine ⟨wide_room _, (callsIn_wide.2 (rbOver_any _ (hi t.left) true)).mono ?_⟩
      rw [show overV (hi t.left) true = .agg #[.int .u64 1, .int .u64 (hi t.left)] from rfl]
      rintro e w8 ⟨rfl, h8⟩
      gi_wp2_with fail
      refine onePost_ext (h8) ?_
      have hk0 := hxd.trans h8
      clear hl1 hm0 hm1
      have hl1 := cell_all (cell_of ((hk0.block _ (lt_of hbl)).trans hbl) 1)
      have hx8 := Ext.refl w8
      refine batchG hfn (fuel := 6) [4, 5, 6, 8, 9] (by kernel_rfl) rfl ?_
      repeat (go_big_quiet_step ((fail)))
      refine wpQuiet_nil ?_
      refine wpAnyG_one (j := 7) (by kernel_rfl) rfl ?_
      gi_wp2_with fail
      refine ⟨wide_room _, (callsIn_wide.2 (tag_any _ t (ht.ext hk0))).mono ?_⟩
      rintro e w9 ⟨rfl, h9⟩
      gi_wp2_with fail
      refine onePost_ext (h9) ?_
      clear hl1 hneq hxd hx8
      refine wpAnyG_one (j := 10) (by kernel_rfl) rfl ?_
      gi_wp2_with fail
      refine ⟨wide_room _, (callsIn_wide.2 (rbOver_any _ (hi t.left) false)).mono ?_⟩
      rintro e w10 ⟨rfl, h10⟩
      gi_wp2_with fail
      refine onePost_any (by kernel_rfl) ?_
      refine wpAnyG_one (j := 11) (by kernel_rfl) rfl ?_
      gi_wp2_with fail
      refine ⟨wide_room _, (callsIn_wide.2 (rbOverTag_any _ t.left false)).mono ?_⟩
      rintro e w11 ⟨rfl, h11⟩
      gi_wp2_with fail
      refine onePost_any (by kernel_rfl) ?_
      have hk := ((hk0.trans h9).trans h10).trans h11
      replace hx := hx.trans hk
      cases ct : (t.tag != rbTag t.left false) with
      | true =>
        have HB := Lib.hid (show rbBadTag t = true by rw [HBT.out, c0', ce, ct]; rfl)
        clear ce h8 hk0 h9 h10 h11
        refine batchG hfn (fuel := 0) [12, 13, 14] (by kernel_rfl) rfl ?_
        repeat (go_big_quiet_step ((fail)))
        refine wpQuiet_nil ?_
        refine wpAnyG_done (by kernel_rfl) ?_
        refine calmQ_normal ?_
        gi_wp2
        go_ret
        exact ⟨ret_int (by rw [HX.out, if_pos HB.out]), hx⟩
      | false =>
        have HB := Lib.hid (show rbBadTag t = false by rw [HBT.out, c0', ce, ct]; rfl)
        clear ce h8 hk0 h9 h10 h11
        refine batchG hfn (fuel := 0) [12, 13, 14] (by kernel_rfl) rfl ?_
        repeat (go_big_quiet_step ((fail)))
        refine wpQuiet_nil ?_
        refine wpAnyG_done (by kernel_rfl) ?_
        refine calmQ_normal ?_
        have bl := (hk.block _ (lt_of hbl)).trans hbl
        have br := (hk.block _ (lt_of hbr)).trans hbr
        have bm := (hk.block _ (lt_of hbm)).trans hbm
        have hl0 := cell_of bl 0
        have hl1 := cell_of bl 1
        have hr0 := cell_of br 0
        have hr1 := cell_of br 1
        have hm0 := cell_of bm 0
        simp at hl0 hl1 hr0 hr1 hm0
        clear hbl hbr hbm bl br bm
        cases h1 : (hi t.left != hi t.right) <;> cases h2 : (col t == 1) <;> cases h3 : (col t.left == 1) <;> cases h4 : (col t.right == 1)
        all_goals
          have HT := Lib.hid (rbBadTree_eq t _ _ _ _ h1 h2 h3 h4)
          gi_wp2
          go_ret
          exact ⟨ret_int (by rw [HX.out, HB.out, HT.out]; rfl), hx⟩
end Go.Proofs.Ythkbmedfccoliaa
