/- joineryref14: Tag, one, Check, May of a row of beads, as avl's own of the tree in memory. -/
import Derived.Test.YtmpglinomjmogaaBead3
namespace Go.Proofs.Ytmpglinomjmogaa
open Go Go.RowKit

theorem tag14_any (w : World) (p : Value) (t : BT) (hb : Beads w p t.enc) : Calls Try.prog 33 #[p] w (Ret (.int .u64 t.tag) w) := by
  rcases hb with ⟨h, a, c, rfl⟩ | ⟨b, o, c, rfl, hne, hc, hr⟩
  · cases t with
    | nil =>
      rw [show BT.nil.tag = 0 from rfl]
      go_enter Try.func33, Try.ntmps33
      go_wp2
      go_ret
      exact Ret.mk (Ext.refl _)
    | node => simp [BT.enc] at h
  · cases t with
    | nil => exact (hne rfl).elim
    | node k v s n g l r =>
      have hc4 : w.cell? ⟨b, o + 4, none⟩ = some (.int .u64 g) := by
        have := rangeAt_cell hr (i := 0) rfl (j := 4) rfl
        simpa using this
      have hlen : 1 ≤ (BT.node k v s n g l r).enc.length := by simp [BT.enc]
      rw [show (BT.node k v s n g l r).tag = g from rfl]
      clear hr hne
      generalize (BT.node k v s n g l r).enc.length = LL at *
      go_enter Try.func33, Try.ntmps33
      go_wp2
      go_ret
      exact Ret.mk (Ext.refl _)

/-- what is wrong with a tree's root. -/
def oneOf (T : Tr) : Int := if avlBadTag T then 140 else if avlBadTree T then 8 else 0
set_option maxHeartbeats 1000000 in
theorem one14_any (w : World) (p : Value) (k v s n g : Int) (l r : BT) (T : Tr) (hf : (BT.node k v s n g l r).fits T) (hb : Beads w p (BT.node k v s n g l r).enc) (hl : (BT.node k v s n g l r).enc.length ≤ 2000) :
    Calls Try.prog 56 #[p] w (Ret (.int .i64 (oneOf T)) w) := by
  have hp := parts_any w p k v s n g l r hb hl
  obtain ⟨hfl, hfr, hg, -, -, -⟩ := BT.fits_left hf
  have e1 := BT.fits_tag hfl
  have e2 := BT.fits_tag hfr
  obtain ⟨O, hO⟩ : ∃ O, O = oneOf T := ⟨_, rfl⟩
  rw [← hO]
  unfold oneOf avlBadTag avlBadTree at hO
  rw [← hg, ← e1, ← e2] at hO
  have HO := Lib.hid hO
  clear hO e1 e2 hfl hfr hf hg hb
  go_enter Try.func56, Try.ntmps56
  go_wp2_with fail
  refine (hp).mono ?_
  rintro e w1 ⟨v1, v2, rfl, hv1, hv2, hE⟩
  go_wp2_with fail
  refine (tag14_any _ v1 l (hv1.ext ((Ext.refl w1).alloc _))).mono ?_
  rintro e w2 ⟨rfl, h2⟩
  have hE1 := (Ext.refl w1).alloc (.cells #[.int .i64 k, .int .i64 v, .int .i64 s, .int .i64 n, .int .u64 g, .bool (!l.isNil), .bool (!r.isNil)] 49)
  have h12 := hE1.trans h2
  go_wp2_with fail
  refine (tag14_any _ v2 r (hv2.ext h12)).mono ?_
  rintro e w3 ⟨rfl, h3⟩
  rcases Int.lt_trichotomy l.tag r.tag with c1 | c1 | c1
  · have h13 := h12.trans h3
    go_wp2_with fail
    refine (tag14_any _ v1 l (hv1.ext h13)).mono ?_
    rintro e w4 ⟨rfl, h4⟩
    have h14 := h13.trans h4
    go_wp2_with fail
    refine (tag14_any _ v2 r (hv2.ext h14)).mono ?_
    rintro e w5 ⟨rfl, h5⟩
    have hk := (h2.trans h3).trans (h4.trans h5)
    have hc4 : w5.cell? ⟨w1.heap.size, 4, none⟩ = some (.int .u64 g) := by
      have := cell_of (alloc_at w1 (.cells #[.int .i64 k, .int .i64 v, .int .i64 s, .int .i64 n, .int .u64 g, .bool (!l.isNil), .bool (!r.isNil)] 49) _ rfl) 4
      exact cell_keep hk this
    have hEE := hE.trans (h14.trans h5)
    clear hp hE hE1 h2 h12 h3 h13 h4 h14 h5 hk hv1 hv2
    generalize l.tag = x at *
    generalize r.tag = y at *
    have HM := Lib.hid (show max x y = y ∧ min x y = x by omega)
    by_cases c2 : g = 0
    · subst c2
      go_wp2
      all_goals
        go_ret
        exact ⟨ret_int (by rw [HO.out]; rfl), hEE⟩
    · have c2' := beq_eq_false_iff_ne.2 c2
      cases c3 : (IntKind.u64.wrap (g - 1) != y) with
      | true =>
        go_wp2
        go_ret
        exact ⟨ret_int (by rw [HO.out, HM.out.1, HM.out.2, c2', c3]; rfl), hEE⟩
      | false =>
        cases c4 : decide (1 < IntKind.u64.wrap (y - x)) with
        | true =>
          go_wp2
          go_ret
          exact ⟨ret_int (by rw [HO.out, HM.out.1, HM.out.2, c2', c3, c4]; rfl), hEE⟩
        | false =>
          go_wp2
          go_ret
          exact ⟨ret_int (by rw [HO.out, HM.out.1, HM.out.2, c2', c3, c4]; rfl), hEE⟩
  · have h13 := h12.trans h3
    go_wp2_with fail
    refine (tag14_any _ v1 l (hv1.ext h13)).mono ?_
    rintro e w4 ⟨rfl, h4⟩
    have h14 := h13.trans h4
    go_wp2_with fail
    refine (tag14_any _ v2 r (hv2.ext h14)).mono ?_
    rintro e w5 ⟨rfl, h5⟩
    have hk := (h2.trans h3).trans (h4.trans h5)
    have hc4 : w5.cell? ⟨w1.heap.size, 4, none⟩ = some (.int .u64 g) := by
      have := cell_of (alloc_at w1 (.cells #[.int .i64 k, .int .i64 v, .int .i64 s, .int .i64 n, .int .u64 g, .bool (!l.isNil), .bool (!r.isNil)] 49) _ rfl) 4
      exact cell_keep hk this
    have hEE := hE.trans (h14.trans h5)
    clear hp hE hE1 h2 h12 h3 h13 h4 h14 h5 hk hv1 hv2
    generalize l.tag = x at *
    generalize r.tag = y at *
    subst c1
    have HM := Lib.hid (show max x x = x ∧ min x x = x by omega)
    by_cases c2 : g = 0
    · subst c2
      go_wp2
      all_goals
        go_ret
        exact ⟨ret_int (by rw [HO.out]; rfl), hEE⟩
    · have c2' := beq_eq_false_iff_ne.2 c2
      cases c3 : (IntKind.u64.wrap (g - 1) != x) with
      | true =>
        go_wp2
        go_ret
        exact ⟨ret_int (by rw [HO.out, HM.out.1, HM.out.2, c2', c3]; rfl), hEE⟩
      | false =>
        have c4 : decide (1 < IntKind.u64.wrap (x - x)) = false := by rw [Int.sub_self]; decide +kernel
        have C4 := Lib.hid c4
        clear c4
        go_wp2
        go_ret
        exact ⟨ret_int (by rw [HO.out, HM.out.1, HM.out.2, c2', c3, C4.out]; rfl), hEE⟩
  · have h13 := h12.trans h3
    go_wp2_with fail
    refine (tag14_any _ v1 l (hv1.ext h13)).mono ?_
    rintro e w4 ⟨rfl, h4⟩
    have h14 := h13.trans h4
    go_wp2_with fail
    refine (tag14_any _ v2 r (hv2.ext h14)).mono ?_
    rintro e w5 ⟨rfl, h5⟩
    have hk := (h2.trans h3).trans (h4.trans h5)
    have hc4 : w5.cell? ⟨w1.heap.size, 4, none⟩ = some (.int .u64 g) := by
      have := cell_of (alloc_at w1 (.cells #[.int .i64 k, .int .i64 v, .int .i64 s, .int .i64 n, .int .u64 g, .bool (!l.isNil), .bool (!r.isNil)] 49) _ rfl) 4
      exact cell_keep hk this
    have hEE := hE.trans (h14.trans h5)
    clear hp hE hE1 h2 h12 h3 h13 h4 h14 h5 hk hv1 hv2
    generalize l.tag = x at *
    generalize r.tag = y at *
    have HM := Lib.hid (show max x y = x ∧ min x y = y by omega)
    by_cases c2 : g = 0
    · subst c2
      go_wp2
      all_goals
        go_ret
        exact ⟨ret_int (by rw [HO.out]; rfl), hEE⟩
    · have c2' := beq_eq_false_iff_ne.2 c2
      cases c3 : (IntKind.u64.wrap (g - 1) != x) with
      | true =>
        go_wp2
        go_ret
        exact ⟨ret_int (by rw [HO.out, HM.out.1, HM.out.2, c2', c3]; rfl), hEE⟩
      | false =>
        cases c4 : decide (1 < IntKind.u64.wrap (x - y)) with
        | true =>
          go_wp2
          go_ret
          exact ⟨ret_int (by rw [HO.out, HM.out.1, HM.out.2, c2', c3, c4]; rfl), hEE⟩
        | false =>
          go_wp2
          go_ret
          exact ⟨ret_int (by rw [HO.out, HM.out.1, HM.out.2, c2', c3, c4]; rfl), hEE⟩
theorem avlFirst_le : ∀ l : List Tr, (avlFirst l).1 ≤ l.length
  | [] => by simp [avlFirst]
  | t :: l => by
    have := avlFirst_le l
    rw [avlFirst_cons]
    split
    · simp
    · split
      · simp
      · simp; omega
set_option maxHeartbeats 1000000 in
theorem check14_any (t : BT) : ∀ (T : Tr) (w : World) (p : Value), t.fits T → Beads w p t.enc → t.enc.length ≤ 2000 →
    Calls Try.prog 42 #[p] w (Ret (.tuple #[.int .i64 (avlFirst T.pre).1, .int .i64 (avlFirst T.pre).2]) w) := by
  induction t with
  | nil =>
    intro T w p hf hb hl
    obtain ⟨a, c, rfl⟩ := beads_slice hb
    have e : T = .nil := by cases T with | nil => rfl | node => exact hf.elim
    subst e
    rw [show BT.nil.enc.length = 0 from rfl, show avlFirst Tr.nil.pre = (0, 0) from rfl]
    clear hb hl hf
    go_enter Try.func42, Try.ntmps42
    go_wp2
    go_ret2
    exact ⟨rfl, Ext.refl _⟩
  | node k v s n g l r ihl ihr =>
    intro T w p hf hb hl
    obtain ⟨hfl, hfr, hg, -, -, hpre⟩ := BT.fits_left hf
    have ho := fun (w : World) (hb : Beads w p _) => one14_any w p k v s n g l r T hf hb hl
    have hp := fun (w : World) (hb : Beads w p _) => parts_any w p k v s n g l r hb hl
    have hlen : (BT.node k v s n g l r).enc.length = 1 + l.enc.length + r.enc.length := by simp [BT.enc]; omega
    have hll : l.enc.length ≤ 2000 := by omega
    have hlr : r.enc.length ≤ 2000 := by omega
    have hcl : (avlFirst T.left.pre).1 ≤ l.enc.length := by rw [← BT.fits_len hfl]; exact avlFirst_le _
    have hcr : (avlFirst T.right.pre).1 ≤ r.enc.length := by rw [← BT.fits_len hfr]; exact avlFirst_le _
    have IHl := Lib.hid (ihl T.left)
    have IHr := Lib.hid (ihr T.right)
    have HO := Lib.hid ho
    have HP := Lib.hid hp
    have HF := Lib.hid (And.intro hfl hfr)
    have h1 : 1 ≤ (BT.node k v s n g l r).enc.length := by omega
    have hsl := beads_slice hb
    obtain ⟨A, hA⟩ : ∃ A, A = avlFirst T.pre := ⟨_, rfl⟩
    rw [← hA]
    rw [hpre, avlFirst_cons, avlFirst_append] at hA
    have hnone : (avlFirst T.left.pre).2 = 0 → (avlFirst T.left.pre).1 = T.left.pre.length := fun h => (avlFirst_none h).1
    have HB := Lib.hid hb
    have hone : oneOf T = if avlBadTag T then 140 else if avlBadTree T then 8 else 0 := rfl
    generalize avlFirst T.left.pre = L at *
    generalize avlFirst T.right.pre = R at *
    obtain ⟨Ln, Le⟩ := L
    obtain ⟨Rn, Re⟩ := R
    simp only at hnone hcl hcr hA
    have HLL := Lib.hid hll
    have HLR := Lib.hid hlr
    have hLn : Ln ≤ 2000 := by omega
    have hRn : Rn ≤ 2000 := by omega
    obtain ⟨a, c, rfl⟩ := hsl
    clear hb ihl ihr ho hp hlen hll hlr hcl hcr hpre hg hf hfl hfr
    generalize (BT.node k v s n g l r).enc.length = LL at *
    cases b1 : avlBadTag T with
    | true =>
      rw [b1] at hA hone
      have h140 : oneOf T = 140 := by rw [hone]; rfl
      have HA := Lib.hid hA
      clear hA hone hnone b1
      go_enter Try.func42, Try.ntmps42
      go_wp2_with fail
      refine (HO.out w HB.out).mono ?_
      rw [h140]
      rintro e w1 ⟨rfl, h1⟩
      go_wp2
      go_ret2
      exact ⟨ret_two (by rw [HA.out]; rfl) (by rw [HA.out]; rfl), h1⟩
    | false =>
      cases b2 : avlBadTree T with
      | true =>
        rw [b1, b2] at hA hone
        have h140 : oneOf T = 8 := by rw [hone]; rfl
        have HA := Lib.hid hA
        clear hA hone hnone b1 b2
        go_enter Try.func42, Try.ntmps42
        go_wp2_with fail
        refine (HO.out w HB.out).mono ?_
        rw [h140]
        rintro e w1 ⟨rfl, h1⟩
        go_wp2
        go_ret2
        exact ⟨ret_two (by rw [HA.out]; rfl) (by rw [HA.out]; rfl), h1⟩
      | false =>
        rw [b1, b2] at hA hone
        have h140 : oneOf T = 0 := by rw [hone]; rfl
        have HA := Lib.hid hA
        have HNONE := Lib.hid hnone
        clear hA hone hnone b1 b2
        go_enter Try.func42, Try.ntmps42
        go_wp2_with fail
        refine (HO.out w HB.out).mono ?_
        rw [h140]
        rintro e w1 ⟨rfl, h1⟩
        go_wp2_with fail
        refine (HP.out w1 (HB.out.ext h1)).mono ?_
        rintro e w2 ⟨v1, v2, rfl, hv1, hv2, h2⟩
        have hE2 := (Ext.refl w2).alloc (.cells #[.int .i64 k, .int .i64 v, .int .i64 s, .int .i64 n, .int .u64 g, .bool (!l.isNil), .bool (!r.isNil)] 49)
        have HV1 := Lib.hid (hv1.ext hE2)
        have HV2 := Lib.hid (hv2.ext hE2)
        clear hv1 hv2
        go_wp2_with fail
        refine (IHl.out _ v1 HF.out.1 HV1.out HLL.out).mono ?_
        rintro e w3 ⟨rfl, h3⟩
        by_cases c1 : Le = 0
        · subst c1
          go_wp2_with fail
          refine (IHr.out _ v2 HF.out.2 (HV2.out.ext h3) HLR.out).mono ?_
          rintro e w4 ⟨rfl, h4⟩
          go_wp2
          go_ret2
          exact ⟨ret_two (by rw [HA.out]; have h9 := HNONE.out trivial; simp; omega) (by rw [HA.out]; rfl), (((h1.trans h2).trans hE2).trans h3).trans h4⟩
        · have c1' := bne_iff_ne.2 c1
          go_wp2
          go_ret2
          exact ⟨ret_two (by rw [HA.out]; simp [c1]; omega) (by rw [HA.out]; simp [c1]), ((h1.trans h2).trans hE2).trans h3⟩
theorem may14_any (t : BT) (T : Tr) (w : World) (p : Value) (hf : t.fits T) (hb : Beads w p t.enc) (hl : t.enc.length ≤ 2000) :
    Calls Try.prog 23 #[p] w (Ret (.bool (avlMay T)) w) := by
  have H := Lib.hid (check14_any t T w p hf hb hl)
  clear hb hf hl
  go_enter Try.func23, Try.ntmps23
  go_wp2_with fail
  refine (H.out).mono ?_
  rintro e w1 ⟨rfl, h1⟩
  go_wp2
  go_ret
  exact ⟨ret_bool rfl, h1⟩
end Go.Proofs.Ytmpglinomjmogaa
