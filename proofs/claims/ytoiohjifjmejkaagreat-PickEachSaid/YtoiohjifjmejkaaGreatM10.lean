/- joineryref14: Tag, one, Check, May of a row of beads, as avl's own of the tree in memory. The walk of joinerylaw14.AvlTells. joinerylaw14.height, and the walk of joinerylaw14.AvlHigh. -/
import Derived.Test.YtoiohjifjmejkaaGreatM8
import Derived.Test.YtoiohjifjmejkaaGreatM9
namespace Go.Proofs.YtoiohjifjmejkaaGreat
open Go Go.RowKit

theorem tag14_any (w : World) (p : Value) (t : BT) (hb : Beads w p t.enc) : Calls Tryz.prog 164 #[p] w (Ret (.int .u64 t.tag) w) := by
  rcases hb with ⟨h, a, c, rfl⟩ | ⟨b, o, c, rfl, hne, hc, hr⟩
  · cases t with
    | nil =>
      rw [show BT.nil.tag = 0 from rfl]
      go_enter Tryz.func164, Tryz.ntmps164
      go_wp2
      go_ret
      exact Ret.mk (Ext.refl _)
    | node => simp [BT.enc] at h
  · cases t with
    | nil => exact (hne rfl).elim
    | node k v s n g l r =>
      have hc4 : w.cell? ⟨b, o + 4, none⟩ = some (.int .u64 g) := by
        have := rangeAt_cell hr (i := 0) rfl (j := 4) rfl
        simpa using this
      have hlen : 1 ≤ (BT.node k v s n g l r).enc.length := by simp [BT.enc]
      rw [show (BT.node k v s n g l r).tag = g from rfl]
      clear hr hne
      generalize (BT.node k v s n g l r).enc.length = LL at *
      go_enter Tryz.func164, Tryz.ntmps164
      go_wp2
      go_ret
      exact Ret.mk (Ext.refl _)

/-- what is wrong with a tree's root. -/
def oneOf (T : Tr) : Int := if avlBadTag T then 140 else if avlBadTree T then 8 else 0
set_option maxHeartbeats 1000000 in
theorem one14_any (w : World) (p : Value) (k v s n g : Int) (l r : BT) (T : Tr) (hf : (BT.node k v s n g l r).fits T) (hb : Beads w p (BT.node k v s n g l r).enc) (hl : (BT.node k v s n g l r).enc.length ≤ 2000) :
    Calls Tryz.prog 153 #[p] w (Ret (.int .i64 (oneOf T)) w) := by
  have hp := parts_any w p k v s n g l r hb hl
  obtain ⟨hfl, hfr, hg, -, -, -⟩ := BT.fits_left hf
  have e1 := BT.fits_tag hfl
  have e2 := BT.fits_tag hfr
  obtain ⟨O, hO⟩ : ∃ O, O = oneOf T := ⟨_, rfl⟩
  rw [← hO]
  unfold oneOf avlBadTag avlBadTree at hO
  rw [← hg, ← e1, ← e2] at hO
  have HO := Lib.hid hO
  clear hO e1 e2 hfl hfr hf hg hb
  go_enter Tryz.func153, Tryz.ntmps153
  go_wp2_with fail
  refine (hp).mono ?_
  rintro e w1 ⟨v1, v2, rfl, hv1, hv2, hE⟩
  go_wp2_with fail
  refine (tag14_any _ v1 l (hv1.ext ((Ext.refl w1).alloc _))).mono ?_
  rintro e w2 ⟨rfl, h2⟩
  have hE1 := (Ext.refl w1).alloc (.cells #[.int .i64 k, .int .i64 v, .int .i64 s, .int .i64 n, .int .u64 g, .bool (!l.isNil), .bool (!r.isNil)] 68)
  have h12 := hE1.trans h2
  go_wp2_with fail
  refine (tag14_any _ v2 r (hv2.ext h12)).mono ?_
  rintro e w3 ⟨rfl, h3⟩
  rcases Int.lt_trichotomy l.tag r.tag with c1 | c1 | c1
  · have h13 := h12.trans h3
    go_wp2_with fail
    refine (tag14_any _ v1 l (hv1.ext h13)).mono ?_
    rintro e w4 ⟨rfl, h4⟩
    have h14 := h13.trans h4
    go_wp2_with fail
    refine (tag14_any _ v2 r (hv2.ext h14)).mono ?_
    rintro e w5 ⟨rfl, h5⟩
    have hk := (h2.trans h3).trans (h4.trans h5)
    have hc4 : w5.cell? ⟨w1.heap.size, 4, none⟩ = some (.int .u64 g) := by
      have := cell_of (alloc_at w1 (.cells #[.int .i64 k, .int .i64 v, .int .i64 s, .int .i64 n, .int .u64 g, .bool (!l.isNil), .bool (!r.isNil)] 68) _ rfl) 4
      exact cell_keep hk this
    have hEE := hE.trans (h14.trans h5)
    clear hp hE hE1 h2 h12 h3 h13 h4 h14 h5 hk hv1 hv2
    generalize l.tag = x at *
    generalize r.tag = y at *
    have HM := Lib.hid (show max x y = y ∧ min x y = x by omega)
    by_cases c2 : g = 0
    · subst c2
      go_wp2
      all_goals
        go_ret
        exact ⟨ret_int (by rw [HO.out]; rfl), hEE⟩
    · have c2' := beq_eq_false_iff_ne.2 c2
      cases c3 : (IntKind.u64.wrap (g - 1) != y) with
      | true =>
        go_wp2
        go_ret
        exact ⟨ret_int (by rw [HO.out, HM.out.1, HM.out.2, c2', c3]; rfl), hEE⟩
      | false =>
        cases c4 : decide (1 < IntKind.u64.wrap (y - x)) with
        | true =>
          go_wp2
          go_ret
          exact ⟨ret_int (by rw [HO.out, HM.out.1, HM.out.2, c2', c3, c4]; rfl), hEE⟩
        | false =>
          go_wp2
          go_ret
          exact ⟨ret_int (by rw [HO.out, HM.out.1, HM.out.2, c2', c3, c4]; rfl), hEE⟩
  · have h13 := h12.trans h3
    go_wp2_with fail
    refine (tag14_any _ v1 l (hv1.ext h13)).mono ?_
    rintro e w4 ⟨rfl, h4⟩
    have h14 := h13.trans h4
    go_wp2_with fail
    refine (tag14_any _ v2 r (hv2.ext h14)).mono ?_
    rintro e w5 ⟨rfl, h5⟩
    have hk := (h2.trans h3).trans (h4.trans h5)
    have hc4 : w5.cell? ⟨w1.heap.size, 4, none⟩ = some (.int .u64 g) := by
      have := cell_of (alloc_at w1 (.cells #[.int .i64 k, .int .i64 v, .int .i64 s, .int .i64 n, .int .u64 g, .bool (!l.isNil), .bool (!r.isNil)] 68) _ rfl) 4
      exact cell_keep hk this
    have hEE := hE.trans (h14.trans h5)
    clear hp hE hE1 h2 h12 h3 h13 h4 h14 h5 hk hv1 hv2
    generalize l.tag = x at *
    generalize r.tag = y at *
    subst c1
    have HM := Lib.hid (show max x x = x ∧ min x x = x by omega)
    by_cases c2 : g = 0
    · subst c2
      go_wp2
      all_goals
        go_ret
        exact ⟨ret_int (by rw [HO.out]; rfl), hEE⟩
    · have c2' := beq_eq_false_iff_ne.2 c2
      cases c3 : (IntKind.u64.wrap (g - 1) != x) with
      | true =>
        go_wp2
        go_ret
        exact ⟨ret_int (by rw [HO.out, HM.out.1, HM.out.2, c2', c3]; rfl), hEE⟩
      | false =>
        have c4 : decide (1 < IntKind.u64.wrap (x - x)) = false := by rw [Int.sub_self]; decide +kernel
        have C4 := Lib.hid c4
        clear c4
        go_wp2
        go_ret
        exact ⟨ret_int (by rw [HO.out, HM.out.1, HM.out.2, c2', c3, C4.out]; rfl), hEE⟩
  · have h13 := h12.trans h3
    go_wp2_with fail
    refine (tag14_any _ v1 l (hv1.ext h13)).mono ?_
    rintro e w4 ⟨rfl, h4⟩
    have h14 := h13.trans h4
    go_wp2_with fail
    refine (tag14_any _ v2 r (hv2.ext h14)).mono ?_
    rintro e w5 ⟨rfl, h5⟩
    have hk := (h2.trans h3).trans (h4.trans h5)
    have hc4 : w5.cell? ⟨w1.heap.size, 4, none⟩ = some (.int .u64 g) := by
      have := cell_of (alloc_at w1 (.cells #[.int .i64 k, .int .i64 v, .int .i64 s, .int .i64 n, .int .u64 g, .bool (!l.isNil), .bool (!r.isNil)] 68) _ rfl) 4
      exact cell_keep hk this
    have hEE := hE.trans (h14.trans h5)
    clear hp hE hE1 h2 h12 h3 h13 h4 h14 h5 hk hv1 hv2
    generalize l.tag = x at *
    generalize r.tag = y at *
    have HM := Lib.hid (show max x y = x ∧ min x y = y by omega)
    by_cases c2 : g = 0
    · subst c2
      go_wp2
      all_goals
        go_ret
        exact ⟨ret_int (by rw [HO.out]; rfl), hEE⟩
    · have c2' := beq_eq_false_iff_ne.2 c2
      cases c3 : (IntKind.u64.wrap (g - 1) != x) with
      | true =>
        go_wp2
        go_ret
        exact ⟨ret_int (by rw [HO.out, HM.out.1, HM.out.2, c2', c3]; rfl), hEE⟩
      | false =>
        cases c4 : decide (1 < IntKind.u64.wrap (x - y)) with
        | true =>
          go_wp2
          go_ret
          exact ⟨ret_int (by rw [HO.out, HM.out.1, HM.out.2, c2', c3, c4]; rfl), hEE⟩
        | false =>
          go_wp2
          go_ret
          exact ⟨ret_int (by rw [HO.out, HM.out.1, HM.out.2, c2', c3, c4]; rfl), hEE⟩
theorem avlFirst_le : ∀ l : List Tr, (avlFirst l).1 ≤ l.length
  | [] => by simp [avlFirst]
  | t :: l => by
    have := avlFirst_le l
    rw [avlFirst_cons]
    split
    · simp
    · split
      · simp
      · simp; omega
set_option maxHeartbeats 1000000 in
theorem check14_any (t : BT) : ∀ (T : Tr) (w : World) (p : Value), t.fits T → Beads w p t.enc → t.enc.length ≤ 2000 →
    Calls Tryz.prog 123 #[p] w (Ret (.tuple #[.int .i64 (avlFirst T.pre).1, .int .i64 (avlFirst T.pre).2]) w) := by
  induction t with
  | nil =>
    intro T w p hf hb hl
    obtain ⟨a, c, rfl⟩ := beads_slice hb
    have e : T = .nil := by cases T with | nil => rfl | node => exact hf.elim
    subst e
    rw [show BT.nil.enc.length = 0 from rfl, show avlFirst Tr.nil.pre = (0, 0) from rfl]
    clear hb hl hf
    go_enter Tryz.func123, Tryz.ntmps123
    go_wp2
    go_ret2
    exact ⟨rfl, Ext.refl _⟩
  | node k v s n g l r ihl ihr =>
    intro T w p hf hb hl
    obtain ⟨hfl, hfr, hg, -, -, hpre⟩ := BT.fits_left hf
    have ho := fun (w : World) (hb : Beads w p _) => one14_any w p k v s n g l r T hf hb hl
    have hp := fun (w : World) (hb : Beads w p _) => parts_any w p k v s n g l r hb hl
    have hlen : (BT.node k v s n g l r).enc.length = 1 + l.enc.length + r.enc.length := by simp [BT.enc]; omega
    have hll : l.enc.length ≤ 2000 := by omega
    have hlr : r.enc.length ≤ 2000 := by omega
    have hcl : (avlFirst T.left.pre).1 ≤ l.enc.length := by rw [← BT.fits_len hfl]; exact avlFirst_le _
    have hcr : (avlFirst T.right.pre).1 ≤ r.enc.length := by rw [← BT.fits_len hfr]; exact avlFirst_le _
    have IHl := Lib.hid (ihl T.left)
    have IHr := Lib.hid (ihr T.right)
    have HO := Lib.hid ho
    have HP := Lib.hid hp
    have HF := Lib.hid (And.intro hfl hfr)
    have h1 : 1 ≤ (BT.node k v s n g l r).enc.length := by omega
    have hsl := beads_slice hb
    obtain ⟨A, hA⟩ : ∃ A, A = avlFirst T.pre := ⟨_, rfl⟩
    rw [← hA]
    rw [hpre, avlFirst_cons, avlFirst_append] at hA
    have hnone : (avlFirst T.left.pre).2 = 0 → (avlFirst T.left.pre).1 = T.left.pre.length := fun h => (avlFirst_none h).1
    have HB := Lib.hid hb
    have hone : oneOf T = if avlBadTag T then 140 else if avlBadTree T then 8 else 0 := rfl
    generalize avlFirst T.left.pre = L at *
    generalize avlFirst T.right.pre = R at *
    obtain ⟨Ln, Le⟩ := L
    obtain ⟨Rn, Re⟩ := R
    simp only at hnone hcl hcr hA
    have HLL := Lib.hid hll
    have HLR := Lib.hid hlr
    have hLn : Ln ≤ 2000 := by omega
    have hRn : Rn ≤ 2000 := by omega
    obtain ⟨a, c, rfl⟩ := hsl
    clear hb ihl ihr ho hp hlen hll hlr hcl hcr hpre hg hf hfl hfr
    generalize (BT.node k v s n g l r).enc.length = LL at *
    cases b1 : avlBadTag T with
    | true =>
      rw [b1] at hA hone
      have h140 : oneOf T = 140 := by rw [hone]; rfl
      have HA := Lib.hid hA
      clear hA hone hnone b1
      go_enter Tryz.func123, Tryz.ntmps123
      go_wp2_with fail
      refine (HO.out w HB.out).mono ?_
      rw [h140]
      rintro e w1 ⟨rfl, h1⟩
      go_wp2
      go_ret2
      exact ⟨ret_two (by rw [HA.out]; rfl) (by rw [HA.out]; rfl), h1⟩
    | false =>
      cases b2 : avlBadTree T with
      | true =>
        rw [b1, b2] at hA hone
        have h140 : oneOf T = 8 := by rw [hone]; rfl
        have HA := Lib.hid hA
        clear hA hone hnone b1 b2
        go_enter Tryz.func123, Tryz.ntmps123
        go_wp2_with fail
        refine (HO.out w HB.out).mono ?_
        rw [h140]
        rintro e w1 ⟨rfl, h1⟩
        go_wp2
        go_ret2
        exact ⟨ret_two (by rw [HA.out]; rfl) (by rw [HA.out]; rfl), h1⟩
      | false =>
        rw [b1, b2] at hA hone
        have h140 : oneOf T = 0 := by rw [hone]; rfl
        have HA := Lib.hid hA
        have HNONE := Lib.hid hnone
        clear hA hone hnone b1 b2
        go_enter Tryz.func123, Tryz.ntmps123
        go_wp2_with fail
        refine (HO.out w HB.out).mono ?_
        rw [h140]
        rintro e w1 ⟨rfl, h1⟩
        go_wp2_with fail
        refine (HP.out w1 (HB.out.ext h1)).mono ?_
        rintro e w2 ⟨v1, v2, rfl, hv1, hv2, h2⟩
        have hE2 := (Ext.refl w2).alloc (.cells #[.int .i64 k, .int .i64 v, .int .i64 s, .int .i64 n, .int .u64 g, .bool (!l.isNil), .bool (!r.isNil)] 68)
        have HV1 := Lib.hid (hv1.ext hE2)
        have HV2 := Lib.hid (hv2.ext hE2)
        clear hv1 hv2
        go_wp2_with fail
        refine (IHl.out _ v1 HF.out.1 HV1.out HLL.out).mono ?_
        rintro e w3 ⟨rfl, h3⟩
        by_cases c1 : Le = 0
        · subst c1
          go_wp2_with fail
          refine (IHr.out _ v2 HF.out.2 (HV2.out.ext h3) HLR.out).mono ?_
          rintro e w4 ⟨rfl, h4⟩
          go_wp2
          go_ret2
          exact ⟨ret_two (by rw [HA.out]; have h9 := HNONE.out trivial; simp; omega) (by rw [HA.out]; rfl), (((h1.trans h2).trans hE2).trans h3).trans h4⟩
        · have c1' := bne_iff_ne.2 c1
          go_wp2
          go_ret2
          exact ⟨ret_two (by rw [HA.out]; simp [c1]; omega) (by rw [HA.out]; simp [c1]), ((h1.trans h2).trans hE2).trans h3⟩
end Go.Proofs.YtoiohjifjmejkaaGreat
namespace Go.Proofs.YtoiohjifjmejkaaGreat
open Go Go.RowKit

theorem avlLean_nil : avlLean .nil = 0 := by decide +kernel
end Go.Proofs.YtoiohjifjmejkaaGreat
namespace Go.Proofs.YtoiohjifjmejkaaGreat
open Go Go.RowKit

/-- a tree's height, while it is no higher than a bound; -1 else. -/
def heightN : Nat → Tr → Int
  | _, .nil => 0
  | 0, .node .. => -1
  | k + 1, .node _ l _ _ _ r => if heightN k l < 0 ∨ heightN k r < 0 then -1 else 1 + max (heightN k l) (heightN k r)
theorem heightN_le : ∀ (k : Nat) (t : Tr), -1 ≤ heightN k t ∧ heightN k t ≤ k
  | k, .nil => by unfold heightN; omega
  | 0, .node .. => by unfold heightN; omega
  | k + 1, .node b l _ _ _ r => by
    have h1 := heightN_le k l
    have h2 := heightN_le k r
    unfold heightN
    split <;> omega
theorem heightN_ht : ∀ (k : Nat) (t : Tr), t.ht ≤ k → heightN k t = t.ht
  | k, .nil, _ => by unfold heightN; rfl
  | 0, .node .., h => by simp [Tr.ht] at h
  | k + 1, .node b l _ _ _ r, h => by
    rw [Tr.ht] at h
    have h1 := heightN_ht k l (by omega)
    have h2 := heightN_ht k r (by omega)
    unfold heightN
    rw [h1, h2, if_neg (by omega), Tr.ht]
    omega
theorem leastN_step : ∀ k : Nat, leastN k ≤ leastN (k + 1)
  | 0 => by decide
  | k + 1 => by rw [leastN]; omega
theorem leastN_mono {a b : Nat} (h : a ≤ b) : leastN a ≤ leastN b := by
  induction b with
  | zero => obtain rfl : a = 0 := by omega
            exact Nat.le_refl _
  | succ b ih =>
    rcases Nat.lt_or_ge a (b + 1) with h1 | h1
    · exact Nat.le_trans (ih (by omega)) (leastN_step b)
    · obtain rfl : a = b + 1 := by omega
      exact Nat.le_refl _
theorem may_ht : ∀ t : Tr, avlMay t = true → TagsOk t → t.count < 1000000 → t.tag = t.ht ∧ leastN t.ht ≤ t.count ∧ (t ≠ .nil → max t.left.ht t.right.ht ≤ min t.left.ht t.right.ht + 1)
  | .nil, _, _, _ => ⟨rfl, Nat.le_refl _, fun h => (h rfl).elim⟩
  | .node b l k v g r, hm, ho, hc => by
    rw [avlMay_node] at hm
    simp only [Bool.and_eq_true, Bool.not_eq_true'] at hm
    obtain ⟨⟨⟨m1, m2⟩, m3⟩, m4⟩ := hm
    obtain ⟨o1, o2, o3, o4⟩ := ho
    rw [Tr.count_node] at hc
    obtain ⟨l1, l2, -⟩ := may_ht l m3 o3 (by omega)
    obtain ⟨r1, r2, -⟩ := may_ht r m4 o4 (by omega)
    have hl := Tr.ht_count l
    have hr := Tr.ht_count r
    simp only [avlBadTag, Tr.tag_node, Tr.left_node, Tr.right_node, l1, r1, Bool.or_eq_false_iff, beq_eq_false_iff_ne, bne_eq_false_iff_eq] at m1
    simp only [avlBadTree, Tr.left_node, Tr.right_node, l1, r1, decide_eq_false_iff_not] at m2
    have e1 := u64_small (a := g - 1) (by omega) (by omega)
    rw [e1] at m1
    have e2 := u64_small (a := max (l.ht : Int) (r.ht : Int) - min (l.ht : Int) (r.ht : Int)) (by omega) (by omega)
    rw [e2] at m2
    rw [Tr.tag_node, Tr.ht, Tr.count_node, Tr.left_node, Tr.right_node]
    refine ⟨by omega, ?_, fun _ => by omega⟩
    rcases Nat.le_total l.ht r.ht with h | h
    · rw [Nat.max_eq_right h]
      rcases Nat.eq_zero_or_pos r.ht with h0 | h0
      · rw [h0]; show 1 ≤ _; omega
      · obtain ⟨q, hq⟩ : ∃ q, r.ht = q + 1 := ⟨r.ht - 1, by omega⟩
        have := leastN_mono (a := q) (b := l.ht) (by omega)
        rw [hq] at r2 ⊢
        rw [show 1 + (q + 1) = q + 2 by omega, leastN]
        omega
    · rw [Nat.max_eq_left h]
      rcases Nat.eq_zero_or_pos l.ht with h0 | h0
      · rw [h0]; show 1 ≤ _; omega
      · obtain ⟨q, hq⟩ : ∃ q, l.ht = q + 1 := ⟨l.ht - 1, by omega⟩
        have := leastN_mono (a := q) (b := r.ht) (by omega)
        rw [hq] at l2 ⊢
        rw [show 1 + (q + 1) = q + 2 by omega, leastN]
        omega
theorem avlMay_sides : ∀ {t : Tr}, avlMay t = true → avlMay t.left = true ∧ avlMay t.right = true
  | .nil, _ => ⟨rfl, rfl⟩
  | .node b l k v g r, hm => by
    rw [avlMay_node] at hm
    simp only [Bool.and_eq_true] at hm
    exact ⟨hm.1.2, hm.2⟩
theorem avlHigh_law (T : Tr) (hm : avlMay T = true) (ho : TagsOk T) (hc : T.count ≤ 400) :
    ∃ h : Nat, heightN 500 T = h ∧ wrap64 T.tag = h ∧ h ≤ 12 ∧ (leastN h : Int) ≤ T.size ∧ avlMay T.left = true ∧ avlMay T.right = true ∧ -1 ≤ avlLean T ∧ avlLean T ≤ 1 := by
  obtain ⟨h1, h2, h3⟩ := may_ht T hm ho (by omega)
  have h4 := Tr.ht_count T
  have hs : T.size = T.count := by rw [Tr.size_count]; unfold wrap64; omega
  refine ⟨T.ht, heightN_ht 500 T (by omega), ?_, ?_, ?_, (avlMay_sides hm).1, (avlMay_sides hm).2, ?_⟩
  · rw [h1]; unfold wrap64; omega
  · rcases Nat.lt_or_ge 12 T.ht with h | h
    · have := leastN_mono (a := 13) (b := T.ht) h
      have e : leastN 13 = 609 := by decide
      omega
    · exact h
  · rw [hs]; omega
  · cases T with
    | nil => rw [avlLean_nil]; omega
    | node b l k v g r =>
      have h5 := h3 (by simp)
      rw [avlMay_node] at hm
      simp only [Bool.and_eq_true] at hm
      obtain ⟨⟨⟨m1, m2⟩, m3⟩, m4⟩ := hm
      obtain ⟨o1, o2, o3, o4⟩ := ho
      rw [Tr.count_node] at hc
      obtain ⟨l1, -, -⟩ := may_ht l m3 o3 (by omega)
      obtain ⟨r1, -, -⟩ := may_ht r m4 o4 (by omega)
      have hl := Tr.ht_count l
      have hr := Tr.ht_count r
      simp only [Tr.left_node, Tr.right_node] at h5
      have e : ∀ a : Int, -1 ≤ a → a ≤ 1 → -1 ≤ wrap64 (IntKind.u64.wrap a) ∧ wrap64 (IntKind.u64.wrap a) ≤ 1 := by
        intro a ha hb
        have : a = -1 ∨ a = 0 ∨ a = 1 := by omega
        rcases this with rfl | rfl | rfl <;> decide +kernel
      unfold avlLean
      rw [Tr.left_node, Tr.right_node, l1, r1]
      exact e _ (by omega) (by omega)
end Go.Proofs.YtoiohjifjmejkaaGreat
