/- joineryref14.Make and the walk of joinerylaw14.AvlMakes. -/
import Derived.Test.YtcdnakolpdinoaaSee
import Derived.Test.YtcdnakolpdinoaaAvlHigh
import Derived.Test.YtcdnakolpdinoaaPtr
namespace Go.Proofs.Ytcdnakolpdinoaa
open Go Go.RowKit

set_option maxHeartbeats 1000000 in
theorem make14_any (w : World) (p q : Value) (l r : BT) (k v : Int) (hl : Beads w p l.enc) (hr : Beads w q r.enc) (hlen : l.enc.length + r.enc.length + 1 ≤ 2000) :
    Calls Try.prog 26 #[p, .int .i64 k, .int .i64 v, q] w (GivesRow (BT.node k v 0 0 (IntKind.u64.wrap (max l.tag r.tag + 1)) l r).of.enc w) := by
  have HT1 := Lib.hid (tag14_any w p l hl)
  have HT2 := Lib.hid (fun w' (h : Ext w w') => tag14_any w' q r (hr.ext h))
  have HN := Lib.hid (fun w' g (h : Ext w w') => node09_any w' p q l r k v g (hl.ext h) (hr.ext h) hlen)
  clear hl hr hlen
  go_enter Try.func26, Try.ntmps26
  go_wp2_with fail
  refine HT1.out.mono ?_
  rintro e w1 ⟨rfl, h1⟩
  go_wp2_with fail
  refine (HT2.out w1 h1).mono ?_
  rintro e w2 ⟨rfl, h2⟩
  have h02 := h1.trans h2
  rcases Int.lt_trichotomy l.tag r.tag with c | c | c
  · have hm := Lib.hid (show max l.tag r.tag = r.tag by omega)
    go_wp2_with fail
    refine (HN.out w2 _ h02).mono ?_
    rintro e w3 ⟨v3, rfl, hown, h23⟩
    have HO := Lib.hid hown
    clear hown
    go_wp2
    go_ret
    refine ⟨_, rfl, ?_, h02.trans h23⟩
    rw [hm.out]
    exact HO.out.mono h02.size
  · have hm := Lib.hid (show max l.tag r.tag = r.tag by omega)
    go_wp2_with fail
    refine (HN.out w2 _ h02).mono ?_
    rintro e w3 ⟨v3, rfl, hown, h23⟩
    have HO := Lib.hid hown
    clear hown
    go_wp2
    go_ret
    refine ⟨_, rfl, ?_, h02.trans h23⟩
    rw [hm.out]
    exact HO.out.mono h02.size
  · have hm := Lib.hid (show max l.tag r.tag = l.tag by omega)
    go_wp2_with fail
    refine (HN.out w2 _ h02).mono ?_
    rintro e w3 ⟨v3, rfl, hown, h23⟩
    have HO := Lib.hid hown
    clear hown
    go_wp2
    go_ret
    refine ⟨_, rfl, ?_, h02.trans h23⟩
    rw [hm.out]
    exact HO.out.mono h02.size
theorem avlMakes_law (bb : Nat) (A B : Tr) (k v : Int) (hA : TagsOk A) (hB : TagsOk B) (cA : A.count ≤ 400) (cB : B.count ≤ 400) (mA : avlMay A = true) (mB : avlMay B = true) :
    wrap64 A.tag = A.ht ∧ wrap64 B.tag = B.ht ∧ A.ht ≤ 400 ∧ B.ht ≤ 400 ∧ avlMay (.node bb A k v (avlTag A B) B) = (decide ((A.ht : Int) - (B.ht : Int) ≤ 1) && decide ((B.ht : Int) - (A.ht : Int) ≤ 1)) := by
  obtain ⟨a1, -, -⟩ := may_ht A mA hA (by omega)
  obtain ⟨b1, -, -⟩ := may_ht B mB hB (by omega)
  have a2 := Tr.ht_count A
  have b2 := Tr.ht_count B
  refine ⟨by rw [a1]; unfold wrap64; omega, by rw [b1]; unfold wrap64; omega, by omega, by omega, ?_⟩
  have e : avlTag A B = max (A.ht : Int) (B.ht : Int) + 1 := by
    unfold avlTag
    rw [a1, b1, u64_small (by omega) (by omega)]
  rw [avlMay_node, mA, mB, e]
  have e1 : avlBadTag (.node bb A k v (max (A.ht : Int) (B.ht : Int) + 1) B) = false := by
    simp only [avlBadTag, Tr.tag_node, Tr.left_node, Tr.right_node, a1, b1]
    rw [u64_small (by omega) (by omega)]
    simp; omega
  have e2 : avlBadTree (.node bb A k v (max (A.ht : Int) (B.ht : Int) + 1) B) = decide (1 < max (A.ht : Int) (B.ht : Int) - min (A.ht : Int) (B.ht : Int)) := by
    simp only [avlBadTree, Tr.left_node, Tr.right_node, a1, b1]
    rw [u64_small (by omega) (by omega)]
  rw [e1, e2]
  by_cases c1 : (A.ht : Int) - (B.ht : Int) ≤ 1
  · by_cases c2 : (B.ht : Int) - (A.ht : Int) ≤ 1
    · rw [decide_eq_true c1, decide_eq_true c2, decide_eq_false (show ¬ 1 < max (A.ht : Int) (B.ht : Int) - min (A.ht : Int) (B.ht : Int) by omega)]; rfl
    · rw [decide_eq_true c1, decide_eq_false c2, decide_eq_true (show 1 < max (A.ht : Int) (B.ht : Int) - min (A.ht : Int) (B.ht : Int) by omega)]; rfl
  · rw [decide_eq_false c1, decide_eq_true (show 1 < max (A.ht : Int) (B.ht : Int) - min (A.ht : Int) (B.ht : Int) by omega)]; rfl
theorem avlMay_not (bb : Nat) (A B : Tr) (k v g : Int) (h : (avlMay A && avlMay B) = false) : avlMay (.node bb A k v g B) = false := by
  rw [avlMay_node, Bool.and_assoc, h, Bool.and_false]
set_option maxHeartbeats 4000000 in
theorem avlMakes_walk (a0 : Option Addr) (len0 cap0 : Nat) (z0 : List BeadL) (a1 : Option Addr) (len1 cap1 : Nat) (z1 : List BeadL) (ky vl : Int) (w : World) (w0 : IsBeads w (.slice a0 len0 cap0) z0) (w1 : IsBeads w (.slice a1 len1 cap1) z1) (_w2 : (Lit.int .i64 ky).wf = true) (_w3 : (Lit.int .i64 vl).wf = true) :
    Calls Try.prog 6 #[.slice a0 len0 cap0, .slice a1 len1 cap1, .int .i64 ky, .int .i64 vl] w (Ret (.bool true) w) := by
  obtain ⟨hb0, hwf0⟩ := w0
  obtain ⟨hb1, hwf1⟩ := w1
  have L0 := Lib.hid (beadsLong_any w _ z0 hb0)
  have L1 := Lib.hid (fun w' (h : Ext w w') => beadsLong_any w' _ z1 (hb1.ext h))
  have HB0 := Lib.hid hb0
  have HB1 := Lib.hid hb1
  clear _w2 _w3
  cases hl0 : (decide (400 < z0.length) || !mayB z0) with
  | true =>
    have HL := Lib.hid hl0
    clear hb0 hb1 hl0 hwf0 hwf1
    go_enter Try.func6, Try.ntmps6
    go_wp2_with fail
    refine L0.out.mono ?_
    rw [HL.out]
    rintro e w1 ⟨rfl, h1⟩
    go_wp2_with fail
    refine (alive14_any _).mono ?_
    rintro e w2 ⟨rfl, h2⟩
    go_wp2
    go_ret
    exact Ret.mk (h1.trans h2)
  | false =>
    cases hl1 : (decide (400 < z1.length) || !mayB z1) with
    | true =>
      have HL0 := Lib.hid hl0
      have HL1 := Lib.hid hl1
      clear hb0 hb1 hl0 hl1 hwf0 hwf1
      go_enter Try.func6, Try.ntmps6
      go_wp2_with fail
      refine L0.out.mono ?_
      rw [HL0.out]
      rintro e w1 ⟨rfl, h1⟩
      go_wp2_with fail
      refine (L1.out w1 h1).mono ?_
      rw [HL1.out]
      rintro e w2 ⟨rfl, h2⟩
      go_wp2_with fail
      refine (alive14_any _).mono ?_
      rintro e w3 ⟨rfl, h3⟩
      go_wp2
      go_ret
      exact Ret.mk ((h1.trans h2).trans h3)
    | false =>
      obtain ⟨hn0, t0, ht0⟩ := long_tree hl0
      obtain ⟨hn1, t1, ht1⟩ := long_tree hl1
      subst ht0 ht1
      have HL0 := Lib.hid hl0
      have HL1 := Lib.hid hl1
      have N0 := Lib.hid hn0
      have N1 := Lib.hid hn1
      have W0 := Lib.hid hwf0
      have W1 := Lib.hid hwf1
      clear hb0 hb1 hl0 hl1 hwf0 hwf1 hn0 hn1
      go_enter Try.func6, Try.ntmps6
      go_wp2_with fail
      refine L0.out.mono ?_
      rw [HL0.out]
      rintro e w1 ⟨rfl, h1⟩
      go_wp2_with fail
      refine (L1.out w1 h1).mono ?_
      rw [HL1.out]
      rintro e w2 ⟨rfl, h2⟩
      have h02 := h1.trans h2
      go_wp2_with fail
      refine (beadsMake_any t0 w2 _ (HB0.out.ext h02) N0.out).mono ?_
      rintro e w3 ⟨A, rfl, hA, fA, h3⟩
      have h03 := h02.trans h3
      go_wp2_with fail
      refine (beadsMake_any t1 w3 _ (HB1.out.ext h03) N1.out).mono ?_
      rintro e w4 ⟨B, rfl, hB, fB, h4⟩
      have h04 := h03.trans h4
      have HA := Lib.hid (hA.ext h4)
      have HB := Lib.hid hB
      have TA := Lib.hid (fits_tagsOk t0 A fA W0.out)
      have TB := Lib.hid (fits_tagsOk t1 B fB W1.out)
      have CA := Lib.hid (show A.count ≤ 400 by unfold Tr.count; rw [BT.fits_len fA]; exact N0.out)
      have CB := Lib.hid (show B.count ≤ 400 by unfold Tr.count; rw [BT.fits_len fB]; exact N1.out)
      have FA := Lib.hid fA
      have FB := Lib.hid fB
      clear hA hB fA fB h1 h2 h02 h3 h03 h4
      go_wp2_with fail
      refine (avlMake_any w4 A B ky vl HA.out HB.out).mono ?_
      rintro e w5 ⟨bb, rfl, hbb, hT, h5⟩
      have h05 := Lib.hid (h04.trans h5)
      have HT := Lib.hid hT
      have FT := Lib.hid (show (BT.node ky vl 0 0 (IntKind.u64.wrap (max t0.tag t1.tag + 1)) t0 t1).fits (.node bb A ky vl (avlTag A B) B) by
        refine ⟨rfl, rfl, ?_, FA.out, FB.out⟩
        rw [BT.fits_tag FA.out, BT.fits_tag FB.out]; rfl)
      have HA5 := Lib.hid (HA.out.ext h5)
      have HB5 := Lib.hid (HB.out.ext h5)
      clear hT hbb h04 h5
      go_wp2_with fail
      refine (avlRank_any w5 A HA5.out).mono ?_
      rintro e w6 ⟨rfl, h6⟩
      go_wp2_with fail
      refine (avlRank_any w6 B (HB5.out.ext h6)).mono ?_
      rintro e w7 ⟨rfl, h7⟩
      have h57 := h6.trans h7
      clear h6 h7
      go_wp2_with fail
      refine (avlMay_any w7 A (HA5.out.ext h57)).mono ?_
      cases mA : avlMay A with
      | false =>
        rintro e w8 ⟨rfl, h8⟩
        have h58 := h57.trans h8
        have MT := Lib.hid (avlMay_not bb A B ky vl (avlTag A B) (by rw [mA]; rfl))
        clear mA h57 h8
        go_wp2_with fail
        refine (make14_any _ _ _ t0 t1 ky vl (HB0.out.ext (h05.out.trans h58)) (HB1.out.ext (h05.out.trans h58)) (by have := N0.out; have := N1.out; omega)).mono ?_
        rintro e w10 ⟨v10, rfl, hown, h10⟩
        have BT10 := Lib.hid (show Beads w10 v10 (Tr.node bb A ky vl (avlTag A B) B).beads by
          rw [fits_beads FT.out (by have := N0.out; have := N1.out; simp [BT.enc]; omega)]; exact hown.beads)
        have h510 := h58.trans h10
        clear hown h58 h10
        go_wp2_with fail
        refine (is_any w10 (.node bb A ky vl (avlTag A B) B) v10 (HT.out.ext h510) BT10.out (by have h1 := CA.out; have h2 := CB.out; unfold Tr.count at h1 h2; simp [Tr.pre]; omega)).mono ?_
        rintro e w11 ⟨rfl, h11⟩
        have h511 := h510.trans h11
        clear h510 h11
        go_wp2_with fail
        refine (left_any w11 (.node bb A ky vl (avlTag A B) B) (HT.out.ext h511)).mono ?_
        rw [Tr.left_node]
        rintro e w12 ⟨rfl, h12⟩
        have h512 := h511.trans h12
        clear h511 h12
        have hpa := ptr_same A.ptr
        go_wp2_with fail
        refine (right_any w12 (.node bb A ky vl (avlTag A B) B) (HT.out.ext h512)).mono ?_
        rw [Tr.right_node]
        rintro e w13 ⟨rfl, h13⟩
        have h513 := h512.trans h13
        clear h512 h13
        have hpb := ptr_same B.ptr
        go_wp2_with fail
        refine (avlMay_any w13 (.node bb A ky vl (avlTag A B) B) (HT.out.ext h513)).mono ?_
        rw [MT.out]
        rintro e w14 ⟨rfl, h14⟩
        have h514 := h513.trans h14
        clear h513 h14
        go_wp2_with fail
        refine (alive14_any _).mono ?_
        rintro e w15 ⟨rfl, h15⟩
        go_wp2
        go_ret
        first
          | exact Ret.mk ((h05.out.trans h514).trans h15)
          | exact ⟨ret_bool (by simp; omega), (h05.out.trans h514).trans h15⟩
      | true =>
        rintro e w8 ⟨rfl, h8⟩
        have h58' := h57.trans h8
        clear h57 h8
        go_wp2_with fail
        refine (avlMay_any w8 B (HB5.out.ext h58')).mono ?_
        cases mB : avlMay B with
        | false =>
          rintro e w9 ⟨rfl, h9⟩
          have h58 := h58'.trans h9
          have MT := Lib.hid (avlMay_not bb A B ky vl (avlTag A B) (by rw [mB, Bool.and_false]))
          clear mA mB h58' h9
          go_wp2_with fail
          refine (make14_any _ _ _ t0 t1 ky vl (HB0.out.ext (h05.out.trans h58)) (HB1.out.ext (h05.out.trans h58)) (by have := N0.out; have := N1.out; omega)).mono ?_
          rintro e w10 ⟨v10, rfl, hown, h10⟩
          have BT10 := Lib.hid (show Beads w10 v10 (Tr.node bb A ky vl (avlTag A B) B).beads by
            rw [fits_beads FT.out (by have := N0.out; have := N1.out; simp [BT.enc]; omega)]; exact hown.beads)
          have h510 := h58.trans h10
          clear hown h58 h10
          go_wp2_with fail
          refine (is_any w10 (.node bb A ky vl (avlTag A B) B) v10 (HT.out.ext h510) BT10.out (by have h1 := CA.out; have h2 := CB.out; unfold Tr.count at h1 h2; simp [Tr.pre]; omega)).mono ?_
          rintro e w11 ⟨rfl, h11⟩
          have h511 := h510.trans h11
          clear h510 h11
          go_wp2_with fail
          refine (left_any w11 (.node bb A ky vl (avlTag A B) B) (HT.out.ext h511)).mono ?_
          rw [Tr.left_node]
          rintro e w12 ⟨rfl, h12⟩
          have h512 := h511.trans h12
          clear h511 h12
          have hpa := ptr_same A.ptr
          go_wp2_with fail
          refine (right_any w12 (.node bb A ky vl (avlTag A B) B) (HT.out.ext h512)).mono ?_
          rw [Tr.right_node]
          rintro e w13 ⟨rfl, h13⟩
          have h513 := h512.trans h13
          clear h512 h13
          have hpb := ptr_same B.ptr
          go_wp2_with fail
          refine (avlMay_any w13 (.node bb A ky vl (avlTag A B) B) (HT.out.ext h513)).mono ?_
          rw [MT.out]
          rintro e w14 ⟨rfl, h14⟩
          have h514 := h513.trans h14
          clear h513 h14
          go_wp2_with fail
          refine (alive14_any _).mono ?_
          rintro e w15 ⟨rfl, h15⟩
          go_wp2
          go_ret
          first
            | exact Ret.mk ((h05.out.trans h514).trans h15)
            | exact ⟨ret_bool (by simp; omega), (h05.out.trans h514).trans h15⟩
        | true =>
          rintro e w9 ⟨rfl, h9⟩
          have h58 := h58'.trans h9
          obtain ⟨q1, q2, q3, q4, q5⟩ := avlMakes_law bb A B ky vl TA.out TB.out CA.out CB.out mA mB
          clear mA mB h58' h9
          generalize A.ht = P at *
          generalize B.ht = Q at *
          rw [q1, q2]
          by_cases c1 : (P : Int) - (Q : Int) ≤ 1
          · by_cases c2 : (Q : Int) - (P : Int) ≤ 1
            · rw [decide_eq_true c1, decide_eq_true c2, Bool.and_true] at q5
              have MT := Lib.hid q5
              clear q5 q1 q2
              go_wp2_with fail
              refine (make14_any _ _ _ t0 t1 ky vl (HB0.out.ext (h05.out.trans h58)) (HB1.out.ext (h05.out.trans h58)) (by have := N0.out; have := N1.out; omega)).mono ?_
              rintro e w10 ⟨v10, rfl, hown, h10⟩
              have BT10 := Lib.hid (show Beads w10 v10 (Tr.node bb A ky vl (avlTag A B) B).beads by
                rw [fits_beads FT.out (by have := N0.out; have := N1.out; simp [BT.enc]; omega)]; exact hown.beads)
              have h510 := h58.trans h10
              clear hown h58 h10
              go_wp2_with fail
              refine (is_any w10 (.node bb A ky vl (avlTag A B) B) v10 (HT.out.ext h510) BT10.out (by have h1 := CA.out; have h2 := CB.out; unfold Tr.count at h1 h2; simp [Tr.pre]; omega)).mono ?_
              rintro e w11 ⟨rfl, h11⟩
              have h511 := h510.trans h11
              clear h510 h11
              go_wp2_with fail
              refine (left_any w11 (.node bb A ky vl (avlTag A B) B) (HT.out.ext h511)).mono ?_
              rw [Tr.left_node]
              rintro e w12 ⟨rfl, h12⟩
              have h512 := h511.trans h12
              clear h511 h12
              have hpa := ptr_same A.ptr
              go_wp2_with fail
              refine (right_any w12 (.node bb A ky vl (avlTag A B) B) (HT.out.ext h512)).mono ?_
              rw [Tr.right_node]
              rintro e w13 ⟨rfl, h13⟩
              have h513 := h512.trans h13
              clear h512 h13
              have hpb := ptr_same B.ptr
              go_wp2_with fail
              refine (avlMay_any w13 (.node bb A ky vl (avlTag A B) B) (HT.out.ext h513)).mono ?_
              rw [MT.out]
              rintro e w14 ⟨rfl, h14⟩
              have h514 := h513.trans h14
              clear h513 h14
              go_wp2_with fail
              refine (alive14_any _).mono ?_
              rintro e w15 ⟨rfl, h15⟩
              go_wp2
              go_ret
              first
                | exact Ret.mk ((h05.out.trans h514).trans h15)
                | exact ⟨ret_bool (by simp; omega), (h05.out.trans h514).trans h15⟩
            · rw [decide_eq_true c1, decide_eq_false c2, Bool.and_false] at q5
              have MT := Lib.hid q5
              clear q5 q1 q2
              go_wp2_with fail
              refine (make14_any _ _ _ t0 t1 ky vl (HB0.out.ext (h05.out.trans h58)) (HB1.out.ext (h05.out.trans h58)) (by have := N0.out; have := N1.out; omega)).mono ?_
              rintro e w10 ⟨v10, rfl, hown, h10⟩
              have BT10 := Lib.hid (show Beads w10 v10 (Tr.node bb A ky vl (avlTag A B) B).beads by
                rw [fits_beads FT.out (by have := N0.out; have := N1.out; simp [BT.enc]; omega)]; exact hown.beads)
              have h510 := h58.trans h10
              clear hown h58 h10
              go_wp2_with fail
              refine (is_any w10 (.node bb A ky vl (avlTag A B) B) v10 (HT.out.ext h510) BT10.out (by have h1 := CA.out; have h2 := CB.out; unfold Tr.count at h1 h2; simp [Tr.pre]; omega)).mono ?_
              rintro e w11 ⟨rfl, h11⟩
              have h511 := h510.trans h11
              clear h510 h11
              go_wp2_with fail
              refine (left_any w11 (.node bb A ky vl (avlTag A B) B) (HT.out.ext h511)).mono ?_
              rw [Tr.left_node]
              rintro e w12 ⟨rfl, h12⟩
              have h512 := h511.trans h12
              clear h511 h12
              have hpa := ptr_same A.ptr
              go_wp2_with fail
              refine (right_any w12 (.node bb A ky vl (avlTag A B) B) (HT.out.ext h512)).mono ?_
              rw [Tr.right_node]
              rintro e w13 ⟨rfl, h13⟩
              have h513 := h512.trans h13
              clear h512 h13
              have hpb := ptr_same B.ptr
              go_wp2_with fail
              refine (avlMay_any w13 (.node bb A ky vl (avlTag A B) B) (HT.out.ext h513)).mono ?_
              rw [MT.out]
              rintro e w14 ⟨rfl, h14⟩
              have h514 := h513.trans h14
              clear h513 h14
              go_wp2_with fail
              refine (alive14_any _).mono ?_
              rintro e w15 ⟨rfl, h15⟩
              go_wp2
              go_ret
              first
                | exact Ret.mk ((h05.out.trans h514).trans h15)
                | exact ⟨ret_bool (by simp; omega), (h05.out.trans h514).trans h15⟩
          · rw [decide_eq_false c1, Bool.false_and] at q5
            have MT := Lib.hid q5
            clear q5 q1 q2
            go_wp2_with fail
            refine (make14_any _ _ _ t0 t1 ky vl (HB0.out.ext (h05.out.trans h58)) (HB1.out.ext (h05.out.trans h58)) (by have := N0.out; have := N1.out; omega)).mono ?_
            rintro e w10 ⟨v10, rfl, hown, h10⟩
            have BT10 := Lib.hid (show Beads w10 v10 (Tr.node bb A ky vl (avlTag A B) B).beads by
              rw [fits_beads FT.out (by have := N0.out; have := N1.out; simp [BT.enc]; omega)]; exact hown.beads)
            have h510 := h58.trans h10
            clear hown h58 h10
            go_wp2_with fail
            refine (is_any w10 (.node bb A ky vl (avlTag A B) B) v10 (HT.out.ext h510) BT10.out (by have h1 := CA.out; have h2 := CB.out; unfold Tr.count at h1 h2; simp [Tr.pre]; omega)).mono ?_
            rintro e w11 ⟨rfl, h11⟩
            have h511 := h510.trans h11
            clear h510 h11
            go_wp2_with fail
            refine (left_any w11 (.node bb A ky vl (avlTag A B) B) (HT.out.ext h511)).mono ?_
            rw [Tr.left_node]
            rintro e w12 ⟨rfl, h12⟩
            have h512 := h511.trans h12
            clear h511 h12
            have hpa := ptr_same A.ptr
            go_wp2_with fail
            refine (right_any w12 (.node bb A ky vl (avlTag A B) B) (HT.out.ext h512)).mono ?_
            rw [Tr.right_node]
            rintro e w13 ⟨rfl, h13⟩
            have h513 := h512.trans h13
            clear h512 h13
            have hpb := ptr_same B.ptr
            go_wp2_with fail
            refine (avlMay_any w13 (.node bb A ky vl (avlTag A B) B) (HT.out.ext h513)).mono ?_
            rw [MT.out]
            rintro e w14 ⟨rfl, h14⟩
            have h514 := h513.trans h14
            clear h513 h14
            go_wp2_with fail
            refine (alive14_any _).mono ?_
            rintro e w15 ⟨rfl, h15⟩
            go_wp2
            go_ret
            first
              | exact Ret.mk ((h05.out.trans h514).trans h15)
              | exact ⟨ret_bool (by simp; omega), (h05.out.trans h514).trans h15⟩
end Go.Proofs.Ytcdnakolpdinoaa
