/- joineryref16. -/
import Derived.Test.YthkbmedfccoliaaRbChk
import Derived.Test.YthkbmedfccoliaaRef14
namespace Go.Proofs.Ythkbmedfccoliaa
open Go Go.RowKit

set_option maxHeartbeats 400000 in
theorem high16_any (w : World) (p : Value) (t : BT) (T : Tr) (hf : t.fits T) (ho : TagsOk T) (hb : Beads w p t.enc) : Calls Try.prog 53 #[p] w (Ret (.int .u64 (hi T)) w) := by
  have H := Lib.hid (tag14_any w p t hb)
  rw [BT.fits_tag hf] at H
  have h0 := (tag_ok ho).1
  have HD := Lib.hid (hi_div ho)
  clear ho hf hb
  go_enter Try.func53, Try.ntmps53
  go_wp2_with fail
  refine (H.out).mono ?_
  rintro e w1 ⟨rfl, hS⟩
  go_wp2
  go_ret
  exact ⟨ret_int HD.out, hS⟩
set_option maxHeartbeats 400000 in
theorem red16_any (w : World) (p : Value) (t : BT) (T : Tr) (hf : t.fits T) (ho : TagsOk T) (hb : Beads w p t.enc) : Calls Try.prog 61 #[p] w (Ret (.bool (rbRed T)) w) := by
  have H := Lib.hid (tag14_any w p t hb)
  rw [BT.fits_tag hf] at H
  have h0 := (tag_ok ho).1
  have HD := Lib.hid (show rbRed T = (T.tag % 2 == 1) from rfl)
  clear ho hf hb
  go_enter Try.func61, Try.ntmps61
  go_wp2_with fail
  refine (H.out).mono ?_
  rintro e w1 ⟨rfl, hS⟩
  go_wp2
  go_ret
  exact ⟨ret_bool (by rw [HD.out]), hS⟩
def oneB (b1 b2 b3 b4 b5 b6 b7 : Bool) : Int := if (b1 || (b2 && b3)) then 140 else if (b4 || (b5 && (b6 || b7))) then 8 else 0
theorem one_eq (T : Tr) (ho : TagsOk T) (b1 b2 b3 b4 b5 b6 b7 : Bool) (h1 : (T.tag == 0) = b1) (h2 : (T.tag != IntKind.u64.wrap (IntKind.u64.wrap (2 * hi T.left) + 1)) = b2) (h3 : (T.tag != IntKind.u64.wrap (IntKind.u64.wrap (2 * hi T.left) + 2)) = b3)
    (h4 : (hi T.right != hi T.left) = b4) (h5 : (T.tag % 2 == 1) = b5) (h6 : rbRed T.left = b6) (h7 : rbRed T.right = b7) : rbOne T = oneB b1 b2 b3 b4 b5 b6 b7 := by
  have q0 := tag_ok ho
  have q1 := tag_ok (tags_left ho)
  have e2 : (T.tag != IntKind.u64.wrap (IntKind.u64.wrap (2 * hi T.left) + 1)) = !(col T == 1 && hi T == hi T.left) := by
    rw [Bool.eq_iff_iff]
    simp only [bne_iff_ne, Bool.not_eq_true', Bool.and_eq_false_iff, beq_eq_false_iff_ne, u64_mod, col, hi]
    omega
  have e3 : IntKind.u64.wrap (IntKind.u64.wrap (2 * hi T.left) + 2) = rbTag T.left false := by
    unfold rbTag; simp only [u64_mod]; simp
  have e4 : (hi T.right != hi T.left) = (hi T.left != hi T.right) := by
    rw [Bool.eq_iff_iff]; simp only [bne_iff_ne]; exact ⟨Ne.symm, Ne.symm⟩
  rw [e2] at h2
  rw [e3] at h3
  rw [e4] at h4
  unfold rbOne rbBadTag rbBadTree oneB
  rw [h1, h2, h3, h4]
  rw [show (col T == 1) = b5 from h5, show (col T.left == 1) = b6 from h6, show (col T.right == 1) = b7 from h7]
set_option maxHeartbeats 8000000 in
theorem one16_any (w : World) (p : Value) (k v s n g : Int) (l r : BT) (T : Tr) (hf : (BT.node k v s n g l r).fits T) (ho : TagsOk T) (hb : Beads w p (BT.node k v s n g l r).enc) (hl : (BT.node k v s n g l r).enc.length ≤ 2000) :
    Calls Try.prog 59 #[p] w (Ret (.int .i64 (rbOne T)) w) := by
  have HP := Lib.hid (parts_any w p k v s n g l r hb hl)
  obtain ⟨hfl, hfr, hg, -, -, -⟩ := BT.fits_left hf
  obtain ⟨X, eX⟩ : ∃ X, X = rbOne T := ⟨_, rfl⟩
  rw [← eX]
  have HX := Lib.hid eX
  have HEQ := Lib.hid (one_eq T ho)
  have HF := Lib.hid (And.intro hfl (And.intro hfr ho))
  have h0 := (tag_ok ho).1
  rw [← hg] at HEQ h0
  clear hf hg hb hl eX hfl hfr ho
  go_enter Try.func59, Try.ntmps59
  go_wp2_with fail
  refine (HP.out).mono ?_
  rintro e w1 ⟨v1, v2, rfl, hv1, hv2, hE⟩
  have hE1 := (Ext.refl w1).alloc (.cells #[.int .i64 k, .int .i64 v, .int .i64 s, .int .i64 n, .int .u64 g, .bool (!l.isNil), .bool (!r.isNil)] 50)
  have hc4 := cell_of (alloc_at w1 (.cells #[.int .i64 k, .int .i64 v, .int .i64 s, .int .i64 n, .int .u64 g, .bool (!l.isNil), .bool (!r.isNil)] 50) _ rfl) 4
  simp only [List.getElem?_toArray, List.getElem?_cons_succ, List.getElem?_cons_zero] at hc4
  go_wp2_with fail
  generalize w1.alloc (.cells #[.int .i64 k, .int .i64 v, .int .i64 s, .int .i64 n, .int .u64 g, .bool (!l.isNil), .bool (!r.isNil)] 50) = w2 at *
  have HHL := Lib.hid (fun W (h : Ext w2 W) => high16_any W v1 l T.left HF.out.1 (tags_left HF.out.2.2) ((hv1.ext hE1).ext h))
  have HHR := Lib.hid (fun W (h : Ext w2 W) => high16_any W v2 r T.right HF.out.2.1 (tags_right HF.out.2.2) ((hv2.ext hE1).ext h))
  have HRL := Lib.hid (fun W (h : Ext w2 W) => red16_any W v1 l T.left HF.out.1 (tags_left HF.out.2.2) ((hv1.ext hE1).ext h))
  have HRR := Lib.hid (fun W (h : Ext w2 W) => red16_any W v2 r T.right HF.out.2.1 (tags_right HF.out.2.2) ((hv2.ext hE1).ext h))
  have h02 := Lib.hid (hE.trans hE1)
  have HC4 := Lib.hid hc4
  clear hv1 hv2 hE hE1 hc4
  refine (HHL.out w2 (Ext.refl _)).mono ?_
  rintro e w3 ⟨rfl, hx⟩
  have hc4 := cell_keep hx HC4.out
  cases b1 : (g == 0) with
  | true =>
    have HY := Lib.hid (HEQ.out _ _ _ _ _ _ _ b1 rfl rfl rfl rfl rfl rfl)
    go_wp2
    go_ret
    exact ⟨ret_int (by rw [HX.out, HY.out]; rfl), h02.out.trans hx⟩
  | false =>
    cases b2 : (g != IntKind.u64.wrap (IntKind.u64.wrap (2 * hi T.left) + 1)) with
    | true =>
      cases b3 : (g != IntKind.u64.wrap (IntKind.u64.wrap (2 * hi T.left) + 2)) with
      | true =>
        have HY := Lib.hid (HEQ.out _ _ _ _ _ _ _ b1 b2 b3 rfl rfl rfl rfl)
        go_wp2
        go_ret
        exact ⟨ret_int (by rw [HX.out, HY.out]; rfl), h02.out.trans hx⟩
      | false =>
        have HE3 := Lib.hid (fun b4 b5 b6 b7 h4 h5 h6 h7 => HEQ.out _ _ _ b4 b5 b6 b7 b1 b2 b3 h4 h5 h6 h7)
        go_wp2_with fail
        refine (HHR.out w3 hx).mono ?_
        rintro e w4 ⟨rfl, hS⟩
        replace hx := hx.trans hS
        clear hS hc4
        have hc4 := cell_keep hx HC4.out
        cases b4 : (hi T.right != hi T.left) with
        | true =>
          have HY := Lib.hid (HE3.out _ _ _ _ b4 rfl rfl rfl)
          go_wp2
          go_ret
          exact ⟨ret_int (by rw [HX.out, HY.out]; rfl), h02.out.trans hx⟩
        | false =>
          cases b5 : (g % 2 == 1) with
          | false =>
            have HY := Lib.hid (HE3.out _ _ _ _ b4 b5 rfl rfl)
            go_wp2
            go_ret
            exact ⟨ret_int (by rw [HX.out, HY.out]; rfl), h02.out.trans hx⟩
          | true =>
            go_wp2_with fail
            refine (HRL.out w4 hx).mono ?_
            cases b6 : rbRed T.left with
            | true =>
              have HY := Lib.hid (HE3.out _ _ _ _ b4 b5 b6 rfl)
              rintro e w5 ⟨rfl, hS⟩
              go_wp2
              go_ret
              exact ⟨ret_int (by rw [HX.out, HY.out]; rfl), h02.out.trans (hx.trans hS)⟩
            | false =>
              rintro e w5 ⟨rfl, hS⟩
              replace hx := hx.trans hS
              clear hS
              go_wp2_with fail
              refine (HRR.out w5 hx).mono ?_
              cases b7 : rbRed T.right
              all_goals
                have HY := Lib.hid (HE3.out _ _ _ _ b4 b5 b6 b7)
                rintro e w6 ⟨rfl, hS⟩
                go_wp2
                go_ret
                exact ⟨ret_int (by rw [HX.out, HY.out]; rfl), h02.out.trans (hx.trans hS)⟩
    | false =>
      have HE3 := Lib.hid (fun b4 b5 b6 b7 h4 h5 h6 h7 => HEQ.out _ _ _ b4 b5 b6 b7 b1 b2 rfl h4 h5 h6 h7)
      go_wp2_with fail
      refine (HHR.out w3 hx).mono ?_
      rintro e w4 ⟨rfl, hS⟩
      replace hx := hx.trans hS
      clear hS hc4
      have hc4 := cell_keep hx HC4.out
      cases b4 : (hi T.right != hi T.left) with
      | true =>
        have HY := Lib.hid (HE3.out _ _ _ _ b4 rfl rfl rfl)
        go_wp2
        go_ret
        exact ⟨ret_int (by rw [HX.out, HY.out]; rfl), h02.out.trans hx⟩
      | false =>
        cases b5 : (g % 2 == 1) with
        | false =>
          have HY := Lib.hid (HE3.out _ _ _ _ b4 b5 rfl rfl)
          go_wp2
          go_ret
          exact ⟨ret_int (by rw [HX.out, HY.out]; rfl), h02.out.trans hx⟩
        | true =>
          go_wp2_with fail
          refine (HRL.out w4 hx).mono ?_
          cases b6 : rbRed T.left with
          | true =>
            have HY := Lib.hid (HE3.out _ _ _ _ b4 b5 b6 rfl)
            rintro e w5 ⟨rfl, hS⟩
            go_wp2
            go_ret
            exact ⟨ret_int (by rw [HX.out, HY.out]; rfl), h02.out.trans (hx.trans hS)⟩
          | false =>
            rintro e w5 ⟨rfl, hS⟩
            replace hx := hx.trans hS
            clear hS
            go_wp2_with fail
            refine (HRR.out w5 hx).mono ?_
            cases b7 : rbRed T.right
            all_goals
              have HY := Lib.hid (HE3.out _ _ _ _ b4 b5 b6 b7)
              rintro e w6 ⟨rfl, hS⟩
              go_wp2
              go_ret
              exact ⟨ret_int (by rw [HX.out, HY.out]; rfl), h02.out.trans (hx.trans hS)⟩
end Go.Proofs.Ythkbmedfccoliaa
