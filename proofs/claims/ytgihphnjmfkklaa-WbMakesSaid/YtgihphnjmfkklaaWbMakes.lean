/- The walk of joinerylaw18.WbMakes. -/
import Derived.Test.YtgihphnjmfkklaaWbTells
namespace Go.Proofs.Ytgihphnjmfkklaa
open Go Go.RowKit

theorem wbMakes_law (bb : Nat) (A B : Tr) (k v : Int) : wbMay (.node bb A k v 0 B) = (wbMay A && wbMay B && likeB (wt A) (wt B)) := by
  rw [wbMay_node]
  have e : wbOne (.node bb A k v 0 B) = if likeB (wt A) (wt B) then 0 else 8 := rfl
  rw [e]
  cases likeB (wt A) (wt B) <;> cases wbMay A <;> cases wbMay B <;> rfl
set_option maxHeartbeats 4000000 in
theorem wbMakes_walk (a0 : Option Addr) (len0 cap0 : Nat) (z0 : List BeadL) (a1 : Option Addr) (len1 cap1 : Nat) (z1 : List BeadL) (ky vl : Int) (w : World) (w0 : IsBeads w (.slice a0 len0 cap0) z0) (w1 : IsBeads w (.slice a1 len1 cap1) z1) (_w2 : (Lit.int .i64 ky).wf = true) (_w3 : (Lit.int .i64 vl).wf = true) :
    Calls Try.prog 6 #[.slice a0 len0 cap0, .slice a1 len1 cap1, .int .i64 ky, .int .i64 vl] w (Ret (.bool true) w) := by
  have HB0 := Lib.hid w0.1
  have HB1 := Lib.hid w1.1
  have L0 := Lib.hid (beadsLong_any w _ z0 w0.1)
  have L1 := Lib.hid (fun w' (h : Ext w w') => beadsLong_any w' _ z1 (w1.1.ext h))
  have hx := Ext.refl w
  clear _w2 _w3 w0 w1
  cases hl0 : (decide (400 < z0.length) || !mayB z0) with
  | true =>
    have HL := Lib.hid hl0
    clear hl0
    go_enter Try.func6, Try.ntmps6
    go_wp2_with fail
    refine (L0.out).mono ?_
    rw [HL.out]
    rintro e w1 ⟨rfl, hS⟩
    replace hx := hx.trans hS
    clear hS
    go_wp2_with fail
    refine (alive18_any _).mono ?_
    rintro e w2 ⟨rfl, hS⟩
    replace hx := hx.trans hS
    clear hS
    go_wp2
    go_ret
    exact Ret.mk hx
  | false =>
    cases hl1 : (decide (400 < z1.length) || !mayB z1) with
    | true =>
      have HL0 := Lib.hid hl0
      have HL1 := Lib.hid hl1
      clear hl0 hl1
      go_enter Try.func6, Try.ntmps6
      go_wp2_with fail
      refine (L0.out).mono ?_
      rw [HL0.out]
      rintro e w1 ⟨rfl, hS⟩
      replace hx := hx.trans hS
      clear hS
      go_wp2_with fail
      refine (L1.out _ hx).mono ?_
      rw [HL1.out]
      rintro e w2 ⟨rfl, hS⟩
      replace hx := hx.trans hS
      clear hS
      go_wp2_with fail
      refine (alive18_any _).mono ?_
      rintro e w3 ⟨rfl, hS⟩
      replace hx := hx.trans hS
      clear hS
      go_wp2
      go_ret
      exact Ret.mk hx
    | false =>
      obtain ⟨hn0, t0, ht0⟩ := long_tree hl0
      obtain ⟨hn1, t1, ht1⟩ := long_tree hl1
      subst ht0 ht1
      have HL0 := Lib.hid hl0
      have HL1 := Lib.hid hl1
      have N0 := Lib.hid hn0
      have N1 := Lib.hid hn1
      clear hl0 hl1 hn0 hn1
      go_enter Try.func6, Try.ntmps6
      go_wp2_with fail
      refine (L0.out).mono ?_
      rw [HL0.out]
      rintro e w1 ⟨rfl, hS⟩
      replace hx := hx.trans hS
      clear hS
      go_wp2_with fail
      refine (L1.out _ hx).mono ?_
      rw [HL1.out]
      rintro e w2 ⟨rfl, hS⟩
      replace hx := hx.trans hS
      clear hS
      go_wp2_with fail
      refine (beadsMake_any t0 w2 _ (HB0.out.ext hx) N0.out).mono ?_
      rintro e w3 ⟨A, rfl, hA, fA, hS⟩
      replace hx := hx.trans hS
      clear hS
      go_wp2_with fail
      refine (beadsMake_any t1 w3 _ (HB1.out.ext hx) N1.out).mono ?_
      rintro e w4 ⟨B, rfl, hB, fB, hS⟩
      replace hx := hx.trans hS
      replace hA := hA.ext hS
      clear hS
      have CA := Lib.hid (show A.count ≤ 400 by unfold Tr.count; rw [BT.fits_len fA]; exact N0.out)
      have CB := Lib.hid (show B.count ≤ 400 by unfold Tr.count; rw [BT.fits_len fB]; exact N1.out)
      have FA := Lib.hid fA
      have FB := Lib.hid fB
      clear fA fB
      go_wp2_with fail
      refine (wbMake_any w4 A B ky vl hA hB).mono ?_
      rintro e w5 ⟨bb, rfl, hbb, hT, hS⟩
      replace hx := hx.trans hS
      replace hA := hA.ext hS
      replace hB := hB.ext hS
      clear hS
      have CT := Lib.hid (show (Tr.node bb A ky vl 0 B).pre.length ≤ 4000 ∧ wt A = ((A.count + 1 : Nat) : Int) ∧ wt B = ((B.count + 1 : Nat) : Int) ∧ wt (.node bb A ky vl 0 B) = ((A.count + 1 + (B.count + 1) : Nat) : Int) by
        have h1 := CA.out
        have h2 := CB.out
        have h3 := Tr.count_node bb A ky vl 0 B
        exact ⟨by show (Tr.node bb A ky vl 0 B).count ≤ 4000; omega, wt_count A (by omega), wt_count B (by omega), by rw [wt_count _ (by omega), h3]; omega⟩)
      have FT := Lib.hid (show (BT.node ky vl 0 0 0 t0 t1).fits (.node bb A ky vl 0 B) from ⟨rfl, rfl, rfl, FA.out, FB.out⟩)
      have ca := CA.out
      have cb := CB.out
      clear hbb
      go_wp2_with fail
      refine (wbMay_any _ A hA (Nat.le_trans CA.out (by decide))).mono ?_
      cases mA : wbMay A with
      | false =>
        have M := Lib.hid (show (wbMay A && wbMay B && likeB (wt A) (wt B)) = false by rw [mA]; rfl)
        clear mA
        rintro e w6 ⟨rfl, hS⟩
        replace hx := hx.trans hS
        replace hA := hA.ext hS
        replace hB := hB.ext hS
        replace hT := hT.ext hS
        clear hS
        have MT := Lib.hid ((wbMakes_law bb A B ky vl).trans M.out)
        go_wp2_with fail
        refine (node09_any _ _ _ t0 t1 ky vl 0 (HB0.out.ext hx) (HB1.out.ext hx) (by have := N0.out; have := N1.out; omega)).mono ?_
        rintro e w10 ⟨v10, rfl, hown, hS⟩
        replace hx := hx.trans hS
        replace hA := hA.ext hS
        replace hB := hB.ext hS
        replace hT := hT.ext hS
        clear hS
        have BT10 := Lib.hid (show Beads w10 v10 (Tr.node bb A ky vl 0 B).beads by
          rw [fits_beads FT.out (by have := N0.out; have := N1.out; simp [BT.enc]; omega)]; exact hown.beads)
        clear hown
        go_wp2_with fail
        refine (is_any w10 (.node bb A ky vl 0 B) v10 hT BT10.out (by have h1 := CA.out; have h2 := CB.out; unfold Tr.count at h1 h2; simp [Tr.pre]; omega)).mono ?_
        rintro e w11 ⟨rfl, hS⟩
        replace hx := hx.trans hS
        replace hA := hA.ext hS
        replace hB := hB.ext hS
        replace hT := hT.ext hS
        clear hS
        go_wp2_with fail
        refine (left_any _ (.node bb A ky vl 0 B) hT).mono ?_
        rw [Tr.left_node]
        rintro e w12 ⟨rfl, hS⟩
        replace hx := hx.trans hS
        replace hA := hA.ext hS
        replace hB := hB.ext hS
        replace hT := hT.ext hS
        clear hS
        have hpa := ptr_same A.ptr
        go_wp2_with fail
        refine (right_any _ (.node bb A ky vl 0 B) hT).mono ?_
        rw [Tr.right_node]
        rintro e w13 ⟨rfl, hS⟩
        replace hx := hx.trans hS
        replace hA := hA.ext hS
        replace hB := hB.ext hS
        replace hT := hT.ext hS
        clear hS
        have hpb := ptr_same B.ptr
        go_wp2_with fail
        refine (wbMay_any _ (.node bb A ky vl 0 B) hT CT.out.1).mono ?_
        rw [MT.out]
        rintro e w14 ⟨rfl, hS⟩
        replace hx := hx.trans hS
        replace hA := hA.ext hS
        replace hB := hB.ext hS
        replace hT := hT.ext hS
        clear hS
        go_wp2_with fail
        refine (wbWeight_any _ (.node bb A ky vl 0 B) hT).mono ?_
        rw [CT.out.2.2.2]
        rintro e w15 ⟨rfl, hS⟩
        replace hx := hx.trans hS
        replace hA := hA.ext hS
        replace hB := hB.ext hS
        clear hS
        go_wp2_with fail
        refine (wbWeight_any _ A hA).mono ?_
        rw [CT.out.2.1]
        rintro e w16 ⟨rfl, hS⟩
        replace hx := hx.trans hS
        replace hB := hB.ext hS
        clear hS
        go_wp2_with fail
        refine (wbWeight_any _ B hB).mono ?_
        rw [CT.out.2.2.1]
        rintro e w17 ⟨rfl, hS⟩
        replace hx := hx.trans hS
        clear hS
        go_wp2_with fail
        refine (alive18_any _).mono ?_
        rintro e w18 ⟨rfl, hS⟩
        replace hx := hx.trans hS
        clear hS
        go_wp2
        go_ret
        first
          | exact Ret.mk hx
          | exact ⟨ret_bool (by simp; omega), hx⟩
      | true =>
        rintro e w6 ⟨rfl, hS⟩
        replace hx := hx.trans hS
        replace hA := hA.ext hS
        replace hB := hB.ext hS
        replace hT := hT.ext hS
        clear hS
        have MA := Lib.hid mA
        clear mA
        go_wp2_with fail
        refine (wbMay_any _ B hB (Nat.le_trans CB.out (by decide))).mono ?_
        cases mB : wbMay B with
        | false =>
          have M := Lib.hid (show (wbMay A && wbMay B && likeB (wt A) (wt B)) = false by rw [MA.out, mB]; rfl)
          clear mB
          rintro e w7 ⟨rfl, hS⟩
          replace hx := hx.trans hS
          replace hA := hA.ext hS
          replace hB := hB.ext hS
          replace hT := hT.ext hS
          clear hS
          have MT := Lib.hid ((wbMakes_law bb A B ky vl).trans M.out)
          go_wp2_with fail
          refine (node09_any _ _ _ t0 t1 ky vl 0 (HB0.out.ext hx) (HB1.out.ext hx) (by have := N0.out; have := N1.out; omega)).mono ?_
          rintro e w10 ⟨v10, rfl, hown, hS⟩
          replace hx := hx.trans hS
          replace hA := hA.ext hS
          replace hB := hB.ext hS
          replace hT := hT.ext hS
          clear hS
          have BT10 := Lib.hid (show Beads w10 v10 (Tr.node bb A ky vl 0 B).beads by
            rw [fits_beads FT.out (by have := N0.out; have := N1.out; simp [BT.enc]; omega)]; exact hown.beads)
          clear hown
          go_wp2_with fail
          refine (is_any w10 (.node bb A ky vl 0 B) v10 hT BT10.out (by have h1 := CA.out; have h2 := CB.out; unfold Tr.count at h1 h2; simp [Tr.pre]; omega)).mono ?_
          rintro e w11 ⟨rfl, hS⟩
          replace hx := hx.trans hS
          replace hA := hA.ext hS
          replace hB := hB.ext hS
          replace hT := hT.ext hS
          clear hS
          go_wp2_with fail
          refine (left_any _ (.node bb A ky vl 0 B) hT).mono ?_
          rw [Tr.left_node]
          rintro e w12 ⟨rfl, hS⟩
          replace hx := hx.trans hS
          replace hA := hA.ext hS
          replace hB := hB.ext hS
          replace hT := hT.ext hS
          clear hS
          have hpa := ptr_same A.ptr
          go_wp2_with fail
          refine (right_any _ (.node bb A ky vl 0 B) hT).mono ?_
          rw [Tr.right_node]
          rintro e w13 ⟨rfl, hS⟩
          replace hx := hx.trans hS
          replace hA := hA.ext hS
          replace hB := hB.ext hS
          replace hT := hT.ext hS
          clear hS
          have hpb := ptr_same B.ptr
          go_wp2_with fail
          refine (wbMay_any _ (.node bb A ky vl 0 B) hT CT.out.1).mono ?_
          rw [MT.out]
          rintro e w14 ⟨rfl, hS⟩
          replace hx := hx.trans hS
          replace hA := hA.ext hS
          replace hB := hB.ext hS
          replace hT := hT.ext hS
          clear hS
          go_wp2_with fail
          refine (wbWeight_any _ (.node bb A ky vl 0 B) hT).mono ?_
          rw [CT.out.2.2.2]
          rintro e w15 ⟨rfl, hS⟩
          replace hx := hx.trans hS
          replace hA := hA.ext hS
          replace hB := hB.ext hS
          clear hS
          go_wp2_with fail
          refine (wbWeight_any _ A hA).mono ?_
          rw [CT.out.2.1]
          rintro e w16 ⟨rfl, hS⟩
          replace hx := hx.trans hS
          replace hB := hB.ext hS
          clear hS
          go_wp2_with fail
          refine (wbWeight_any _ B hB).mono ?_
          rw [CT.out.2.2.1]
          rintro e w17 ⟨rfl, hS⟩
          replace hx := hx.trans hS
          clear hS
          go_wp2_with fail
          refine (alive18_any _).mono ?_
          rintro e w18 ⟨rfl, hS⟩
          replace hx := hx.trans hS
          clear hS
          go_wp2
          go_ret
          first
            | exact Ret.mk hx
            | exact ⟨ret_bool (by simp; omega), hx⟩
        | true =>
          rintro e w7 ⟨rfl, hS⟩
          replace hx := hx.trans hS
          replace hA := hA.ext hS
          replace hB := hB.ext hS
          replace hT := hT.ext hS
          clear hS
          have MB := Lib.hid mB
          clear mB
          go_wp2_with fail
          refine (wbWeight_any _ A hA).mono ?_
          rintro e w8 ⟨rfl, hS⟩
          replace hx := hx.trans hS
          replace hA := hA.ext hS
          replace hB := hB.ext hS
          replace hT := hT.ext hS
          clear hS
          go_wp2_with fail
          refine (wbWeight_any _ B hB).mono ?_
          rintro e w88 ⟨rfl, hS⟩
          replace hx := hx.trans hS
          replace hA := hA.ext hS
          replace hB := hB.ext hS
          replace hT := hT.ext hS
          clear hS
          go_wp2_with fail
          refine (wbLike_any _ (wt A) (wt B)).mono ?_
          cases cl : likeB (wt A) (wt B)
          all_goals
            have M := Lib.hid ((show (wbMay A && wbMay B && likeB (wt A) (wt B)) = likeB (wt A) (wt B) by rw [MA.out, MB.out]; rfl).trans cl)
            rintro e w9 ⟨rfl, hS⟩
            replace hx := hx.trans hS
            replace hA := hA.ext hS
            replace hB := hB.ext hS
            replace hT := hT.ext hS
            clear hS cl
            have MT := Lib.hid ((wbMakes_law bb A B ky vl).trans M.out)
            go_wp2_with fail
            refine (node09_any _ _ _ t0 t1 ky vl 0 (HB0.out.ext hx) (HB1.out.ext hx) (by have := N0.out; have := N1.out; omega)).mono ?_
            rintro e w10 ⟨v10, rfl, hown, hS⟩
            replace hx := hx.trans hS
            replace hA := hA.ext hS
            replace hB := hB.ext hS
            replace hT := hT.ext hS
            clear hS
            have BT10 := Lib.hid (show Beads w10 v10 (Tr.node bb A ky vl 0 B).beads by
              rw [fits_beads FT.out (by have := N0.out; have := N1.out; simp [BT.enc]; omega)]; exact hown.beads)
            clear hown
            go_wp2_with fail
            refine (is_any w10 (.node bb A ky vl 0 B) v10 hT BT10.out (by have h1 := CA.out; have h2 := CB.out; unfold Tr.count at h1 h2; simp [Tr.pre]; omega)).mono ?_
            rintro e w11 ⟨rfl, hS⟩
            replace hx := hx.trans hS
            replace hA := hA.ext hS
            replace hB := hB.ext hS
            replace hT := hT.ext hS
            clear hS
            go_wp2_with fail
            refine (left_any _ (.node bb A ky vl 0 B) hT).mono ?_
            rw [Tr.left_node]
            rintro e w12 ⟨rfl, hS⟩
            replace hx := hx.trans hS
            replace hA := hA.ext hS
            replace hB := hB.ext hS
            replace hT := hT.ext hS
            clear hS
            have hpa := ptr_same A.ptr
            go_wp2_with fail
            refine (right_any _ (.node bb A ky vl 0 B) hT).mono ?_
            rw [Tr.right_node]
            rintro e w13 ⟨rfl, hS⟩
            replace hx := hx.trans hS
            replace hA := hA.ext hS
            replace hB := hB.ext hS
            replace hT := hT.ext hS
            clear hS
            have hpb := ptr_same B.ptr
            go_wp2_with fail
            refine (wbMay_any _ (.node bb A ky vl 0 B) hT CT.out.1).mono ?_
            rw [MT.out]
            rintro e w14 ⟨rfl, hS⟩
            replace hx := hx.trans hS
            replace hA := hA.ext hS
            replace hB := hB.ext hS
            replace hT := hT.ext hS
            clear hS
            go_wp2_with fail
            refine (wbWeight_any _ (.node bb A ky vl 0 B) hT).mono ?_
            rw [CT.out.2.2.2]
            rintro e w15 ⟨rfl, hS⟩
            replace hx := hx.trans hS
            replace hA := hA.ext hS
            replace hB := hB.ext hS
            clear hS
            go_wp2_with fail
            refine (wbWeight_any _ A hA).mono ?_
            rw [CT.out.2.1]
            rintro e w16 ⟨rfl, hS⟩
            replace hx := hx.trans hS
            replace hB := hB.ext hS
            clear hS
            go_wp2_with fail
            refine (wbWeight_any _ B hB).mono ?_
            rw [CT.out.2.2.1]
            rintro e w17 ⟨rfl, hS⟩
            replace hx := hx.trans hS
            clear hS
            go_wp2_with fail
            refine (alive18_any _).mono ?_
            rintro e w18 ⟨rfl, hS⟩
            replace hx := hx.trans hS
            clear hS
            go_wp2
            go_ret
            first
              | exact Ret.mk hx
              | exact ⟨ret_bool (by simp; omega), hx⟩
end Go.Proofs.Ytgihphnjmfkklaa
