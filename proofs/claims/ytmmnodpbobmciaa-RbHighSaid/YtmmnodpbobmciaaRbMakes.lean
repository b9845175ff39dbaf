/- The walk of joinerylaw16.RbMakes. -/
import Derived.Test.YtmmnodpbobmciaaRbLaw
namespace Go.Proofs.Ytmmnodpbobmciaa
open Go Go.RowKit

theorem tags_make {A B : Tr} {k v : Int} (bb : Nat) (is : Bool) (hA : TagsOk A) (hB : TagsOk B) : TagsOk (.node bb A k v (rbTag A is) B) := by
  refine ⟨?_, ?_, hA, hB⟩
  · unfold rbTag; rw [u64_mod]; omega
  · unfold rbTag; rw [u64_mod]; omega
set_option maxRecDepth 100000 in
set_option maxHeartbeats 4000000 in
theorem rbMakes_walk (a0 : Option Addr) (len0 cap0 : Nat) (z0 : List BeadL) (a1 : Option Addr) (len1 cap1 : Nat) (z1 : List BeadL) (ky vl : Int) (red : Bool) (w : World) (w0 : IsBeads w (.slice a0 len0 cap0) z0) (w1 : IsBeads w (.slice a1 len1 cap1) z1) (_w2 : (Lit.int .i64 ky).wf = true) (_w3 : (Lit.int .i64 vl).wf = true) :
    Calls Try.prog 3 #[.slice a0 len0 cap0, .slice a1 len1 cap1, .int .i64 ky, .int .i64 vl, .bool red] w (Ret (.bool true) w) := by
  have HB0 := Lib.hid w0.1
  have HB1 := Lib.hid w1.1
  have W0 := Lib.hid w0.2
  have W1 := Lib.hid w1.2
  have L0 := Lib.hid (beadsLong_any w _ z0 w0.1)
  have L1 := Lib.hid (fun w' (h : Ext w w') => beadsLong_any w' _ z1 (w1.1.ext h))
  have hx := Ext.refl w
  clear _w2 _w3 w0 w1
  cases hl0 : (decide (400 < z0.length) || !mayB z0) with
  | true =>
    have HL := Lib.hid hl0
    clear hl0
    go_enter Try.func3, Try.ntmps3
    go_wp2_with fail
    refine (L0.out).mono ?_
    rw [HL.out]
    rintro e w1 ⟨rfl, hS⟩
    replace hx := hx.trans hS
    clear hS
    go_wp2_with fail
    refine (alive16_any _).mono ?_
    rintro e w2 ⟨rfl, hS⟩
    replace hx := hx.trans hS
    clear hS
    go_wp2
    go_ret
    exact Ret.mk hx
  | false =>
    cases hl1 : (decide (400 < z1.length) || !mayB z1) with
    | true =>
      have HL0 := Lib.hid hl0
      have HL1 := Lib.hid hl1
      clear hl0 hl1
      go_enter Try.func3, Try.ntmps3
      go_wp2_with fail
      refine (L0.out).mono ?_
      rw [HL0.out]
      rintro e w1 ⟨rfl, hS⟩
      replace hx := hx.trans hS
      clear hS
      go_wp2_with fail
      refine (L1.out _ hx).mono ?_
      rw [HL1.out]
      rintro e w2 ⟨rfl, hS⟩
      replace hx := hx.trans hS
      clear hS
      go_wp2_with fail
      refine (alive16_any _).mono ?_
      rintro e w3 ⟨rfl, hS⟩
      replace hx := hx.trans hS
      clear hS
      go_wp2
      go_ret
      exact Ret.mk hx
    | false =>
      obtain ⟨hn0, t0, ht0⟩ := long_tree hl0
      obtain ⟨hn1, t1, ht1⟩ := long_tree hl1
      subst ht0 ht1
      have HL0 := Lib.hid hl0
      have HL1 := Lib.hid hl1
      have N0 := Lib.hid hn0
      have N1 := Lib.hid hn1
      clear hl0 hl1 hn0 hn1
      go_enter Try.func3, Try.ntmps3
      go_wp2_with fail
      refine (L0.out).mono ?_
      rw [HL0.out]
      rintro e w1 ⟨rfl, hS⟩
      replace hx := hx.trans hS
      clear hS
      go_wp2_with fail
      refine (L1.out _ hx).mono ?_
      rw [HL1.out]
      rintro e w2 ⟨rfl, hS⟩
      replace hx := hx.trans hS
      clear hS
      go_wp2_with fail
      refine (beadsMake_any t0 w2 _ (HB0.out.ext hx) N0.out).mono ?_
      rintro e w3 ⟨A, rfl, hA, fA, hS⟩
      replace hx := hx.trans hS
      clear hS
      go_wp2_with fail
      refine (beadsMake_any t1 w3 _ (HB1.out.ext hx) N1.out).mono ?_
      rintro e w4 ⟨B, rfl, hB, fB, hS⟩
      replace hx := hx.trans hS
      replace hA := hA.ext hS
      clear hS
      have CA := Lib.hid (show A.count ≤ 400 by unfold Tr.count; rw [BT.fits_len fA]; exact N0.out)
      have CB := Lib.hid (show B.count ≤ 400 by unfold Tr.count; rw [BT.fits_len fB]; exact N1.out)
      have FA := Lib.hid (And.intro fA (fits_tagsOk t0 A fA W0.out))
      have FB := Lib.hid (And.intro fB (fits_tagsOk t1 B fB W1.out))
      clear fA fB
      go_wp2_with fail
      refine (rbMake_any w4 A B ky vl red hA hB FA.out.2).mono ?_
      rintro e w5 ⟨bb, rfl, hbb, hT, hS⟩
      replace hx := hx.trans hS
      clear hS
      clear hA hB hbb
      have FT := Lib.hid (show ∀ g bb, (BT.node ky vl 0 0 g t0 t1).fits (.node bb A ky vl g B) from fun g bb => ⟨rfl, rfl, rfl, FA.out.1, FB.out.1⟩)
      have LT := Lib.hid (show ∀ g, (BT.node ky vl 0 0 g t0 t1).enc.length ≤ 2000 from fun g => by have := N0.out; have := N1.out; simp [BT.enc]; omega)
      have PT := Lib.hid (show ∀ g bb, (Tr.node bb A ky vl g B).pre.length ≤ 2000 from fun g bb => by have h1 := CA.out; have h2 := CB.out; unfold Tr.count at h1 h2; simp [Tr.pre]; omega)
      have RT := Lib.hid (rbRed_make bb A ky vl red B)
      have BK := Lib.hid (black_of ky vl 0 0 (rbTag A red) t0 t1)
      have hred : (rbTag A red % 2 == 1) = red := RT.out
      rw [hred] at BK
      have TT := Lib.hid (tags_make (k := ky) (v := vl) bb red FA.out.2 FB.out.2)
      go_wp2_with fail
      refine (make16_any _ _ _ t0 t1 A ky vl red FA.out.1 FA.out.2 (HB0.out.ext hx) (HB1.out.ext hx) (by have := N0.out; have := N1.out; omega)).mono ?_
      rintro e w6 ⟨v6, rfl, hown, hS⟩
      replace hx := hx.trans hS
      replace hT := hT.ext hS
      clear hS
      have BX := Lib.hid hown.beads
      clear hown
      generalize rbTag A red = G at *
      go_wp2_with fail
      refine (rbBlacken_any _ _ hT TT.out).mono ?_
      rintro e w7 ⟨u, rfl, hu, h67, hor⟩
      replace hx := hx.trans h67
      replace hT := hT.ext h67
      have BX7 := Lib.hid (BX.out.ext h67)
      clear h67 BX
      have hps := ptr_same u.ptr
      have hpa := ptr_same A.ptr
      have hpb := ptr_same B.ptr
      go_wp2_with fail
      refine (is_any w7 (.node bb A ky vl G B) v6 hT (by rw [fits_beads (FT.out G bb) (Nat.le_trans (LT.out G) (by decide))]; exact BX7.out) (PT.out G bb)).mono ?_
      rintro e w8 ⟨rfl, hS⟩
      replace hx := hx.trans hS
      replace hT := hT.ext hS
      replace hu := hu.ext hS
      have BX8 := Lib.hid (BX7.out.ext hS)
      clear hS BX7
      go_wp2_with fail
      refine (left_any _ (.node bb A ky vl G B) hT).mono ?_
      rw [Tr.left_node]
      rintro e w9 ⟨rfl, hS9⟩
      go_wp2_with fail
      refine (right_any _ (.node bb A ky vl G B) (hT.ext hS9)).mono ?_
      rw [Tr.right_node]
      rintro e w10 ⟨rfl, hS10⟩
      have h810 := hS9.trans hS10
      have FX := Lib.hid (show ∃ X : Tr, (BT.node ky vl 0 0 G t0 t1).of.fits X ∧ TagsOk X from ⟨.node bb A ky vl G B, BT.of_fits (FT.out G bb), TT.out⟩)
      obtain ⟨X, fX, oX⟩ := FX.out
      clear hS9 hS10
      have BX10 := Lib.hid (BX8.out.ext h810)
      replace hx := hx.trans h810
      replace hu := hu.ext h810
      have HXX := Lib.hid (And.intro fX oX)
      clear BX8 hT FX fX oX h810
      go_wp2_with fail
      refine (blacken16_any w10 v6 (BT.node ky vl 0 0 G t0 t1).of X HXX.out.1 HXX.out.2 BX10.out (by rw [BT.of_len]; exact Nat.le_trans (LT.out G) (by decide))).mono ?_
      rw [BK.out]
      rintro e w11 ⟨v11, rfl, hown, hS⟩
      replace hx := hx.trans hS
      replace hu := hu.ext hS
      have BU := Lib.hid hown.beads
      clear hown hS BX10
      have hku : u.left = A ∧ u.right = B ∧ u.beads = (BT.node ky vl 0 0 (if red then IntKind.u64.wrap (G + 1) else G) t0 t1).of.enc ∧ u.pre.length ≤ 2000 ∧ (red = false → u = .node bb A ky vl G B) := by
        rcases hor with ⟨h1, rfl⟩ | ⟨h1, b2, -, rfl⟩
        · have h2 : red = false := RT.out.symm.trans h1
          subst h2
          exact ⟨rfl, rfl, fits_beads (FT.out G bb) (Nat.le_trans (LT.out G) (by decide)), PT.out G bb, fun _ => rfl⟩
        · have h2 : red = true := RT.out.symm.trans h1
          subst h2
          exact ⟨rfl, rfl, fits_beads (FT.out _ b2) (Nat.le_trans (LT.out _) (by decide)), PT.out _ b2, fun h => by cases h⟩
      obtain ⟨k1, k2, k3, k4, k5⟩ := hku
      have K := Lib.hid (And.intro k1 (And.intro k2 (And.intro k3 k4)))
      clear hor k1 k2 k3 k4 BK
      go_wp2_with fail
      refine (is_any w11 u v11 hu (by rw [K.out.2.2.1]; exact BU.out) K.out.2.2.2).mono ?_
      rintro e w12 ⟨rfl, hS⟩
      replace hx := hx.trans hS
      replace hu := hu.ext hS
      clear hS BU
      go_wp2_with fail
      refine (left_any _ u hu).mono ?_
      rw [K.out.1]
      rintro e w13 ⟨rfl, hS⟩
      replace hx := hx.trans hS
      replace hu := hu.ext hS
      clear hS
      go_wp2_with fail
      refine (right_any _ u hu).mono ?_
      rw [K.out.2.1]
      rintro e w14 ⟨rfl, hS⟩
      replace hx := hx.trans hS
      clear hS
      cases red with
      | true =>
        clear k5
        go_wp2_with fail
        refine (alive16_any _).mono ?_
        rintro e w15 ⟨rfl, hS⟩
        replace hx := hx.trans hS
        clear hS
        go_wp2
        go_ret
        exact Ret.mk hx
      | false =>
        have hue := k5 rfl
        subst hue
        clear k5
        go_wp2_with fail
        refine (alive16_any _).mono ?_
        rintro e w15 ⟨rfl, hS⟩
        replace hx := hx.trans hS
        clear hS
        go_wp2
        go_ret
        exact Ret.mk hx
end Go.Proofs.Ytmmnodpbobmciaa
