/- The walk of joinerylaw14.AvlTells. -/
import Derived.Test.YtcdnakolpdinoaaRef14
namespace Go.Proofs.Ytcdnakolpdinoaa
open Go Go.RowKit

/-- what Long says no to is a tree. -/
theorem long_tree {zs : List BeadL} (h : (decide (400 < zs.length) || !mayB zs) = false) : zs.length ≤ 400 ∧ ∃ t : BT, t.enc = zs := by
  simp only [Bool.or_eq_false_iff, Bool.not_eq_false', decide_eq_false_iff_not] at h
  exact ⟨by omega, mayB_tree h.2⟩
theorem avlLean_nil : avlLean .nil = 0 := by decide +kernel
set_option maxHeartbeats 1000000 in
theorem avlTells_walk (a : Option Addr) (len cap : Nat) (zs : List BeadL) (w : World) (hb0 : IsBeads w (.slice a len cap) zs) :
    Calls Try.prog 3 #[.slice a len cap] w (Ret (.bool true) w) := by
  have hb := hb0.1
  clear hb0
  have hlong := fun (w : World) (h : Beads w (.slice a len cap) zs) => beadsLong_any w _ zs h
  have HB := Lib.hid hb
  cases hl : (decide (400 < zs.length) || !mayB zs) with
  | true =>
    have H := Lib.hid (hlong w hb)
    have HL := Lib.hid hl
    clear hlong hb hl
    go_enter Try.func3, Try.ntmps3
    go_wp2_with fail
    refine H.out.mono ?_
    rw [HL.out]
    rintro e w1 ⟨rfl, h1⟩
    go_wp2_with fail
    refine (alive14_any _).mono ?_
    rintro e w2 ⟨rfl, h2⟩
    go_wp2
    go_ret
    exact Ret.mk (h1.trans h2)
  | false =>
    obtain ⟨hl4, t, ht⟩ := long_tree hl
    subst ht
    have H := Lib.hid (hlong w hb)
    have HL := Lib.hid hl
    have h4 := Lib.hid hl4
    have hlen : len = t.enc.length := by
      obtain ⟨a', c', h⟩ := beads_slice hb
      simpa using congrArg (fun v => match v with | .slice _ l _ => l | _ => 0) h
    clear hlong hb hl
    cases t with
    | nil => 
      have hlen0 : len = 0 := hlen
      subst hlen0
      clear hlen
      go_enter Try.func3, Try.ntmps3
      go_wp2_with fail
      refine H.out.mono ?_
      rw [HL.out]
      rintro e w1 ⟨rfl, h1⟩
      go_wp2_with fail
      refine (beadsMake_any .nil w1 _ (HB.out.ext h1) h4.out).mono ?_
      rintro e w2 ⟨T, rfl, hT, hf, h2⟩
      have hTn : T = .nil := by cases T with | nil => rfl | node => exact hf.elim
      subst hTn
      have f1 : avlFirst Tr.nil.pre = (0, 0) := rfl
      have F1 := Lib.hid f1
      clear f1
      go_wp2_with fail
      refine (avlCheck_any _ _ hT).mono ?_
      rw [F1.out]
      dsimp only
      rw [show wrap64 ((0 : Nat) : Int) = 0 by decide +kernel]
      rintro e w3 ⟨rfl, h3⟩
      go_wp2_with fail
      refine (check14_any .nil .nil w3 _ hf (HB.out.ext ((h1.trans h2).trans h3)) (Nat.le_trans h4.out (by decide))).mono ?_
      rw [F1.out]
      dsimp only
      rintro e w4 ⟨rfl, h4'⟩
      have h04 := ((h1.trans h2).trans h3).trans h4'
      go_wp2_with fail
      refine (avlMay_any w4 .nil trivial).mono ?_
      rw [avlMay_nil]
      rintro e w5 ⟨rfl, h5⟩
      go_wp2_with fail
      refine (may14_any .nil .nil w5 _ hf (HB.out.ext (h04.trans h5)) (Nat.le_trans h4.out (by decide))).mono ?_
      rw [avlMay_nil]
      rintro e w6 ⟨rfl, h6⟩
      go_wp2_with fail
      refine (avlRank_any w6 .nil trivial).mono ?_
      rw [show wrap64 Tr.nil.tag = 0 by decide +kernel]
      rintro e w7 ⟨rfl, h7⟩
      have h47 := ((h04.trans h5).trans h6).trans h7
      go_wp2_with fail
      refine (tag14_any w7 _ .nil (HB.out.ext h47)).mono ?_
      rw [show BT.nil.tag = 0 from rfl]
      rintro e w8 ⟨rfl, h8⟩
      go_wp2_with fail
      refine (avlLean_any w8 .nil trivial).mono ?_
      rw [avlLean_nil]
      rintro e w9 ⟨rfl, h9⟩
      go_wp2_with fail
      refine (alive14_any _).mono ?_
      rintro e w10 ⟨rfl, h10⟩
      go_wp2
      go_ret
      exact Ret.mk (((h47.trans h8).trans h9).trans h10)
    | node k v s n g l r =>
      obtain ⟨LL, hLL⟩ : ∃ LL, LL = (BT.node k v s n g l r).enc.length := ⟨_, rfl⟩
      have h1 : 1 ≤ len := by rw [hlen]; simp [BT.enc]
      clear hlen hLL
      go_enter Try.func3, Try.ntmps3
      go_wp2_with fail
      refine H.out.mono ?_
      rw [HL.out]
      rintro e w1 ⟨rfl, h1⟩
      go_wp2_with fail
      refine (beadsMake_any _ w1 _ (HB.out.ext h1) h4.out).mono ?_
      rintro e w2 ⟨T, rfl, hT, hf, h2⟩
      have hle : (avlFirst T.pre).1 ≤ 400 := Nat.le_trans (avlFirst_le _) (by rw [BT.fits_len hf]; exact h4.out)
      obtain ⟨hfl, hfr, hg, -, -, -⟩ := BT.fits_left hf
      have e1 := BT.fits_tag hfl
      have e2 := BT.fits_tag hfr
      have HG := Lib.hid (show (BT.node k v s n g l r).tag = T.tag from hg)
      have HLE := Lib.hid (show avlLean T = wrap64 (IntKind.u64.wrap (r.tag - l.tag)) by rw [e1, e2]; rfl)
      have HC := Lib.hid (show wrap64 (avlFirst T.pre).1 = (avlFirst T.pre).1 by unfold wrap64; omega)
      have HF := Lib.hid hf
      clear hfl hfr hg e1 e2 hf hle
      go_wp2_with fail
      refine (avlCheck_any w2 T hT).mono ?_
      rw [HC.out]
      rintro e w3 ⟨rfl, h3⟩
      have h03 := (h1.trans h2).trans h3
      go_wp2_with fail
      refine (check14_any _ T w3 _ HF.out (HB.out.ext h03) (Nat.le_trans h4.out (by decide))).mono ?_
      rintro e w4 ⟨rfl, h4'⟩
      go_wp2_with fail
      refine (parts_any w4 _ k v s n g l r (HB.out.ext (h03.trans h4')) (Nat.le_trans h4.out (by decide))).mono ?_
      rintro e w5 ⟨v1, v2, rfl, hv1, hv2, h5⟩
      have hE2 := (Ext.refl w5).alloc (.cells #[.int .i64 k, .int .i64 v, .int .i64 s, .int .i64 n, .int .u64 g, .bool (!l.isNil), .bool (!r.isNil)] 33)
      have HV1 := Lib.hid (hv1.ext hE2)
      have HV2 := Lib.hid (hv2.ext hE2)
      have h05 := Lib.hid (((h03.trans h4').trans h5).trans hE2)
      have HT := Lib.hid (hT.ext ((((h3.trans h4').trans h5).trans hE2)))
      clear hv1 hv2 h1 h2 h3 h03 h4' h5 hT
      go_wp2_with fail
      refine (tag14_any _ v2 r HV2.out).mono ?_
      rintro e w6 ⟨rfl, h6⟩
      go_wp2_with fail
      refine (tag14_any _ v1 l (HV1.out.ext h6)).mono ?_
      rintro e w7 ⟨rfl, h7⟩
      have h67 := h6.trans h7
      go_wp2_with fail
      refine (avlMay_any _ T (HT.out.ext h67)).mono ?_
      rintro e w8 ⟨rfl, h8⟩
      have h68 := h67.trans h8
      clear h6 h7 h67 h8 hE2
      go_wp2_with fail
      refine (may14_any _ T w8 _ HF.out (HB.out.ext (h05.out.trans h68)) (Nat.le_trans h4.out (by decide))).mono ?_
      rintro e w9 ⟨rfl, h9⟩
      have h69 := h68.trans h9
      clear h68 h9
      go_wp2_with fail
      refine (avlRank_any w9 T (HT.out.ext h69)).mono ?_
      rintro e w10 ⟨rfl, h10⟩
      have h610 := h69.trans h10
      clear h69 h10
      go_wp2_with fail
      refine (tag14_any w10 _ _ (HB.out.ext (h05.out.trans h610))).mono ?_
      rw [HG.out]
      rintro e w11 ⟨rfl, h11⟩
      have h611 := h610.trans h11
      clear h610 h11
      go_wp2_with fail
      refine (avlLean_any w11 T (HT.out.ext h611)).mono ?_
      rw [HLE.out]
      rintro e w12 ⟨rfl, h12⟩
      go_wp2_with fail
      refine (alive14_any _).mono ?_
      rintro e w13 ⟨rfl, h13⟩
      go_wp2
      go_ret
      exact Ret.mk (((h05.out.trans h611).trans h12).trans h13)
end Go.Proofs.Ytcdnakolpdinoaa
