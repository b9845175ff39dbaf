/- joineryref17.Most, and the walk of RbjoinShares. -/
import Derived.Test.YthkbmedfccoliaaRbJoins
import Derived.Test.YthkbmedfccoliaaShareAll
namespace Go.Proofs.Ythkbmedfccoliaa
open Go Go.RowKit

set_option maxHeartbeats 1000000 in
theorem ref17Most_any (w : World) (pl pr : Value) (L R : Tr) (l r : BT) (p q p' q' : Nat) (cl cr : Bool) (fl : l.fits L) (fr : r.fits R) (al : RbH L p cl) (ar : RbH R q cr) (hp : p ≤ 400) (hq : q ≤ 400) (ep : p' = p + if cl then 1 else 0) (eq : q' = q + if cr then 1 else 0)
    (hl : Beads w pl l.enc) (hr : Beads w pr r.enc) (bl : l.enc.length ≤ 400) (br : r.enc.length ≤ 400) :
    Calls Try.prog 21 #[pl, pr] w (Ret (.int .i64 (2 * (max p' q' : Nat) - 2 * (min p' q' : Nat) + 3)) w) := by
  have b1 : p' ≤ 401 := by rw [ep]; split <;> omega
  have b2 : q' ≤ 401 := by rw [eq]; split <;> omega
  have rl := rank_h al (by omega)
  have rr := rank_h ar (by omega)
  rw [← ep] at rl
  rw [← eq] at rr
  have c1 := Lib.hid (fun W (h : Ext w W) => rank16_any W pl l L fl (al.tags (by omega)) (hl.ext h) (by omega))
  have c2 := Lib.hid (fun W (h : Ext w W) => rank16_any W pr r R fr (ar.tags (by omega)) (hr.ext h) (by omega))
  rw [rl] at c1
  rw [rr] at c2
  have hx := Ext.refl w
  obtain ⟨M, hM⟩ : ∃ M : Int, M = (2 * (max p' q' : Nat) - 2 * (min p' q' : Nat) + 3 : Int) := ⟨_, rfl⟩
  rw [← hM]
  have HM := Lib.hid hM
  clear hl hr fl fr al ar bl br rl rr ep eq hp hq hM
  go_enter Try.func21, Try.ntmps21
  go_wp2_with fail
  refine (c1.out _ hx).mono ?_
  rintro e w1 ⟨rfl, hS⟩
  replace hx := hx.trans hS
  clear hS
  go_wp2_with fail
  refine (c2.out _ hx).mono ?_
  rintro e w2 ⟨rfl, hS⟩
  replace hx := hx.trans hS
  clear hS
  rcases Nat.lt_or_ge p' q' with h | h
  all_goals
    go_wp2
    all_goals
      go_ret
      exact ⟨ret_int (by rw [HM.out]; omega), hx⟩
set_option maxRecDepth 100000 in
set_option maxHeartbeats 4000000 in
theorem rbjoinShares_walk (a0 : Option Addr) (len0 cap0 : Nat) (z0 : List BeadL) (a1 : Option Addr) (len1 cap1 : Nat) (z1 : List BeadL) (ky vl : Int) (w : World) (w0 : IsBeads w (.slice a0 len0 cap0) z0) (w1 : IsBeads w (.slice a1 len1 cap1) z1) (_w2 : (Lit.int .i64 ky).wf = true) (_w3 : (Lit.int .i64 vl).wf = true) :
    Calls Try.prog 5 #[.slice a0 len0 cap0, .slice a1 len1 cap1, .int .i64 ky, .int .i64 vl] w (Ret (.bool true) w) := by
  have HB0 := Lib.hid w0.1
  have HB1 := Lib.hid w1.1
  have W0 := Lib.hid w0.2
  have W1 := Lib.hid w1.2
  have HLong := Lib.hid (long17_any w _ _ z0 z1 w0.1 w1.1 w0.2 w1.2)
  clear w0 w1 _w2 _w3
  go_enter Try.func5, Try.ntmps5
  go_wp2_with fail
  refine HLong.out.mono ?_
  rintro e w1 ⟨b, rfl, hS0, hx⟩
  cases b with
  | true =>
    clear hS0
    go_wp2_with fail
    refine (alive17_any _).mono ?_
    rintro e w2 ⟨rfl, hS⟩
    replace hx := hx.trans hS
    clear hS
    go_wp2
    go_ret
    exact Ret.mk hx
  | false =>
    obtain ⟨⟨t0, g0⟩, ⟨t1, g1⟩⟩ := hS0 rfl
    have G0 := Lib.hid g0
    have G1 := Lib.hid g1
    obtain ⟨rfl, l0, -⟩ := g0
    obtain ⟨rfl, l1, -⟩ := g1
    have L0 := Lib.hid l0
    have L1 := Lib.hid l1
    clear hS0 l0 l1
    go_wp2_with fail
    refine (beadsMake_any t0 w1 _ (HB0.out.ext hx) L0.out).mono ?_
    rintro e w2 ⟨A, rfl, hA, fA, hS⟩
    replace hx := hx.trans hS
    clear hS
    go_wp2_with fail
    refine (beadsMake_any t1 w2 _ (HB1.out.ext hx) L1.out).mono ?_
    rintro e w3 ⟨B, rfl, hB, fB, hS⟩
    replace hx := hx.trans hS
    replace hA := hA.ext hS
    clear hS
    obtain ⟨⟨p, cl, ra, hp⟩, ca, ta⟩ := goodP_tree G0.out fA W0.out
    obtain ⟨⟨q, cr, rb, hq⟩, cb, tb⟩ := goodP_tree G1.out fB W1.out
    have FA := Lib.hid (And.intro fA (And.intro ra ca))
    have FB := Lib.hid (And.intro fB (And.intro rb cb))
    clear fA fB ra rb ca cb ta tb
    have h03 := Lib.hid hx
    clear hx
    go_wp2_with fail
    refine (rbJoin_any w3.heap.size w3 A B ky vl p q cl cr (Nat.le_refl _) hA hB FA.out.2.1 FB.out.2.1 (by omega) (by omega) (news_zero (Nat.le_refl _) hA) (news_zero (Nat.le_refl _) hB)).mono ?_
    rintro e w4 ⟨T, rfl, hok, hT, hS⟩
    have HTC := Lib.hid (show (addT (two A B) T).length ≤ 99999 by
      have h0 := rjoin_count hok
      have := FA.out.2.2
      have := FB.out.2.2
      have h1 := addT_most (T := A) (bs := [])
      have h2 := addT_most (T := B) (bs := addT [] A)
      have h3 := addT_most (T := T) (bs := two A B)
      unfold two at *
      simp only [List.length_nil] at h1
      omega)
    have HF := Lib.hid (fresh2_bounds hA hB hok.old hok.top hok.nn)
    obtain ⟨p', ep⟩ : ∃ p', p' = p + if cl then 1 else 0 := ⟨_, rfl⟩
    obtain ⟨q', eq⟩ : ∃ q', q' = q + if cr then 1 else 0 := ⟨_, rfl⟩
    obtain ⟨M, hM⟩ : ∃ M : Int, M = (2 * (max p' q' : Nat) - 2 * (min p' q' : Nat) + 3 : Int) := ⟨_, rfl⟩
    have HM := Lib.hid hM
    have HN := Lib.hid (show 1 ≤ (fresh2 A B T : Int) ∧ (fresh2 A B T : Int) ≤ M by
      obtain ⟨x, -, -, hx⟩ := hok.ex
      rw [← ep, ← eq] at hx
      have := HF.out.1; have := HF.out.2.1
      rw [hM]; omega)
    have EP := Lib.hid ep
    have EQ := Lib.hid eq
    have HPQ := Lib.hid (And.intro hp hq)
    replace hA := hA.ext hS
    replace hB := hB.ext hS
    have h04 := Lib.hid (h03.out.trans hS)
    clear hok hM hS ep eq hp hq
    go_wp2_with fail
    refine (rbMost_any w4 A B p q cl cr hA hB FA.out.2.1 FB.out.2.1 (by have := HPQ.out.1; omega) (by have := HPQ.out.2; omega) p' q' EP.out EQ.out).mono ?_
    rw [← HM.out]
    rintro e w5 ⟨rfl, h5⟩
    have h05 := Lib.hid (h04.out.trans h5)
    go_wp2_with fail
    refine (ref17Most_any w5 _ _ A B t0 t1 p q p' q' cl cr FA.out.1 FB.out.1 FA.out.2.1 FB.out.2.1 HPQ.out.1 HPQ.out.2 EP.out EQ.out (HB0.out.ext h05.out) (HB1.out.ext h05.out) L0.out L1.out).mono ?_
    rw [← HM.out]
    rintro e w6 ⟨rfl, h6⟩
    have h46 := h5.trans h6
    have h56 := Lib.hid h6
    clear h5 h6 h04
    obtain ⟨U, hU⟩ : ∃ U, fresh2 A B T = U := ⟨_, rfl⟩
    rw [hU] at HF HN
    have HU := Lib.hid hU
    clear hU
    have HN1 := Lib.hid HN.out.1
    have HN2 := Lib.hid HN.out.2
    have HA4 := Lib.hid hA
    have HB4 := Lib.hid hB
    clear HN hA hB
    go_wp2_with fail
    refine (shareNew_any T A B _ _ (w6.alloc (.cells #[.pointer A.ptr, .pointer B.ptr] 25)) (alloc_at _ _ _ rfl) ((hT.ext h46).ext ((Ext.refl w6).alloc _)) ((HA4.out.ext h46).ext ((Ext.refl w6).alloc _)) ((HB4.out.ext h46).ext ((Ext.refl w6).alloc _)) HF.out.2.2 HTC.out).mono ?_
    rw [HU.out]
    rintro e w7 ⟨rfl, h7⟩
    have h67 : Ext w6 w7 := ((Ext.refl w6).alloc _).trans h7
    have h47 := h46.trans h67
    clear h7 h46
    have hle := HN2.out
    go_wp2_with fail
    clear hle
    refine (shareNew_any T A B _ _ (w7.alloc (.cells #[.pointer A.ptr, .pointer B.ptr] 25)) (alloc_at _ _ _ rfl) ((hT.ext h47).ext ((Ext.refl w7).alloc _)) ((HA4.out.ext h47).ext ((Ext.refl w7).alloc _)) ((HB4.out.ext h47).ext ((Ext.refl w7).alloc _)) HF.out.2.2 HTC.out).mono ?_
    rw [HU.out]
    rintro e w8 ⟨rfl, h8⟩
    have h78 : Ext w7 w8 := ((Ext.refl w7).alloc _).trans h8
    have h58 := h05.out.trans ((show Ext w5 w6 from h56.out).trans (h67.trans h78))
    clear h8 h67 h78 h47
    have hge := HN1.out
    go_wp2_with fail
    clear hge
    refine (alive17_any _).mono ?_
    rintro e w9 ⟨rfl, h9⟩
    go_wp2
    go_ret
    exact Ret.mk (h58.trans h9)
end Go.Proofs.Ythkbmedfccoliaa
