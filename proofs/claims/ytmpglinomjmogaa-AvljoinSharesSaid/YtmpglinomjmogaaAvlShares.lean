/- joineryref15.Most, and the walk of AvljoinShares. -/
import Derived.Test.YtmpglinomjmogaaAvlJoins
import Derived.Test.YtmpglinomjmogaaShareAll
namespace Go.Proofs.Ytmpglinomjmogaa
open Go Go.RowKit

set_option maxHeartbeats 400000 in
theorem ref15Most_any (w : World) (x y : Value) (l r : BT) (p q : Nat) (hl : Beads w x l.enc) (hr : Beads w y r.enc) (tl : l.tag = p) (tr : r.tag = q) (hp : p < 99999) (hq : q < 99999) :
    Calls Try.prog 16 #[x, y] w (Ret (.int .i64 ((max p q : Nat) - (min p q : Nat) + 1)) w) := by
  obtain ⟨M, hM⟩ : ∃ M : Int, M = ((max p q : Nat) - (min p q : Nat) + 1 : Int) := ⟨_, rfl⟩
  rw [← hM]
  have HM := Lib.hid hM
  have c1 := tag14_any w x l hl
  have c2 := Lib.hid (fun W (h : Ext w W) => tag14_any W y r (hr.ext h))
  rw [tl] at c1
  have T2 := Lib.hid tr
  clear hM hl hr tl tr
  go_enter Try.func16, Try.ntmps16
  go_wp2_with fail
  refine c1.mono ?_
  rintro e w1 ⟨rfl, h1⟩
  clear c1
  go_wp2_with fail
  refine (c2.out w1 h1).mono ?_
  rw [T2.out]
  rintro e w2 ⟨rfl, h2⟩
  have h02 := h1.trans h2
  clear h1 h2 c2
  go_wp2
  all_goals
    go_ret
    exact ⟨ret_int (by rw [HM.out]; omega), h02⟩
set_option maxHeartbeats 4000000 in
theorem avljoinShares_walk (a0 : Option Addr) (len0 cap0 : Nat) (z0 : List BeadL) (a1 : Option Addr) (len1 cap1 : Nat) (z1 : List BeadL) (ky vl : Int) (w : World) (w0 : IsBeads w (.slice a0 len0 cap0) z0) (w1 : IsBeads w (.slice a1 len1 cap1) z1) (_w2 : (Lit.int .i64 ky).wf = true) (_w3 : (Lit.int .i64 vl).wf = true) :
    Calls Try.prog 4 #[.slice a0 len0 cap0, .slice a1 len1 cap1, .int .i64 ky, .int .i64 vl] w (Ret (.bool true) w) := by
  have HB0 := Lib.hid w0.1
  have HB1 := Lib.hid w1.1
  have W0 := Lib.hid w0.2
  have W1 := Lib.hid w1.2
  have HLong := Lib.hid (long15_any w _ _ z0 z1 w0.1 w1.1)
  clear w0 w1 _w2 _w3
  go_enter Try.func4, Try.ntmps4
  go_wp2_with fail
  refine HLong.out.mono ?_
  rintro e w1 ⟨b, rfl, hS, h01⟩
  cases b with
  | true =>
    clear hS
    go_wp2_with fail
    refine (alive15_any _).mono ?_
    rintro e w2 ⟨rfl, h2⟩
    go_wp2
    go_ret
    exact Ret.mk (h01.trans h2)
  | false =>
    obtain ⟨⟨t0, g0⟩, ⟨t1, g1⟩⟩ := hS rfl
    have G0 := Lib.hid g0
    have G1 := Lib.hid g1
    obtain ⟨rfl, l0, -⟩ := g0
    obtain ⟨rfl, l1, -⟩ := g1
    have L0 := Lib.hid l0
    have L1 := Lib.hid l1
    clear hS l0 l1
    go_wp2_with fail
    refine (beadsMake_any t0 w1 _ (HB0.out.ext h01) L0.out).mono ?_
    rintro e w2 ⟨A, rfl, hA, fA, h2⟩
    have h02 := h01.trans h2
    go_wp2_with fail
    refine (beadsMake_any t1 w2 _ (HB1.out.ext h02) L1.out).mono ?_
    rintro e w3 ⟨B, rfl, hB, fB, h3⟩
    have h03 := Lib.hid (h02.trans h3)
    have FA := Lib.hid (And.intro fA (good_tree G0.out fA W0.out))
    have FB := Lib.hid (And.intro fB (good_tree G1.out fB W1.out))
    have HA := Lib.hid (hA.ext h3)
    have HB := Lib.hid hB
    clear fA fB h01 h2 h02 h3 hA hB
    go_wp2_with fail
    refine (avlJoin_any w3.heap.size w3 A B ky vl A.ht B.ht (Nat.le_refl _) HA.out HB.out FA.out.2.1 FB.out.2.1 (by have := FA.out.2.2.1; omega) (by have := FB.out.2.2.1; omega) (news_zero (Nat.le_refl _) HA.out) (news_zero (Nat.le_refl _) HB.out)).mono ?_
    rintro e w4 ⟨T, rfl, hok, hT, h4⟩
    have HTC := Lib.hid (show (addT (two A B) T).length ≤ 99999 by
      have := (join_facts hok).1
      have := FA.out.2.2.2
      have := FB.out.2.2.2
      have h1 := addT_most (T := A) (bs := [])
      have h2 := addT_most (T := B) (bs := addT [] A)
      have h3 := addT_most (T := T) (bs := two A B)
      unfold two at *
      simp only [List.length_nil] at h1
      omega)
    have HF := Lib.hid (fresh2_bounds HA.out HB.out hok.old hok.top hok.nn)
    obtain ⟨M, hM⟩ : ∃ M : Int, M = ((max A.ht B.ht : Nat) - (min A.ht B.ht : Nat) + 1 : Int) := ⟨_, rfl⟩
    have HM := Lib.hid hM
    have HN := Lib.hid (show 1 ≤ (fresh2 A B T : Int) ∧ (fresh2 A B T : Int) ≤ M by
      obtain ⟨x, -, -, hx⟩ := hok.ex
      have := HF.out.1; have := HF.out.2.1
      rw [hM]; omega)
    have HA4 := Lib.hid (HA.out.ext h4)
    have HB4 := Lib.hid (HB.out.ext h4)
    have h04 := Lib.hid (h03.out.trans h4)
    clear hok hM h4 HA HB
    go_wp2_with fail
    refine (avlMost_any w4 A B A.ht B.ht HA4.out HB4.out FA.out.2.1 FB.out.2.1 (by have := FA.out.2.2.1; omega) (by have := FB.out.2.2.1; omega)).mono ?_
    rw [← HM.out]
    rintro e w5 ⟨rfl, h5⟩
    have h05 := Lib.hid (h04.out.trans h5)
    go_wp2_with fail
    refine (ref15Most_any w5 _ _ t0 t1 A.ht B.ht (HB0.out.ext h05.out) (HB1.out.ext h05.out) (by rw [BT.fits_tag FA.out.1]; exact FA.out.2.1.tag) (by rw [BT.fits_tag FB.out.1]; exact FB.out.2.1.tag) (by have := FA.out.2.2.1; omega) (by have := FB.out.2.2.1; omega)).mono ?_
    rw [← HM.out]
    rintro e w6 ⟨rfl, h6⟩
    have h46 := h5.trans h6
    have h56 := Lib.hid h6
    clear h5 h6 h04
    obtain ⟨U, hU⟩ : ∃ U, fresh2 A B T = U := ⟨_, rfl⟩
    rw [hU] at HF HN
    have HU := Lib.hid hU
    clear hU
    have HN1 := Lib.hid HN.out.1
    have HN2 := Lib.hid HN.out.2
    clear HN
    go_wp2_with fail
    refine (shareNew_any T A B _ _ (w6.alloc (.cells #[.pointer A.ptr, .pointer B.ptr] 25)) (alloc_at _ _ _ rfl) ((hT.ext h46).ext ((Ext.refl w6).alloc _)) ((HA4.out.ext h46).ext ((Ext.refl w6).alloc _)) ((HB4.out.ext h46).ext ((Ext.refl w6).alloc _)) HF.out.2.2 HTC.out).mono ?_
    rw [HU.out]
    rintro e w7 ⟨rfl, h7⟩
    have h67 : Ext w6 w7 := ((Ext.refl w6).alloc _).trans h7
    have h47 := h46.trans h67
    clear h7 h46
    have hle := HN2.out
    go_wp2_with fail
    clear hle
    refine (shareNew_any T A B _ _ (w7.alloc (.cells #[.pointer A.ptr, .pointer B.ptr] 25)) (alloc_at _ _ _ rfl) ((hT.ext h47).ext ((Ext.refl w7).alloc _)) ((HA4.out.ext h47).ext ((Ext.refl w7).alloc _)) ((HB4.out.ext h47).ext ((Ext.refl w7).alloc _)) HF.out.2.2 HTC.out).mono ?_
    rw [HU.out]
    rintro e w8 ⟨rfl, h8⟩
    have h78 : Ext w7 w8 := ((Ext.refl w7).alloc _).trans h8
    have h58 := h05.out.trans ((show Ext w5 w6 from h56.out).trans (h67.trans h78))
    clear h8 h67 h78 h47
    have hge := HN1.out
    go_wp2_with fail
    clear hge
    refine (alive15_any _).mono ?_
    rintro e w9 ⟨rfl, h9⟩
    go_wp2
    go_ret
    exact Ret.mk (h58.trans h9)
end Go.Proofs.Ytmpglinomjmogaa
