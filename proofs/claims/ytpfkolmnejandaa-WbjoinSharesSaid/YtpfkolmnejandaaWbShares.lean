/- joineryref19.Most, and the walk of WbjoinShares. -/
import Derived.Test.YtpfkolmnejandaaWbJoins
import Derived.Test.YtpfkolmnejandaaShareAll
namespace Go.Proofs.Ytpfkolmnejandaa
open Go Go.RowKit

/-- how many turns there are at most, by the ranks. -/
theorem lev_le {d L W : Nat} (h : Lev d L W) (hL : 0 < L) (hLW : L ≤ W) : d ≤ 3 * (Nat.log2 W - Nat.log2 L) := by
  rcases Nat.lt_or_ge (3 * (Nat.log2 W - Nat.log2 L)) d with hd | hd
  · exfalso
    rcases h with h | h
    · omega
    · have hl := Nat.log2_self_le (n := L) (by omega)
      have hw := Nat.lt_log2_self (n := W)
      have hm : Nat.log2 L ≤ Nat.log2 W := by
        rw [Nat.le_log2 (by omega)]; omega
      generalize Nat.log2 W = p at *
      generalize Nat.log2 L = q at *
      obtain ⟨D, rfl⟩ : ∃ D, p = q + D := ⟨p - q, by omega⟩
      rw [Nat.add_sub_cancel_left] at hd
      obtain ⟨j, hj⟩ : ∃ j, d - 1 = 3 * D + j := ⟨d - 1 - 3 * D, by omega⟩
      rw [hj] at h
      have h1 : (2 * 71 ^ 3) ^ D ≤ (100 ^ 3) ^ D := Nat.pow_le_pow_left (by decide) D
      rw [Nat.mul_pow, ← Nat.pow_mul, ← Nat.pow_mul] at h1
      have h2 : 71 ^ j ≤ 100 ^ j := Nat.pow_le_pow_left (by decide) j
      have h3 := Nat.mul_le_mul h1 h2
      rw [Nat.mul_assoc, ← Nat.pow_add, ← Nat.pow_add] at h3
      have h4 : 71 * (L * (2 ^ D * 71 ^ (3 * D + j))) < 29 * (W * 71 ^ (3 * D + j)) := Nat.lt_of_le_of_lt (Nat.mul_le_mul_left _ (Nat.mul_le_mul_left _ h3)) h
      have h5 : (71 * (L * 2 ^ D)) * 71 ^ (3 * D + j) < (29 * W) * 71 ^ (3 * D + j) := by
        rw [Nat.mul_assoc 29, Nat.mul_assoc 71, Nat.mul_assoc L]; exact h4
      have h6 := Nat.lt_of_mul_lt_mul_right h5
      have h7 : 2 ^ q * 2 ^ D ≤ L * 2 ^ D := Nat.mul_le_mul_right _ hl
      rw [← Nat.pow_add] at h7
      rw [Nat.pow_succ] at hw
      omega
  · exact hd
theorem log2_le {a b : Nat} (h : a ≤ b) : Nat.log2 a ≤ Nat.log2 b := by
  rcases Nat.eq_zero_or_pos a with rfl | ha
  · simp
  · rw [Nat.le_log2 (by omega)]
    exact Nat.le_trans (Nat.log2_self_le (by omega)) h
theorem log2_max (a b : Nat) : Nat.log2 (max a b) = max (Nat.log2 a) (Nat.log2 b) := by
  rcases Nat.le_total a b with h | h
  · rw [Nat.max_eq_right h, Nat.max_eq_right (log2_le h)]
  · rw [Nat.max_eq_left h, Nat.max_eq_left (log2_le h)]
theorem log2_min (a b : Nat) : Nat.log2 (min a b) = min (Nat.log2 a) (Nat.log2 b) := by
  rcases Nat.le_total a b with h | h
  · rw [Nat.min_eq_left h, Nat.min_eq_left (log2_le h)]
  · rw [Nat.min_eq_right h, Nat.min_eq_right (log2_le h)]
set_option maxHeartbeats 1000000 in
theorem ref19Most_any (w : World) (pl pr : Value) (zl zr : List BeadL) (p q : Nat) (hl : Beads w pl zl) (hr : Beads w pr zr) (bl : zl.length ≤ 400) (br : zr.length ≤ 400) (ep : p = Nat.log2 (zl.length + 1)) (eq : q = Nat.log2 (zr.length + 1)) :
    Calls Try.prog 19 #[pl, pr] w (Ret (.int .i64 (6 * ((max p q : Nat) - (min p q : Nat)) + 1)) w) := by
  have b1 : p < 100 := by rw [ep]; exact Nat.lt_of_lt_of_le ((Nat.log2_lt (by omega)).2 (show zl.length + 1 < 2 ^ 20 by omega)) (by omega)
  have b2 : q < 100 := by rw [eq]; exact Nat.lt_of_lt_of_le ((Nat.log2_lt (by omega)).2 (show zr.length + 1 < 2 ^ 20 by omega)) (by omega)
  have c1 := Lib.hid (fun W => rank18_any zl.length W (by omega))
  have c2 := Lib.hid (fun W => rank18_any zr.length W (by omega))
  rw [← ep] at c1
  rw [← eq] at c2
  obtain ⟨a1, k1, rfl⟩ := beads_slice hl
  obtain ⟨a2, k2, rfl⟩ := beads_slice hr
  have hx := Ext.refl w
  obtain ⟨M, hM⟩ : ∃ M : Int, M = (6 * ((max p q : Nat) - (min p q : Nat)) + 1 : Int) := ⟨_, rfl⟩
  rw [← hM]
  have HM := Lib.hid hM
  generalize zl.length = n1 at *
  generalize zr.length = n2 at *
  clear hl hr bl br ep eq hM
  go_enter Try.func19, Try.ntmps19
  go_wp2_with fail
  refine (c1.out _).mono ?_
  rintro e w1 ⟨rfl, hS⟩
  replace hx := hx.trans hS
  clear hS
  go_wp2_with fail
  refine (c2.out _).mono ?_
  rintro e w2 ⟨rfl, hS⟩
  replace hx := hx.trans hS
  clear hS
  rcases Nat.lt_or_ge p q with h | h
  all_goals
    go_wp2
    all_goals
      go_ret
      exact ⟨ret_int (by rw [HM.out]; omega), hx⟩
set_option maxRecDepth 100000 in
set_option maxHeartbeats 4000000 in
theorem wbjoinShares_walk (a0 : Option Addr) (len0 cap0 : Nat) (z0 : List BeadL) (a1 : Option Addr) (len1 cap1 : Nat) (z1 : List BeadL) (ky vl : Int) (w : World) (w0 : IsBeads w (.slice a0 len0 cap0) z0) (w1 : IsBeads w (.slice a1 len1 cap1) z1) (_w2 : (Lit.int .i64 ky).wf = true) (_w3 : (Lit.int .i64 vl).wf = true) :
    Calls Try.prog 5 #[.slice a0 len0 cap0, .slice a1 len1 cap1, .int .i64 ky, .int .i64 vl] w (Ret (.bool true) w) := by
  have HB0 := Lib.hid w0.1
  have HB1 := Lib.hid w1.1
  have W0 := Lib.hid w0.2
  have W1 := Lib.hid w1.2
  have HLong := Lib.hid (long19_any w _ _ z0 z1 w0.1 w1.1)
  clear w0 w1 _w2 _w3
  go_enter Try.func5, Try.ntmps5
  go_wp2_with fail
  refine HLong.out.mono ?_
  rintro e w1 ⟨b, rfl, hS0, hx⟩
  cases b with
  | true =>
    clear hS0
    go_wp2_with fail
    refine (alive19_any _).mono ?_
    rintro e w2 ⟨rfl, hS⟩
    replace hx := hx.trans hS
    clear hS
    go_wp2
    go_ret
    exact Ret.mk hx
  | false =>
    obtain ⟨⟨t0, g0⟩, ⟨t1, g1⟩⟩ := hS0 rfl
    have G0 := Lib.hid g0
    have G1 := Lib.hid g1
    obtain ⟨rfl, l0, -⟩ := g0
    obtain ⟨rfl, l1, -⟩ := g1
    have L0 := Lib.hid l0
    have L1 := Lib.hid l1
    clear hS0 l0 l1
    go_wp2_with fail
    refine (beadsMake_any t0 w1 _ (HB0.out.ext hx) L0.out).mono ?_
    rintro e w2 ⟨A, rfl, hA, fA, hS⟩
    replace hx := hx.trans hS
    clear hS
    go_wp2_with fail
    refine (beadsMake_any t1 w2 _ (HB1.out.ext hx) L1.out).mono ?_
    rintro e w3 ⟨B, rfl, hB, fB, hS⟩
    replace hx := hx.trans hS
    replace hA := hA.ext hS
    clear hS
    obtain ⟨ra, ca⟩ := goodW_tree G0.out fA
    obtain ⟨rb, cb⟩ := goodW_tree G1.out fB
    have FA := Lib.hid (And.intro fA (And.intro ra ca))
    have FB := Lib.hid (And.intro fB (And.intro rb cb))
    clear fA fB ra rb ca cb
    have h03 := Lib.hid hx
    clear hx
    go_wp2_with fail
    refine (wbJoin_any w3.heap.size w3 A B ky vl (Nat.le_refl _) hA hB FA.out.2.1 FB.out.2.1 (by have := FA.out.2.2; have := FB.out.2.2; omega) (news_zero (Nat.le_refl _) hA) (news_zero (Nat.le_refl _) hB)).mono ?_
    rintro e w4 ⟨T, rfl, hok, hT, hS⟩
    have HTC := Lib.hid (show (addT (two A B) T).length ≤ 99999 by
      have h0 := wjoin_count hok
      have := FA.out.2.2
      have := FB.out.2.2
      have h1 := addT_most (T := A) (bs := [])
      have h2 := addT_most (T := B) (bs := addT [] A)
      have h3 := addT_most (T := T) (bs := two A B)
      unfold two at *
      simp only [List.length_nil] at h1
      omega)
    have HF := Lib.hid (fresh2_bounds hA hB hok.old hok.top hok.nn)
    obtain ⟨p, ep⟩ : ∃ p, p = Nat.log2 (A.count + 1) := ⟨_, rfl⟩
    obtain ⟨q, eq⟩ : ∃ q, q = Nat.log2 (B.count + 1) := ⟨_, rfl⟩
    obtain ⟨M, hM⟩ : ∃ M : Int, M = (6 * ((max p q : Nat) - (min p q : Nat)) + 1 : Int) := ⟨_, rfl⟩
    have HM := Lib.hid hM
    have HN := Lib.hid (show 1 ≤ (fresh2 A B T : Int) ∧ (fresh2 A B T : Int) ≤ M by
      obtain ⟨d, hd, hv⟩ := hok.news
      have h1 := lev_le hv (by omega) (by omega)
      have h2 := HF.out.1; have h3 := HF.out.2.1
      have h4 : Nat.log2 (max A.count B.count + 1) = max p q := by rw [ep, eq, ← log2_max, Nat.succ_max_succ]
      have h5 : Nat.log2 (min A.count B.count + 1) = min p q := by rw [ep, eq, ← log2_min, Nat.succ_min_succ]
      rw [h4, h5] at h1
      rw [hM]; omega)
    have EP := Lib.hid ep
    have EQ := Lib.hid eq
    replace hA := hA.ext hS
    replace hB := hB.ext hS
    have h04 := Lib.hid (h03.out.trans hS)
    clear hok hM hS ep eq
    go_wp2_with fail
    refine (wbMost_any w4 A B hA hB (by have := FA.out.2.2; have := FB.out.2.2; omega) p q EP.out EQ.out).mono ?_
    rw [← HM.out]
    rintro e w5 ⟨rfl, h5⟩
    have h05 := Lib.hid (h04.out.trans h5)
    go_wp2_with fail
    refine (ref19Most_any w5 _ _ t0.enc t1.enc p q (HB0.out.ext h05.out) (HB1.out.ext h05.out) L0.out L1.out (by rw [EP.out]; unfold Tr.count; rw [BT.fits_len FA.out.1]) (by rw [EQ.out]; unfold Tr.count; rw [BT.fits_len FB.out.1])).mono ?_
    rw [← HM.out]
    rintro e w6 ⟨rfl, h6⟩
    have h46 := h5.trans h6
    have h56 := Lib.hid h6
    clear h5 h6 h04
    obtain ⟨U, hU⟩ : ∃ U, fresh2 A B T = U := ⟨_, rfl⟩
    rw [hU] at HF HN
    have HU := Lib.hid hU
    clear hU
    have HN1 := Lib.hid HN.out.1
    have HN2 := Lib.hid HN.out.2
    have HA4 := Lib.hid hA
    have HB4 := Lib.hid hB
    clear HN hA hB
    go_wp2_with fail
    refine (shareNew_any T A B _ _ (w6.alloc (.cells #[.pointer A.ptr, .pointer B.ptr] 25)) (alloc_at _ _ _ rfl) ((hT.ext h46).ext ((Ext.refl w6).alloc _)) ((HA4.out.ext h46).ext ((Ext.refl w6).alloc _)) ((HB4.out.ext h46).ext ((Ext.refl w6).alloc _)) HF.out.2.2 HTC.out).mono ?_
    rw [HU.out]
    rintro e w7 ⟨rfl, h7⟩
    have h67 : Ext w6 w7 := ((Ext.refl w6).alloc _).trans h7
    have h47 := h46.trans h67
    clear h7 h46
    have hle := HN2.out
    go_wp2_with fail
    clear hle
    refine (shareNew_any T A B _ _ (w7.alloc (.cells #[.pointer A.ptr, .pointer B.ptr] 25)) (alloc_at _ _ _ rfl) ((hT.ext h47).ext ((Ext.refl w7).alloc _)) ((HA4.out.ext h47).ext ((Ext.refl w7).alloc _)) ((HB4.out.ext h47).ext ((Ext.refl w7).alloc _)) HF.out.2.2 HTC.out).mono ?_
    rw [HU.out]
    rintro e w8 ⟨rfl, h8⟩
    have h78 : Ext w7 w8 := ((Ext.refl w7).alloc _).trans h8
    have h58 := h05.out.trans ((show Ext w5 w6 from h56.out).trans (h67.trans h78))
    clear h8 h67 h78 h47
    have hge := HN1.out
    go_wp2_with fail
    clear hge
    refine (alive19_any _).mono ?_
    rintro e w9 ⟨rfl, h9⟩
    go_wp2
    go_ret
    exact Ret.mk (h58.trans h9)
end Go.Proofs.Ytpfkolmnejandaa
