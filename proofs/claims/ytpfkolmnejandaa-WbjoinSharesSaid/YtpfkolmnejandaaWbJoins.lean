/- joinerylaw19.alive; joineryref19.Joined; the walk of WbJoins. -/
import Derived.Test.YtpfkolmnejandaaWbJoinTop
namespace Go.Proofs.Ytpfkolmnejandaa
open Go Go.RowKit

set_option maxHeartbeats 1000000 in
theorem alive19_any (w : World) : Calls Try.prog 7 #[] w (Ret (.bool true) w) := by
  have hx := Ext.refl w
  go_enter Try.func7, Try.ntmps7
  go_wp2_with fail
  refine (wbJoin_any w.heap.size w .nil .nil 1 10 (Nat.le_refl _) trivial trivial trivial trivial (by decide) rfl rfl).mono ?_
  rintro e w1 ⟨A, rfl, oA, hA, hS⟩
  replace hx := hx.trans hS
  have KA := Lib.hid (show A.kvs = [(1, 10)] by rw [oA.kvs]; rfl)
  have XA := Lib.hid oA.wb
  have CA := Lib.hid (show A.count = 1 by rw [← Tr.kvs_count, KA.out]; rfl)
  have ZA := Lib.hid (show A.size = 1 by rw [Tr.size_count, CA.out]; decide +kernel)
  clear oA hS
  go_wp2_with fail
  refine (wbJoin_any w1.heap.size w1 A .nil 2 20 (Nat.le_refl _) hA trivial XA.out trivial (by rw [CA.out]; decide) (news_zero (Nat.le_refl _) hA) rfl).mono ?_
  rintro e w2 ⟨B, rfl, oB, hB, hS⟩
  replace hx := hx.trans hS
  replace hA := hA.ext hS
  have KB := Lib.hid (show B.kvs = [(1, 10), (2, 20)] by rw [oB.kvs, KA.out]; rfl)
  have XB := Lib.hid oB.wb
  have CB := Lib.hid (show B.count = 2 by rw [← Tr.kvs_count, KB.out]; rfl)
  have ZB := Lib.hid (show B.size = 2 by rw [Tr.size_count, CB.out]; decide +kernel)
  clear oB hS
  go_wp2_with fail
  refine (wbJoin_any w2.heap.size w2 B .nil 3 30 (Nat.le_refl _) hB trivial XB.out trivial (by rw [CB.out]; decide) (news_zero (Nat.le_refl _) hB) rfl).mono ?_
  rintro e w3 ⟨C, rfl, oC, hC, hS⟩
  replace hx := hx.trans hS
  replace hA := hA.ext hS
  replace hB := hB.ext hS
  have KC := Lib.hid (show C.kvs = [(1, 10), (2, 20), (3, 30)] by rw [oC.kvs, KB.out]; rfl)
  have CC := Lib.hid (show C.count = 3 by rw [← Tr.kvs_count, KC.out]; rfl)
  have LC := Lib.hid (show C.pre.length = 3 from CC.out)
  have EC := Lib.hid (three_key oC.wb KC.out)
  have SC := Lib.hid (show C.sum = 60 by rw [Tr.sum_kvs, KC.out]; decide +kernel)
  have MC := Lib.hid (oC.wb.may (by rw [CC.out]; decide))
  clear oC hS
  go_wp2_with fail
  refine (see09_any w3 C hC (by rw [LC.out]; decide)).mono ?_
  rintro e w4 ⟨v4, rfl, hown, hS⟩
  obtain ⟨a4, c4, hv4⟩ := beads_slice hown.beads
  rw [Tr.beads_len, LC.out] at hv4
  subst hv4
  replace hx := hx.trans hS
  replace hA := hA.ext hS
  replace hB := hB.ext hS
  replace hC := hC.ext hS
  clear hown hS
  go_wp2_with fail
  refine (size_any _ A hA).mono ?_
  rw [ZA.out]
  rintro e w5 ⟨rfl, hS⟩
  replace hx := hx.trans hS
  replace hB := hB.ext hS
  replace hC := hC.ext hS
  clear hS
  go_wp2_with fail
  refine (size_any _ B hB).mono ?_
  rw [ZB.out]
  rintro e w6 ⟨rfl, hS⟩
  replace hx := hx.trans hS
  replace hC := hC.ext hS
  clear hS
  go_wp2_with fail
  refine (key_any _ C hC).mono ?_
  rw [EC.out]
  rintro e w7 ⟨rfl, hS⟩
  replace hx := hx.trans hS
  replace hC := hC.ext hS
  clear hS
  go_wp2_with fail
  refine (sum_any _ C hC).mono ?_
  rw [SC.out]
  rintro e w8 ⟨rfl, hS⟩
  replace hx := hx.trans hS
  replace hC := hC.ext hS
  clear hS
  go_wp2_with fail
  refine (wbMay_any _ C hC (by rw [LC.out]; decide)).mono ?_
  rw [MC.out]
  rintro e w9 ⟨rfl, hS⟩
  replace hx := hx.trans hS
  replace hC := hC.ext hS
  clear hS
  go_wp2_with fail
  refine (wbMost_any w9 C .nil hC trivial (by rw [CC.out]; decide) 2 0 (by rw [CC.out]; decide +kernel) (by decide +kernel)).mono ?_
  rw [show (6 * (((max 2 0 : Nat) : Int) - ((min 2 0 : Nat) : Int)) + 1) = 13 by decide]
  rintro e w10 ⟨rfl, hS⟩
  go_wp2
  go_ret
  exact Ret.mk (hx.trans hS)
set_option maxHeartbeats 2000000 in
/-- **joineryref19.Joined** says yes to the beads of a join. -/
theorem joined19_any (w : World) (pt pl pr : Value) (T L R : Tr) (l r : BT) (n : Nat) (k v : Int) (hok : WJoinOk n L R k v T) (fl : l.fits L) (fr : r.fits R)
    (ht : Beads w pt T.beads) (hl : Beads w pl l.enc) (hr : Beads w pr r.enc) (bl : l.enc.length ≤ 400) (br : r.enc.length ≤ 400) :
    Calls Try.prog 12 #[pt, pl, .int .i64 k, .int .i64 v, pr] w (Ret (.bool true) w) := by
  have hk := hok.kvs
  have hkv : T.bt.kvs = l.kvs ++ (k, v) :: r.kvs := by rw [← BT.fits_kvs T.bt_fits, hk, BT.fits_kvs fl, BT.fits_kvs fr]
  have hlen : T.bt.enc.length ≤ 2000 := by
    rw [← BT.kvs_len, hkv]
    have := BT.kvs_len l
    have := BT.kvs_len r
    simp; omega
  have hmay : wbMay T = true := hok.wb.may (by have := BT.fits_len T.bt_fits; unfold Tr.count; omega)
  have c4 := Lib.hid (fun W (h : Ext w W) => may18_any T.bt T W pt T.bt_fits ((beads_bt ht).ext h) hlen)
  have c5 := Lib.hid (fun W (h : Ext w W) => pairs09_any T.bt W pt ((beads_bt ht).ext h) hlen)
  have c6 := Lib.hid (fun W (h : Ext w W) => refPairs_any W pl pr l r k v (hl.ext h) (hr.ext h) (by omega) (by omega))
  rw [hmay] at c4
  have HKV := Lib.hid hkv
  have HLEN := Lib.hid (show T.bt.kvs.length ≤ 5000 by rw [BT.kvs_len]; omega)
  have hx := Ext.refl w
  clear hl hr ht hkv hlen hk fl fr bl br hmay hok
  go_enter Try.func12, Try.ntmps12
  go_wp2_with fail
  refine (c4.out _ hx).mono ?_
  rintro e w4 ⟨rfl, hS⟩
  replace hx := hx.trans hS
  clear hS
  go_wp2_with fail
  refine (c5.out w4 hx).mono ?_
  rintro e w5 ⟨v5, rfl, hv5, hS⟩
  replace hx := hx.trans hS
  have HV5 := Lib.hid hv5.row
  clear hv5 hS
  go_wp2_with fail
  refine (c6.out w5 hx).mono ?_
  rw [← HKV.out]
  rintro e w6 ⟨v6, rfl, hv6, hS⟩
  replace hx := hx.trans hS
  have HV6 := Lib.hid hv6.row
  have HV5 := Lib.hid (HV5.out.ext hS)
  clear hv6 hS
  go_wp2_with fail
  refine (samePairs_any w6 v5 v6 _ HV5.out HV6.out HLEN.out).mono ?_
  rintro e w7 ⟨rfl, hS⟩
  replace hx := hx.trans hS
  go_wp2
  go_ret
  exact Ret.mk hx
set_option maxRecDepth 100000 in
set_option maxHeartbeats 4000000 in
theorem wbJoins_walk (a0 : Option Addr) (len0 cap0 : Nat) (z0 : List BeadL) (a1 : Option Addr) (len1 cap1 : Nat) (z1 : List BeadL) (ky vl : Int) (w : World) (w0 : IsBeads w (.slice a0 len0 cap0) z0) (w1 : IsBeads w (.slice a1 len1 cap1) z1) (_w2 : (Lit.int .i64 ky).wf = true) (_w3 : (Lit.int .i64 vl).wf = true) :
    Calls Try.prog 3 #[.slice a0 len0 cap0, .slice a1 len1 cap1, .int .i64 ky, .int .i64 vl] w (Ret (.bool true) w) := by
  have HB0 := Lib.hid w0.1
  have HB1 := Lib.hid w1.1
  have W0 := Lib.hid w0.2
  have W1 := Lib.hid w1.2
  have HLong := Lib.hid (long19_any w _ _ z0 z1 w0.1 w1.1)
  clear w0 w1 _w2 _w3
  go_enter Try.func3, Try.ntmps3
  go_wp2_with fail
  refine HLong.out.mono ?_
  rintro e w1 ⟨b, rfl, hS0, hx⟩
  cases b with
  | true =>
    clear hS0
    go_wp2_with fail
    refine (alive19_any _).mono ?_
    rintro e w2 ⟨rfl, hS⟩
    replace hx := hx.trans hS
    clear hS
    go_wp2
    go_ret
    exact Ret.mk hx
  | false =>
    obtain ⟨⟨t0, g0⟩, ⟨t1, g1⟩⟩ := hS0 rfl
    have G0 := Lib.hid g0
    have G1 := Lib.hid g1
    obtain ⟨rfl, l0, -⟩ := g0
    obtain ⟨rfl, l1, -⟩ := g1
    have L0 := Lib.hid l0
    have L1 := Lib.hid l1
    clear hS0 l0 l1
    go_wp2_with fail
    refine (beadsMake_any t0 w1 _ (HB0.out.ext hx) L0.out).mono ?_
    rintro e w2 ⟨A, rfl, hA, fA, hS⟩
    replace hx := hx.trans hS
    clear hS
    go_wp2_with fail
    refine (beadsMake_any t1 w2 _ (HB1.out.ext hx) L1.out).mono ?_
    rintro e w3 ⟨B, rfl, hB, fB, hS⟩
    replace hx := hx.trans hS
    replace hA := hA.ext hS
    clear hS
    obtain ⟨ra, ca⟩ := goodW_tree G0.out fA
    obtain ⟨rb, cb⟩ := goodW_tree G1.out fB
    have FA := Lib.hid (And.intro fA (And.intro ra ca))
    have FB := Lib.hid (And.intro fB (And.intro rb cb))
    clear fA fB ra rb ca cb
    go_wp2_with fail
    refine (of_any t0 w3 _ (HB0.out.ext hx) (Nat.le_trans L0.out (by decide))).mono ?_
    rintro e w4 ⟨v4, rfl, hox, hS⟩
    replace hx := hx.trans hS
    replace hA := hA.ext hS
    replace hB := hB.ext hS
    clear hS
    go_wp2_with fail
    refine (of_any t1 w4 _ (HB1.out.ext hx) (Nat.le_trans L1.out (by decide))).mono ?_
    rintro e w5 ⟨v5, rfl, hoy, hS⟩
    replace hx := hx.trans hS
    replace hA := hA.ext hS
    replace hB := hB.ext hS
    replace hox := hox.ext hS
    clear hS
    have HX := Lib.hid hox.beads
    have HY := Lib.hid hoy.beads
    clear hox hoy
    have h05 := Lib.hid hx
    clear hx
    have hx := Ext.refl w5
    go_wp2_with fail
    refine (wbJoin_any w5.heap.size w5 A B ky vl (Nat.le_refl _) hA hB FA.out.2.1 FB.out.2.1 (by have := FA.out.2.2; have := FB.out.2.2; omega) (news_zero (Nat.le_refl _) hA) (news_zero (Nat.le_refl _) hB)).mono ?_
    rintro e w6 ⟨T, rfl, hok, hT, hS⟩
    have HOK := Lib.hid hok
    have HTC := Lib.hid (show T.pre.length ≤ 2000 by
      have := wjoin_count hok
      have := FA.out.2.2
      have := FB.out.2.2
      show T.count ≤ 2000
      omega)
    replace hx := hx.trans hS
    replace hA := hA.ext hS
    replace hB := hB.ext hS
    clear hok hS
    go_wp2_with fail
    refine (see09_any w6 T hT HTC.out).mono ?_
    rintro e w7 ⟨v7, rfl, hown, hS⟩
    replace hx := hx.trans hS
    replace hA := hA.ext hS
    replace hB := hB.ext hS
    clear hS
    have HV7 := Lib.hid hown.beads
    clear hown hT
    go_wp2_with fail
    refine (joined19_any w7 v7 v4 v5 T A B t0.of t1.of _ ky vl HOK.out (BT.of_fits FA.out.1) (BT.of_fits FB.out.1) HV7.out (HX.out.ext hx) (HY.out.ext hx) (by rw [BT.of_len]; exact L0.out) (by rw [BT.of_len]; exact L1.out)).mono ?_
    rintro e w8 ⟨rfl, hS⟩
    replace hx := hx.trans hS
    replace hA := hA.ext hS
    replace hB := hB.ext hS
    have HV8 := Lib.hid (HV7.out.ext hS)
    clear hS HV7
    go_wp2_with fail
    refine (of_any T.bt w8 v7 (beads_bt HV8.out) (by rw [Tr.bt_enc, Tr.beads_len]; exact HTC.out)).mono ?_
    rintro e w9 ⟨v9, rfl, hown9, hS⟩
    have HV9 := Lib.hid hown9.beads
    replace hx := hx.trans hS
    replace hA := hA.ext hS
    replace hB := hB.ext hS
    have HV7 := Lib.hid (HV8.out.ext hS)
    clear hown9 hS HV8
    go_wp2_with fail
    refine (same_any w9 v7 v9 T.beads HV7.out (by rw [fits_beads T.bt_fits (by rw [Tr.bt_enc, Tr.beads_len]; exact Nat.le_trans HTC.out (by decide))]; exact HV9.out) (by rw [Tr.beads_len]; exact HTC.out)).mono ?_
    rintro e w10 ⟨rfl, hS⟩
    replace hx := hx.trans hS
    replace hA := hA.ext hS
    replace hB := hB.ext hS
    clear hS
    go_wp2_with fail
    refine (is_any w10 A v4 hA (by rw [fits_beads FA.out.1 (Nat.le_trans L0.out (by decide))]; exact HX.out.ext hx) (Nat.le_trans FA.out.2.2 (by decide))).mono ?_
    rintro e w11 ⟨rfl, hS⟩
    replace hx := hx.trans hS
    replace hB := hB.ext hS
    clear hS
    go_wp2_with fail
    refine (is_any w11 B v5 hB (by rw [fits_beads FB.out.1 (Nat.le_trans L1.out (by decide))]; exact HY.out.ext hx) (Nat.le_trans FB.out.2.2 (by decide))).mono ?_
    rintro e w12 ⟨rfl, hS⟩
    replace hx := hx.trans hS
    clear hS
    go_wp2_with fail
    refine (alive19_any _).mono ?_
    rintro e w13 ⟨rfl, hS⟩
    replace hx := hx.trans hS
    clear hS
    go_wp2
    go_ret
    exact Ret.mk (h05.out.trans hx)
end Go.Proofs.Ytpfkolmnejandaa
