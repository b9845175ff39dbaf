/- avljoin.Join, Most; joineryref15; joinerylaw15.long, alive. -/
import Derived.Test.YtmpglinomjmogaaHang
import Derived.Test.YtmpglinomjmogaaPair
import Derived.Test.YtmpglinomjmogaaSee
namespace Go.Proofs.Ytmpglinomjmogaa
open Go Go.RowKit

theorem results_agg3 {fn : Func} {p : Tmp} {ty : TypeId} (h : fn.results = #[.cell p ty]) (tmps : Array Value) (w : World) {x : Value} {a : Addr} (hp : tmps.getD p undef = .pointer (some a))
    (hl : (loadVar ty a).run Try.prog w = .ok x w) : (results fn tmps).run Try.prog w = .ok x w := by
  simp only [Array.getD_eq_getD_getElem?] at hp
  simp [results, h, hp, hl, asAddr]
set_option maxHeartbeats 400000 in
theorem right_any15 (w : World) : Calls Try.prog 30 #[] w (Ret (sideV true) w) := by
  go_enter Try.func30, Try.ntmps30
  go_wp2
  exact bodyPost_ret (v := sideV true) (by simp [results, Try.results30, go_sem]; rfl) rfl (Ret.mk ((Ext.refl w).alloc _))
set_option maxHeartbeats 400000 in
theorem left_any15 (w : World) : Calls Try.prog 32 #[] w (Ret (sideV false) w) := by
  go_enter Try.func32, Try.ntmps32
  go_wp2
  exact bodyPost_ret (v := sideV false) (by simp [results, Try.results32, go_sem]; rfl) rfl (Ret.mk ((Ext.refl w).alloc _))
/-- what a join hands back. -/
def Joins (n : Nat) (l r : Tr) (k v : Int) (w : World) (e : Ending) (w' : World) : Prop :=
  ∃ T : Tr, e = .returned (.pointer T.ptr) ∧ JoinOk n l r k v T ∧ InH w' T ∧ Ext w w'
set_option maxHeartbeats 1000000 in
theorem avlJoin_any (n : Nat) (w : World) (l r : Tr) (k v : Int) (p q : Nat) (hn : n ≤ w.heap.size) (hl : InH w l) (hr : InH w r) (al : AvlH l p) (ar : AvlH r q) (hp : p < 99999) (hq : q < 99999) (nl : l.news n = 0) (nr : r.news n = 0) :
    Calls Try.prog 11 #[.pointer l.ptr, .int .i64 k, .int .i64 v, .pointer r.ptr] w (Joins n l r k v w) := by
  have AL := Lib.hid al
  have AR := Lib.hid ar
  have NL := Lib.hid nl
  have NR := Lib.hid nr
  clear al ar nl nr
  go_enter Try.func11, Try.ntmps11
  go_wp2_with fail
  refine (avlMake_any w .nil .nil k v trivial trivial).mono ?_
  rintro e w1 ⟨b, rfl, hb, hP, h1⟩
  obtain ⟨P, eP⟩ : ∃ P, P = Tr.node b .nil k v (avlTag .nil .nil) .nil := ⟨_, rfl⟩
  rw [← eP] at hP ⊢
  have HPK := Lib.hid (show P.key = k ∧ P.val = v by rw [eP]; exact ⟨rfl, rfl⟩)
  clear eP
  go_wp2_with fail
  refine (rankH_any w1 l p (hl.ext h1) AL.out (by omega)).mono ?_
  rintro e w2 ⟨rfl, h2⟩
  have h02 := h1.trans h2
  go_wp2_with fail
  refine (rankH_any w2 r q (hr.ext h02) AR.out (by omega)).mono ?_
  rintro e w3 ⟨rfl, h3⟩
  have h03 := h02.trans h3
  have hP3 := (hP.ext h2).ext h3
  have hn3 := Nat.le_trans hn h03.size
  clear h1 h2 h02 h3 hP
  by_cases c1 : q + 1 < p
  · have c1' : (q : Int) + 1 < (p : Int) := by omega
    go_wp2_with fail
    refine (right_any15 _).mono ?_
    rintro e w4 ⟨rfl, h4⟩
    have h04 := h03.trans h4
    go_wp2_with fail
    refine (hang_any true n P r q AR.out NR.out l w4 p (Nat.le_trans hn h04.size) (hl.ext h04) (hP3.ext h4) (hr.ext h04) AL.out (by omega) (by omega) NL.out).mono ?_
    rw [HPK.out.1, HPK.out.2]
    rintro e w5 ⟨T, rfl, hok, hT, h5⟩
    have HOK := Lib.hid hok
    clear hok
    go_wp2
    go_ret
    exact ⟨T, rfl, join_right HOK.out (by rw [AL.out.ht, AR.out.ht]; omega), hT, h04.trans h5⟩
  · have c1' : ¬ (q : Int) + 1 < (p : Int) := by omega
    by_cases c2 : p + 1 < q
    · have c2' : (p : Int) + 1 < (q : Int) := by omega
      go_wp2_with fail
      refine (left_any15 _).mono ?_
      rintro e w4 ⟨rfl, h4⟩
      have h04 := h03.trans h4
      go_wp2_with fail
      refine (hang_any false n P l p AL.out NL.out r w4 q (Nat.le_trans hn h04.size) (hr.ext h04) (hP3.ext h4) (hl.ext h04) AR.out (by omega) (by omega) NR.out).mono ?_
      rw [HPK.out.1, HPK.out.2]
      rintro e w5 ⟨T, rfl, hok, hT, h5⟩
      have HOK := Lib.hid hok
      clear hok
      go_wp2
      go_ret
      exact ⟨T, rfl, join_left HOK.out (by rw [AL.out.ht, AR.out.ht]; omega), hT, h04.trans h5⟩
    · have c2' : ¬ (p : Int) + 1 < (q : Int) := by omega
      go_wp2_with fail
      refine (avlMake_any _ l r k v (hl.ext h03) (hr.ext h03)).mono ?_
      rintro e w4 ⟨b4, rfl, hb4, hT, h4⟩
      go_wp2
      go_ret
      exact ⟨_, rfl, join_even b4 AL.out AR.out (by omega) (by omega) (by omega) NL.out NR.out (Nat.le_trans hn3 hb4), hT, h03.trans h4⟩
set_option maxHeartbeats 400000 in
theorem avlMost_any (w : World) (l r : Tr) (p q : Nat) (hl : InH w l) (hr : InH w r) (al : AvlH l p) (ar : AvlH r q) (hp : p < 99999) (hq : q < 99999) :
    Calls Try.prog 15 #[.pointer l.ptr, .pointer r.ptr] w (Ret (.int .i64 ((max p q : Nat) - (min p q : Nat) + 1)) w) := by
  have AL := Lib.hid al
  have AR := Lib.hid ar
  clear al ar
  obtain ⟨M, hM⟩ : ∃ M : Int, M = ((max p q : Nat) - (min p q : Nat) + 1 : Int) := ⟨_, rfl⟩
  rw [← hM]
  have HM := Lib.hid hM
  clear hM
  go_enter Try.func15, Try.ntmps15
  go_wp2_with fail
  refine (rankH_any w l p hl AL.out (by omega)).mono ?_
  rintro e w1 ⟨rfl, h1⟩
  go_wp2_with fail
  refine (rankH_any w1 r q (hr.ext h1) AR.out (by omega)).mono ?_
  rintro e w2 ⟨rfl, h2⟩
  go_wp2
  all_goals
    go_ret
    exact ⟨ret_int (by rw [HM.out]; omega), h1.trans h2⟩
set_option maxHeartbeats 1000000 in
theorem refPairs_any (w : World) (p q : Value) (l r : BT) (k v : Int) (hl : Beads w p l.enc) (hr : Beads w q r.enc) (cl : l.enc.length ≤ 2000) (cr : r.enc.length ≤ 2000) :
    Calls Try.prog 36 #[p, .int .i64 k, .int .i64 v, q] w (GivesP (l.kvs ++ (k, v) :: r.kvs) w) := by
  have H1 := Lib.hid (pairs09_any l w p hl cl)
  have H2 := Lib.hid (fun W (h : Ext w W) => pairs09_any r W q (hr.ext h) cr)
  have C := Lib.hid (show l.kvs.length ≤ 2000 ∧ r.kvs.length ≤ 2000 by rw [BT.kvs_len, BT.kvs_len]; exact ⟨cl, cr⟩)
  obtain ⟨a1, c1, rfl⟩ := beads_slice hl
  obtain ⟨a2, c2, rfl⟩ := beads_slice hr
  clear hl hr cl cr
  generalize l.enc.length = L1 at *
  generalize r.enc.length = L2 at *
  generalize l.kvs = KL at *
  generalize r.kvs = KR at *
  go_enter Try.func36, Try.ntmps36
  go_wp2_with fail
  refine H1.out.mono ?_
  rintro e w1 ⟨v1, rfl, hown, h1⟩
  have hE := (Ext.refl w1).alloc (.cells #[.int .i64 k, .int .i64 v] 40)
  have HZ := Lib.hid (pown_new (B := w.heap.size) (w := w1) (k, v) h1.size).row
  have HO := Lib.hid (hown.ext hE)
  have HE := Lib.hid (h1.trans hE)
  clear hown hE h1
  go_wp2_with (at_builtin; refine wpList_append_pairs (B := w.heap.size) (zs := KL) (ys := [(k, v)]) rfl (.tmp 11) (.tmp 15) rfl rfl rfl HO.out HZ.out ?b1 HE.out.size ?_)
  case b1 => have := C.out.1; simp; omega
  intro v2 w2 hown2 hg2
  have h02 : Ext w w2 := pgrown_ext HE.out HO.out hg2
  have HO2 := Lib.hid hown2
  clear hg2 hown2
  go_wp2_with fail
  refine (H2.out w2 h02).mono ?_
  rintro e w3 ⟨v3, rfl, hown3, h3⟩
  have HO3 := Lib.hid (HO2.out.ext h3)
  have HZ3 := Lib.hid hown3.row
  have h03 := h02.trans h3
  clear hown3 h3
  go_wp2_with (at_builtin; refine wpList_append_pairs (B := w.heap.size) (zs := KL ++ [(k, v)]) (ys := KR) rfl (.tmp 17) (.tmp 19) rfl rfl rfl HO3.out HZ3.out ?d1 h03.size ?_)
  case d1 => have := C.out.1; have := C.out.2; simp; omega
  intro v4 w4 hown4 hg4
  have h04 : Ext w w4 := pgrown_ext h03 HO3.out hg4
  have HO4 := Lib.hid hown4
  clear hg4 hown4
  go_wp2
  go_ret
  exact ⟨_, rfl, by simpa using HO4.out, h04⟩
set_option maxHeartbeats 2000000 in
/-- **joineryref15.Joined** says yes to the beads of a join. -/
theorem joined_any (w : World) (pt pl pr : Value) (T L R : Tr) (l r : BT) (n : Nat) (k v : Int) (hok : JoinOk n L R k v T) (fl : l.fits L) (fr : r.fits R) (al : AvlH L L.ht) (ar : AvlH R R.ht) (h1 : L.ht ≤ 400) (h2 : R.ht ≤ 400)
    (ht : Beads w pt T.beads) (hl : Beads w pl l.enc) (hr : Beads w pr r.enc) (cl : l.enc.length ≤ 400) (cr : r.enc.length ≤ 400) :
    Calls Try.prog 12 #[pt, pl, .int .i64 k, .int .i64 v, pr] w (Ret (.bool true) w) := by
  obtain ⟨⟨h, ah, hor, -⟩, hk, -, -, -⟩ := hok
  have htl : l.tag = L.ht := by rw [BT.fits_tag fl]; exact al.tag
  have htr : r.tag = R.ht := by rw [BT.fits_tag fr]; exact ar.tag
  have htt : T.bt.tag = h := by rw [BT.fits_tag T.bt_fits]; exact ah.tag
  have hmay := (ah.may (by omega)).1
  have hkv : T.bt.kvs = l.kvs ++ (k, v) :: r.kvs := by rw [← BT.fits_kvs T.bt_fits, hk, BT.fits_kvs fl, BT.fits_kvs fr]
  have hlen : T.bt.enc.length ≤ 2000 := by
    rw [← BT.kvs_len, hkv]
    have := BT.kvs_len l
    have := BT.kvs_len r
    simp; omega
  have c1 := Lib.hid (fun W (h : Ext w W) => tag14_any W pl l (hl.ext h))
  have c2 := Lib.hid (fun W (h : Ext w W) => tag14_any W pr r (hr.ext h))
  have c3 := Lib.hid (fun W (h : Ext w W) => tag14_any W pt T.bt ((beads_bt ht).ext h))
  have c4 := Lib.hid (fun W (h : Ext w W) => may14_any T.bt T W pt T.bt_fits ((beads_bt ht).ext h) hlen)
  have c5 := Lib.hid (fun W (h : Ext w W) => pairs09_any T.bt W pt ((beads_bt ht).ext h) hlen)
  have c6 := Lib.hid (fun W (h : Ext w W) => refPairs_any W pl pr l r k v (hl.ext h) (hr.ext h) (by omega) (by omega))
  have HT := Lib.hid (And.intro htl (And.intro htr (And.intro htt (And.intro hmay hkv))))
  have HLEN := Lib.hid (show T.bt.kvs.length ≤ 5000 by rw [BT.kvs_len]; omega)
  clear hl hr ht htl htr htt hmay hkv hlen hk fl fr al ar ah cl cr
  generalize L.ht = P at *
  generalize R.ht = Q at *
  go_enter Try.func12, Try.ntmps12
  go_wp2_with fail
  refine (c1.out w (Ext.refl w)).mono ?_
  rw [HT.out.1]
  rintro e w1 ⟨rfl, h1⟩
  go_wp2_with fail
  refine (c2.out w1 h1).mono ?_
  rw [HT.out.2.1]
  rintro e w2 ⟨rfl, h2⟩
  have h02 := h1.trans h2
  go_wp2_with fail
  refine (c3.out w2 h02).mono ?_
  rw [HT.out.2.2.1]
  rintro e w3 ⟨rfl, h3⟩
  have h03 := h02.trans h3
  go_wp2_with fail
  refine (c4.out w3 h03).mono ?_
  rw [HT.out.2.2.2.1]
  rintro e w4 ⟨rfl, h4⟩
  have h04 := h03.trans h4
  go_wp2_with fail
  refine (c5.out w4 h04).mono ?_
  rintro e w5 ⟨v5, rfl, hv5, h5⟩
  have h05 := h04.trans h5
  have HV5 := Lib.hid hv5.row
  clear hv5 h1 h2 h02 h3 h03 h4 h04
  go_wp2_with fail
  refine (c6.out w5 h05).mono ?_
  rw [← HT.out.2.2.2.2]
  rintro e w6 ⟨v6, rfl, hv6, h6⟩
  have h06 := h05.trans h6
  have HV6 := Lib.hid hv6.row
  clear hv6 h5 h05
  go_wp2_with fail
  refine (samePairs_any w6 v5 v6 _ (HV5.out.ext h6) HV6.out HLEN.out).mono ?_
  rintro e w7 ⟨rfl, h7⟩
  have h07 := h06.trans h7
  clear h6 h06 h7 c1 c2 c3 c4 c5 c6
  rcases Nat.lt_or_ge P Q with hpq | hpq
  all_goals
    have hmax := Lib.hid (show True from trivial)
    rcases hor with rfl | rfl
    all_goals
      go_wp2
      all_goals
        go_ret
        first
          | exact Ret.mk h07
          | exact ⟨ret_bool (by simp; omega), h07⟩
end Go.Proofs.Ytmpglinomjmogaa
