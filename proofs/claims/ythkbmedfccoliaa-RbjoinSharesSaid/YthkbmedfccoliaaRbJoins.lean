/- rbjoin.Most; joineryref17; joinerylaw17.long, alive; the walk of RbJoins. -/
import Derived.Test.YthkbmedfccoliaaRbJoinTop
namespace Go.Proofs.Ythkbmedfccoliaa
open Go Go.RowKit

theorem RbH.hiB {T : Tr} {b : Nat} {c : Bool} (h : RbH T b c) (hb : b < 1000000) : Proofs.Ythkbmedfccoliaa.hiB T = ((b + if c then 1 else 0 : Nat) : Int) := by
  unfold Proofs.Ythkbmedfccoliaa.hiB
  rw [h.red, h.hi]
  cases c
  · simp
  · simp only [if_true]
    rw [h.tag, u64_mod]; simp; omega
theorem rank_h {T : Tr} {b : Nat} {c : Bool} (h : RbH T b c) (hb : b < 1000000) : wrap64 (2 * Proofs.Ythkbmedfccoliaa.hiB T) = ((2 * (b + if c then 1 else 0) : Nat) : Int) := by
  rw [h.hiB hb]
  cases c <;> simp <;> unfold wrap64 <;> omega
theorem rbRankH_any (w : World) (T : Tr) (b : Nat) (c : Bool) (hT : InH w T) (h : RbH T b c) (hb : b < 1000000) : Calls Try.prog 45 #[.pointer T.ptr] w (Ret (.int .i64 ((2 * (b + if c then 1 else 0) : Nat) : Int)) w) := by
  rw [← rank_h h hb]
  exact rbRank_any w T hT (h.tags hb)
set_option maxHeartbeats 400000 in
theorem rbMost_any (w : World) (l r : Tr) (p q : Nat) (cl cr : Bool) (hl : InH w l) (hr : InH w r) (al : RbH l p cl) (ar : RbH r q cr) (hp : p < 90000) (hq : q < 90000) (p' q' : Nat) (ep : p' = p + if cl then 1 else 0) (eq : q' = q + if cr then 1 else 0) :
    Calls Try.prog 20 #[.pointer l.ptr, .pointer r.ptr] w (Ret (.int .i64 (2 * (max p' q' : Nat) - 2 * (min p' q' : Nat) + 3)) w) := by
  have H1 := Lib.hid (rbRankH_any w l p cl hl al (by omega))
  have H2 := Lib.hid (fun W h => rbRankH_any W r q cr h ar (by omega))
  rw [← ep] at H1
  rw [← eq] at H2
  have b1 : p' < 100000 := by rw [ep]; split <;> omega
  have b2 : q' < 100000 := by rw [eq]; split <;> omega
  have hx := Ext.refl w
  obtain ⟨M, hM⟩ : ∃ M : Int, M = (2 * (max p' q' : Nat) - 2 * (min p' q' : Nat) + 3 : Int) := ⟨_, rfl⟩
  rw [← hM]
  have HM := Lib.hid hM
  clear hM ep eq al ar
  go_enter Try.func20, Try.ntmps20
  go_wp2_with fail
  refine (H1.out).mono ?_
  rintro e w1 ⟨rfl, hS⟩
  replace hx := hx.trans hS
  replace hr := hr.ext hS
  clear hS
  go_wp2_with fail
  refine (H2.out _ hr).mono ?_
  rintro e w2 ⟨rfl, hS⟩
  replace hx := hx.trans hS
  clear hS
  rcases Nat.lt_or_ge p' q' with h | h
  all_goals
    go_wp2
    all_goals
      go_ret
      exact ⟨ret_int (by rw [HM.out]; omega), hx⟩
theorem fits_rbPart : ∀ {t : BT} {A B : Tr}, t.fits A → t.fits B → rbPart A = rbPart B ∧ hi A = hi B ∧ col A = col B
  | .nil, .nil, .nil, _, _ => ⟨rfl, rfl, rfl⟩
  | .nil, .node .., _, h, _ => h.elim
  | .nil, .nil, .node .., _, h => h.elim
  | .node .., .nil, _, h, _ => h.elim
  | .node .., .node .., .nil, _, h => h.elim
  | .node k v s n g l r, .node _ L _ _ _ R, .node _ L' _ _ _ R', h, h' => by
    obtain ⟨l1, l2, l3⟩ := fits_rbPart h.2.2.2.1 h'.2.2.2.1
    obtain ⟨r1, r2, r3⟩ := fits_rbPart h.2.2.2.2 h'.2.2.2.2
    have eh := h.2.2.1.symm.trans h'.2.2.1
    subst eh
    have e1 : rbTag L false = rbTag L' false := by unfold rbTag; rw [l2]
    refine ⟨?_, rfl, rfl⟩
    rw [rbPart_node, rbPart_node, l1, r1]
    simp only [rbOne, rbBadTag, rbBadTree, Tr.tag_node, Tr.left_node, Tr.right_node, l2, l3, r2, r3, e1]
    rfl
/-- a row of beads of a part, and not too long. -/
def GoodP (zs : List BeadL) (t : BT) : Prop := t.enc = zs ∧ zs.length ≤ 400 ∧ rbPart t.tr = true
set_option maxHeartbeats 1000000 in
theorem long17_any (w : World) (p q : Value) (z0 z1 : List BeadL) (h0 : Beads w p z0) (h1 : Beads w q z1) (w0 : ∀ z ∈ z0, z.wf) (w1 : ∀ z ∈ z1, z.wf) :
    Calls Try.prog 6 #[p, q] w (Says ((∃ t, GoodP z0 t) ∧ ∃ t, GoodP z1 t) w) := by
  have L0 := Lib.hid (beadsLong_any w p z0 h0)
  have L1 := Lib.hid (fun W (h : Ext w W) => beadsLong_any W q z1 (h1.ext h))
  have HB0 := Lib.hid h0
  have HB1 := Lib.hid h1
  have W0 := Lib.hid w0
  have W1 := Lib.hid w1
  have hx := Ext.refl w
  obtain ⟨a0, c0, rfl⟩ := beads_slice h0
  obtain ⟨a1, c1, rfl⟩ := beads_slice h1
  clear h0 h1 w0 w1
  obtain ⟨S, hS⟩ : ∃ S, S = ((∃ t, GoodP z0 t) ∧ ∃ t, GoodP z1 t) := ⟨_, rfl⟩
  rw [← hS]
  have HS := Lib.hid hS
  clear hS
  generalize hN0 : z0.length = n0 at *
  generalize hN1 : z1.length = n1 at *
  have N0 := Lib.hid hN0
  have N1 := Lib.hid hN1
  clear hN0 hN1
  go_enter Try.func6, Try.ntmps6
  go_wp2_with fail
  refine L0.out.mono ?_
  cases hl0 : (decide (400 < n0) || !mayB z0) with
  | true =>
    clear hl0
    rintro e w1 ⟨rfl, h1⟩
    go_wp2
    go_ret
    exact ⟨true, rfl, fun h => (by cases h), h1⟩
  | false =>
    rintro e w1 ⟨rfl, hS⟩
    replace hx := hx.trans hS
    have HL0 := Lib.hid hl0
    clear hl0 hS
    go_wp2_with fail
    refine (L1.out w1 hx).mono ?_
    cases hl1 : (decide (400 < n1) || !mayB z1) with
    | true =>
      clear hl1
      rintro e w2 ⟨rfl, h2⟩
      go_wp2
      go_ret
      exact ⟨true, rfl, fun h => (by cases h), hx.trans h2⟩
    | false =>
      rintro e w2 ⟨rfl, hS⟩
      replace hx := hx.trans hS
      have HL1 := Lib.hid hl1
      clear hl1 hS
      obtain ⟨l0, t0, e0⟩ := long_tree (by rw [N0.out]; exact HL0.out)
      obtain ⟨l1, t1, e1⟩ := long_tree (by rw [N1.out]; exact HL1.out)
      subst e0 e1
      have T0 := Lib.hid l0
      have T1 := Lib.hid l1
      clear l0 l1 HL0 HL1
      go_wp2_with fail
      refine (part16_any t0 t0.tr w2 _ t0.tr_fits (fits_tagsOk t0 _ t0.tr_fits W0.out) (HB0.out.ext hx) (Nat.le_trans T0.out (by decide))).mono ?_
      cases hm0 : rbPart t0.tr with
      | false =>
        clear hm0
        rintro e w3 ⟨rfl, h3⟩
        go_wp2
        go_ret
        exact ⟨true, rfl, fun h => (by cases h), hx.trans h3⟩
      | true =>
        have M0 := Lib.hid hm0
        clear hm0
        rintro e w3 ⟨rfl, hS⟩
        replace hx := hx.trans hS
        clear hS
        go_wp2_with fail
        refine (part16_any t1 t1.tr w3 _ t1.tr_fits (fits_tagsOk t1 _ t1.tr_fits W1.out) (HB1.out.ext hx) (Nat.le_trans T1.out (by decide))).mono ?_
        cases hm1 : rbPart t1.tr with
        | false =>
          clear hm1
          rintro e w4 ⟨rfl, h4⟩
          go_wp2
          go_ret
          exact ⟨true, rfl, fun h => (by cases h), hx.trans h4⟩
        | true =>
          have M1 := Lib.hid hm1
          clear hm1
          rintro e w4 ⟨rfl, h4⟩
          go_wp2
          go_ret
          exact ⟨false, rfl, fun _ => by rw [HS.out]; exact ⟨⟨t0, rfl, T0.out, M0.out⟩, ⟨t1, rfl, T1.out, M1.out⟩⟩, hx.trans h4⟩
/-- what is known of a tree that is made of such a row. -/
theorem goodP_tree {zs : List BeadL} {t : BT} {A : Tr} (hg : GoodP zs t) (hf : t.fits A) (hz : ∀ z ∈ zs, z.wf) : (∃ b c, RbH A b c ∧ b ≤ 400) ∧ A.count ≤ 400 ∧ TagsOk A := by
  obtain ⟨rfl, h1, h2⟩ := hg
  have hc : A.count ≤ 400 := by unfold Tr.count; rw [BT.fits_len hf]; exact h1
  have ho := fits_tagsOk t A hf hz
  have hp : rbPart A = true := by rw [(fits_rbPart hf t.tr_fits).1]; exact h2
  obtain ⟨f1, f2, f3, f4⟩ := part_facts A hp ho (by omega)
  have hlt : (hi A).toNat < 2 ^ (hi A).toNat := Nat.lt_two_pow_self
  exact ⟨⟨_, _, RbH.of_part hp ho (by omega), by omega⟩, hc, ho⟩
theorem rjoin_count {n : Nat} {l r T : Tr} {p q : Nat} {k v : Int} (h : RJoinOk n l r p q k v T) : T.count = l.count + 1 + r.count := by
  rw [← Tr.kvs_count, h.kvs, ← Tr.kvs_count, ← Tr.kvs_count]; simp; omega
set_option maxHeartbeats 1000000 in
theorem alive17_any (w : World) : Calls Try.prog 7 #[] w (Ret (.bool true) w) := by
  have hx := Ext.refl w
  go_enter Try.func7, Try.ntmps7
  go_wp2_with fail
  refine (rbJoin_any w.heap.size w .nil .nil 1 10 0 0 false false (Nat.le_refl _) trivial trivial ⟨rfl, rfl⟩ ⟨rfl, rfl⟩ (by omega) (by omega) rfl rfl).mono ?_
  rintro e w1 ⟨A, rfl, oA, hA, hS⟩
  replace hx := hx.trans hS
  obtain ⟨ba, xa, ya, -⟩ := oA.ex
  have hba : ba = 1 := by
    have h1 : ba ≠ 0 := fun h => by
      subst h
      cases A with
      | nil => exact oA.nn rfl
      | node b l k v g r => obtain ⟨d, _, _, h0, _⟩ := xa; omega
    simp at ya; omega
  subst hba
  have XA := Lib.hid xa
  have TA := Lib.hid (show A.tag = 2 from xa.tag)
  have KA := Lib.hid (show A.kvs = [(1, 10)] by rw [oA.kvs]; rfl)
  clear xa ya oA hS
  go_wp2_with fail
  refine (rbJoin_any w1.heap.size w1 A .nil 2 20 1 0 false false (Nat.le_refl _) hA trivial XA.out ⟨rfl, rfl⟩ (by omega) (by omega) (news_zero (Nat.le_refl _) hA) rfl).mono ?_
  rintro e w2 ⟨B, rfl, oB, hB, hS⟩
  replace hx := hx.trans hS
  replace hA := hA.ext hS
  obtain ⟨bb, xb, yb, -⟩ := oB.ex
  have hbb : bb < 10 := by simp at yb; omega
  have KB := Lib.hid (show B.kvs = [(1, 10), (2, 20)] by rw [oB.kvs, KA.out]; rfl)
  have XB := Lib.hid (And.intro (xb.may (by omega)) (xb.tags (by omega)))
  have LB := Lib.hid (show B.pre.length = 2 by have : B.count = 2 := by rw [← Tr.kvs_count, KB.out]; rfl
                                               exact this)
  have SB := Lib.hid (show B.sum = 30 by rw [Tr.sum_kvs, KB.out]; decide +kernel)
  have ZB := Lib.hid (show B.size = 2 by rw [Tr.size_count, show B.count = 2 from LB.out]; decide +kernel)
  clear xb yb oB hS hbb
  go_wp2_with fail
  refine (see09_any w2 B hB (by rw [LB.out]; decide)).mono ?_
  rintro e w3 ⟨v3, rfl, hown, hS⟩
  obtain ⟨a3, c3, hv3⟩ := beads_slice hown.beads
  rw [Tr.beads_len, LB.out] at hv3
  subst hv3
  replace hx := hx.trans hS
  replace hA := hA.ext hS
  replace hB := hB.ext hS
  clear hown hS
  go_wp2_with fail
  refine (tag_any _ A hA).mono ?_
  rw [TA.out]
  rintro e w4 ⟨rfl, hS⟩
  replace hx := hx.trans hS
  replace hA := hA.ext hS
  replace hB := hB.ext hS
  clear hS
  go_wp2_with fail
  refine (rbMay_any _ B hB XB.out.2).mono ?_
  rw [XB.out.1]
  rintro e w5 ⟨rfl, hS⟩
  replace hx := hx.trans hS
  replace hA := hA.ext hS
  replace hB := hB.ext hS
  clear hS
  go_wp2_with fail
  refine (size_any _ B hB).mono ?_
  rw [ZB.out]
  rintro e w6 ⟨rfl, hS⟩
  replace hx := hx.trans hS
  replace hA := hA.ext hS
  replace hB := hB.ext hS
  clear hS
  go_wp2_with fail
  refine (sum_any _ B hB).mono ?_
  rw [SB.out]
  rintro e w7 ⟨rfl, hS⟩
  replace hx := hx.trans hS
  replace hA := hA.ext hS
  clear hS
  go_wp2_with fail
  refine (rbMost_any w7 A .nil 1 0 false false hA trivial XA.out ⟨rfl, rfl⟩ (by omega) (by omega) 1 0 rfl rfl).mono ?_
  rw [show (2 * ((max 1 0 : Nat) : Int) - 2 * ((min 1 0 : Nat) : Int) + 3) = 5 by decide]
  rintro e w8 ⟨rfl, hS⟩
  go_wp2
  go_ret
  exact Ret.mk (hx.trans hS)
set_option maxHeartbeats 2000000 in
/-- **joineryref17.Joined** says yes to the beads of a join. -/
theorem joined17_any (w : World) (pt pl pr : Value) (T L R : Tr) (l r : BT) (n p q p' q' : Nat) (cl cr : Bool) (k v : Int) (hok : RJoinOk n L R p' q' k v T) (fl : l.fits L) (fr : r.fits R) (al : RbH L p cl) (ar : RbH R q cr) (hp : p ≤ 400) (hq : q ≤ 400) (ep : p' = p + if cl then 1 else 0) (eq : q' = q + if cr then 1 else 0)
    (ht : Beads w pt T.beads) (hl : Beads w pl l.enc) (hr : Beads w pr r.enc) (bl : l.enc.length ≤ 400) (br : r.enc.length ≤ 400) :
    Calls Try.prog 12 #[pt, pl, .int .i64 k, .int .i64 v, pr] w (Ret (.bool true) w) := by
  obtain ⟨⟨h, ah, hor, -⟩, hk, -, -, -⟩ := hok
  have b1 : p' ≤ 401 := by rw [ep]; split <;> omega
  have b2 : q' ≤ 401 := by rw [eq]; split <;> omega
  have hkv : T.bt.kvs = l.kvs ++ (k, v) :: r.kvs := by rw [← BT.fits_kvs T.bt_fits, hk, BT.fits_kvs fl, BT.fits_kvs fr]
  have hlen : T.bt.enc.length ≤ 2000 := by
    rw [← BT.kvs_len, hkv]
    have := BT.kvs_len l
    have := BT.kvs_len r
    simp; omega
  have rl := rank_h al (by omega)
  have rr := rank_h ar (by omega)
  have rt := rank_h ah (by omega)
  rw [← ep] at rl
  rw [← eq] at rr
  have c1 := Lib.hid (fun W (h : Ext w W) => rank16_any W pl l L fl (al.tags (by omega)) (hl.ext h) (by omega))
  have c2 := Lib.hid (fun W (h : Ext w W) => rank16_any W pr r R fr (ar.tags (by omega)) (hr.ext h) (by omega))
  have c3 := Lib.hid (fun W (h : Ext w W) => rank16_any W pt T.bt T T.bt_fits (ah.tags (by omega)) ((beads_bt ht).ext h) (by omega))
  have c4 := Lib.hid (fun W (h : Ext w W) => may16_any T.bt T W pt T.bt_fits (ah.tags (by omega)) ((beads_bt ht).ext h) hlen)
  have c5 := Lib.hid (fun W (h : Ext w W) => pairs09_any T.bt W pt ((beads_bt ht).ext h) hlen)
  have c6 := Lib.hid (fun W (h : Ext w W) => refPairs_any W pl pr l r k v (hl.ext h) (hr.ext h) (by omega) (by omega))
  rw [rl] at c1
  rw [rr] at c2
  rw [rt] at c3
  rw [ah.may (by omega)] at c4
  have HKV := Lib.hid hkv
  have HLEN := Lib.hid (show T.bt.kvs.length ≤ 5000 by rw [BT.kvs_len]; omega)
  have hx := Ext.refl w
  clear hl hr ht hkv hlen hk fl fr al ar ah bl br rl rr rt ep eq hp hq
  simp only [Bool.false_eq_true, if_false, Nat.add_zero] at c3
  have hb : h ≤ 402 := by omega
  go_enter Try.func12, Try.ntmps12
  go_wp2_with fail
  refine (c1.out _ hx).mono ?_
  rintro e w1 ⟨rfl, hS⟩
  replace hx := hx.trans hS
  clear hS
  go_wp2_with fail
  refine (c2.out _ hx).mono ?_
  rintro e w2 ⟨rfl, hS⟩
  replace hx := hx.trans hS
  clear hS
  rcases Nat.lt_or_ge p' q' with hpq | hpq
  all_goals
    go_wp2_with fail
    refine (c3.out _ hx).mono ?_
    rintro e w3 ⟨rfl, hS⟩
    replace hx := hx.trans hS
    clear hS
    go_wp2_with fail
    refine (c4.out _ hx).mono ?_
    rintro e w4 ⟨rfl, hS⟩
    replace hx := hx.trans hS
    clear hS
    go_wp2_with fail
    refine (c5.out w4 hx).mono ?_
    rintro e w5 ⟨v5, rfl, hv5, hS⟩
    replace hx := hx.trans hS
    have HV5 := Lib.hid hv5.row
    clear hv5 hS
    go_wp2_with fail
    refine (c6.out w5 hx).mono ?_
    rw [← HKV.out]
    rintro e w6 ⟨v6, rfl, hv6, hS⟩
    replace hx := hx.trans hS
    have HV6 := Lib.hid hv6.row
    have HV5 := Lib.hid (HV5.out.ext hS)
    clear hv6 hS
    go_wp2_with fail
    refine (samePairs_any w6 v5 v6 _ HV5.out HV6.out HLEN.out).mono ?_
    rintro e w7 ⟨rfl, hS⟩
    replace hx := hx.trans hS
    rcases hor with rfl | rfl
    all_goals
      go_wp2
      all_goals
        go_ret
        first
          | exact Ret.mk hx
          | exact ⟨ret_bool (by simp; omega), hx⟩
set_option maxRecDepth 100000 in
set_option maxHeartbeats 4000000 in
theorem rbJoins_walk (a0 : Option Addr) (len0 cap0 : Nat) (z0 : List BeadL) (a1 : Option Addr) (len1 cap1 : Nat) (z1 : List BeadL) (ky vl : Int) (w : World) (w0 : IsBeads w (.slice a0 len0 cap0) z0) (w1 : IsBeads w (.slice a1 len1 cap1) z1) (_w2 : (Lit.int .i64 ky).wf = true) (_w3 : (Lit.int .i64 vl).wf = true) :
    Calls Try.prog 3 #[.slice a0 len0 cap0, .slice a1 len1 cap1, .int .i64 ky, .int .i64 vl] w (Ret (.bool true) w) := by
  have HB0 := Lib.hid w0.1
  have HB1 := Lib.hid w1.1
  have W0 := Lib.hid w0.2
  have W1 := Lib.hid w1.2
  have HLong := Lib.hid (long17_any w _ _ z0 z1 w0.1 w1.1 w0.2 w1.2)
  clear w0 w1 _w2 _w3
  go_enter Try.func3, Try.ntmps3
  go_wp2_with fail
  refine HLong.out.mono ?_
  rintro e w1 ⟨b, rfl, hS0, hx⟩
  cases b with
  | true =>
    clear hS0
    go_wp2_with fail
    refine (alive17_any _).mono ?_
    rintro e w2 ⟨rfl, hS⟩
    replace hx := hx.trans hS
    clear hS
    go_wp2
    go_ret
    exact Ret.mk hx
  | false =>
    obtain ⟨⟨t0, g0⟩, ⟨t1, g1⟩⟩ := hS0 rfl
    have G0 := Lib.hid g0
    have G1 := Lib.hid g1
    obtain ⟨rfl, l0, -⟩ := g0
    obtain ⟨rfl, l1, -⟩ := g1
    have L0 := Lib.hid l0
    have L1 := Lib.hid l1
    clear hS0 l0 l1
    go_wp2_with fail
    refine (beadsMake_any t0 w1 _ (HB0.out.ext hx) L0.out).mono ?_
    rintro e w2 ⟨A, rfl, hA, fA, hS⟩
    replace hx := hx.trans hS
    clear hS
    go_wp2_with fail
    refine (beadsMake_any t1 w2 _ (HB1.out.ext hx) L1.out).mono ?_
    rintro e w3 ⟨B, rfl, hB, fB, hS⟩
    replace hx := hx.trans hS
    replace hA := hA.ext hS
    clear hS
    obtain ⟨⟨p, cl, ra, hp⟩, ca, ta⟩ := goodP_tree G0.out fA W0.out
    obtain ⟨⟨q, cr, rb, hq⟩, cb, tb⟩ := goodP_tree G1.out fB W1.out
    have FA := Lib.hid (And.intro fA (And.intro ra ca))
    have FB := Lib.hid (And.intro fB (And.intro rb cb))
    clear fA fB ra rb ca cb ta tb
    go_wp2_with fail
    refine (of_any t0 w3 _ (HB0.out.ext hx) (Nat.le_trans L0.out (by decide))).mono ?_
    rintro e w4 ⟨v4, rfl, hox, hS⟩
    replace hx := hx.trans hS
    replace hA := hA.ext hS
    replace hB := hB.ext hS
    clear hS
    go_wp2_with fail
    refine (of_any t1 w4 _ (HB1.out.ext hx) (Nat.le_trans L1.out (by decide))).mono ?_
    rintro e w5 ⟨v5, rfl, hoy, hS⟩
    replace hx := hx.trans hS
    replace hA := hA.ext hS
    replace hB := hB.ext hS
    replace hox := hox.ext hS
    clear hS
    have HX := Lib.hid hox.beads
    have HY := Lib.hid hoy.beads
    clear hox hoy
    have h05 := Lib.hid hx
    clear hx
    have hx := Ext.refl w5
    go_wp2_with fail
    refine (rbJoin_any w5.heap.size w5 A B ky vl p q cl cr (Nat.le_refl _) hA hB FA.out.2.1 FB.out.2.1 (by omega) (by omega) (news_zero (Nat.le_refl _) hA) (news_zero (Nat.le_refl _) hB)).mono ?_
    rintro e w6 ⟨T, rfl, hok, hT, hS⟩
    have HOK := Lib.hid hok
    have HTC := Lib.hid (show T.pre.length ≤ 2000 by
      have := rjoin_count hok
      have := FA.out.2.2
      have := FB.out.2.2
      show T.count ≤ 2000
      omega)
    replace hx := hx.trans hS
    replace hA := hA.ext hS
    replace hB := hB.ext hS
    clear hok hS
    go_wp2_with fail
    refine (see09_any w6 T hT HTC.out).mono ?_
    rintro e w7 ⟨v7, rfl, hown, hS⟩
    replace hx := hx.trans hS
    replace hA := hA.ext hS
    replace hB := hB.ext hS
    clear hS
    have HV7 := Lib.hid hown.beads
    clear hown hT
    go_wp2_with fail
    refine (joined17_any w7 v7 v4 v5 T A B t0.of t1.of _ p q _ _ cl cr ky vl HOK.out (BT.of_fits FA.out.1) (BT.of_fits FB.out.1) FA.out.2.1 FB.out.2.1 hp hq rfl rfl HV7.out (HX.out.ext hx) (HY.out.ext hx) (by rw [BT.of_len]; exact L0.out) (by rw [BT.of_len]; exact L1.out)).mono ?_
    rintro e w8 ⟨rfl, hS⟩
    replace hx := hx.trans hS
    replace hA := hA.ext hS
    replace hB := hB.ext hS
    have HV8 := Lib.hid (HV7.out.ext hS)
    clear hS HV7
    go_wp2_with fail
    refine (of_any T.bt w8 v7 (beads_bt HV8.out) (by rw [Tr.bt_enc, Tr.beads_len]; exact HTC.out)).mono ?_
    rintro e w9 ⟨v9, rfl, hown9, hS⟩
    have HV9 := Lib.hid hown9.beads
    replace hx := hx.trans hS
    replace hA := hA.ext hS
    replace hB := hB.ext hS
    have HV7 := Lib.hid (HV8.out.ext hS)
    clear hown9 hS HV8
    go_wp2_with fail
    refine (same_any w9 v7 v9 T.beads HV7.out (by rw [fits_beads T.bt_fits (by rw [Tr.bt_enc, Tr.beads_len]; exact Nat.le_trans HTC.out (by decide))]; exact HV9.out) (by rw [Tr.beads_len]; exact HTC.out)).mono ?_
    rintro e w10 ⟨rfl, hS⟩
    replace hx := hx.trans hS
    replace hA := hA.ext hS
    replace hB := hB.ext hS
    clear hS
    go_wp2_with fail
    refine (is_any w10 A v4 hA (by rw [fits_beads FA.out.1 (Nat.le_trans L0.out (by decide))]; exact HX.out.ext hx) (Nat.le_trans FA.out.2.2 (by decide))).mono ?_
    rintro e w11 ⟨rfl, hS⟩
    replace hx := hx.trans hS
    replace hB := hB.ext hS
    clear hS
    go_wp2_with fail
    refine (is_any w11 B v5 hB (by rw [fits_beads FB.out.1 (Nat.le_trans L1.out (by decide))]; exact HY.out.ext hx) (Nat.le_trans FB.out.2.2 (by decide))).mono ?_
    rintro e w12 ⟨rfl, hS⟩
    replace hx := hx.trans hS
    clear hS
    go_wp2_with fail
    refine (alive17_any _).mono ?_
    rintro e w13 ⟨rfl, hS⟩
    replace hx := hx.trans hS
    clear hS
    go_wp2
    go_ret
    exact Ret.mk (h05.out.trans hx)
end Go.Proofs.Ythkbmedfccoliaa
