/- joinerylaw15.long, alive, and the walk of AvlJoins. -/
import Derived.Test.YtmpglinomjmogaaJoinTop
namespace Go.Proofs.Ytmpglinomjmogaa
open Go Go.RowKit

theorem AvlH.least : ∀ {T : Tr} {h : Nat}, AvlH T h → leastN h ≤ T.count
  | .nil, _, e => by rw [show _ = 0 from e]; exact Nat.le_refl _
  | .node b l k v g r, h, ⟨p, q, hp, hq, e, eg, h1, h2⟩ => by
    have l1 := AvlH.least hp
    have r1 := AvlH.least hq
    rw [Tr.count_node, e]
    rcases Nat.le_total p q with hh | hh
    · rw [Nat.max_eq_right hh]
      rcases Nat.eq_zero_or_pos q with h0 | h0
      · rw [h0]; show 1 ≤ _; omega
      · obtain ⟨z, rfl⟩ : ∃ z, q = z + 1 := ⟨q - 1, by omega⟩
        have := leastN_mono (a := z) (b := p) (by omega)
        rw [show 1 + (z + 1) = z + 2 by omega, leastN]
        omega
    · rw [Nat.max_eq_left hh]
      rcases Nat.eq_zero_or_pos p with h0 | h0
      · rw [h0]; show 1 ≤ _; omega
      · obtain ⟨z, rfl⟩ : ∃ z, p = z + 1 := ⟨p - 1, by omega⟩
        have := leastN_mono (a := z) (b := q) (by omega)
        rw [show 1 + (z + 1) = z + 2 by omega, leastN]
        omega
theorem AvlH.most : ∀ {T : Tr} {h : Nat}, AvlH T h → T.count + 1 ≤ 2 ^ h
  | .nil, _, e => by rw [show _ = 0 from e]; decide
  | .node b l k v g r, h, ⟨p, q, hp, hq, e, eg, h1, h2⟩ => by
    have l1 := AvlH.most hp
    have r1 := AvlH.most hq
    have l2 : 2 ^ p ≤ 2 ^ max p q := Nat.pow_le_pow_right (by decide) (by omega)
    have r2 : 2 ^ q ≤ 2 ^ max p q := Nat.pow_le_pow_right (by decide) (by omega)
    rw [Tr.count_node, e, Nat.add_comm 1, Nat.pow_succ]
    omega
/-- some tree that has been joined. -/
theorem join_facts {n : Nat} {l r T : Tr} {k v : Int} (h : JoinOk n l r k v T) : T.count = l.count + 1 + r.count ∧ T.size = wrap64 (T.count : Int) ∧ AvlH T T.ht := by
  obtain ⟨⟨x, h1, h2, h3⟩, h4, h5, h6, h7⟩ := h
  refine ⟨?_, T.size_count, by rw [h1.ht]; exact h1⟩
  rw [← Tr.kvs_count, h4, ← Tr.kvs_count, ← Tr.kvs_count]; simp; omega
set_option maxHeartbeats 1000000 in
theorem alive15_any (w : World) : Calls Try.prog 7 #[] w (Ret (.bool true) w) := by
  go_enter Try.func7, Try.ntmps7
  go_wp2_with fail
  refine (avlJoin_any w.heap.size w .nil .nil 1 10 0 0 (Nat.le_refl _) trivial trivial rfl rfl (by omega) (by omega) rfl rfl).mono ?_
  rintro e w1 ⟨A, rfl, oA, hA, h1⟩
  obtain ⟨cA, -, aA⟩ := join_facts oA
  have la := aA.least
  have ma := aA.most
  have htA : A.ht = 1 := by
    have h2 := oA.ex
    obtain ⟨x, x1, x2, -⟩ := h2
    have := x1.ht
    rw [show Tr.nil.ht = 0 from rfl] at x2
    have h3 : A.ht ≠ 0 := fun h0 => by rw [h0, cA] at ma; simp [Tr.count, Tr.pre] at ma
    omega
  rw [htA] at aA
  have kA := oA.kvs
  simp only [Tr.kvs, List.nil_append] at kA
  have AA := Lib.hid aA
  have KA := Lib.hid kA
  have TA := Lib.hid aA.tag
  have CA := Lib.hid (show A.count = 1 by rw [← Tr.kvs_count, kA]; rfl)
  clear la ma htA kA aA cA oA
  go_wp2_with fail
  refine (avlJoin_any w1.heap.size w1 A .nil 2 20 1 0 (Nat.le_refl _) hA trivial AA.out rfl (by omega) (by omega) (news_zero (Nat.le_refl _) hA) rfl).mono ?_
  rintro e w2 ⟨B, rfl, oB, hB, h2⟩
  obtain ⟨cB, sB, aB⟩ := join_facts oB
  have hcB : B.count = 2 := by rw [cB, CA.out]; rfl
  have htB : B.ht = 2 := by
    have mb := aB.most
    obtain ⟨x, x1, x2, -⟩ := oB.ex
    have := x1.ht
    rw [AA.out.ht, show Tr.nil.ht = 0 from rfl] at x2
    have h3 : B.ht ≠ 1 := fun h0 => by rw [h0, hcB] at mb; simp at mb
    omega
  rw [htB] at aB
  have kB := oB.kvs
  rw [KA.out] at kB
  simp only [Tr.kvs] at kB
  have AB := Lib.hid aB
  have KB := Lib.hid kB
  have SB := Lib.hid (show B.size = 2 by rw [sB, hcB]; decide +kernel)
  have CB := Lib.hid hcB
  clear htB kB aB cB sB oB hcB
  go_wp2_with fail
  refine (avlJoin_any w2.heap.size w2 B .nil 3 30 2 0 (Nat.le_refl _) hB trivial AB.out rfl (by omega) (by omega) (news_zero (Nat.le_refl _) hB) rfl).mono ?_
  rintro e w3 ⟨C, rfl, oC, hC, h3⟩
  obtain ⟨cC, sC, aC⟩ := join_facts oC
  have hcC : C.count = 3 := by rw [cC, CB.out]; rfl
  have htC : C.ht = 2 := by
    have mc := aC.least
    obtain ⟨x, x1, x2, -⟩ := oC.ex
    have := x1.ht
    rw [AB.out.ht, show Tr.nil.ht = 0 from rfl] at x2
    have h3 : C.ht ≠ 3 := fun h0 => by rw [h0, hcC] at mc; simp [leastN] at mc
    omega
  rw [htC] at aC
  have kC := oC.kvs
  rw [KB.out] at kC
  simp only [Tr.kvs] at kC
  have AC := Lib.hid aC
  have SC := Lib.hid (show C.sum = 60 by rw [Tr.sum_kvs, kC]; decide +kernel)
  have LC := Lib.hid (show C.pre.length = 3 from hcC)
  have h13 := h2.trans h3
  have HA := Lib.hid (hA.ext h13)
  have HB := Lib.hid (hB.ext h3)
  have h03 := h1.trans h13
  clear htC kC aC cC sC oC hcC h1 h2 h3 h13 hA hB
  go_wp2_with fail
  refine (see09_any w3 C hC (by rw [LC.out]; decide)).mono ?_
  rintro e w4 ⟨v4, rfl, hown, h4⟩
  obtain ⟨a4, c4, hv4⟩ := beads_slice hown.beads
  rw [Tr.beads_len, LC.out] at hv4
  subst hv4
  have hC4 := hC.ext h4
  have h04 := h03.trans h4
  clear hown h03 hC
  go_wp2_with fail
  refine (tag_any w4 A (HA.out.ext h4)).mono ?_
  rw [TA.out]
  rintro e w5 ⟨rfl, h5⟩
  have h45 := h4.trans h5
  go_wp2_with fail
  refine (size_any w5 B (HB.out.ext h45)).mono ?_
  rw [SB.out]
  rintro e w6 ⟨rfl, h6⟩
  have h56 := h5.trans h6
  go_wp2_with fail
  refine (rankH_any w6 C 2 (hC4.ext h56) AC.out (by omega)).mono ?_
  rintro e w7 ⟨rfl, h7⟩
  have h57 := h56.trans h7
  go_wp2_with fail
  refine (sum_any w7 C (hC4.ext h57)).mono ?_
  rw [SC.out]
  rintro e w8 ⟨rfl, h8⟩
  have h58 := h57.trans h8
  go_wp2_with fail
  refine (avlMost_any w8 C .nil 2 0 (hC4.ext h58) trivial AC.out rfl (by omega) (by omega)).mono ?_
  rw [show (((max 2 0 : Nat) : Int) - ((min 2 0 : Nat) : Int) + 1) = 3 by decide]
  rintro e w9 ⟨rfl, h9⟩
  go_wp2
  go_ret
  exact Ret.mk ((h04.trans h58).trans h9)
theorem fits_avlMay : ∀ {t : BT} {A B : Tr}, t.fits A → t.fits B → avlMay A = avlMay B
  | .nil, .nil, .nil, _, _ => rfl
  | .nil, .node .., _, h, _ => h.elim
  | .nil, .nil, .node .., _, h => h.elim
  | .node .., .nil, _, h, _ => h.elim
  | .node .., .node .., .nil, _, h => h.elim
  | .node k v s n g l r, .node _ L _ _ _ R, .node _ L' _ _ _ R', h, h' => by
    rw [avlMay_node, avlMay_node, fits_avlMay h.2.2.2.1 h'.2.2.2.1, fits_avlMay h.2.2.2.2 h'.2.2.2.2]
    simp only [avlBadTag, avlBadTree, Tr.tag_node, Tr.left_node, Tr.right_node, ← BT.fits_tag h.2.2.2.1, ← BT.fits_tag h.2.2.2.2, ← BT.fits_tag h'.2.2.2.1, ← BT.fits_tag h'.2.2.2.2, ← h.2.2.1, ← h'.2.2.1]
/-- a row of beads of a tree that may be, and is not too long. -/
def Good (zs : List BeadL) (t : BT) : Prop := t.enc = zs ∧ zs.length ≤ 400 ∧ avlMay t.tr = true
set_option maxHeartbeats 1000000 in
theorem long15_any (w : World) (p q : Value) (z0 z1 : List BeadL) (h0 : Beads w p z0) (h1 : Beads w q z1) :
    Calls Try.prog 6 #[p, q] w (Says ((∃ t, Good z0 t) ∧ ∃ t, Good z1 t) w) := by
  have L0 := Lib.hid (beadsLong_any w p z0 h0)
  have L1 := Lib.hid (fun W (h : Ext w W) => beadsLong_any W q z1 (h1.ext h))
  have HB0 := Lib.hid h0
  have HB1 := Lib.hid h1
  obtain ⟨a0, c0, rfl⟩ := beads_slice h0
  obtain ⟨a1, c1, rfl⟩ := beads_slice h1
  clear h0 h1
  obtain ⟨S, hS⟩ : ∃ S, S = ((∃ t, Good z0 t) ∧ ∃ t, Good z1 t) := ⟨_, rfl⟩
  rw [← hS]
  have HS := Lib.hid hS
  clear hS
  generalize hN0 : z0.length = n0 at *
  generalize hN1 : z1.length = n1 at *
  have N0 := Lib.hid hN0
  have N1 := Lib.hid hN1
  clear hN0 hN1
  go_enter Try.func6, Try.ntmps6
  go_wp2_with fail
  refine L0.out.mono ?_
  cases hl0 : (decide (400 < n0) || !mayB z0) with
  | true =>
    clear hl0
    rintro e w1 ⟨rfl, h1⟩
    go_wp2
    go_ret
    exact ⟨true, rfl, fun h => (by cases h), h1⟩
  | false =>
    rintro e w1 ⟨rfl, h1⟩
    have HL0 := Lib.hid hl0
    clear hl0
    go_wp2_with fail
    refine (L1.out w1 h1).mono ?_
    cases hl1 : (decide (400 < n1) || !mayB z1) with
    | true =>
      clear hl1
      rintro e w2 ⟨rfl, h2⟩
      go_wp2
      go_ret
      exact ⟨true, rfl, fun h => (by cases h), h1.trans h2⟩
    | false =>
      rintro e w2 ⟨rfl, h2⟩
      have h02 := h1.trans h2
      have HL1 := Lib.hid hl1
      clear hl1 h1 h2
      obtain ⟨l0, t0, e0⟩ := long_tree (by rw [N0.out]; exact HL0.out)
      obtain ⟨l1, t1, e1⟩ := long_tree (by rw [N1.out]; exact HL1.out)
      subst e0 e1
      have T0 := Lib.hid l0
      have T1 := Lib.hid l1
      clear l0 l1 HL0 HL1
      go_wp2_with fail
      refine (may14_any t0 t0.tr w2 _ t0.tr_fits (HB0.out.ext h02) (Nat.le_trans T0.out (by decide))).mono ?_
      cases hm0 : avlMay t0.tr with
      | false =>
        clear hm0
        rintro e w3 ⟨rfl, h3⟩
        go_wp2
        go_ret
        exact ⟨true, rfl, fun h => (by cases h), h02.trans h3⟩
      | true =>
        have M0 := Lib.hid hm0
        clear hm0
        rintro e w3 ⟨rfl, h3⟩
        have h03 := h02.trans h3
        clear h02 h3
        go_wp2_with fail
        refine (may14_any t1 t1.tr w3 _ t1.tr_fits (HB1.out.ext h03) (Nat.le_trans T1.out (by decide))).mono ?_
        cases hm1 : avlMay t1.tr with
        | false =>
          clear hm1
          rintro e w4 ⟨rfl, h4⟩
          go_wp2
          go_ret
          exact ⟨true, rfl, fun h => (by cases h), h03.trans h4⟩
        | true =>
          have M1 := Lib.hid hm1
          clear hm1
          rintro e w4 ⟨rfl, h4⟩
          go_wp2
          go_ret
          exact ⟨false, rfl, fun _ => by rw [HS.out]; exact ⟨⟨t0, rfl, T0.out, M0.out⟩, ⟨t1, rfl, T1.out, M1.out⟩⟩, h03.trans h4⟩
/-- what is known of a tree that is made of such a row. -/
theorem good_tree {zs : List BeadL} {t : BT} {A : Tr} (hg : Good zs t) (hf : t.fits A) (hz : ∀ z ∈ zs, z.wf) : AvlH A A.ht ∧ A.ht ≤ 400 ∧ A.count ≤ 400 := by
  obtain ⟨rfl, h1, h2⟩ := hg
  have hc : A.count ≤ 400 := by unfold Tr.count; rw [BT.fits_len hf]; exact h1
  have := Tr.ht_count A
  exact ⟨AvlH.of_may (by rw [fits_avlMay hf t.tr_fits]; exact h2) (fits_tagsOk t A hf hz) (by omega), by omega, hc⟩
set_option maxHeartbeats 4000000 in
theorem avlJoins_walk (a0 : Option Addr) (len0 cap0 : Nat) (z0 : List BeadL) (a1 : Option Addr) (len1 cap1 : Nat) (z1 : List BeadL) (ky vl : Int) (w : World) (w0 : IsBeads w (.slice a0 len0 cap0) z0) (w1 : IsBeads w (.slice a1 len1 cap1) z1) (_w2 : (Lit.int .i64 ky).wf = true) (_w3 : (Lit.int .i64 vl).wf = true) :
    Calls Try.prog 3 #[.slice a0 len0 cap0, .slice a1 len1 cap1, .int .i64 ky, .int .i64 vl] w (Ret (.bool true) w) := by
  have HB0 := Lib.hid w0.1
  have HB1 := Lib.hid w1.1
  have W0 := Lib.hid w0.2
  have W1 := Lib.hid w1.2
  have HLong := Lib.hid (long15_any w _ _ z0 z1 w0.1 w1.1)
  clear w0 w1 _w2 _w3
  go_enter Try.func3, Try.ntmps3
  go_wp2_with fail
  refine HLong.out.mono ?_
  rintro e w1 ⟨b, rfl, hS, h01⟩
  cases b with
  | true =>
    clear hS
    go_wp2_with fail
    refine (alive15_any _).mono ?_
    rintro e w2 ⟨rfl, h2⟩
    go_wp2
    go_ret
    exact Ret.mk (h01.trans h2)
  | false =>
    obtain ⟨⟨t0, g0⟩, ⟨t1, g1⟩⟩ := hS rfl
    have G0 := Lib.hid g0
    have G1 := Lib.hid g1
    obtain ⟨rfl, l0, -⟩ := g0
    obtain ⟨rfl, l1, -⟩ := g1
    have L0 := Lib.hid l0
    have L1 := Lib.hid l1
    clear hS l0 l1
    go_wp2_with fail
    refine (beadsMake_any t0 w1 _ (HB0.out.ext h01) L0.out).mono ?_
    rintro e w2 ⟨A, rfl, hA, fA, h2⟩
    have h02 := h01.trans h2
    go_wp2_with fail
    refine (beadsMake_any t1 w2 _ (HB1.out.ext h02) L1.out).mono ?_
    rintro e w3 ⟨B, rfl, hB, fB, h3⟩
    have h03 := h02.trans h3
    have FA := Lib.hid (And.intro fA (good_tree G0.out fA W0.out))
    have FB := Lib.hid (And.intro fB (good_tree G1.out fB W1.out))
    have HA := Lib.hid (hA.ext h3)
    have HB := Lib.hid hB
    clear fA fB h01 h2 h02 h3 hA hB
    go_wp2_with fail
    refine (of_any t0 w3 _ (HB0.out.ext h03) (Nat.le_trans L0.out (by decide))).mono ?_
    rintro e w4 ⟨v4, rfl, hx, h4⟩
    have h04 := h03.trans h4
    go_wp2_with fail
    refine (of_any t1 w4 _ (HB1.out.ext h04) (Nat.le_trans L1.out (by decide))).mono ?_
    rintro e w5 ⟨v5, rfl, hy, h5⟩
    have h35 := h4.trans h5
    have h05 := Lib.hid (h03.trans h35)
    have HX := Lib.hid (hx.beads.ext h5)
    have HY := Lib.hid hy.beads
    have HA5 := Lib.hid (HA.out.ext h35)
    have HB5 := Lib.hid (HB.out.ext h35)
    clear hx hy h03 h4 h04 h5 h35 HA HB
    go_wp2_with fail
    refine (avlJoin_any w5.heap.size w5 A B ky vl A.ht B.ht (Nat.le_refl _) HA5.out HB5.out FA.out.2.1 FB.out.2.1 (by have := FA.out.2.2.1; omega) (by have := FB.out.2.2.1; omega) (news_zero (Nat.le_refl _) HA5.out) (news_zero (Nat.le_refl _) HB5.out)).mono ?_
    rintro e w6 ⟨T, rfl, hok, hT, h6⟩
    have HOK := Lib.hid hok
    have HTC := Lib.hid (show T.pre.length ≤ 2000 by
      have := (join_facts hok).1
      have := FA.out.2.2.2
      have := FB.out.2.2.2
      show T.count ≤ 2000
      omega)
    clear hok
    go_wp2_with fail
    refine (see09_any w6 T hT HTC.out).mono ?_
    rintro e w7 ⟨v7, rfl, hown, h7⟩
    have HV7 := Lib.hid hown.beads
    have h57 := h6.trans h7
    clear hown h6 h7 hT
    go_wp2_with fail
    refine (joined_any w7 v7 v4 v5 T A B t0.of t1.of _ ky vl HOK.out (BT.of_fits FA.out.1) (BT.of_fits FB.out.1) FA.out.2.1 FB.out.2.1 FA.out.2.2.1 FB.out.2.2.1 HV7.out (HX.out.ext h57) (HY.out.ext h57) (by rw [BT.of_len]; exact L0.out) (by rw [BT.of_len]; exact L1.out)).mono ?_
    rintro e w8 ⟨rfl, h8⟩
    have h58 := h57.trans h8
    go_wp2_with fail
    refine (of_any T.bt w8 v7 ((beads_bt HV7.out).ext h8) (by rw [Tr.bt_enc, Tr.beads_len]; exact HTC.out)).mono ?_
    rintro e w9 ⟨v9, rfl, hown9, h9⟩
    have HV9 := Lib.hid hown9.beads
    have h89 := h8.trans h9
    have h59 := h58.trans h9
    clear hown9 h57 h8 h58 h9
    go_wp2_with fail
    refine (same_any w9 v7 v9 T.beads (HV7.out.ext h89) (by rw [fits_beads T.bt_fits (by rw [Tr.bt_enc, Tr.beads_len]; exact Nat.le_trans HTC.out (by decide))]; exact HV9.out) (by rw [Tr.beads_len]; exact HTC.out)).mono ?_
    rintro e w10 ⟨rfl, h10⟩
    have h510 := h59.trans h10
    clear h89 h59 h10
    go_wp2_with fail
    refine (is_any w10 A v4 (HA5.out.ext h510) (by rw [fits_beads FA.out.1 (Nat.le_trans L0.out (by decide))]; exact HX.out.ext h510) (Nat.le_trans FA.out.2.2.2 (by decide))).mono ?_
    rintro e w11 ⟨rfl, h11⟩
    have h511 := h510.trans h11
    go_wp2_with fail
    refine (is_any w11 B v5 (HB5.out.ext h511) (by rw [fits_beads FB.out.1 (Nat.le_trans L1.out (by decide))]; exact HY.out.ext h511) (Nat.le_trans FB.out.2.2.2 (by decide))).mono ?_
    rintro e w12 ⟨rfl, h12⟩
    go_wp2_with fail
    refine (alive15_any _).mono ?_
    rintro e w13 ⟨rfl, h13⟩
    go_wp2
    go_ret
    exact Ret.mk (h05.out.trans ((h511.trans h12).trans h13))
end Go.Proofs.Ytmpglinomjmogaa
