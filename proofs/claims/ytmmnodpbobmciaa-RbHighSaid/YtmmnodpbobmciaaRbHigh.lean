/- joinerylaw16.height, and the walk of RbHigh. -/
import Derived.Test.YtmmnodpbobmciaaRbParts
import Derived.Test.YtmmnodpbobmciaaAvlHigh
namespace Go.Proofs.Ytmmnodpbobmciaa
open Go Go.RowKit

set_option maxHeartbeats 1000000 in
theorem height16_any (k : Nat) : ∀ (t : Tr) (w : World), InH w t → k ≤ 500 → Calls Try.prog 21 #[.pointer t.ptr, .int .i64 k] w (Ret (.int .i64 (heightN k t)) w) := by
  induction k with
  | zero =>
    intro t w ht hk
    cases t with
    | nil =>
      rw [show heightN 0 .nil = 0 from rfl, Tr.ptr_nil]
      go_enter Try.func21, Try.ntmps21
      go_wp2
      go_ret
      exact Ret.mk (Ext.refl _)
    | node b l ky v g r =>
      rw [show heightN 0 (.node b l ky v g r) = -1 from rfl, Tr.ptr_node]
      go_enter Try.func21, Try.ntmps21
      go_wp2
      go_ret
      exact Ret.mk (Ext.refl _)
  | succ k ih =>
    intro t w ht hk
    cases t with
    | nil =>
      rw [show heightN (k + 1) .nil = 0 from rfl, Tr.ptr_nil]
      clear ih
      go_enter Try.func21, Try.ntmps21
      go_wp2
      go_ret
      exact Ret.mk (Ext.refl _)
    | node b l ky v g r =>
      obtain ⟨H, hH⟩ : ∃ H, H = heightN (k + 1) (.node b l ky v g r) := ⟨_, rfl⟩
      rw [← hH]
      unfold heightN at hH
      have hl1 := heightN_le k l
      have hr1 := heightN_le k r
      have hla := left_any w _ ht
      have hra := fun w h => right_any w (.node b l ky v g r) h
      rw [Tr.left_node, Tr.ptr_node] at hla
      simp only [Tr.right_node, Tr.ptr_node] at hra
      rw [Tr.ptr_node]
      have IHl := Lib.hid (ih l)
      have IHr := Lib.hid (ih r)
      have HLA := Lib.hid hla
      have HRA := Lib.hid hra
      have HT := Lib.hid ht
      have HLL := Lib.hid ht.2.1
      have HRR := Lib.hid ht.2.2
      generalize heightN k l = x at *
      generalize heightN k r = y at *
      have HH := Lib.hid hH
      clear hH ih hla hra ht
      rw [show (((k + 1 : Nat) : Nat) : Int) = (k : Int) + 1 by omega]
      go_enter Try.func21, Try.ntmps21
      go_wp2_with fail
      refine HLA.out.mono ?_
      rintro e w1 ⟨rfl, h1⟩
      go_wp2_with fail
      refine (IHl.out w1 (HLL.out.ext h1) (by omega)).mono ?_
      rintro e w2 ⟨rfl, h2⟩
      have h12 := h1.trans h2
      go_wp2_with fail
      refine (HRA.out w2 (HT.out.ext h12)).mono ?_
      rintro e w3 ⟨rfl, h3⟩
      have h13 := h12.trans h3
      go_wp2_with fail
      refine (IHr.out w3 (HRR.out.ext h13) (by omega)).mono ?_
      rintro e w4 ⟨rfl, h4⟩
      have h14 := h13.trans h4
      clear h1 h2 h12 h3 h13 h4
      by_cases c1 : x < 0
      · go_wp2
        all_goals
          go_ret
          exact ⟨ret_int (by rw [HH.out, if_pos (.inl c1)]), h14⟩
      · by_cases c2 : y < 0
        · go_wp2
          all_goals
            go_ret
            exact ⟨ret_int (by rw [HH.out, if_pos (.inr c2)]), h14⟩
        · have HN := Lib.hid (show ¬ (x < 0 ∨ y < 0) by omega)
          go_wp2
          all_goals
            go_ret
            exact ⟨ret_int (by rw [HH.out, if_neg HN.out]; omega), h14⟩
/-- the numbers of RbHigh, at a tree that may be. -/
theorem rbHigh_law (T : Tr) (hm : rbMay T = true) (ho : TagsOk T) (hc : T.count ≤ 400) :
    ∃ h b : Nat, heightN 500 T = h ∧ hi T = b ∧ h ≤ 400 ∧ b ≤ 8 ∧ (h + 1) / 2 ≤ b ∧ T.size = T.count ∧ ((2 ^ ((h + 1) / 2) : Nat) : Int) ≤ T.count + 1 ∧ wrap64 (2 * hiB T) = 2 * hi T := by
  unfold rbMay at hm
  simp only [Bool.and_eq_true, Bool.not_eq_true'] at hm
  obtain ⟨hp, hr⟩ := hm
  obtain ⟨h0, h1, h2, h3⟩ := part_facts T hp ho (by omega)
  have hht := Tr.ht_count T
  have hcol : col T = 0 := by
    rcases col_01 T with h | h
    · exact h
    · have : rbRed T = true := by unfold rbRed; rw [h]; rfl
      rw [hr] at this; cases this
  rw [hcol] at h2
  have hb8 : (hi T).toNat ≤ 8 := by
    rcases Nat.lt_or_ge 8 (hi T).toNat with h | h
    · have : 2 ^ 9 ≤ 2 ^ (hi T).toNat := Nat.pow_le_pow_right (by decide) h
      omega
    · exact h
  have hc2 : (T.ht + 1) / 2 ≤ (hi T).toNat := by omega
  have hpow : 2 ^ ((T.ht + 1) / 2) ≤ 2 ^ (hi T).toNat := Nat.pow_le_pow_right (by decide) hc2
  refine ⟨T.ht, (hi T).toNat, heightN_ht 500 T (by omega), by omega, by omega, hb8, hc2, ?_, by omega, ?_⟩
  · rw [Tr.size_count]; unfold wrap64; omega
  · unfold hiB
    rw [hr]
    simp only [Bool.false_eq_true, if_false]
    unfold wrap64; omega
set_option maxRecDepth 100000 in
set_option maxHeartbeats 4000000 in
theorem rbHigh_walk (a : Option Addr) (len cap : Nat) (zs : List BeadL) (w : World) (hb0 : IsBeads w (.slice a len cap) zs) :
    Calls Try.prog 5 #[.slice a len cap] w (Ret (.bool true) w) := by
  obtain ⟨hb, hwf⟩ := hb0
  have H := Lib.hid (beadsLong_any w _ zs hb)
  have HB := Lib.hid hb
  have hx := Ext.refl w
  cases hl : (decide (400 < zs.length) || !mayB zs) with
  | true =>
    have HL := Lib.hid hl
    clear hb hl hwf
    go_enter Try.func5, Try.ntmps5
    go_wp2_with fail
    refine (H.out).mono ?_
    rw [HL.out]
    rintro e w1 ⟨rfl, hS⟩
    replace hx := hx.trans hS
    clear hS
    go_wp2_with fail
    refine (alive16_any _).mono ?_
    rintro e w2 ⟨rfl, hS⟩
    replace hx := hx.trans hS
    clear hS
    go_wp2
    go_ret
    exact Ret.mk hx
  | false =>
    obtain ⟨hl4, t, ht⟩ := long_tree hl
    subst ht
    have HL := Lib.hid hl
    have h4 := Lib.hid hl4
    have HW := Lib.hid hwf
    clear hb hl hl4 hwf
    go_enter Try.func5, Try.ntmps5
    go_wp2_with fail
    refine (H.out).mono ?_
    rw [HL.out]
    rintro e w1 ⟨rfl, hS⟩
    replace hx := hx.trans hS
    clear hS
    go_wp2_with fail
    refine (beadsMake_any t w1 _ (HB.out.ext hx) h4.out).mono ?_
    rintro e w2 ⟨T, rfl, hT, hf, hS⟩
    replace hx := hx.trans hS
    clear hS
    have HF := Lib.hid (And.intro hf (fits_tagsOk t T hf HW.out))
    have HC := Lib.hid (show T.count ≤ 400 by unfold Tr.count; rw [BT.fits_len hf]; exact h4.out)
    have HCE := Lib.hid (show T.count = t.enc.length by unfold Tr.count; rw [BT.fits_len hf])
    clear hf
    go_wp2_with fail
    refine (rbMay_any w2 T hT HF.out.2).mono ?_
    cases hm : rbMay T with
    | false =>
      clear hm
      rintro e w3 ⟨rfl, h3⟩
      go_wp2_with fail
      refine (alive16_any _).mono ?_
      rintro e w4 ⟨rfl, hS⟩
      go_wp2
      go_ret
      exact Ret.mk ((hx.trans h3).trans hS)
    | true =>
      rintro e w3 ⟨rfl, hS⟩
      replace hx := hx.trans hS
      replace hT := hT.ext hS
      obtain ⟨h, b, l1, l2, l3, l4, l5, l6, l7, l8⟩ := rbHigh_law T hm HF.out.2 HC.out
      have L1 := Lib.hid l1
      have L2 := Lib.hid l2
      have L6 := Lib.hid l6
      have L8 := Lib.hid l8
      clear hm l1 l2 l6 l8 hS
      go_wp2_with fail
      refine (height16_any 500 T w3 hT (Nat.le_refl _)).mono ?_
      rw [L1.out]
      rintro e w4 ⟨rfl, hS⟩
      replace hx := hx.trans hS
      replace hT := hT.ext hS
      clear hS
      have hdiv : Hid (((h : Int) + 1) / 2 = (((h + 1) / 2 : Nat) : Int)) := Lib.hid (by omega)
      generalize hcc : (h + 1) / 2 = c at *
      have HCC := Lib.hid hcc
      clear hcc
      have hc8 : c ≤ 8 := by omega
      go_wp2_with fail
      rw [hdiv.out]
      refine (rbHigh_any w4 T hT HF.out.2).mono ?_
      rw [L2.out]
      rintro e w5 ⟨rfl, hS⟩
      replace hx := hx.trans hS
      replace hT := hT.ext hS
      clear hS hdiv HCC
      have hcb : (c : Int) ≤ (b : Int) := by omega
      go_wp2_with fail
      refine (size_any w5 T hT).mono ?_
      rw [L6.out]
      rintro e w6 ⟨rfl, hS⟩
      replace hx := hx.trans hS
      replace hT := hT.ext hS
      clear hS
      have L6' := Lib.hid (show T.size = (t.of.enc.length : Int) by rw [L6.out, HCE.out, BT.of_len])
      generalize T.count = ct at *
      have h9 : c = 0 ∨ c = 1 ∨ c = 2 ∨ c = 3 ∨ c = 4 ∨ c = 5 ∨ c = 6 ∨ c = 7 ∨ c = 8 := by omega
      generalize hof : t.of.enc = OF at *
      have HOFS := Lib.hid (fun W (h : Ext w W) => of_any t W _ (HB.out.ext h) (Nat.le_trans h4.out (by decide)))
      rw [hof] at HOFS
      clear hof
      rcases h9 with rfl | rfl | rfl | rfl | rfl | rfl | rfl | rfl | rfl
      all_goals
        have l7' := l7
        simp only [Nat.reducePow] at l7'
        clear l7
        go_wp2_with fail
        refine (size_any w6 T hT).mono ?_
        rw [L6'.out]
        rintro e w7 ⟨rfl, hS⟩
        replace hx := hx.trans hS
        replace hT := hT.ext hS
        clear hS
        go_wp2_with fail
        refine (HOFS.out _ hx).mono ?_
        rintro e w8 ⟨v8, rfl, hown, hS⟩
        replace hx := hx.trans hS
        replace hT := hT.ext hS
        clear hS
        obtain ⟨a8, c8, hv8⟩ := beads_slice hown.beads
        subst hv8
        clear hown
        go_wp2_with fail
        refine (rbRank_any _ T hT HF.out.2).mono ?_
        rw [L8.out, L2.out]
        rintro e w9 ⟨rfl, hS⟩
        replace hx := hx.trans hS
        replace hT := hT.ext hS
        clear hS
        go_wp2_with fail
        refine (rbHigh_any _ T hT HF.out.2).mono ?_
        rw [L2.out]
        rintro e w10 ⟨rfl, hS⟩
        replace hx := hx.trans hS
        clear hS
        go_wp2_with fail
        refine (alive16_any _).mono ?_
        rintro e w11 ⟨rfl, hS⟩
        replace hx := hx.trans hS
        clear hS
        go_wp2
        go_ret
        exact Ret.mk hx
end Go.Proofs.Ytmmnodpbobmciaa
