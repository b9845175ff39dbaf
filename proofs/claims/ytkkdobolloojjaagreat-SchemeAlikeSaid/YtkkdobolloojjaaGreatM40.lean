/- joinerylaw22.parted; trees of rows of beads that are parts. -/
import Derived.Test.YtkkdobolloojjaaGreatM35
import Derived.Test.YtkkdobolloojjaaGreatM39
namespace Go.Proofs.YtkkdobolloojjaaGreat
open Go Go.RowKit

theorem itsC_idem (c : Nat) (T : Tr) : (itsC c T).map (itC c) = itsC c T := by
  unfold itsC
  rw [List.map_map]
  exact List.map_congr_left fun z _ => itC_idem c z
theorem itC_if (c : Nat) (k v g : Int) : itC c (k, v, if c = 4 then g else 0) = itC c (k, v, g) := by
  simp only [itC]
  split <;> simp_all
theorem fits_tpH : ∀ {t : BT} {A B : Tr}, t.fits A → t.fits B → (TpH A ↔ TpH B)
  | .nil, .nil, .nil, _, _ => Iff.rfl
  | .nil, .node .., _, h, _ => h.elim
  | .nil, .nil, .node .., _, h => h.elim
  | .node .., .nil, _, h, _ => h.elim
  | .node .., .node .., .nil, _, h => h.elim
  | .node k v s n g l r, .node b1 L k1 v1 g1 R, .node b2 L' k2 v2 g2 R', h, h' => by
    have h1 := fits_tpH h.2.2.2.1 h'.2.2.2.1
    have h2 := fits_tpH h.2.2.2.2 h'.2.2.2.2
    obtain ⟨a1, a2, a3, fl, fr⟩ := h
    obtain ⟨c1, c2, c3, fl', fr'⟩ := h'
    subst a1 a2 a3
    subst c1 c2 c3
    have e1 := under_iff L b1 L k v g R
    have e2 := under_iff L' b2 L' k v g R'
    have e3 := under_iff R b1 L k v g R
    have e4 := under_iff R' b2 L' k v g R'
    rw [overT_fits fl] at e1
    rw [overT_fits fl'] at e2
    rw [overT_fits fr] at e3
    rw [overT_fits fr'] at e4
    rw [TpH, TpH, h1, h2, ← e1, ← e2, ← e3, ← e4]
theorem fits_ptV {c : Nat} (h4 : 1 ≤ c ∧ c ≤ 4) {t : BT} {A B : Tr} (ha : t.fits A) (hb : t.fits B) : ptV c A = ptV c B := by
  obtain rfl | rfl | rfl | rfl := fourC h4
  · exact fits_avlMay ha hb
  · exact (fits_rbPart ha hb).1
  · exact fits_wbMay ha hb
  · show tpMay A = tpMay B
    rw [Bool.eq_iff_iff, tpMay_iff, tpMay_iff, fits_tpH ha hb]
/-- a row of beads of a part, and not too long. -/
def GoodC (c : Nat) (zs : List BeadL) (t : BT) : Prop := t.enc = zs ∧ zs.length ≤ 400 ∧ ptV c t.tr = true
theorem goodC_tree {c : Nat} (h4 : 1 ≤ c ∧ c ≤ 4) {zs : List BeadL} {t : BT} {A : Tr} (hg : GoodC c zs t) (hf : t.fits A) (hz : ∀ z ∈ zs, z.wf) : PartC c A ∧ A.count ≤ 400 ∧ TagsOk A ∧ A.count = zs.length := by
  obtain ⟨rfl, h1, h2⟩ := hg
  have hc := fits_cnt hf
  have ht := fits_tagsOk t A hf hz
  exact ⟨partC_of h4 (by omega) ht (by rw [fits_ptV h4 hf t.tr_fits]; exact h2), by omega, ht, hc⟩
set_option maxHeartbeats 2000000 in
theorem parted22_any (c : Nat) (w : World) (p q : Value) (z0 z1 : List BeadL) (h0 : Beads w p z0) (h1 : Beads w q z1) (wf0 : ∀ z ∈ z0, z.wf) (wf1 : ∀ z ∈ z1, z.wf) :
    Calls Tryz.prog 38 #[.int .u8 c, p, q] w (Says ((1 ≤ c ∧ c ≤ 4) ∧ (∃ t, GoodC c z0 t) ∧ ∃ t, GoodC c z1 t) w) := by
  have hund : undef = Value.tuple #[] := rfl
  have HL0 := Lib.hid (fun W (e : Ext w W) => beadsLong_any W p z0 (h0.ext e))
  have HL1 := Lib.hid (fun W (e : Ext w W) => beadsLong_any W q z1 (h1.ext e))
  have HI := Lib.hid (is22_any c w)
  have hx := Ext.refl w
  obtain ⟨S, hS0⟩ : ∃ S, S = ((1 ≤ c ∧ c ≤ 4) ∧ (∃ t, GoodC c z0 t) ∧ ∃ t, GoodC c z1 t) := ⟨_, rfl⟩
  rw [← hS0]
  have HS := Lib.hid hS0
  clear hS0
  by_cases h4 : 1 ≤ c ∧ c ≤ 4
  · rw [decide_eq_true h4] at HI
    cases d0 : (decide (400 < z0.length) || !mayB z0) with
    | true =>
      rw [d0] at HL0
      clear d0 h0 h1 wf0 wf1
      go_enter Tryz.func38, Tryz.ntmps38
      go_wp2_with fail
      refine (HI.out).mono ?_
      rintro e w1 ⟨rfl, hS⟩
      replace hx := hx.trans hS
      clear hS
      go_wp2_with fail
      refine (HL0.out _ hx).mono ?_
      rintro e w2 ⟨rfl, hS⟩
      replace hx := hx.trans hS
      clear hS
      go_wp2
      go_ret
      exact ⟨true, rfl, fun h => (by cases h), hx⟩
    | false =>
      obtain ⟨l0, t0, e0⟩ := long_tree d0
      rw [d0] at HL0
      clear d0
      cases d1 : (decide (400 < z1.length) || !mayB z1) with
      | true =>
        rw [d1] at HL1
        clear d1 h0 h1 wf0 wf1
        go_enter Tryz.func38, Tryz.ntmps38
        go_wp2_with fail
        refine (HI.out).mono ?_
        rintro e w1 ⟨rfl, hS⟩
        replace hx := hx.trans hS
        clear hS
        go_wp2_with fail
        refine (HL0.out _ hx).mono ?_
        rintro e w2 ⟨rfl, hS⟩
        replace hx := hx.trans hS
        clear hS
        go_wp2_with fail
        refine (HL1.out _ hx).mono ?_
        rintro e w3 ⟨rfl, hS⟩
        replace hx := hx.trans hS
        clear hS
        go_wp2
        go_ret
        exact ⟨true, rfl, fun h => (by cases h), hx⟩
      | false =>
        obtain ⟨l1, t1, e1⟩ := long_tree d1
        rw [d1] at HL1
        clear d1
        subst e0 e1
        have HP0 := Lib.hid (fun W (e : Ext w W) => part22_any c h4 t0 t0.tr W p t0.tr_fits (fun _ => fits_tagsOk t0 _ t0.tr_fits wf0) (h0.ext e) (by omega))
        have HP1 := Lib.hid (fun W (e : Ext w W) => part22_any c h4 t1 t1.tr W q t1.tr_fits (fun _ => fits_tagsOk t1 _ t1.tr_fits wf1) (h1.ext e) (by omega))
        have HLL := Lib.hid (And.intro h4 (And.intro l0 l1))
        clear h0 h1 wf0 wf1 l0 l1 h4
        cases p0 : ptV c t0.tr with
        | false =>
          rw [p0] at HP0
          clear p0
          go_enter Tryz.func38, Tryz.ntmps38
          go_wp2_with fail
          refine (HI.out).mono ?_
          rintro e w1 ⟨rfl, hS⟩
          replace hx := hx.trans hS
          clear hS
          go_wp2_with fail
          refine (HL0.out _ hx).mono ?_
          rintro e w2 ⟨rfl, hS⟩
          replace hx := hx.trans hS
          clear hS
          go_wp2_with fail
          refine (HL1.out _ hx).mono ?_
          rintro e w3 ⟨rfl, hS⟩
          replace hx := hx.trans hS
          clear hS
          go_wp2_with fail
          refine (HP0.out _ hx).mono ?_
          rintro e w4 ⟨rfl, hS⟩
          replace hx := hx.trans hS
          clear hS
          go_wp2
          go_ret
          exact ⟨true, rfl, fun h => (by cases h), hx⟩
        | true =>
          rw [p0] at HP0
          have Q0 := Lib.hid p0
          clear p0
          cases p1 : ptV c t1.tr with
          | false =>
            rw [p1] at HP1
            clear p1
            go_enter Tryz.func38, Tryz.ntmps38
            go_wp2_with fail
            refine (HI.out).mono ?_
            rintro e w1 ⟨rfl, hS⟩
            replace hx := hx.trans hS
            clear hS
            go_wp2_with fail
            refine (HL0.out _ hx).mono ?_
            rintro e w2 ⟨rfl, hS⟩
            replace hx := hx.trans hS
            clear hS
            go_wp2_with fail
            refine (HL1.out _ hx).mono ?_
            rintro e w3 ⟨rfl, hS⟩
            replace hx := hx.trans hS
            clear hS
            go_wp2_with fail
            refine (HP0.out _ hx).mono ?_
            rintro e w4 ⟨rfl, hS⟩
            replace hx := hx.trans hS
            clear hS
            go_wp2_with fail
            refine (HP1.out _ hx).mono ?_
            rintro e w5 ⟨rfl, hS⟩
            replace hx := hx.trans hS
            clear hS
            go_wp2
            go_ret
            exact ⟨true, rfl, fun h => (by cases h), hx⟩
          | true =>
            rw [p1] at HP1
            have Q1 := Lib.hid p1
            clear p1
            go_enter Tryz.func38, Tryz.ntmps38
            go_wp2_with fail
            refine (HI.out).mono ?_
            rintro e w1 ⟨rfl, hS⟩
            replace hx := hx.trans hS
            clear hS
            go_wp2_with fail
            refine (HL0.out _ hx).mono ?_
            rintro e w2 ⟨rfl, hS⟩
            replace hx := hx.trans hS
            clear hS
            go_wp2_with fail
            refine (HL1.out _ hx).mono ?_
            rintro e w3 ⟨rfl, hS⟩
            replace hx := hx.trans hS
            clear hS
            go_wp2_with fail
            refine (HP0.out _ hx).mono ?_
            rintro e w4 ⟨rfl, hS⟩
            replace hx := hx.trans hS
            clear hS
            go_wp2_with fail
            refine (HP1.out _ hx).mono ?_
            rintro e w5 ⟨rfl, hS⟩
            replace hx := hx.trans hS
            clear hS
            go_wp2
            go_ret
            exact ⟨false, rfl, fun _ => by rw [HS.out]; exact ⟨HLL.out.1, ⟨t0, rfl, HLL.out.2.1, Q0.out⟩, ⟨t1, rfl, HLL.out.2.2, Q1.out⟩⟩, hx⟩
  · rw [decide_eq_false h4] at HI
    clear h0 h1 wf0 wf1 h4
    go_enter Tryz.func38, Tryz.ntmps38
    go_wp2_with fail
    refine (HI.out).mono ?_
    rintro e w1 ⟨rfl, hS⟩
    replace hx := hx.trans hS
    clear hS
    go_wp2
    go_ret
    exact ⟨true, rfl, fun h => (by cases h), hx⟩
end Go.Proofs.YtkkdobolloojjaaGreat
