/- The walk of SchemeTells. -/
import Derived.Test.YtkkdobolloojjaaGreatM35
import Derived.Test.YtkkdobolloojjaaGreatM39
namespace Go.Proofs.YtkkdobolloojjaaGreat
open Go Go.RowKit

theorem itemV_agg (c : Nat) (T : Tr) : ∃ k v g, itemV c T = .agg #[.int .i64 k, .int .i64 v, .int .u64 g] := ⟨_, _, _, rfl⟩
set_option maxRecDepth 100000 in
set_option maxHeartbeats 8000000 in
theorem schemeTells_walk (c : Nat) (hc : c < 256) (a0 : Option Addr) (len0 cap0 : Nat) (z0 : List BeadL) (a1 : Option Addr) (len1 cap1 : Nat) (z1 : List BeadL) (w : World) (w0 : IsBeads w (.slice a0 len0 cap0) z0) (w1 : IsBeads w (.slice a1 len1 cap1) z1) :
    Calls Tryz.prog 5 #[.int .u8 c, .slice a0 len0 cap0, .slice a1 len1 cap1] w (Ret (.bool true) w) := by
  have hund : undef = Value.tuple #[] := rfl
  have HB0 := Lib.hid w0.1
  have HB1 := Lib.hid w1.1
  have W0 := Lib.hid w0.2
  have W1 := Lib.hid w1.2
  have HL0 := Lib.hid (beadsLong_any w _ z0 w0.1)
  have HL1 := Lib.hid (fun W (e : Ext w W) => beadsLong_any W _ z1 (w1.1.ext e))
  clear w0 w1
  have hx := Ext.refl w
  cases d0 : (decide (400 < z0.length) || !mayB z0) with
  | true =>
    rw [d0] at HL0
    clear d0
    go_enter Tryz.func5, Tryz.ntmps5
    go_wp2_with fail
    refine (HL0.out).mono ?_
    rintro e w1 ⟨rfl, hS⟩
    replace hx := hx.trans hS
    clear hS
    go_wp2_with fail
    refine (alive22_any _).mono ?_
    rintro e w2 ⟨rfl, hS⟩
    replace hx := hx.trans hS
    clear hS
    go_wp2
    go_ret
    exact Ret.mk hx
  | false =>
    obtain ⟨l0, t0, e0⟩ := long_tree d0
    rw [d0] at HL0
    clear d0
    cases d1 : (decide (400 < z1.length) || !mayB z1) with
    | true =>
      rw [d1] at HL1
      clear d1
      go_enter Tryz.func5, Tryz.ntmps5
      go_wp2_with fail
      refine (HL0.out).mono ?_
      rintro e w1 ⟨rfl, hS⟩
      replace hx := hx.trans hS
      clear hS
      go_wp2_with fail
      refine (HL1.out _ hx).mono ?_
      rintro e w2 ⟨rfl, hS⟩
      replace hx := hx.trans hS
      clear hS
      go_wp2_with fail
      refine (alive22_any _).mono ?_
      rintro e w3 ⟨rfl, hS⟩
      replace hx := hx.trans hS
      clear hS
      go_wp2
      go_ret
      exact Ret.mk hx
    | false =>
      obtain ⟨l1, t1, e1⟩ := long_tree d1
      rw [d1] at HL1
      clear d1
      subst e0 e1
      have L0 := Lib.hid l0
      have L1 := Lib.hid l1
      clear l0 l1
      by_cases h4 : 1 ≤ c ∧ c ≤ 4
      · go_enter Tryz.func5, Tryz.ntmps5
        go_wp2_with fail
        refine (HL0.out).mono ?_
        rintro e w1 ⟨rfl, hS⟩
        replace hx := hx.trans hS
        clear hS
        go_wp2_with fail
        refine (HL1.out _ hx).mono ?_
        rintro e w2 ⟨rfl, hS⟩
        replace hx := hx.trans hS
        clear hS
        go_wp2_with fail
        refine (of22_yes c h4 w2).mono ?_
        rintro e w3 ⟨P, rfl, st0⟩
        have st : St w P c 0 w3 := ⟨hx.trans st0.ext, Nat.le_trans hx.size st0.new, st0.sch⟩
        clear st0 hx
        obtain ⟨A, hA0⟩ : ∃ A : Tr, A = .nil := ⟨_, rfl⟩
        have hA : InH w3 A := by rw [hA0]; trivial
        have hB : InH w3 A := hA
        go_wp2_with fail
        refine (is22_any c _).mono ?_
        rintro e w4 ⟨rfl, hS⟩
        replace hA := hA.ext hS
        replace hB := hB.ext hS
        replace st := st.more hS
        clear hS
        rw [decide_eq_true h4]
        go_wp2_with fail
        refine (schName_any P c 0 w4 st.sch).mono ?_
        rintro e w5 ⟨x, rfl, BB, SS, rfl⟩
        replace st := st.does BB SS
        clear BB SS hA hB hA0
        go_wp2_with fail
        refine (name22_any c w5).mono ?_
        rw [nm22, if_pos h4]
        rintro e w6 ⟨rfl, hS⟩
        replace st := st.more hS
        clear hS
        go_wp2_with fail
        refine (schJoins_any P c 0 w6 st.sch).mono ?_
        rintro e w7 ⟨rfl, hS⟩
        replace st := st.more hS
        clear hS
        go_wp2_with fail
        refine (beadsMake_any t0 w7 _ (HB0.out.ext st.ext) L0.out).mono ?_
        rintro e w8 ⟨A, rfl, hA, fA, hS⟩
        replace st := st.more hS
        clear hS
        go_wp2_with fail
        refine (beadsMake_any t1 w8 _ (HB1.out.ext st.ext) L1.out).mono ?_
        rintro e w9 ⟨B, rfl, hB, fB, hS⟩
        replace st := st.more hS
        replace hA := hA.ext hS
        clear hS
        have HA := Lib.hid (And.intro fA (And.intro (fits_tagsOk t0 A fA W0.out) (fits_cnt fA)))
        have HB := Lib.hid (And.intro fB (And.intro (fits_tagsOk t1 B fB W1.out) (fits_cnt fB)))
        clear fA fB
        go_wp2_with fail
        refine (schCheck_any st.sch hA (fun _ => HA.out.2.1) (by have := HA.out.2.2; have := L0.out; unfold Tr.count at *; omega)).mono ?_
        rintro e w10 ⟨x, rfl, BB, SS, rfl⟩
        replace hA := st.sch.inh BB hA
        replace hB := st.sch.inh BB hB
        replace st := st.does BB SS
        clear BB SS
        go_wp2_with fail
        refine (check22_any c h4 t0 A w10 _ HA.out.1 (fun _ => HA.out.2.1) (HB0.out.ext st.ext) (by have := L0.out; omega)).mono ?_
        rintro e w11 ⟨rfl, hS⟩
        replace hA := hA.ext hS
        replace hB := hB.ext hS
        replace st := st.more hS
        clear hS
        cases ma : ((ckV c A).2 == 0) with
        | false =>
          go_wp2_with fail
          refine (may22_any c h4 t0 A w11 _ HA.out.1 (fun _ => HA.out.2.1) (HB0.out.ext st.ext) (by have := L0.out; omega)).mono ?_
          rw [ma]
          rintro e w12 ⟨rfl, hS⟩
          replace hA := hA.ext hS
          replace hB := hB.ext hS
          replace st := st.more hS
          clear hS ma
          go_wp2_with fail
          refine (schCode_any P c 0 _ st.sch).mono ?_
          rintro e w13 ⟨rfl, hS⟩
          replace hA := hA.ext hS
          replace hB := hB.ext hS
          replace st := st.more hS
          clear hS
          go_wp2_with fail
          refine (schPart_any st.sch hA (fun _ => HA.out.2.1) (by have := HA.out.2.2; have := L0.out; unfold Tr.count at *; omega)).mono ?_
          rintro e w14 ⟨x, rfl, BB, SS, rfl⟩
          replace hA := st.sch.inh BB hA
          replace hB := st.sch.inh BB hB
          replace st := st.does BB SS
          clear BB SS
          go_wp2_with fail
          refine (part22_any c h4 t0 A w14 _ HA.out.1 (fun _ => HA.out.2.1) (HB0.out.ext st.ext) (by have := L0.out; omega)).mono ?_
          rintro e w15 ⟨rfl, hS⟩
          replace hA := hA.ext hS
          replace hB := hB.ext hS
          replace st := st.more hS
          clear hS
          go_wp2_with fail
          refine (schRank_any st.sch hA (fun _ => HA.out.2.1) (by have := HA.out.2.2; have := L0.out; omega)).mono ?_
          rintro e w16 ⟨x, rfl, BB, SS, rfl⟩
          replace hA := st.sch.inh BB hA
          replace hB := st.sch.inh BB hB
          replace st := st.does BB SS
          clear BB SS
          go_wp2_with fail
          refine (rank22_any c h4 t0 A w16 _ HA.out.1 (fun _ => HA.out.2.1) (HB0.out.ext st.ext) (by have := L0.out; omega)).mono ?_
          rintro e w17 ⟨rfl, hS⟩
          replace hA := hA.ext hS
          replace hB := hB.ext hS
          replace st := st.more hS
          clear hS
          obtain ⟨ik, iv, ig, hi⟩ := itemV_agg c A
          go_wp2_with fail
          refine (schItem_any P c 0 w17 A st.sch hA).mono ?_
          rw [hi]
          rintro e w18 ⟨x, rfl, BB, SS, rfl⟩
          replace hA := st.sch.inh BB hA
          replace hB := st.sch.inh BB hB
          replace st := st.does BB SS
          clear BB SS
          go_wp2_with fail
          refine (item22_any c t0 A w18 _ HA.out.1 (HB0.out.ext st.ext) (by have := L0.out; omega)).mono ?_
          rw [hi]
          rintro e w19 ⟨rfl, hS⟩
          replace hA := hA.ext hS
          replace hB := hB.ext hS
          replace st := st.more hS
          clear hS hi
          go_wp2_with fail
          refine (nothing22_any _).mono ?_
          rintro e w30 ⟨rfl, hS⟩
          replace hA := hA.ext hS
          replace hB := hB.ext hS
          replace st := st.more hS
          clear hS
          go_wp2_with fail
          refine (alive22_any _).mono ?_
          rintro e w31 ⟨rfl, hS⟩
          replace hA := hA.ext hS
          replace hB := hB.ext hS
          replace st := st.more hS
          clear hS
          go_wp2
          go_ret
          exact Ret.mk st.ext
        | true =>
          go_wp2_with fail
          refine (may22_any c h4 t0 A w11 _ HA.out.1 (fun _ => HA.out.2.1) (HB0.out.ext st.ext) (by have := L0.out; omega)).mono ?_
          rw [ma]
          rintro e w11' ⟨rfl, hS⟩
          replace hA := hA.ext hS
          replace hB := hB.ext hS
          replace st := st.more hS
          clear hS
          go_wp2_with fail
          refine (may22_any c h4 t1 B w11' _ HB.out.1 (fun _ => HB.out.2.1) (HB1.out.ext st.ext) (by have := L1.out; omega)).mono ?_
          have MA := Lib.hid (mayC_of h4 (by have := HA.out.2.2; have := L0.out; omega) HA.out.2.1 (by simpa using ma)).part
          clear ma
          cases mb : ((ckV c B).2 == 0) with
          | false =>
            rintro e w12 ⟨rfl, hS⟩
            replace hA := hA.ext hS
            replace hB := hB.ext hS
            replace st := st.more hS
            clear hS mb
            go_wp2_with fail
            refine (schCode_any P c 0 _ st.sch).mono ?_
            rintro e w13 ⟨rfl, hS⟩
            replace hA := hA.ext hS
            replace hB := hB.ext hS
            replace st := st.more hS
            clear hS
            go_wp2_with fail
            refine (schPart_any st.sch hA (fun _ => HA.out.2.1) (by have := HA.out.2.2; have := L0.out; unfold Tr.count at *; omega)).mono ?_
            rintro e w14 ⟨x, rfl, BB, SS, rfl⟩
            replace hA := st.sch.inh BB hA
            replace hB := st.sch.inh BB hB
            replace st := st.does BB SS
            clear BB SS
            go_wp2_with fail
            refine (part22_any c h4 t0 A w14 _ HA.out.1 (fun _ => HA.out.2.1) (HB0.out.ext st.ext) (by have := L0.out; omega)).mono ?_
            rintro e w15 ⟨rfl, hS⟩
            replace hA := hA.ext hS
            replace hB := hB.ext hS
            replace st := st.more hS
            clear hS
            go_wp2_with fail
            refine (schRank_any st.sch hA (fun _ => HA.out.2.1) (by have := HA.out.2.2; have := L0.out; omega)).mono ?_
            rintro e w16 ⟨x, rfl, BB, SS, rfl⟩
            replace hA := st.sch.inh BB hA
            replace hB := st.sch.inh BB hB
            replace st := st.does BB SS
            clear BB SS
            go_wp2_with fail
            refine (rank22_any c h4 t0 A w16 _ HA.out.1 (fun _ => HA.out.2.1) (HB0.out.ext st.ext) (by have := L0.out; omega)).mono ?_
            rintro e w17 ⟨rfl, hS⟩
            replace hA := hA.ext hS
            replace hB := hB.ext hS
            replace st := st.more hS
            clear hS
            obtain ⟨ik, iv, ig, hi⟩ := itemV_agg c A
            go_wp2_with fail
            refine (schItem_any P c 0 w17 A st.sch hA).mono ?_
            rw [hi]
            rintro e w18 ⟨x, rfl, BB, SS, rfl⟩
            replace hA := st.sch.inh BB hA
            replace hB := st.sch.inh BB hB
            replace st := st.does BB SS
            clear BB SS
            go_wp2_with fail
            refine (item22_any c t0 A w18 _ HA.out.1 (HB0.out.ext st.ext) (by have := L0.out; omega)).mono ?_
            rw [hi]
            rintro e w19 ⟨rfl, hS⟩
            replace hA := hA.ext hS
            replace hB := hB.ext hS
            replace st := st.more hS
            clear hS hi
            go_wp2_with fail
            refine (nothing22_any _).mono ?_
            rintro e w30 ⟨rfl, hS⟩
            replace hA := hA.ext hS
            replace hB := hB.ext hS
            replace st := st.more hS
            clear hS
            go_wp2_with fail
            refine (alive22_any _).mono ?_
            rintro e w31 ⟨rfl, hS⟩
            replace hA := hA.ext hS
            replace hB := hB.ext hS
            replace st := st.more hS
            clear hS
            go_wp2
            go_ret
            exact Ret.mk st.ext
          | true =>
            have MB := Lib.hid (mayC_of h4 (by have := HB.out.2.2; have := L1.out; omega) HB.out.2.1 (by simpa using mb)).part
            rintro e w12 ⟨rfl, hS⟩
            replace hA := hA.ext hS
            replace hB := hB.ext hS
            replace st := st.more hS
            clear hS mb
            go_wp2_with fail
            refine (schCode_any P c 0 _ st.sch).mono ?_
            rintro e w13 ⟨rfl, hS⟩
            replace hA := hA.ext hS
            replace hB := hB.ext hS
            replace st := st.more hS
            clear hS
            go_wp2_with fail
            refine (schPart_any st.sch hA (fun _ => HA.out.2.1) (by have := HA.out.2.2; have := L0.out; unfold Tr.count at *; omega)).mono ?_
            rintro e w14 ⟨x, rfl, BB, SS, rfl⟩
            replace hA := st.sch.inh BB hA
            replace hB := st.sch.inh BB hB
            replace st := st.does BB SS
            clear BB SS
            go_wp2_with fail
            refine (part22_any c h4 t0 A w14 _ HA.out.1 (fun _ => HA.out.2.1) (HB0.out.ext st.ext) (by have := L0.out; omega)).mono ?_
            rintro e w15 ⟨rfl, hS⟩
            replace hA := hA.ext hS
            replace hB := hB.ext hS
            replace st := st.more hS
            clear hS
            go_wp2_with fail
            refine (schRank_any st.sch hA (fun _ => HA.out.2.1) (by have := HA.out.2.2; have := L0.out; omega)).mono ?_
            rintro e w16 ⟨x, rfl, BB, SS, rfl⟩
            replace hA := st.sch.inh BB hA
            replace hB := st.sch.inh BB hB
            replace st := st.does BB SS
            clear BB SS
            go_wp2_with fail
            refine (rank22_any c h4 t0 A w16 _ HA.out.1 (fun _ => HA.out.2.1) (HB0.out.ext st.ext) (by have := L0.out; omega)).mono ?_
            rintro e w17 ⟨rfl, hS⟩
            replace hA := hA.ext hS
            replace hB := hB.ext hS
            replace st := st.more hS
            clear hS
            obtain ⟨ik, iv, ig, hi⟩ := itemV_agg c A
            go_wp2_with fail
            refine (schItem_any P c 0 w17 A st.sch hA).mono ?_
            rw [hi]
            rintro e w18 ⟨x, rfl, BB, SS, rfl⟩
            replace hA := st.sch.inh BB hA
            replace hB := st.sch.inh BB hB
            replace st := st.does BB SS
            clear BB SS
            go_wp2_with fail
            refine (item22_any c t0 A w18 _ HA.out.1 (HB0.out.ext st.ext) (by have := L0.out; omega)).mono ?_
            rw [hi]
            rintro e w19 ⟨rfl, hS⟩
            replace hA := hA.ext hS
            replace hB := hB.ext hS
            replace st := st.more hS
            clear hS hi
            go_wp2_with fail
            refine (schMost_any st.sch hA hB MA.out MB.out (by have := HA.out.2.2; have := L0.out; have := HB.out.2.2; have := L1.out; omega)).mono ?_
            rintro e w20 ⟨x, rfl, BB, SS, rfl⟩
            replace hA := st.sch.inh BB hA
            replace hB := st.sch.inh BB hB
            replace st := st.does BB SS
            clear BB SS
            go_wp2_with fail
            refine (most22_any c h4 w20 _ _ t0 t1 A B HA.out.1 HB.out.1 (HB0.out.ext st.ext) (HB1.out.ext st.ext) MA.out MB.out L0.out L1.out).mono ?_
            rintro e w21 ⟨rfl, hS⟩
            replace hA := hA.ext hS
            replace hB := hB.ext hS
            replace st := st.more hS
            clear hS
            go_wp2_with fail
            refine (nothing22_any _).mono ?_
            rintro e w30 ⟨rfl, hS⟩
            replace hA := hA.ext hS
            replace hB := hB.ext hS
            replace st := st.more hS
            clear hS
            go_wp2_with fail
            refine (alive22_any _).mono ?_
            rintro e w31 ⟨rfl, hS⟩
            replace hA := hA.ext hS
            replace hB := hB.ext hS
            replace st := st.more hS
            clear hS
            go_wp2
            go_ret
            exact Ret.mk st.ext
      · go_enter Tryz.func5, Tryz.ntmps5
        go_wp2_with fail
        refine (HL0.out).mono ?_
        rintro e w1 ⟨rfl, hS⟩
        replace hx := hx.trans hS
        clear hS
        go_wp2_with fail
        refine (HL1.out _ hx).mono ?_
        rintro e w2 ⟨rfl, hS⟩
        replace hx := hx.trans hS
        clear hS
        go_wp2_with fail
        refine (of22_no c hc h4 w2).mono ?_
        rintro e w3 ⟨rfl, hS⟩
        replace hx := hx.trans hS
        clear hS
        go_wp2_with fail
        refine (is22_any c w3).mono ?_
        rw [decide_eq_false h4]
        rintro e w4 ⟨rfl, hS⟩
        replace hx := hx.trans hS
        clear hS
        go_wp2_with fail
        refine (nilName_any w4).mono ?_
        rintro e w5 ⟨rfl, hS⟩
        replace hx := hx.trans hS
        clear hS
        have hnm : nm22 c = #[] := by unfold nm22; rw [if_neg h4]
        go_wp2_with fail
        refine (name22_any c w5).mono ?_
        rw [hnm]
        rintro e w6 ⟨rfl, hS⟩
        replace hx := hx.trans hS
        clear hS
        go_wp2_with fail
        refine (nilJoins_any w6).mono ?_
        rintro e w7 ⟨rfl, hS⟩
        replace hx := hx.trans hS
        clear hS
        go_wp2_with fail
        refine (nothing22_any _).mono ?_
        rintro e w8 ⟨rfl, hS⟩
        replace hx := hx.trans hS
        clear hS
        go_wp2_with fail
        refine (alive22_any _).mono ?_
        rintro e w9 ⟨rfl, hS⟩
        replace hx := hx.trans hS
        clear hS
        go_wp2
        go_ret
        exact Ret.mk hx
theorem u8_nat {c : Int} (h : (Lit.int .u8 c).wf = true) : ∃ m : Nat, c = m ∧ m < 256 := by
  have g0 : 0 ≤ c ∧ c < 256 := by simp [Lit.wf, show IntKind.u8.min = 0 from rfl, show IntKind.u8.max = 255 from rfl] at h; omega
  obtain ⟨m, rfl⟩ := Int.eq_ofNat_of_zero_le g0.1
  exact ⟨m, rfl, by omega⟩
theorem schemeTells_row (c : Int) (a0 : Option Addr) (len0 cap0 : Nat) (z0 : List BeadL) (a1 : Option Addr) (len1 cap1 : Nat) (z1 : List BeadL) (w : World) (hc : (Lit.int .u8 c).wf = true) (w0 : IsBeads w (.slice a0 len0 cap0) z0) (w1 : IsBeads w (.slice a1 len1 cap1) z1) :
    Calls Tryz.prog 5 #[.int .u8 c, .slice a0 len0 cap0, .slice a1 len1 cap1] w (Ret (.bool true) w) := by
  obtain ⟨m, rfl, hm⟩ := u8_nat hc
  exact schemeTells_walk m hm a0 len0 cap0 z0 a1 len1 cap1 z1 w w0 w1
end Go.Proofs.YtkkdobolloojjaaGreat
