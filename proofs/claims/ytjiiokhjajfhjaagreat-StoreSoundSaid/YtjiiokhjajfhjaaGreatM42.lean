/- The walk of StoreJoins. -/
import Derived.Test.YtjiiokhjajfhjaaGreatM29
import Derived.Test.YtjiiokhjajfhjaaGreatM30
import Derived.Test.YtjiiokhjajfhjaaGreatM39
import Derived.Test.YtjiiokhjajfhjaaGreatM41
namespace Go.Proofs.YtjiiokhjajfhjaaGreat
open Go Go.RowKit

theorem badV_fine {c : Nat} {Vs : List Tr} (h : ∀ T ∈ Vs, (ckV c T).2 = 0) : badV c Vs = (Vs.length, 0) := by
  induction Vs with
  | nil => rfl
  | cons T Vs ih =>
    have h1 := ih (fun U hU => h U (List.mem_cons_of_mem _ hU))
    show firstOf _ _ = _
    rw [firstOf_cons, if_pos (h T (List.mem_cons_self ..))]
    show ((badV c Vs).1 + 1, (badV c Vs).2) = _
    rw [h1]
    rfl
/-- the numbers that StoreJoins asks for. -/
structure JNums (A B T : Tr) (la lb F : Nat) : Prop where
  f1 : freshN [.nil] A = la
  f2 : freshN [.nil, A] B = lb
  f3 : freshN [.nil, A, B] T = F
  f4 : freshN [.nil, A, B, T] T = 0
  all : (allT [] [Tr.nil, A, B, T, T]).length = la + lb + F
theorem jnums {t0 t1 : BT} {n0 n1 : Nat} {A B T : Tr} (hA : Sole n0 t0 A) (hB : Sole n1 t1 B) (hlt : ∀ x ∈ A.blks, x < n1) : JNums A B T t0.enc.length t1.enc.length (freshN [.nil, A, B] T) := by
  have a1 : (addT [] A).length = A.count := by have := addT_sole (T := A) (bs := []) hA.2.1 (fun x _ h => by cases h); simpa using this
  have b1 : (addT (addT [] A) B).length = A.count + B.count := by
    have := addT_sole (T := B) (bs := addT [] A) hB.2.1 (fun x hx hm => by
      rcases addT_mem hm with hm | hm
      · cases hm
      · have h1 := hlt x hm; have h2 := hB.2.2 x hx; omega)
    rw [this, a1]
  have ca := fits_cnt hA.1
  have cb := fits_cnt hB.1
  have e3 : allT [] [Tr.nil, A, B] = addT (addT [] A) B := rfl
  have h3 := addT_len (T := T) (bs := addT (addT [] A) B)
  refine ⟨?_, ?_, rfl, ?_, ?_⟩
  · show (addT [] A).length - 0 = _; omega
  · show (addT (addT [] A) B).length - (addT [] A).length = _; omega
  · show (addT (addT (addT (addT [] A) B) T) T).length - (addT (addT (addT [] A) B) T).length = 0
    rw [addT_twice]; omega
  · show (addT (addT (addT (addT [] A) B) T) T).length = _
    rw [addT_twice]
    show _ = _ + _ + ((addT (addT (addT [] A) B) T).length - (addT (addT [] A) B).length)
    omega
theorem fits_rbH : ∀ {t : BT} {A B : Tr} {b : Nat} {d : Bool}, t.fits A → t.fits B → RbH A b d → RbH B b d
  | .nil, .nil, .nil, _, _, _, _, h => h
  | .nil, .node .., _, _, _, h, _, _ => h.elim
  | .nil, .nil, .node .., _, _, _, h, _ => h.elim
  | .node .., .nil, _, _, _, h, _, _ => h.elim
  | .node .., .node .., .nil, _, _, _, h, _ => h.elim
  | .node .., .node .., .node .., _, true, h, h', hh =>
    ⟨fits_rbH h.2.2.2.1 h'.2.2.2.1 hh.1, fits_rbH h.2.2.2.2 h'.2.2.2.2 hh.2.1, (h'.2.2.1.symm.trans h.2.2.1).trans hh.2.2⟩
  | .node .., .node .., .node .., _, false, h, h', ⟨d, cl, cr, e1, hl, hr, e2⟩ =>
    ⟨d, cl, cr, e1, fits_rbH h.2.2.2.1 h'.2.2.2.1 hl, fits_rbH h.2.2.2.2 h'.2.2.2.2 hr, (h'.2.2.1.symm.trans h.2.2.1).trans e2⟩
theorem fits_mayC {c : Nat} (h4 : 1 ≤ c ∧ c ≤ 4) {t : BT} {A B : Tr} (ha : t.fits A) (hb : t.fits B) (hn : t.enc.length ≤ 2000) (tb : TagsOk B) (h : MayC c A) : MayC c B := by
  by_cases h2 : c = 2
  · subst h2
    obtain ⟨b, hb'⟩ := h
    exact ⟨b, fits_rbH ha hb hb'⟩
  · have h1 := h.ck h4 (by rw [fits_cnt ha]; omega)
    have h3 : ptV c B = true := by
      rw [← fits_ptV h4 ha hb, ← pt_ck h4 h2 A, h1]; rfl
    have h5 := partC_of h4 (by rw [fits_cnt hb]; omega) tb h3
    obtain rfl | rfl | rfl | rfl := fourC h4
    · exact h5
    · exact absurd rfl h2
    · exact h5
    · exact h5
theorem trow4 {w : World} {N : Nat} {A B C D : Tr} {t : TypeId} (h : w.heap[N]? = some (.cells #[.pointer A.ptr, .pointer B.ptr, .pointer C.ptr, .pointer D.ptr] t (0, 0))) : TRow w (some ⟨N, 0, none⟩) 4 [A, B, C, D] :=
  .inr ⟨N, 0, rfl, Nat.le_refl _, fun i U hi => by
    match i, hi with
    | 0, hi => cases hi; exact cell_of h 0
    | 1, hi => cases hi; exact cell_of h 1
    | 2, hi => cases hi; exact cell_of h 2
    | 3, hi => cases hi; exact cell_of h 3⟩
theorem freshN_le {Ts : List Tr} {T : Tr} : freshN Ts T ≤ T.count := by
  have h := addT_most (T := T) (bs := allT [] Ts)
  show (addT _ T).length - _ ≤ _
  omega
set_option maxRecDepth 100000 in
set_option maxHeartbeats 8000000 in
theorem storeJoins_walk (c : Nat) (hc : c < 256) (a0 : Option Addr) (len0 cap0 : Nat) (z0 : List BeadL) (a1 : Option Addr) (len1 cap1 : Nat) (z1 : List BeadL) (ky vl tg : Int) (w : World) (w0 : IsBeads w (.slice a0 len0 cap0) z0) (w1 : IsBeads w (.slice a1 len1 cap1) z1) (htg : 0 ≤ tg ∧ tg < 18446744073709551616) :
    Calls Tryz.prog 6 #[.int .u8 c, .slice a0 len0 cap0, .slice a1 len1 cap1, itV ky vl tg] w (Ret (.bool true) w) := by
  have hund : undef = Value.tuple #[] := rfl
  obtain rfl : len0 = z0.length := by obtain ⟨_, _, h⟩ := beads_slice w0.1; cases h; rfl
  obtain rfl : len1 = z1.length := by obtain ⟨_, _, h⟩ := beads_slice w1.1; cases h; rfl
  have HB0 := Lib.hid w0.1
  have HB1 := Lib.hid w1.1
  have W0 := Lib.hid w0.2
  have W1 := Lib.hid w1.2
  have HL0 := Lib.hid (fun W (e : Ext w W) => beadsLong_any W _ z0 (w0.1.ext e))
  have HL1 := Lib.hid (fun W (e : Ext w W) => beadsLong_any W _ z1 (w1.1.ext e))
  clear w0 w1
  have HE0 := Lib.hid ((Ext.refl w).alloc (.cells #[.int .i64 ky, .int .i64 vl, .int .u64 tg] 58))
  have HBox := Lib.hid (alloc_at w (.cells #[.int .i64 ky, .int .i64 vl, .int .u64 tg] 58) _ rfl)
  unfold itV
  by_cases h4 : 1 ≤ c ∧ c ≤ 4
  · go_enter Tryz.func6, Tryz.ntmps6
    go_wp2_with fail
    generalize w.alloc (.cells #[.int .i64 ky, .int .i64 vl, .int .u64 tg] 58) = V0 at *
    refine (begun_yes c h4 V0).mono ?_
    rintro e w1 ⟨P, Q, rfl, ss⟩
    go_wp2_with fail
    refine (HL0.out w1 (HE0.out.trans ss.ext)).mono ?_
    cases d0 : (decide (400 < z0.length) || !mayB z0) with
    | true =>
      rintro e w2 ⟨rfl, hS⟩
      replace ss := ss.more hS
      clear hS d0
      go_wp2_with fail
      refine (is22_any c _).mono ?_
      rw [decide_eq_true h4]
      rintro e w21 ⟨rfl, hS⟩
      replace ss := ss.more hS
      clear hS
      go_wp2_with fail
      refine (alive36_any w21).mono ?_
      rintro e w22 ⟨rfl, hS⟩
      replace ss := ss.more hS
      have HX := Lib.hid (HE0.out.trans ss.ext)
      clear hS ss
      go_wp2
      go_ret
      exact Ret.mk HX.out
    | false =>
      obtain ⟨l0, t0, e0⟩ := long_tree d0
      subst e0
      have L0 := Lib.hid l0
      rintro e w2 ⟨rfl, hS⟩
      replace ss := ss.more hS
      clear hS d0 l0
      go_wp2_with fail
      refine (HL1.out w2 (HE0.out.trans ss.ext)).mono ?_
      cases d1 : (decide (400 < z1.length) || !mayB z1) with
      | true =>
        rintro e w3 ⟨rfl, hS⟩
        replace ss := ss.more hS
        clear hS d1
        go_wp2_with fail
        refine (is22_any c _).mono ?_
        rw [decide_eq_true h4]
        rintro e w21 ⟨rfl, hS⟩
        replace ss := ss.more hS
        clear hS
        go_wp2_with fail
        refine (alive36_any w21).mono ?_
        rintro e w22 ⟨rfl, hS⟩
        replace ss := ss.more hS
        have HX := Lib.hid (HE0.out.trans ss.ext)
        clear hS ss
        go_wp2
        go_ret
        exact Ret.mk HX.out
      | false =>
        obtain ⟨l1, t1, e1⟩ := long_tree d1
        subst e1
        have L1 := Lib.hid l1
        rintro e w3 ⟨rfl, hS⟩
        replace ss := ss.more hS
        clear hS d1 l1
        have T0 := Lib.hid (fits_tagsOk t0 _ t0.tr_fits W0.out)
        have T1 := Lib.hid (fits_tagsOk t1 _ t1.tr_fits W1.out)
        go_wp2_with fail
        refine (may22_any c h4 t0 t0.tr w3 _ t0.tr_fits (fun _ => T0.out) (HB0.out.ext (HE0.out.trans ss.ext)) (by have := L0.out; omega)).mono ?_
        cases ma : ((ckV c t0.tr).2 == 0) with
        | false =>
          rintro e w4 ⟨rfl, hS⟩
          replace ss := ss.more hS
          clear hS ma
          go_wp2_with fail
          refine (is22_any c _).mono ?_
          rw [decide_eq_true h4]
          rintro e w21 ⟨rfl, hS⟩
          replace ss := ss.more hS
          clear hS
          go_wp2_with fail
          refine (alive36_any w21).mono ?_
          rintro e w22 ⟨rfl, hS⟩
          replace ss := ss.more hS
          have HX := Lib.hid (HE0.out.trans ss.ext)
          clear hS ss
          go_wp2
          go_ret
          exact Ret.mk HX.out
        | true =>
          have MA := Lib.hid (mayC_of h4 (by rw [fits_cnt t0.tr_fits]; have := L0.out; omega) T0.out (by simpa using ma))
          rintro e w4 ⟨rfl, hS⟩
          replace ss := ss.more hS
          clear hS ma
          go_wp2_with fail
          refine (may22_any c h4 t1 t1.tr w4 _ t1.tr_fits (fun _ => T1.out) (HB1.out.ext (HE0.out.trans ss.ext)) (by have := L1.out; omega)).mono ?_
          cases mb : ((ckV c t1.tr).2 == 0) with
          | false =>
            rintro e w5 ⟨rfl, hS⟩
            replace ss := ss.more hS
            clear hS mb
            go_wp2_with fail
            refine (is22_any c _).mono ?_
            rw [decide_eq_true h4]
            rintro e w21 ⟨rfl, hS⟩
            replace ss := ss.more hS
            clear hS
            go_wp2_with fail
            refine (alive36_any w21).mono ?_
            rintro e w22 ⟨rfl, hS⟩
            replace ss := ss.more hS
            have HX := Lib.hid (HE0.out.trans ss.ext)
            clear hS ss
            go_wp2
            go_ret
            exact Ret.mk HX.out
          | true =>
            have MB := Lib.hid (mayC_of h4 (by rw [fits_cnt t1.tr_fits]; have := L1.out; omega) T1.out (by simpa using mb))
            rintro e w5 ⟨rfl, hS⟩
            replace ss := ss.more hS
            clear hS mb
            go_wp2_with fail
            refine (stoScheme_any Q P _ w5 ss.sto).mono ?_
            rintro e w6 ⟨rfl, hS⟩
            replace ss := ss.more hS
            clear hS
            go_wp2_with fail
            refine (beadsMakeD_any t0 w6 _ (HB0.out.ext (HE0.out.trans ss.ext)) L0.out).mono ?_
            rintro e w7 ⟨A, rfl, iA, sA, hS⟩
            replace ss := ss.more hS
            have lA := Lib.hid (fun x hx => blks_lt (x := x) iA hx)
            clear hS
            go_wp2_with fail
            refine (beadsMakeD_any t1 w7 _ (HB1.out.ext (HE0.out.trans ss.ext)) L1.out).mono ?_
            rintro e w8 ⟨B, rfl, iB, sB, hS⟩
            replace ss := ss.more hS
            replace iA := iA.ext hS
            clear hS
            have SA := Lib.hid sA
            have SB := Lib.hid sB
            have CA := Lib.hid (fits_cnt sA.1)
            have CB := Lib.hid (fits_cnt sB.1)
            have TA := Lib.hid (fits_tagsOk t0 A sA.1 W0.out)
            have TB := Lib.hid (fits_tagsOk t1 B sB.1 W1.out)
            have PA := Lib.hid (fits_mayC h4 t0.tr_fits sA.1 (by have := L0.out; omega) TA.out MA.out)
            have PB := Lib.hid (fits_mayC h4 t1.tr_fits sB.1 (by have := L1.out; omega) TB.out MB.out)
            have HJ := Lib.hid (jnums (T := .nil) sA sB lA.out)
            clear sA sB HJ
            obtain ⟨hc0, hc1, hc2, -⟩ := cells3 (ss.ext.get HBox.out)
            have HJ := Lib.hid (schJoin_any ss.sch ky vl tg iA iB PA.out.part PB.out.part (by have := CA.out; have := CB.out; have := L0.out; have := L1.out; omega) w8.heap.size (Nat.le_refl _) (news_zero (Nat.le_refl _) iA) (news_zero (Nat.le_refl _) iB))
            unfold itV at HJ
            go_wp2_with fail
            refine HJ.out.mono ?_
            clear HJ hc0 hc1 hc2
            rintro e w9 ⟨x, rfl, BB, SS, T, rfl, iT, ok⟩
            have hcu := ok.count
            have HF := Lib.hid (fresh2_bounds iA iB ok.old ok.new (fun h => by rw [h] at hcu; simp only [show Tr.count Tr.nil = 0 from rfl] at hcu; omega))
            have HM := Lib.hid (ok.news (news_zero (Nat.le_refl _) iA) (news_zero (Nat.le_refl _) iB))
            have PT := Lib.hid (And.intro ok.may (And.intro (ok.tags htg.1 htg.2 TA.out TB.out (by have := CA.out; have := CB.out; have := L0.out; have := L1.out; omega)) hcu))
            replace iA := ss.sch.inh BB iA
            replace iB := ss.sch.inh BB iB
            replace ss := ss.p BB SS
            clear BB SS ok hcu
            have hne : Q ≠ w9.heap.size := by have := ss.sto.lt; omega
            have hX : Ext w9 (w9.alloc (.cells #[.pointer A.ptr, .pointer B.ptr, .pointer T.ptr, .pointer T.ptr] 27)) := (Ext.refl w9).alloc _
            have hR := alloc_at w9 (.cells #[.pointer A.ptr, .pointer B.ptr, .pointer T.ptr, .pointer T.ptr] 27) _ rfl
            have J0 := jnums (T := T) SA.out SB.out lA.out
            obtain ⟨F, hF⟩ : ∃ F, F = freshN [.nil, A, B] T := ⟨_, rfl⟩
            have hFl : F ≤ T.count := hF ▸ freshN_le
            rw [← hF] at J0
            have HJ := Lib.hid J0
            have HL := Lib.hid (show (allT [] [Tr.nil, A, B, T, T]).length ≤ 100000 by rw [J0.all]; have := PT.out.2.2; have := CA.out; have := CB.out; have := L0.out; have := L1.out; omega)
            have hF1 : (1 : Int) ≤ (F : Nat) := by rw [hF]; exact Int.ofNat_le.2 HF.out.1
            have hF2 : ((F : Nat) : Int) ≤ (mostC c A B : Nat) := by rw [hF]; exact Int.ofNat_le.2 (Nat.le_trans HF.out.2.1 HM.out)
            clear J0 hF hFl HF HM
            go_wp2_with fail
            refine (stoPut_any Q P [.nil] [A, B, T, T] _ 4 _ (ss.more hX).sto (trow4 hR) (fun b o h _ => by cases h; exact hne.symm) (by simp)).mono ?_
            rintro e w10 ⟨nv, rfl, BB, mm, own⟩
            obtain ⟨na, nc, rfl⟩ := own.slice
            rw [numsFrom_len]
            obtain ⟨Vs, hVs⟩ : ∃ Vs, Vs = [Tr.nil, A, B, T, T] := ⟨_, rfl⟩
            have s2 : SS V0 P c Q (IntKind.u64.wrap (0 + 1)) Vs w10 := by
              rw [hVs]
              refine (ss.more hX).q BB mm fun U hU => ?_
              rcases List.mem_cons.1 hU with rfl | hU
              · trivial
              rcases List.mem_cons.1 hU with rfl | hU
              · exact iA.ext hX
              rcases List.mem_cons.1 hU with rfl | hU
              · exact iB.ext hX
              rcases List.mem_cons.1 hU with rfl | hU
              · exact iT.ext hX
              · exact (List.mem_singleton.1 hU) ▸ iT.ext hX
            clear ss BB mm own iA iB iT hX hR hne
            have ss := s2
            clear s2
            have HVs := Lib.hid hVs
            have HK4 := Lib.hid (show ∀ U ∈ Vs, MayC c U ∧ TagsOk U ∧ U.count ≤ 2000 by
              have hA := And.intro PA.out (And.intro TA.out (show A.count ≤ 2000 by have := CA.out; have := L0.out; omega))
              have hB := And.intro PB.out (And.intro TB.out (show B.count ≤ 2000 by have := CB.out; have := L1.out; omega))
              have hT := And.intro PT.out.1 (And.intro PT.out.2.1 (show T.count ≤ 2000 by have := PT.out.2.2; have := CA.out; have := CB.out; have := L0.out; have := L1.out; omega))
              intro U hU
              rw [hVs] at hU
              rcases List.mem_cons.1 hU with rfl | hU
              · exact ⟨MayC.nil c, trivial, by decide⟩
              rcases List.mem_cons.1 hU with rfl | hU
              · exact hA
              rcases List.mem_cons.1 hU with rfl | hU
              · exact hB
              rcases List.mem_cons.1 hU with rfl | hU
              · exact hT
              · exact (List.mem_singleton.1 hU) ▸ hT)
            have HT := Lib.hid (fun U hU => (HK4.out U hU).2.1)
            have HC := Lib.hid (fun U hU => Nat.le_trans (HK4.out U hU).2.2 (show 2000 ≤ 4000 by decide))
            have HK := Lib.hid (fun U hU => (HK4.out U hU).1.ck h4 (Nat.lt_of_le_of_lt (HK4.out U hU).2.2 (by decide)))
            clear hVs HK4
            go_wp2_with fail
            refine (stoSound_any V0 P c Q _ Vs w10 ss (fun _ => HT.out) HC.out (by rw [HVs.out]; simp)).mono ?_
            rw [badV_fine HK.out, show Vs.length = 5 by rw [HVs.out]; rfl]
            rintro e w11 ⟨rfl, s2⟩
            clear ss
            have ss := s2
            clear s2
            go_wp2_with fail
            refine (stoFresh_any Q P Vs 3 T _ ss.sto (by rw [HVs.out]; rfl) ss.inh (by rw [HVs.out]; simp) (Nat.le_trans (allT_take_le _) (by rw [HVs.out]; have := HL.out; omega))).mono ?_
            rw [show freshN (Vs.take 3) T = F by rw [HVs.out]; exact HJ.out.f3]
            rintro e w12 ⟨rfl, BB, mm⟩
            replace ss := ss.q BB mm ss.inh
            clear BB mm
            go_wp2_with fail
            refine (stoFresh_any Q P Vs 3 T _ ss.sto (by rw [HVs.out]; rfl) ss.inh (by rw [HVs.out]; simp) (Nat.le_trans (allT_take_le _) (by rw [HVs.out]; have := HL.out; omega))).mono ?_
            rw [show freshN (Vs.take 3) T = F by rw [HVs.out]; exact HJ.out.f3]
            rintro e w13 ⟨rfl, BB, mm⟩
            replace ss := ss.q BB mm ss.inh
            clear BB mm
            go_wp2_with fail
            refine (schMost_any ss.sch (ss.inh A (by rw [HVs.out]; simp)) (ss.inh B (by rw [HVs.out]; simp)) PA.out.part PB.out.part (by have := CA.out; have := CB.out; have := L0.out; have := L1.out; omega)).mono ?_
            rintro e w14 ⟨x, rfl, BB, SS, rfl⟩
            replace ss := ss.p BB SS
            clear BB SS
            go_wp2_with fail
            refine (stoFresh_any Q P Vs 4 T _ ss.sto (by rw [HVs.out]; rfl) ss.inh (by rw [HVs.out]; simp) (Nat.le_trans (allT_take_le _) (by rw [HVs.out]; have := HL.out; omega))).mono ?_
            rw [show freshN (Vs.take 4) T = 0 by rw [HVs.out]; exact HJ.out.f4]
            rintro e w15 ⟨rfl, BB, mm⟩
            replace ss := ss.q BB mm ss.inh
            clear BB mm
            go_wp2_with fail
            refine (stoFresh_any Q P Vs 1 A _ ss.sto (by rw [HVs.out]; rfl) ss.inh (by rw [HVs.out]; simp) (Nat.le_trans (allT_take_le _) (by rw [HVs.out]; have := HL.out; omega))).mono ?_
            rw [show freshN (Vs.take 1) A = t0.enc.length by rw [HVs.out]; exact HJ.out.f1]
            rintro e w16 ⟨rfl, BB, mm⟩
            replace ss := ss.q BB mm ss.inh
            clear BB mm
            go_wp2_with fail
            refine (stoFresh_any Q P Vs 2 B _ ss.sto (by rw [HVs.out]; rfl) ss.inh (by rw [HVs.out]; simp) (Nat.le_trans (allT_take_le _) (by rw [HVs.out]; have := HL.out; omega))).mono ?_
            rw [show freshN (Vs.take 2) B = t1.enc.length by rw [HVs.out]; exact HJ.out.f2]
            rintro e w17 ⟨rfl, BB, mm⟩
            replace ss := ss.q BB mm ss.inh
            clear BB mm
            go_wp2_with fail
            refine (stoNodes_any Q P Vs w17 ss.sto ss.inh (by rw [HVs.out]; simp) (by rw [HVs.out]; have := HL.out; omega)).mono ?_
            rw [show (allT [] Vs).length = t0.enc.length + t1.enc.length + F by rw [HVs.out]; exact HJ.out.all]
            rintro e w18 ⟨rfl, BB, mm⟩
            replace ss := ss.q BB mm ss.inh
            clear BB mm
            go_wp2_with fail
            refine (stoFresh_any Q P Vs 3 T _ ss.sto (by rw [HVs.out]; rfl) ss.inh (by rw [HVs.out]; simp) (Nat.le_trans (allT_take_le _) (by rw [HVs.out]; have := HL.out; omega))).mono ?_
            rw [show freshN (Vs.take 3) T = F by rw [HVs.out]; exact HJ.out.f3]
            rintro e w19 ⟨rfl, BB, mm⟩
            replace ss := ss.q BB mm ss.inh
            clear BB mm
            have l0 := L0.out
            have l1 := L1.out
            have hFl : F ≤ 100000 := by have := HL.out; rw [HJ.out.all] at this; omega
            have hw : ((t0.enc.length : Nat) : Int) + (t1.enc.length : Nat) + (F : Nat) = wrap64 (wrap64 ((t0.enc.length : Nat) + (t1.enc.length : Nat)) + (F : Nat)) := by unfold wrap64; omega
            go_wp2_with fail
            refine (alive36_any w19).mono ?_
            rintro e w20 ⟨rfl, hS⟩
            replace ss := ss.more hS
            have HX := Lib.hid (HE0.out.trans ss.ext)
            clear hS ss
            go_wp2
            go_ret
            exact Ret.mk HX.out
  · go_enter Tryz.func6, Tryz.ntmps6
    go_wp2_with fail
    generalize w.alloc (.cells #[.int .i64 ky, .int .i64 vl, .int .u64 tg] 58) = V0 at *
    have hx := HE0.out
    go_wp2_with fail
    refine (begun_no c hc h4 V0).mono ?_
    rintro e w1 ⟨rfl, hS⟩
    replace hx := hx.trans hS
    clear hS
    cases d0 : (decide (400 < z0.length) || !mayB z0) with
    | true =>
      rw [d0] at HL0
      clear d0
      go_wp2_with fail
      refine (HL0.out _ hx).mono ?_
      rintro e w2 ⟨rfl, hS⟩
      replace hx := hx.trans hS
      clear hS
      go_wp2_with fail
      refine (is22_any c _).mono ?_
      rw [decide_eq_false h4]
      rintro e w3 ⟨rfl, hS⟩
      replace hx := hx.trans hS
      clear hS
      go_wp2_with fail
      refine (alive36_any _).mono ?_
      rintro e w4 ⟨rfl, hS⟩
      replace hx := hx.trans hS
      clear hS
      go_wp2
      go_ret
      exact Ret.mk hx
    | false =>
      rw [d0] at HL0
      clear d0
      go_wp2_with fail
      refine (HL0.out _ hx).mono ?_
      rintro e w2 ⟨rfl, hS⟩
      replace hx := hx.trans hS
      clear hS
      cases d1 : (decide (400 < z1.length) || !mayB z1) with
      | true =>
        rw [d1] at HL1
        clear d1
        go_wp2_with fail
        refine (HL1.out _ hx).mono ?_
        rintro e w3 ⟨rfl, hS⟩
        replace hx := hx.trans hS
        clear hS
        go_wp2_with fail
        refine (is22_any c _).mono ?_
        rw [decide_eq_false h4]
        rintro e w4 ⟨rfl, hS⟩
        replace hx := hx.trans hS
        clear hS
        go_wp2_with fail
        refine (alive36_any _).mono ?_
        rintro e w5 ⟨rfl, hS⟩
        replace hx := hx.trans hS
        clear hS
        go_wp2
        go_ret
        exact Ret.mk hx
      | false =>
        rw [d1] at HL1
        clear d1
        go_wp2_with fail
        refine (HL1.out _ hx).mono ?_
        rintro e w3 ⟨rfl, hS⟩
        replace hx := hx.trans hS
        clear hS
        go_wp2_with fail
        refine (is22_any c _).mono ?_
        rw [decide_eq_false h4]
        rintro e w4 ⟨rfl, hS⟩
        replace hx := hx.trans hS
        clear hS
        go_wp2_with fail
        refine (alive36_any _).mono ?_
        rintro e w5 ⟨rfl, hS⟩
        replace hx := hx.trans hS
        clear hS
        go_wp2
        go_ret
        exact Ret.mk hx
theorem storeJoins_row (c : Int) (a0 : Option Addr) (len0 cap0 : Nat) (z0 : List BeadL) (a1 : Option Addr) (len1 cap1 : Nat) (z1 : List BeadL) (ky vl tg : Int) (w : World) (hc : (Lit.int .u8 c).wf = true) (w0 : IsBeads w (.slice a0 len0 cap0) z0) (w1 : IsBeads w (.slice a1 len1 cap1) z1) (htg : 0 ≤ tg ∧ tg < 18446744073709551616) :
    Calls Tryz.prog 6 #[.int .u8 c, .slice a0 len0 cap0, .slice a1 len1 cap1, itV ky vl tg] w (Ret (.bool true) w) := by
  obtain ⟨m, rfl, hm⟩ := u8_nat hc
  exact storeJoins_walk m hm a0 len0 cap0 z0 a1 len1 cap1 z1 ky vl tg w w0 w1 htg
end Go.Proofs.YtjiiokhjajfhjaaGreat
