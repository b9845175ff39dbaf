/- The walk of PickTells. Arguments that are slices of structs, opened to cells: the theorem of the kit's page 'extra-structs', and a row of beads by it. -/
import Derived.Deep.Slices
import Derived.Deep.Fields
import Derived.ChangeSame
import Derived.OpenShut
import Derived.ProofKit
import Derived.Test.YtoiohjifjmejkaaGreatM2
import Derived.Test.YtoiohjifjmejkaaGreatM51
import Derived.Test.YtoiohjifjmejkaaGreatM52
namespace Go.Proofs.YtoiohjifjmejkaaGreat
open Go Go.RowKit

theorem pik_len (c kd : Nat) (a b : Int) (nt : Bool) (T : Tr) (h : T.count ≤ 400) : wrap64 (((T.inl.map kvT).filter (tkP kd a b nt)).length : Nat) = ((((itsC c T).filter (tkI kd a b nt)).length : Nat) : Int) := by
  rw [inl_kv c T, List.filter_map, List.length_map]
  have e : (tkP kd a b nt ∘ fun z : Int × Int × Int => (z.1, z.2.1)) = tkI kd a b nt := rfl
  rw [e]
  have := List.length_filter_le (tkI kd a b nt) (itsC c T)
  rw [itsC_len] at this
  unfold wrap64; omega
theorem has_of {c : Nat} {A : Tr} {zs : List (Int × Int × Int)} (h : itsC c A = zs) : zs.map (itC c) = itsC c A := by rw [← h]; exact itsC_idem c A
theorem filt_le {c : Nat} {T A : Tr} {f : Int × Int × Int → Bool} (h : itsC c A = (itsC c T).filter f) (hc : T.count ≤ 400) : A.count ≤ 400 := by
  rw [← itsC_len c A, h]
  have := List.length_filter_le f (itsC c T)
  rw [itsC_len] at this
  omega
set_option maxRecDepth 100000 in
set_option maxHeartbeats 4000000 in
theorem pickTells_walk (c : Nat) (hc : c < 256) (kd : Nat) (a b : Int) (nt : Bool) (hk : kd < 256) (ha : I64 a) (hb : I64 b) (a0 : Option Addr) (len0 cap0 : Nat) (z0 : List BeadL) (w : World) (w0 : IsBeads w (.slice a0 len0 cap0) z0) :
    Calls Tryz.prog 3 #[.int .u8 c, .agg #[.int .u8 kd, .int .i64 a, .int .i64 b, .bool nt], .slice a0 len0 cap0] w (Ret (.bool true) w) := by
  have hund : undef = Value.tuple #[] := rfl
  by_cases h4 : 1 ≤ c ∧ c ≤ 4
  · have HOF := Lib.hid (fun W => of22_yes c h4 W)
    have H4 := Lib.hid h4
    have HK := Lib.hid (And.intro hk (And.intro ha hb))
    have q0 := parted_or h4 w0
    clear h4 w0 ha hb
    rcases q0 with q0 | ⟨t0, -, rfl, l0, p0, b0, v0, q0⟩
    · have Q0 := Lib.hid q0
      clear q0 hk
      have hE := (Ext.refl w).alloc (.cells #[.int .u8 kd, .int .i64 a, .int .i64 b, .bool nt] 23)
      have hp1 := alloc_at w (.cells #[.int .u8 kd, .int .i64 a, .int .i64 b, .bool nt] 23) _ rfl
      have hs1 : (w.alloc (.cells #[.int .u8 kd, .int .i64 a, .int .i64 b, .bool nt] 23)).heap.size = w.heap.size + 1 := by simp
      go_enter Tryz.func3, Tryz.ntmps3
      go_wp2_with fail
      have HE1 := Lib.hid (And.intro hE (And.intro hp1 hs1))
      clear hE hp1 hs1
      generalize w.alloc (.cells #[.int .u8 kd, .int .i64 a, .int .i64 b, .bool nt] 23) = w1 at *
      refine (HOF.out w1).mono ?_
      rintro e w2 ⟨P, rfl, st⟩
      have hx := HE1.out.1.trans st.ext
      clear st
      go_wp2_with fail
      refine (Q0.out w2 hx).mono ?_
      rintro e w3 ⟨rfl, hS⟩
      replace hx := hx.trans hS
      clear hS
      go_wp2_with fail
      refine (is22_any c _).mono ?_
      rw [decide_eq_true H4.out]
      rintro e w21 ⟨rfl, hS⟩
      replace hx := hx.trans hS
      clear hS
      go_wp2_with fail
      refine (nothing30_any _).mono ?_
      rintro e w22 ⟨rfl, hS⟩
      replace hx := hx.trans hS
      clear hS
      go_wp2_with fail
      refine (alive30_any _).mono ?_
      rintro e w23 ⟨rfl, hS⟩
      replace hx := hx.trans hS
      clear hS
      go_wp2
      go_ret
      exact Ret.mk hx
    · have Q0 := Lib.hid q0
      have Lt0 := Lib.hid l0
      have Pt0 := Lib.hid p0
      have HB0 := Lib.hid b0
      have Wt0 := Lib.hid v0
      clear q0 l0 p0 b0 v0 hk
      cases hm : sMay kd a b with
      | false =>
        have HM := Lib.hid hm
        clear hm
        have hE := (Ext.refl w).alloc (.cells #[.int .u8 kd, .int .i64 a, .int .i64 b, .bool nt] 23)
        have hp1 := alloc_at w (.cells #[.int .u8 kd, .int .i64 a, .int .i64 b, .bool nt] 23) _ rfl
        have hs1 : (w.alloc (.cells #[.int .u8 kd, .int .i64 a, .int .i64 b, .bool nt] 23)).heap.size = w.heap.size + 1 := by simp
        go_enter Tryz.func3, Tryz.ntmps3
        go_wp2_with fail
        have HE1 := Lib.hid (And.intro hE (And.intro hp1 hs1))
        clear hE hp1 hs1
        generalize w.alloc (.cells #[.int .u8 kd, .int .i64 a, .int .i64 b, .bool nt] 23) = w1 at *
        refine (HOF.out w1).mono ?_
        rintro e w2 ⟨P, rfl, st0⟩
        have st : St w P c 0 w2 := ⟨HE1.out.1.trans st0.ext, Nat.le_trans HE1.out.1.size st0.new, st0.sch⟩
        have HNP := Lib.hid (show w.heap.size ≠ P by have := st0.new; have := HE1.out.2.2; omega)
        have HPR := Lib.hid (st0.ext.get HE1.out.2.1)
        clear st0
        go_wp2_with fail
        refine (Q0.out w2 st.ext).mono ?_
        rintro e w3 ⟨rfl, hS⟩
        replace st := st.more hS
        replace HPR := Lib.hid (hS.get HPR.out)
        clear hS
        go_wp2_with fail
        refine (beadsMakeD_any t0 w3 _ (HB0.out.ext st.ext) Lt0.out).mono ?_
        rintro e w4 ⟨T, rfl, iT, sT, hS⟩
        replace st := st.more hS
        replace HPR := Lib.hid (hS.get HPR.out)
        have SF := Lib.hid sT.1
        have MT := Lib.hid (made_part H4.out sT.1 Wt0.out Lt0.out Pt0.out)
        have CT := Lib.hid (show T.count ≤ 400 by rw [MT.out.2.2]; exact Lt0.out)
        clear hS sT
        obtain ⟨p0, p1, p2, p3⟩ := cells4 HPR.out
        go_wp2_with fail
        clear p0 p1 p2 p3
        refine (pikKeep_bad w4 _ kd a b nt HK.out.1 _ HM.out).mono ?_
        rintro e w5 ⟨rfl, h5⟩
        have hx := st.ext.trans h5
        obtain ⟨p0, p1, p2, p3⟩ := cells4 (h5.get HPR.out)
        have HP5 := Lib.hid (h5.get HPR.out)
        clear h5 st HPR
        go_wp2_with fail
        clear p0 p1 p2 p3
        refine (pikParts_bad w5 _ kd a b nt HK.out.1 _ HM.out).mono ?_
        rintro e w6 ⟨rfl, h6⟩
        replace hx := hx.trans h6
        have HP6 := Lib.hid (h6.get HP5.out)
        obtain ⟨p0, p1, p2, p3⟩ := cells4 HP6.out
        clear h6 HP5
        go_wp2_with fail
        clear p0 p1 p2 p3
        refine (pikCount_bad w6 kd a b nt HK.out.1 _ HM.out).mono ?_
        rintro e w7 ⟨rfl, h7⟩
        replace hx := hx.trans h7
        have HP7 := Lib.hid (h7.get HP6.out)
        obtain ⟨p0, p1, p2, p3⟩ := cells4 HP7.out
        clear h7 HP6
        go_wp2_with fail
        clear p0 p1 p2 p3
        have hrm := refMay_any w7 kd a b nt HK.out.2.1
        rw [HM.out] at hrm
        refine hrm.mono ?_
        clear hrm
        rintro e w8 ⟨rfl, h8⟩
        replace hx := hx.trans h8
        clear h8
        go_wp2_with fail
        refine (alive30_any _).mono ?_
        rintro e w9 ⟨rfl, hS⟩
        replace hx := hx.trans hS
        clear hS
        go_wp2
        go_ret
        exact Ret.mk hx
      | true =>
        have HM := Lib.hid hm
        clear hm
        have hE := (Ext.refl w).alloc (.cells #[.int .u8 kd, .int .i64 a, .int .i64 b, .bool nt] 23)
        have hp1 := alloc_at w (.cells #[.int .u8 kd, .int .i64 a, .int .i64 b, .bool nt] 23) _ rfl
        have hs1 : (w.alloc (.cells #[.int .u8 kd, .int .i64 a, .int .i64 b, .bool nt] 23)).heap.size = w.heap.size + 1 := by simp
        go_enter Tryz.func3, Tryz.ntmps3
        go_wp2_with fail
        have HE1 := Lib.hid (And.intro hE (And.intro hp1 hs1))
        clear hE hp1 hs1
        generalize w.alloc (.cells #[.int .u8 kd, .int .i64 a, .int .i64 b, .bool nt] 23) = w1 at *
        refine (HOF.out w1).mono ?_
        rintro e w2 ⟨P, rfl, st0⟩
        have st : St w P c 0 w2 := ⟨HE1.out.1.trans st0.ext, Nat.le_trans HE1.out.1.size st0.new, st0.sch⟩
        have HNP := Lib.hid (show w.heap.size ≠ P by have := st0.new; have := HE1.out.2.2; omega)
        have HPR := Lib.hid (st0.ext.get HE1.out.2.1)
        clear st0
        go_wp2_with fail
        refine (Q0.out w2 st.ext).mono ?_
        rintro e w3 ⟨rfl, hS⟩
        replace st := st.more hS
        replace HPR := Lib.hid (hS.get HPR.out)
        clear hS
        go_wp2_with fail
        refine (beadsMakeD_any t0 w3 _ (HB0.out.ext st.ext) Lt0.out).mono ?_
        rintro e w4 ⟨T, rfl, iT, sT, hS⟩
        replace st := st.more hS
        replace HPR := Lib.hid (hS.get HPR.out)
        have SF := Lib.hid sT.1
        have MT := Lib.hid (made_part H4.out sT.1 Wt0.out Lt0.out Pt0.out)
        have CT := Lib.hid (show T.count ≤ 400 by rw [MT.out.2.2]; exact Lt0.out)
        clear hS sT
        obtain ⟨p0, p1, p2, p3⟩ := cells4 HPR.out
        go_wp2_with fail
        clear p0 p1 p2 p3
        refine (pikKeep_any P c _ w4 kd a b nt HK.out.1 T HM.out st.sch iT MT.out.1 (Nat.le_trans CT.out (by decide))).mono ?_
        rintro e w5 ⟨A, m5, rfl, B5, S5, iA, mA, jA⟩
        have s5 := st.does B5 S5
        replace iT := st.sch.inh B5 iT
        replace HPR := Lib.hid (B5.get (by simp; exact HNP.out) HPR.out)
        obtain ⟨p0, p1, p2, p3⟩ := cells4 HPR.out
        have HA := Lib.hid (And.intro mA jA)
        clear st B5 S5 mA jA
        go_wp2_with fail
        clear p0 p1 p2 p3
        refine (pikParts_any P c _ w5 kd a b nt HK.out.1 T HM.out s5.sch iT MT.out.1 (Nat.le_trans CT.out (by decide))).mono ?_
        rintro e w6 ⟨A2, C2, m6, rfl, B6, S6, iA2, iC2, k6⟩
        have s6 := s5.does B6 S6
        replace iT := s5.sch.inh B6 iT
        replace iA := s5.sch.inh B6 iA
        replace HPR := Lib.hid (B6.get (by simp; exact HNP.out) HPR.out)
        obtain ⟨p0, p1, p2, p3⟩ := cells4 HPR.out
        have HA2 := Lib.hid (And.intro k6.mayA k6.itsA)
        have HC2 := Lib.hid (And.intro k6.mayB k6.itsB)
        clear s5 B6 S6 k6
        have HCN := Lib.hid (pikCount_any w6 kd a b nt HK.out.1 T HM.out iT)
        rw [pik_len c kd a b nt T CT.out] at HCN
        go_wp2_with fail
        clear p0 p1 p2 p3
        refine HCN.out.mono ?_
        rintro e w7 ⟨rfl, h7⟩
        replace HPR := Lib.hid (h7.get HPR.out)
        obtain ⟨p0, p1, p2, p3⟩ := cells4 HPR.out
        have s7 := s6.more h7
        replace iT := iT.ext h7
        replace iA := iA.ext h7
        replace iA2 := iA2.ext h7
        replace iC2 := iC2.ext h7
        clear s6 h7 HCN
        go_wp2_with fail
        clear p0 p1 p2 p3
        have hrm := refMay_any w7 kd a b nt HK.out.2.1
        rw [HM.out] at hrm
        refine hrm.mono ?_
        clear hrm
        rintro e w8 ⟨rfl, h8⟩
        replace HPR := Lib.hid (h8.get HPR.out)
        obtain ⟨p0, p1, p2, p3⟩ := cells4 HPR.out
        have HI8 := Lib.hid (And.intro (s7.ext.trans h8) (And.intro (iT.ext h8) (And.intro (iA.ext h8) (And.intro (iA2.ext h8) (iC2.ext h8)))))
        clear s7 h8 iT iA iA2 iC2
        have hfn : ∀ f, Fence.wide.fn f := fun _ => trivial
        obtain ⟨mm⟩ : Nonempty Nat := ⟨0⟩
        go_wp2_with fail
        refine (wpIn_wide (n := mm)).1 ?_
        gi_wp2_with fail
        replace p0 := cell_all p0
        replace p1 := cell_all p1
        replace p2 := cell_all p2
        replace p3 := cell_all p3
        have hx := Ext.drew w8
        refine wpIn_region_G (fun j => !(List.contains (α := Nat) [] j)) (by kernel_rfl) ?_
        refine batchG hfn (fuel := 7) [0, 1, 2] (by kernel_rfl) rfl ?_
        repeat (go_big_quiet_step ((fail)))
        refine wpQuiet_nil ?_
        clear p0 p1 p2 p3
        refine wpAnyG_one (j := 3) (by kernel_rfl) rfl ?_
        gi_wp2_with fail
        refine ⟨wide_room _, (callsIn_wide.2 (items22_any c H4.out t0 _ _ (HB0.out.ext (HI8.out.1.trans hx)) (Nat.le_trans Lt0.out (by decide)))).mono ?_⟩
        rw [← fits_itsC c SF.out]
        rintro e w9 ⟨v9, rfl, o9, h9⟩
        gi_wp2_with fail
        refine onePost_ext (h9) ?_
        replace hx := hx.trans h9
        clear h9
        refine wpAnyG_one (j := 4) (by kernel_rfl) rfl ?_
        gi_wp2_with fail
        refine ⟨wide_room _, (callsIn_wide.2 (refParts_any w9 kd a b nt HK.out.2.1 HK.out.2.2 v9 (itsC c T) o9.row (by rw [itsC_len]; exact Nat.le_trans CT.out (by decide)))).mono ?_⟩
        rintro e w10 ⟨v10, u10, rfl, ov, ou, h10⟩
        obtain ⟨va, vc, rfl⟩ := ov.sized
        obtain ⟨ua, uc, rfl⟩ := ou.sized
        gi_wp2_with fail
        refine onePost_ext (h10) ?_
        replace hx := hx.trans h10
        refine batchG hfn (fuel := 0) [5, 6, 7, 8, 9] (by kernel_rfl) rfl ?_
        repeat (go_big_quiet_step ((fail)))
        refine wpQuiet_nil ?_
        refine wpAnyG_done (by kernel_rfl) ?_
        refine calmQ_normal ?_
        have HR := Lib.hid (And.intro ov.row ou.row)
        have HI := Lib.hid (And.intro (HI8.out.1.trans hx) (And.intro (HI8.out.2.1.ext hx) (And.intro (HI8.out.2.2.1.ext hx) (And.intro (HI8.out.2.2.2.1.ext hx) (HI8.out.2.2.2.2.ext hx)))))
        clear hx h10 o9 ov ou HI8
        go_wp2_with fail
        refine (has23_any c H4.out A _ _ vc _ HI.out.2.2.1 HR.out.1 (has_of HA.out.2) HA.out.1 (fun h => HA.out.1.part.tags (by omega) H4.out (Nat.lt_of_le_of_lt (filt_le HA.out.2 CT.out) (by decide))) (Nat.le_trans (filt_le HA.out.2 CT.out) (by decide))).mono ?_
        rintro e w11 ⟨rfl, hx⟩
        go_wp2_with fail
        refine (has23_any c H4.out A2 _ _ vc _ (HI.out.2.2.2.1.ext hx) (HR.out.1.ext hx) (has_of HA2.out.2) HA2.out.1 (fun h => HA2.out.1.part.tags (by omega) H4.out (Nat.lt_of_le_of_lt (filt_le HA2.out.2 CT.out) (by decide))) (Nat.le_trans (filt_le HA2.out.2 CT.out) (by decide))).mono ?_
        rintro e w12 ⟨rfl, h12⟩
        replace hx := hx.trans h12
        clear h12
        go_wp2_with fail
        refine (has23_any c H4.out C2 _ _ uc _ (HI.out.2.2.2.2.ext hx) (HR.out.2.ext hx) (has_of HC2.out.2) HC2.out.1 (fun h => HC2.out.1.part.tags (by omega) H4.out (Nat.lt_of_le_of_lt (filt_le HC2.out.2 CT.out) (by decide))) (Nat.le_trans (filt_le HC2.out.2 CT.out) (by decide))).mono ?_
        rintro e w13 ⟨rfl, h13⟩
        replace hx := hx.trans h13
        clear h13
        go_wp2_with fail
        refine (of_any t0 w13 _ (HB0.out.ext (HI.out.1.trans hx)) (Nat.le_trans Lt0.out (by decide))).mono ?_
        rintro e w14 ⟨v14, rfl, o14, h14⟩
        replace hx := hx.trans h14
        have O14 := Lib.hid o14.beads
        clear h14 o14
        go_wp2_with fail
        refine (is_any w14 T v14 (HI.out.2.1.ext hx) (by rw [fits_beads SF.out (Nat.le_trans Lt0.out (by decide))]; exact O14.out) (Nat.le_trans CT.out (by decide))).mono ?_
        rintro e w15 ⟨rfl, h15⟩
        replace hx := hx.trans h15
        clear h15
        go_wp2_with fail
        refine (nothing30_any _).mono ?_
        rintro e w16 ⟨rfl, hS⟩
        replace hx := hx.trans hS
        clear hS
        go_wp2_with fail
        refine (alive30_any _).mono ?_
        rintro e w17 ⟨rfl, hS⟩
        replace hx := hx.trans hS
        clear hS
        go_wp2
        go_ret
        exact Ret.mk (HI.out.1.trans hx)
  · have HOF := Lib.hid (fun W => of22_no c hc h4 W)
    have HPP := Lib.hid (fun W => parted_no c h4 (.slice a0 len0 cap0) W)
    have H4 := Lib.hid h4
    clear h4 w0 hk ha hb
    have hE := (Ext.refl w).alloc (.cells #[.int .u8 kd, .int .i64 a, .int .i64 b, .bool nt] 23)
    have hp1 := alloc_at w (.cells #[.int .u8 kd, .int .i64 a, .int .i64 b, .bool nt] 23) _ rfl
    have hs1 : (w.alloc (.cells #[.int .u8 kd, .int .i64 a, .int .i64 b, .bool nt] 23)).heap.size = w.heap.size + 1 := by simp
    go_enter Tryz.func3, Tryz.ntmps3
    go_wp2_with fail
    have HE1 := Lib.hid (And.intro hE (And.intro hp1 hs1))
    clear hE hp1 hs1
    generalize w.alloc (.cells #[.int .u8 kd, .int .i64 a, .int .i64 b, .bool nt] 23) = w1 at *
    refine (HOF.out w1).mono ?_
    rintro e w2 ⟨rfl, hS⟩
    have hx := HE1.out.1.trans hS
    clear hS
    go_wp2_with fail
    refine (HPP.out w2).mono ?_
    rintro e w3 ⟨rfl, hS⟩
    replace hx := hx.trans hS
    clear hS
    go_wp2_with fail
    refine (is22_any c _).mono ?_
    rw [decide_eq_false H4.out]
    rintro e w21 ⟨rfl, hS⟩
    replace hx := hx.trans hS
    clear hS
    go_wp2_with fail
    refine (nothing30_any _).mono ?_
    rintro e w22 ⟨rfl, hS⟩
    replace hx := hx.trans hS
    clear hS
    go_wp2_with fail
    refine (alive30_any _).mono ?_
    rintro e w23 ⟨rfl, hS⟩
    replace hx := hx.trans hS
    clear hS
    go_wp2
    go_ret
    exact Ret.mk hx
theorem pickTells_row (c : Int) (kd : Nat) (a b : Int) (nt : Bool) (a0 : Option Addr) (len0 cap0 : Nat) (z0 : List BeadL) (w : World) (hc : (Lit.int .u8 c).wf = true) (hk : kd < 256) (ha : I64 a) (hb : I64 b) (w0 : IsBeads w (.slice a0 len0 cap0) z0) :
    Calls Tryz.prog 3 #[.int .u8 c, .agg #[.int .u8 kd, .int .i64 a, .int .i64 b, .bool nt], .slice a0 len0 cap0] w (Ret (.bool true) w) := by
  obtain ⟨m, rfl, hm⟩ := u8_nat hc
  exact pickTells_walk m hm kd a b nt hk ha hb a0 len0 cap0 z0 w w0
end Go.Proofs.YtoiohjifjmejkaaGreat
namespace Go.Proofs.YtoiohjifjmejkaaGreat
open Go Go.ChangeShapes Go.WideShapes Go.Deep
section
variable {H : Type} {enc : TypeId × Value → H} {P : Program} {w : World} {base : Nat} {spare : Nat → Bool} {held : Bool}
theorem open_slice_fields {t e : TypeId} {fs : Array Field} {fuel : Nat} {cs : List Value} {x : DataW H × List MemPlace} (ht : P.underlying t = some (.slice e)) (he : P.underlying e = some (.struct fs))
    (hone : oneCellFields P fs = true) (hC : P.cellsOf e = fs.size) (h : DataW.trod enc P w base spare held fuel t cs = some x) :
    (cs = [.slice none 0 0] ∧ x = (.nil, [])) ∨
    ∃ (a : Addr) (len cap m : Nat) (D : Nat → DataW H) (Pl : Nat → List MemPlace), cs = [.slice (some a) len cap] ∧ base ≤ a.block ∧ len ≤ cap ∧ cap ≤ maxLen ∧ m = (if spare a.block then cap else len) ∧
      x = (.slice ((List.range len).map D) ((List.range (m - len)).map fun j => D (len + j)), MemPlace.row a (m * fs.size) ++ (List.range m).flatMap Pl) ∧
      ∀ i, i < m → ∃ (ys : List (DataW H × List MemPlace)) (n : Nat), D i = .agg (ys.map (·.1)) ∧ Pl i = ys.flatMap (·.2) ∧ ys.length = fs.size ∧
        ∀ (j : Nat) (f : Field), fs[j]? = some f → ∃ (v : Value) (y : DataW H × List MemPlace), w.cell? (a.add (i * fs.size + j)) = some v ∧ ys[j]? = some y ∧ DataW.trod enc P w base spare held n f.type [v] = some y := by
  rcases open_slice ht h with h0 | ⟨a, len, cap, m, n, D, Pl, hcs, hb, hl, hm, hmm, hx, hi⟩
  · exact .inl h0
  · refine .inr ⟨a, len, cap, m, D, Pl, hcs, hb, hl, hm, hmm, by rw [hC] at hx; exact hx, fun i him => ?_⟩
    obtain ⟨cs', hc, ht'⟩ := hi i him
    rw [hC] at hc
    obtain ⟨ys, n', hn', hy, hlen, hyl, hf⟩ := DataW.trod_struct he ht'
    obtain ⟨_, hcl, hat⟩ := World.cells?_some hc
    simp only [Prod.mk.injEq] at hy
    refine ⟨ys, n', hy.1, hy.2, hyl, fun j f hj => ?_⟩
    obtain ⟨ho, hk⟩ := hone_of hone j f hj
    have hjl : j < fs.size := (Array.getElem?_eq_some_iff.1 hj).1
    have hcell := hat j hjl
    have hv : cs'[j]? = some (cs'[j]'(by omega)) := List.getElem?_eq_getElem (by omega)
    have h1 := hf j f hj
    rw [ho, hk] at h1
    have hone' : (cs'.drop j).take 1 = [cs'[j]'(by omega)] := by
      rw [List.drop_eq_getElem_cons (by omega)]
      rfl
    rw [hone'] at h1
    have hys : ys[j]? = some (ys[j]'(by omega)) := List.getElem?_eq_getElem (by omega)
    refine ⟨_, _, ?_, hys, h1.trans hys⟩
    rw [← Go.Deep.add_add, hcell, hv]
end

theorem open_beads {H : Type} {enc : TypeId × Value → H} {w : World} {base : Nat} {spare : Nat → Bool} {held : Bool} {a : Option Addr} {len cap : Nat} {d : DataW H} {q : List MemPlace}
    (h : DataW.Trod enc Tryz.prog w base spare held 24 (.slice a len cap) d q) : ∃ zs, IsBeads w (.slice a len cap) zs := by
  obtain ⟨fuel, hf⟩ := h
  rcases open_slice_fields Tryz.underlying24 Tryz.underlying68 (by kernel_rfl) (by kernel_rfl) hf with ⟨hcs, _⟩ | ⟨x, l, c, m, D, Pl, hcs, _, hl, hm, hmm, _, hi⟩
  · simp [Value.cells] at hcs
    obtain ⟨rfl, rfl, rfl⟩ := hcs
    exact ⟨[], .inl ⟨rfl, _, _, rfl⟩, by simp⟩
  · simp [Value.cells] at hcs
    obtain ⟨rfl, rfl, rfl⟩ := hcs
    have hlm : len ≤ m := by rw [hmm]; split <;> omega
    have hz : ∀ i, ∃ z : BeadL, z.wf ∧ (i < len → ∀ j u, z.cells[j]? = some u → w.cell? (x.add (i * 7 + j)) = some u) := by
      intro i
      by_cases hil : i < len
      · obtain ⟨ys, n, _, _, _, hfi⟩ := hi i (by omega)
        obtain ⟨v0, y0, c0, _, t0⟩ := hfi 0 _ rfl
        obtain ⟨v1, y1, c1, _, t1⟩ := hfi 1 _ rfl
        obtain ⟨v2, y2, c2, _, t2⟩ := hfi 2 _ rfl
        obtain ⟨v3, y3, c3, _, t3⟩ := hfi 3 _ rfl
        obtain ⟨v4, y4, c4, _, t4⟩ := hfi 4 _ rfl
        obtain ⟨v5, y5, c5, _, t5⟩ := hfi 5 _ rfl
        obtain ⟨v6, y6, c6, _, t6⟩ := hfi 6 _ rfl
        obtain ⟨n0, h0, -, f0⟩ := DataW.trod_int (k := .i64) Tryz.underlying2 t0
        obtain ⟨n1, h1, -, f1⟩ := DataW.trod_int (k := .i64) Tryz.underlying2 t1
        obtain ⟨n2, h2, -, f2⟩ := DataW.trod_int (k := .i64) Tryz.underlying2 t2
        obtain ⟨n3, h3, -, f3⟩ := DataW.trod_int (k := .i64) Tryz.underlying3 t3
        obtain ⟨n4, h4, -, f4⟩ := DataW.trod_int (k := .u64) Tryz.underlying64 t4
        obtain ⟨n5, h5, -⟩ := DataW.trod_bool Tryz.underlying4 t5
        obtain ⟨n6, h6, -⟩ := DataW.trod_bool Tryz.underlying4 t6
        simp only [List.cons.injEq, and_true] at h0 h1 h2 h3 h4 h5 h6
        subst h0 h1 h2 h3 h4 h5 h6
        refine ⟨⟨n0, n1, n2, n3, n4, n5, n6⟩, ⟨f0, f1, f2, f3, f4⟩, fun _ j u hj => ?_⟩
        match j, hj with
        | 0, hj => cases hj; exact c0
        | 1, hj => cases hj; exact c1
        | 2, hj => cases hj; exact c2
        | 3, hj => cases hj; exact c3
        | 4, hj => cases hj; exact c4
        | 5, hj => cases hj; exact c5
        | 6, hj => cases hj; exact c6
        | j + 7, hj => simp [BeadL.cells] at hj
      · exact ⟨⟨0, 0, 0, 0, 0, false, false⟩, ⟨by decide, by decide, by decide, by decide, by decide⟩, fun h => absurd h hil⟩
    obtain ⟨f, hfz⟩ := Classical.axiomOfChoice hz
    by_cases h0 : len = 0
    · subst h0
      exact ⟨[], .inl ⟨rfl, _, _, rfl⟩, by simp⟩
    · obtain ⟨b, off, spot⟩ := x
      have hsp := (hfz 0).2 (by omega) 0 _ rfl
      obtain rfl : spot = none := by simpa [Addr.add] using World.cell?_spot hsp
      refine ⟨(List.range len).map f, .inr ⟨b, off, cap, by simp, by simp; omega, by simpa using hl, ?_⟩, ?_⟩
      rotate_left
      · intro z hz
        obtain ⟨i, _, rfl⟩ := List.mem_map.1 hz
        exact (hfz i).1
      intro q u hq
      have hlt : q < (beadCells ((List.range len).map f)).length := (List.getElem?_eq_some_iff.1 hq).1
      rw [beadCells_len, List.length_map, List.length_range] at hlt
      obtain ⟨i, j, rfl, hj⟩ : ∃ i j, q = i * 7 + j ∧ j < 7 := ⟨q / 7, q % 7, by omega, by omega⟩
      have hil : i < len := by omega
      rw [beadCells_at _ i (f i) j (by simp [hil]) hj] at hq
      have := (hfz i).2 hil j u hq
      rwa [Addr.add_mid] at this
end Go.Proofs.YtoiohjifjmejkaaGreat
