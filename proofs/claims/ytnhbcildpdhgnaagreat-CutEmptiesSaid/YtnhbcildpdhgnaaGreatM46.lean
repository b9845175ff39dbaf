/- The walk of CutEnds. -/
import Derived.Test.YtnhbcildpdhgnaaGreatM5
import Derived.Test.YtnhbcildpdhgnaaGreatM38
import Derived.Test.YtnhbcildpdhgnaaGreatM39
import Derived.Test.YtnhbcildpdhgnaaGreatM45
namespace Go.Proofs.YtnhbcildpdhgnaaGreat
open Go Go.RowKit

theorem icells_at {w : World} {b o : Nat} {zs : List (Int × Int × Int)} (hr : w.rangeAt b o (itemCells zs)) {i : Nat} {z : Int × Int × Int} (hi : zs[i]? = some z) :
    w.cell? ⟨b, o + i * 3, none⟩ = some (.int .i64 z.1) ∧ w.cell? ⟨b, o + i * 3 + 1, none⟩ = some (.int .i64 z.2.1) ∧ w.cell? ⟨b, o + i * 3 + 2, none⟩ = some (.int .u64 z.2.2) :=
  ⟨item_cell hr hi (j := 0) rfl, item_cell hr hi (j := 1) rfl, item_cell hr hi (j := 2) rfl⟩
set_option maxHeartbeats 1000000 in
theorem last23_any (w : World) (b o c : Nat) (zs : List (Int × Int × Int)) (z : Int × Int × Int) (hr : w.rangeAt b o (itemCells (zs ++ [z]))) (hl : zs.length ≤ 5000) (hcap : zs.length + 1 ≤ c) :
    Calls Tryz.prog 20 #[.slice (some ⟨b, o, none⟩) (zs.length + 1) c] w (Ret (.tuple #[.slice (some ⟨b, o, none⟩) zs.length c, itV z.1 z.2.1 z.2.2, .bool true]) w) := by
  have hE := (Ext.refl w).alloc (.cells #[.int .i64 0, .int .i64 0, .int .u64 0] 43)
  have hb := alloc_at w (.cells #[.int .i64 0, .int .i64 0, .int .u64 0] 43) _ rfl
  obtain ⟨c0, c1, c2⟩ := icells_at (rangeAt_ext hr hE) (i := zs.length) (z := z) (by simp)
  obtain ⟨d0, d1, d2, df⟩ := cells3 hb
  have hsz : w.heap.size < (w.alloc (.cells #[.int .i64 0, .int .i64 0, .int .u64 0] 43)).heap.size := by simp
  clear hr
  go_enter Tryz.func20, Tryz.ntmps20
  go_wp2_with fail
  generalize w.alloc (.cells #[.int .i64 0, .int .i64 0, .int .u64 0] 43) = w1 at *
  have hcap2 : (zs.length : Int) ≤ (c : Int) := by omega
  clear hsz
  obtain ⟨hr5, h5⟩ := put3_at hb (.int .i64 z.1) (.int .i64 z.2.1) (.int .u64 z.2.2)
  unfold put3 at hr5 h5
  have HF := Lib.hid (And.intro hr5 (Bt.out hE (by simp) h5))
  clear hr5 h5 hE hb
  go_region
  go_wp2
  clear c0 c1 c2 d0 d1 d2 df
  generalize ((w1.setCell ⟨w.heap.size, 0, none⟩ (.int .i64 z.1)).setCell ⟨w.heap.size, 1, none⟩ (.int .i64 z.2.1)).setCell ⟨w.heap.size, 2, none⟩ (.int .u64 z.2.2) = w5 at *
  have hd : Ext w5 w5.drew := Ext.drew _
  obtain ⟨e0, e1, e2, -⟩ := cells3 (hd.get HF.out.1)
  refine bodyPost_ret (v := .tuple #[.slice (some ⟨b, o, none⟩) zs.length c, itV z.1 z.2.1 z.2.2, .bool true]) ?_ rfl ⟨rfl, HF.out.2.trans hd⟩
  simp [results, Tryz.results20, go_sem, e0, e1, e2, itV]
theorem irow3_front {w : World} {b o c : Nat} {zs : List (Int × Int × Int)} {z : Int × Int × Int} (hr : w.rangeAt b o (itemCells (zs ++ [z]))) (hc : zs.length ≤ c) : IRow3 w (.slice (some ⟨b, o, none⟩) zs.length c) zs := by
  by_cases h0 : zs = []
  · subst h0; exact .inl ⟨rfl, _, _, rfl⟩
  · refine .inr ⟨b, o, c, rfl, h0, hc, fun j u hj => hr j u ?_⟩
    rw [itemCells_append, List.getElem?_append_left (List.getElem?_eq_some_iff.1 hj).1]
    exact hj
theorem irow3_rest {w : World} {b o c : Nat} {zs : List (Int × Int × Int)} {z : Int × Int × Int} (hr : w.rangeAt b o (itemCells (z :: zs))) (hc : zs.length ≤ c) : IRow3 w (.slice (some ⟨b, o + 3, none⟩) zs.length c) zs := by
  by_cases h0 : zs = []
  · subst h0; exact .inl ⟨rfl, _, _, rfl⟩
  · refine .inr ⟨b, o + 3, c, rfl, h0, hc, fun j u hj => ?_⟩
    have h := hr (3 + j) u (by
      show (icells z ++ itemCells zs)[3 + j]? = _
      rw [List.getElem?_append_right (by show 3 ≤ 3 + j; omega)]
      show (itemCells zs)[3 + j - 3]? = _
      rw [Nat.add_sub_cancel_left]
      exact hj)
    rw [show o + 3 + j = o + (3 + j) by omega]
    exact h
theorem irow3_tail {w : World} {b o c : Nat} {zs : List (Int × Int × Int)} {z : Int × Int × Int} (hr : w.rangeAt b o (itemCells (z :: zs))) (hc : zs.length + 1 ≤ c) : IRow3 w (.slice (if c = 1 then (some ⟨b, o, none⟩ : Option Addr) else some ⟨b, o + 3, none⟩) zs.length (c - 1)) zs := by
  by_cases h1 : c = 1
  · have h0 : zs = [] := List.eq_nil_of_length_eq_zero (by omega)
    subst h0; exact .inl ⟨rfl, _, _, rfl⟩
  · rw [if_neg h1]
    exact irow3_rest hr (by omega)
set_option maxRecDepth 100000 in
set_option maxHeartbeats 4000000 in
theorem cutEnds_walk (c : Nat) (hc : c < 256) (a0 : Option Addr) (len0 cap0 : Nat) (z0 : List BeadL) (w : World) (w0 : IsBeads w (.slice a0 len0 cap0) z0) :
    Calls Tryz.prog 4 #[.int .u8 c, .slice a0 len0 cap0] w (Ret (.bool true) w) := by
  have hund : undef = Value.tuple #[] := rfl
  obtain rfl : len0 = z0.length := by obtain ⟨_, _, h⟩ := beads_slice w0.1; cases h; rfl
  have HB0 := Lib.hid w0.1
  have W0 := Lib.hid w0.2
  have HL0 := fun W (e : Ext w W) => beadsLong_any W _ z0 (w0.1.ext e)
  clear w0
  by_cases h4 : 1 ≤ c ∧ c ≤ 4
  · have HOF := Lib.hid (of22_yes c h4 w)
    have H4 := Lib.hid h4
    cases d0 : (decide (400 < z0.length) || !mayB z0) with
    | true =>
      rw [d0] at HL0
      clear d0
      have HPP := Lib.hid (fun W (e : Ext w W) => parted_long c h4 (.slice a0 z0.length cap0) W (fun W2 e2 => HL0 W2 (e.trans e2)))
      clear HL0 h4
      go_enter Tryz.func4, Tryz.ntmps4
      go_wp2_with fail
      refine HOF.out.mono ?_
      rintro e w1 ⟨P, rfl, st⟩
      have hx := st.ext
      clear st
      go_wp2_with fail
      refine (HPP.out w1 hx).mono ?_
      rintro e w2 ⟨rfl, hS⟩
      replace hx := hx.trans hS
      clear hS
      go_wp2_with fail
      refine (is22_any c _).mono ?_
      rw [decide_eq_true H4.out]
      rintro e w21 ⟨rfl, hS⟩
      replace hx := hx.trans hS
      clear hS
      go_wp2_with fail
      refine (alive23_any _).mono ?_
      rintro e w22 ⟨rfl, hS⟩
      replace hx := hx.trans hS
      clear hS
      go_wp2
      go_ret
      exact Ret.mk hx
    | false =>
      obtain ⟨l0, t0, e0⟩ := long_tree d0
      subst e0
      rw [d0] at HL0
      clear d0
      have L0 := Lib.hid l0
      have T0 := Lib.hid (fits_tagsOk t0 _ t0.tr_fits W0.out)
      have HPP := Lib.hid (fun W (e : Ext w W) => parted_t c h4 t0 t0.tr (.slice a0 t0.enc.length cap0) W t0.tr_fits (fun _ => T0.out) (HB0.out.ext e) (by omega) (fun W2 e2 => HL0 W2 (e.trans e2)))
      clear HL0
      cases hp : ptV c t0.tr with
      | false =>
        rw [hp] at HPP
        clear hp h4
        go_enter Tryz.func4, Tryz.ntmps4
        go_wp2_with fail
        refine HOF.out.mono ?_
        rintro e w1 ⟨P, rfl, st⟩
        have hx := st.ext
        clear st
        go_wp2_with fail
        refine (HPP.out w1 hx).mono ?_
        rintro e w2 ⟨rfl, hS⟩
        replace hx := hx.trans hS
        clear hS
        go_wp2_with fail
        refine (is22_any c _).mono ?_
        rw [decide_eq_true H4.out]
        rintro e w21 ⟨rfl, hS⟩
        replace hx := hx.trans hS
        clear hS
        go_wp2_with fail
        refine (alive23_any _).mono ?_
        rintro e w22 ⟨rfl, hS⟩
        replace hx := hx.trans hS
        clear hS
        go_wp2
        go_ret
        exact Ret.mk hx
      | true =>
        rw [hp] at HPP
        have HPV := Lib.hid hp
        clear hp h4 l0
        go_enter Tryz.func4, Tryz.ntmps4
        go_wp2_with fail
        refine HOF.out.mono ?_
        rintro e w1 ⟨P, rfl, st⟩
        go_wp2_with fail
        refine (HPP.out w1 st.ext).mono ?_
        rintro e w2 ⟨rfl, hS⟩
        replace st := st.more hS
        clear hS
        go_wp2_with fail
        refine (beadsMakeD_any t0 w2 _ (HB0.out.ext st.ext) L0.out).mono ?_
        rintro e w3 ⟨T, rfl, iT, sT, hS⟩
        replace st := st.more hS
        have HL3 := Lib.hid (show P < w3.heap.size from st.lt)
        have SF := Lib.hid sT.1
        have CT := Lib.hid (fits_cnt sT.1)
        have TT := Lib.hid (fits_tagsOk t0 T sT.1 W0.out)
        have PT := Lib.hid (partC_of H4.out (by rw [fits_cnt sT.1]; have := L0.out; omega) TT.out (by rw [← fits_ptV H4.out t0.tr_fits sT.1]; exact HPV.out))
        clear hS sT
        go_wp2_with fail
        refine (items22_any c H4.out t0 w3 _ (HB0.out.ext st.ext) (by have := L0.out; omega)).mono ?_
        rw [← fits_itsC c SF.out]
        rintro e w4 ⟨v4, rfl, o4, hS⟩
        replace st := st.more hS
        replace iT := iT.ext hS
        obtain ⟨a4, c4, rfl⟩ := o4.sized
        have O4 := Lib.hid o4
        clear hS o4
        by_cases h0 : T = .nil
        · subst h0
          rw [Tr.ptr_nil]
          rw [itsC_nil] at O4 ⊢
          go_wp2_with fail
          refine (cutLast_no _ w4).mono ?_
          unfold itV
          rintro e w5 ⟨rfl, h5⟩
          have hb5 := alloc_at w5 (.cells #[.int .i64 0, .int .i64 0, .int .u64 0] 43) _ rfl
          have hE5 := (Ext.refl w5).alloc (.cells #[.int .i64 0, .int .i64 0, .int .u64 0] 43)
          have s5 := st.more (h5.trans hE5)
          have hl5 : P < w5.heap.size := by have := st.lt; have := h5.size; omega
          replace O4 := Lib.hid (O4.out.ext (h5.trans hE5))
          clear h5 hE5 st
          go_wp2_with fail
          generalize w5.alloc (.cells #[.int .i64 0, .int .i64 0, .int .u64 0] 43) = w6 at *
          generalize w5.heap.size = b5 at *
          refine (cutFirst_no _ w6).mono ?_
          unfold itV
          rintro e w7 ⟨rfl, h7⟩
          have hb7 := alloc_at w7 (.cells #[.int .i64 0, .int .i64 0, .int .u64 0] 43) _ rfl
          have hE7 := (Ext.refl w7).alloc (.cells #[.int .i64 0, .int .i64 0, .int .u64 0] 43)
          have s7 := s5.more (h7.trans hE7)
          have hl7 : P < w7.heap.size := by have := s5.lt; have := h7.size; omega
          replace O4 := Lib.hid (O4.out.ext (h7.trans hE7))
          replace hb5 := (h7.trans hE7).get hb5
          have HI := Lib.hid (cutItems_any P c _ .nil _ trivial s7.sch (by decide))
          rw [Tr.ptr_nil, itsC_nil] at HI
          clear h7 hE7 s5
          go_wp2_with fail
          generalize w7.alloc (.cells #[.int .i64 0, .int .i64 0, .int .u64 0] 43) = w8 at *
          generalize w7.heap.size = b7 at *
          refine HI.out.mono ?_
          rintro e w9 ⟨v9, rfl, o9, B9, S9⟩
          have s9 := s7.does B9 S9
          have hlP := s7.new
          replace O4 := Lib.hid (O4.out.bt B9 (fun x hx => by rw [List.mem_singleton.1 hx]; exact HL3.out))
          replace hb5 := B9.get (show b5 ∉ [P] by simp; omega) hb5
          replace hb7 := B9.get (show b7 ∉ [P] by simp; omega) hb7
          have HSM := Lib.hid (same20_any w9 v9 _ [] o9.row O4.out.row (by decide))
          obtain ⟨c0, c1, c2, -⟩ := cells3 hb5
          obtain ⟨e0, e1, e2, -⟩ := cells3 hb7
          clear B9 S9 o9 s7 hb5 hb7 HI
          go_wp2_with fail
          refine HSM.out.mono ?_
          rintro e w10 ⟨rfl, h10⟩
          have hx := s9.ext.trans h10
          rw [← h10.cell (cell_lt c0)] at c0
          rw [← h10.cell (cell_lt c1)] at c1
          rw [← h10.cell (cell_lt c2)] at c2
          rw [← h10.cell (cell_lt e0)] at e0
          rw [← h10.cell (cell_lt e1)] at e1
          rw [← h10.cell (cell_lt e2)] at e2
          clear h10 s9
          go_wp2_with fail
          refine (nothing23_any _).mono ?_
          rintro e w11 ⟨rfl, hS⟩
          replace hx := hx.trans hS
          clear hS
          go_wp2_with fail
          refine (alive23_any _).mono ?_
          rintro e w12 ⟨rfl, hS⟩
          replace hx := hx.trans hS
          clear hS
          go_wp2
          go_ret
          exact Ret.mk hx
        · have HNE := Lib.hid h0
          have HCL := Lib.hid (cutLast_yes P c _ T w4 st.sch iT PT.out h0 (by have := CT.out; have := L0.out; omega))
          clear h0
          go_wp2_with fail
          refine HCL.out.mono ?_
          rintro e w5 ⟨R1, z1, m5, rfl, B5, S5, i1, k1⟩
          unfold itV
          have s5 := st.does B5 S5.sch
          replace iT := st.sch.inh B5 iT
          replace O4 := Lib.hid (O4.out.bt B5 (fun x hx => by rw [List.mem_singleton.1 hx]; exact HL3.out))
          have hb5 := alloc_at w5 (.cells #[.int .i64 z1.1, .int .i64 z1.2.1, .int .u64 z1.2.2] 43) _ rfl
          have hE5 := (Ext.refl w5).alloc (.cells #[.int .i64 z1.1, .int .i64 z1.2.1, .int .u64 z1.2.2] 43)
          have hl5 : P < w5.heap.size := s5.lt
          replace s5 := s5.more hE5
          replace iT := iT.ext hE5
          replace i1 := i1.ext hE5
          replace O4 := Lib.hid (O4.out.ext hE5)
          have K1 := Lib.hid k1
          clear B5 S5 k1 hE5 st HCL
          go_wp2_with fail
          generalize w5.alloc (.cells #[.int .i64 z1.1, .int .i64 z1.2.1, .int .u64 z1.2.2] 43) = w6 at *
          generalize w5.heap.size = b5 at *
          refine (cutFirst_yes P c _ T w6 s5.sch iT PT.out HNE.out (by have := CT.out; have := L0.out; omega)).mono ?_
          rintro e w7 ⟨R2, z2, m7, rfl, B7, S7, i2, k2⟩
          unfold itV
          have s7 := s5.does B7 S7.sch
          replace iT := s5.sch.inh B7 iT
          replace i1 := s5.sch.inh B7 i1
          replace O4 := Lib.hid (O4.out.bt B7 (fun x hx => by rw [List.mem_singleton.1 hx]; exact HL3.out))
          replace hb5 := B7.get (show b5 ∉ [P] by simp; omega) hb5
          have hb7 := alloc_at w7 (.cells #[.int .i64 z2.1, .int .i64 z2.2.1, .int .u64 z2.2.2] 43) _ rfl
          have hE7 := (Ext.refl w7).alloc (.cells #[.int .i64 z2.1, .int .i64 z2.2.1, .int .u64 z2.2.2] 43)
          have hl7 : P < w7.heap.size := s7.lt
          replace s7 := s7.more hE7
          replace iT := iT.ext hE7
          replace i1 := i1.ext hE7
          replace i2 := i2.ext hE7
          replace hb5 := hE7.get hb5
          replace O4 := Lib.hid (O4.out.ext hE7)
          have K2 := Lib.hid k2
          have HI := Lib.hid (cutItems_any P c _ T _ iT s7.sch (by have := CT.out; have := L0.out; omega))
          clear B7 S7 k2 hE7 s5
          go_wp2_with fail
          generalize w7.alloc (.cells #[.int .i64 z2.1, .int .i64 z2.2.1, .int .u64 z2.2.2] 43) = w8 at *
          generalize w7.heap.size = b7 at *
          refine HI.out.mono ?_
          rintro e w9 ⟨v9, rfl, o9, B9, S9⟩
          have s9 := s7.does B9 S9
          replace O4 := Lib.hid (O4.out.bt B9 (fun x hx => by rw [List.mem_singleton.1 hx]; exact HL3.out))
          replace hb5 := B9.get (show b5 ∉ [P] by simp; omega) hb5
          replace hb7 := B9.get (show b7 ∉ [P] by simp; omega) hb7
          replace iT := s7.sch.inh B9 iT
          replace i1 := s7.sch.inh B9 i1
          replace i2 := s7.sch.inh B9 i2
          have HSM := Lib.hid (same20_any w9 v9 _ (itsC c T) o9.row O4.out.row (by rw [itsC_len]; have := CT.out; have := L0.out; omega))
          have hx9 := s9.ext
          have hlen := itsC_len c T
          have hct : T.count = t0.enc.length := CT.out
          have hl0 : t0.enc.length ≤ 400 := L0.out
          have hr1 := K1.out.count
          have hr2 := K2.out.count
          rcases O4.out.row with ⟨hz, -⟩ | ⟨rb, ro, rc, hv, -, hrc, hrr⟩
          · rw [hz] at hlen; simp at hlen; omega
          obtain ⟨rfl, rfl⟩ : a4 = some ⟨rb, ro, none⟩ ∧ c4 = rc := by cases hv; exact ⟨rfl, rfl⟩
          have hi1 : itsC c T = itsC c R1 ++ [z1] := K1.out.its
          have hi2 : itsC c T = z2 :: itsC c R2 := K2.out.its
          have e1 : (itsC c T).length = (itsC c R1).length + 1 := by rw [hi1]; simp
          clear B9 S9 o9 s7 HI hv s9
          rw [e1] at hrc HSM ⊢
          have hpos : (0 : Int) < ((itsC c R1).length : Int) + 1 := by omega
          have hl1 : (itsC c R1).length ≤ 400 := by omega
          clear hlen hct hl0
          go_wp2_with fail
          refine HSM.out.mono ?_
          rintro e w10 ⟨rfl, h10⟩
          have hrr1 : w10.rangeAt rb ro (itemCells (itsC c R1 ++ [z1])) := by rw [← hi1]; exact rangeAt_ext hrr h10
          have hrr2 : w10.rangeAt rb ro (itemCells (z2 :: itsC c R2)) := by rw [← hi2]; exact rangeAt_ext hrr h10
          have HLS := Lib.hid (last23_any w10 rb ro c4 (itsC c R1) z1 hrr1 (by omega) hrc)
          replace hb5 := h10.get hb5
          replace hb7 := h10.get hb7
          replace hx9 := hx9.trans h10
          replace iT := iT.ext h10
          replace i1 := i1.ext h10
          replace i2 := i2.ext h10
          have HRC := Lib.hid (show (itsC c R1).length + 1 ≤ c4 ∧ (itsC c R2).length + 1 ≤ c4 ∧ (itsC c R2).length = (itsC c R1).length from by
            have e2 : (itsC c T).length = (itsC c R2).length + 1 := by rw [hi2]; simp
            omega)
          have HCN := Lib.hid (And.intro hr1 (And.intro hr2 (And.intro CT.out L0.out)))
          clear h10 hrr HSM O4 hrc hr1 hr2
          go_wp2_with fail
          refine HLS.out.mono ?_
          unfold itV
          rintro e w11 ⟨rfl, h11⟩
          have hb11 := alloc_at w11 (.cells #[.int .i64 z1.1, .int .i64 z1.2.1, .int .u64 z1.2.2] 43) _ rfl
          have hE := h11.trans ((Ext.refl w11).alloc (.cells #[.int .i64 z1.1, .int .i64 z1.2.1, .int .u64 z1.2.2] 43))
          replace hb5 := hE.get hb5
          replace hb7 := hE.get hb7
          replace hrr1 := rangeAt_ext hrr1 hE
          replace hrr2 := rangeAt_ext hrr2 hE
          have HI := Lib.hid (And.intro (iT.ext hE) (And.intro (i1.ext hE) (And.intro (i2.ext hE) (hx9.trans hE))))
          clear h11 hE iT i1 i2 hx9 HLS
          go_wp2_with fail
          generalize w11.alloc (.cells #[.int .i64 z1.1, .int .i64 z1.2.1, .int .u64 z1.2.2] 43) = w12 at *
          generalize w11.heap.size = b11 at *
          obtain ⟨p0, p1, p2, -⟩ := cells3 hb5
          obtain ⟨q0, q1, q2, -⟩ := cells3 hb7
          obtain ⟨u0, u1, u2, -⟩ := cells3 hb11
          obtain ⟨r0, r1, r2⟩ := icells_at hrr2 (i := 0) (z := z2) rfl
          rw [Nat.zero_mul, Nat.add_zero] at r0 r1 r2
          have HQ1 := Lib.hid (irow3_front (c := c4) hrr1 (by have := HRC.out.1; omega))
          have HQ2 := Lib.hid (irow3_tail hrr2 HRC.out.2.1)
          clear hb5 hb7 hb11 hrr1 hrr2
          have hfn : ∀ f, Fence.wide.fn f := fun _ => trivial
          obtain ⟨mm⟩ : Nonempty Nat := ⟨0⟩
          refine (wpIn_wide (n := mm)).1 ?_
          gi_wp2_with fail
          replace p0 := cell_all p0
          replace p1 := cell_all p1
          replace p2 := cell_all p2
          replace q0 := cell_all q0
          replace q1 := cell_all q1
          replace q2 := cell_all q2
          replace u0 := cell_all u0
          replace u1 := cell_all u1
          replace u2 := cell_all u2
          replace r0 := cell_all r0
          replace r1 := cell_all r1
          replace r2 := cell_all r2
          have hx := Ext.drew w12
          refine wpIn_region_G (fun j => !(List.contains (α := Nat) [] j)) (by kernel_rfl) ?_
          refine batchG hfn (fuel := 22) [0, 1, 2, 3, 4, 5, 6, 7, 8, 9, 10, 11, 12, 13] (by kernel_rfl) rfl ?_
          repeat (go_big_quiet_step ((fail)))
          refine wpQuiet_nil ?_
          clear p0 p1 p2 q0 q1 q2 u0 u1 u2 r0 r1 r2
          refine wpAnyG_one (j := 14) (by kernel_rfl) rfl ?_
          gi_wp2_with fail
          refine ⟨wide_room _, (callsIn_wide.2 (has23_any c H4.out R1 _ _ c4 (itsC c R1) (HI.out.2.1.ext hx) (HQ1.out.ext hx) (itsC_idem c R1) K1.out.may (fun _ => K1.out.tags TT.out (by have := HCN.out; omega)) (by have := HCN.out; omega))).mono ?_⟩
          rintro e w13 ⟨rfl, h13⟩
          gi_wp2_with fail
          refine onePost_ext (h13) ?_
          replace hx := hx.trans h13
          clear h13
          have hc41 : (1 : Int) ≤ (c4 : Int) := by have := HRC.out.1; omega
          refine batchG hfn (fuel := 15) [15, 16, 17, 18, 19, 20] (by kernel_rfl) rfl ?_
          repeat (go_big_quiet_step ((fail)))
          refine wpQuiet_nil ?_
          refine wpAnyG_one (j := 21) (by kernel_rfl) rfl ?_
          gi_wp2_with fail
          · rw [← HRC.out.2.2]
            refine ⟨wide_room _, (callsIn_wide.2 (has23_any c H4.out R2 _ _ _ (itsC c R2) (HI.out.2.2.1.ext hx) (by
              have h := HQ2.out.ext hx
              have hr := HRC.out
              by_cases h1 : c4 = 1
              · have hz : itsC c R2 = [] := List.eq_nil_of_length_eq_zero (by omega)
                rw [hz]; exact .inl ⟨rfl, _, _, rfl⟩
              · rw [if_neg h1] at h; first | exact h | exact absurd (by omega) h1) (itsC_idem c R2) K2.out.may (fun _ => K2.out.tags TT.out (by have := HCN.out; omega)) (by have := HCN.out; omega))).mono ?_⟩
            rintro e w14 ⟨rfl, h14⟩
            gi_wp2_with fail
            refine onePost_ext (h14) ?_
            replace hx := hx.trans h14
            clear h14
            refine batchG hfn (fuel := 10) [22, 23, 24, 25] (by kernel_rfl) rfl ?_
            repeat (go_big_quiet_step ((fail)))
            refine wpQuiet_nil ?_
            refine wpAnyG_one (j := 26) (by kernel_rfl) rfl ?_
            gi_wp2_with fail
            refine ⟨wide_room _, (callsIn_wide.2 (of_any t0 w14 _ (HB0.out.ext (HI.out.2.2.2.trans hx)) (by have := L0.out; omega))).mono ?_⟩
            rintro e w15 ⟨v15, rfl, o15, h15⟩
            gi_wp2_with fail
            refine onePost_ext (h15) ?_
            replace hx := hx.trans h15
            clear h15
            have O15 := Lib.hid o15.beads
            clear o15
            refine wpAnyG_one (j := 27) (by kernel_rfl) rfl ?_
            gi_wp2_with fail
            refine ⟨wide_room _, (callsIn_wide.2 (is_any w15 T v15 (HI.out.1.ext hx) (by rw [fits_beads SF.out (by have := L0.out; omega)]; exact O15.out) (by have := HCN.out; unfold Tr.count at *; omega))).mono ?_⟩
            rintro e w16 ⟨rfl, h16⟩
            gi_wp2_with fail
            refine onePost_ext (h16) ?_
            replace hx := hx.trans h16
            clear h16
            refine batchG hfn (fuel := 6) [28, 29] (by kernel_rfl) rfl ?_
            repeat (go_big_quiet_step ((fail)))
            refine wpQuiet_nil ?_
            refine wpAnyG_one (j := 30) (by kernel_rfl) rfl ?_
            gi_wp2_with fail
            refine ⟨wide_room _, (callsIn_wide.2 (nothing23_any w16)).mono ?_⟩
            rintro e w17 ⟨rfl, h17⟩
            gi_wp2_with fail
            refine onePost_ext (h17) ?_
            replace hx := hx.trans h17
            clear h17
            refine batchG hfn (fuel := 3) [31, 32] (by kernel_rfl) rfl ?_
            repeat (go_big_quiet_step ((fail)))
            refine wpQuiet_nil ?_
            refine wpAnyG_one (j := 33) (by kernel_rfl) rfl ?_
            gi_wp2_with fail
            refine ⟨wide_room _, (callsIn_wide.2 (alive23_any w17)).mono ?_⟩
            rintro e w18 ⟨rfl, h18⟩
            gi_wp2_with fail
            refine onePost_ext (h18) ?_
            replace hx := hx.trans h18
            clear h18
            refine batchG hfn (fuel := 0) [34, 35] (by kernel_rfl) rfl ?_
            repeat (go_big_quiet_step ((fail)))
            refine wpQuiet_nil ?_
            refine wpAnyG_done (by kernel_rfl) ?_
            refine calmQ_normal ?_
            have HX := Lib.hid (HI.out.2.2.2.trans hx)
            clear hx
            go_wp2
            go_ret
            exact Ret.mk HX.out
          · rw [← HRC.out.2.2]
            refine ⟨wide_room _, (callsIn_wide.2 (has23_any c H4.out R2 _ _ _ (itsC c R2) (HI.out.2.2.1.ext hx) (by
              have h := HQ2.out.ext hx
              have hr := HRC.out
              by_cases h1 : c4 = 1
              · have hz : itsC c R2 = [] := List.eq_nil_of_length_eq_zero (by omega)
                rw [hz]; exact .inl ⟨rfl, _, _, rfl⟩
              · rw [if_neg h1] at h; first | exact h | exact absurd (by omega) h1) (itsC_idem c R2) K2.out.may (fun _ => K2.out.tags TT.out (by have := HCN.out; omega)) (by have := HCN.out; omega))).mono ?_⟩
            rintro e w14 ⟨rfl, h14⟩
            gi_wp2_with fail
            refine onePost_ext (h14) ?_
            replace hx := hx.trans h14
            clear h14
            refine batchG hfn (fuel := 10) [22, 23, 24, 25] (by kernel_rfl) rfl ?_
            repeat (go_big_quiet_step ((fail)))
            refine wpQuiet_nil ?_
            refine wpAnyG_one (j := 26) (by kernel_rfl) rfl ?_
            gi_wp2_with fail
            refine ⟨wide_room _, (callsIn_wide.2 (of_any t0 w14 _ (HB0.out.ext (HI.out.2.2.2.trans hx)) (by have := L0.out; omega))).mono ?_⟩
            rintro e w15 ⟨v15, rfl, o15, h15⟩
            gi_wp2_with fail
            refine onePost_ext (h15) ?_
            replace hx := hx.trans h15
            clear h15
            have O15 := Lib.hid o15.beads
            clear o15
            refine wpAnyG_one (j := 27) (by kernel_rfl) rfl ?_
            gi_wp2_with fail
            refine ⟨wide_room _, (callsIn_wide.2 (is_any w15 T v15 (HI.out.1.ext hx) (by rw [fits_beads SF.out (by have := L0.out; omega)]; exact O15.out) (by have := HCN.out; unfold Tr.count at *; omega))).mono ?_⟩
            rintro e w16 ⟨rfl, h16⟩
            gi_wp2_with fail
            refine onePost_ext (h16) ?_
            replace hx := hx.trans h16
            clear h16
            refine batchG hfn (fuel := 6) [28, 29] (by kernel_rfl) rfl ?_
            repeat (go_big_quiet_step ((fail)))
            refine wpQuiet_nil ?_
            refine wpAnyG_one (j := 30) (by kernel_rfl) rfl ?_
            gi_wp2_with fail
            refine ⟨wide_room _, (callsIn_wide.2 (nothing23_any w16)).mono ?_⟩
            rintro e w17 ⟨rfl, h17⟩
            gi_wp2_with fail
            refine onePost_ext (h17) ?_
            replace hx := hx.trans h17
            clear h17
            refine batchG hfn (fuel := 3) [31, 32] (by kernel_rfl) rfl ?_
            repeat (go_big_quiet_step ((fail)))
            refine wpQuiet_nil ?_
            refine wpAnyG_one (j := 33) (by kernel_rfl) rfl ?_
            gi_wp2_with fail
            refine ⟨wide_room _, (callsIn_wide.2 (alive23_any w17)).mono ?_⟩
            rintro e w18 ⟨rfl, h18⟩
            gi_wp2_with fail
            refine onePost_ext (h18) ?_
            replace hx := hx.trans h18
            clear h18
            refine batchG hfn (fuel := 0) [34, 35] (by kernel_rfl) rfl ?_
            repeat (go_big_quiet_step ((fail)))
            refine wpQuiet_nil ?_
            refine wpAnyG_done (by kernel_rfl) ?_
            refine calmQ_normal ?_
            have HX := Lib.hid (HI.out.2.2.2.trans hx)
            clear hx
            go_wp2
            go_ret
            exact Ret.mk HX.out
  · have HOF := Lib.hid (of22_no c hc h4 w)
    have HPP := Lib.hid (fun W => parted_no c h4 (.slice a0 z0.length cap0) W)
    have H4 := Lib.hid h4
    clear h4 HL0
    go_enter Tryz.func4, Tryz.ntmps4
    go_wp2_with fail
    refine HOF.out.mono ?_
    rintro e w1 ⟨rfl, hx⟩
    go_wp2_with fail
    refine (HPP.out w1).mono ?_
    rintro e w2 ⟨rfl, hS⟩
    replace hx := hx.trans hS
    clear hS
    go_wp2_with fail
    refine (is22_any c _).mono ?_
    rw [decide_eq_false H4.out]
    rintro e w21 ⟨rfl, hS⟩
    replace hx := hx.trans hS
    clear hS
    go_wp2_with fail
    refine (alive23_any _).mono ?_
    rintro e w22 ⟨rfl, hS⟩
    replace hx := hx.trans hS
    clear hS
    go_wp2
    go_ret
    exact Ret.mk hx
theorem cutEnds_row (c : Int) (a0 : Option Addr) (len0 cap0 : Nat) (z0 : List BeadL) (w : World) (hc : (Lit.int .u8 c).wf = true) (w0 : IsBeads w (.slice a0 len0 cap0) z0) :
    Calls Tryz.prog 4 #[.int .u8 c, .slice a0 len0 cap0] w (Ret (.bool true) w) := by
  obtain ⟨m, rfl, hm⟩ := u8_nat hc
  exact cutEnds_walk m hm a0 len0 cap0 z0 w w0
end Go.Proofs.YtnhbcildpdhgnaaGreat
