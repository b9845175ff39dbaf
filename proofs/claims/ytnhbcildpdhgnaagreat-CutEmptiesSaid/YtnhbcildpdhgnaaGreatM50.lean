/- The walk of CutEmpties. -/
import Derived.Test.YtnhbcildpdhgnaaGreatM48
namespace Go.Proofs.YtnhbcildpdhgnaaGreat
open Go Go.RowKit

def alen : Value → Nat
  | .slice _ n _ => n
  | _ => 0
/-- ahead of a round of CutEmpties: what is left. -/
def EmpSt (w : World) (P c N : Nat) (t al i : Value) (W : World) : Prop :=
  ∃ (k : Nat) (T : Tr) (m : Int) (a : Option Addr) (n cap : Nat), i = .int .i64 (k : Nat) ∧ t = .pointer T.ptr ∧ al = .slice a n cap ∧
    Hid (k + n = N ∧ N ≤ 100 ∧ (itsC c T).length = n ∧ St w P c m W ∧ InH W T ∧ PartC c T ∧ IRow3 W (.slice a n cap) (itsC c T))
theorem wrap_small {k m : Nat} (h : k ≤ m) (hm : m ≤ 100) : wrap64 (k : Int) = (k : Int) := by unfold wrap64; omega
theorem nil_not {c : Nat} {T : Tr} {x : Int × Int × Int} {ys : List (Int × Int × Int)} (h : itsC c T = x :: ys) : T ≠ .nil := by
  rintro rfl; cases h
theorem irow3_at {w : World} {a : Option Addr} {n cap : Nat} {zs : List (Int × Int × Int)} {x : Int × Int × Int} {ys : List (Int × Int × Int)} (h : IRow3 w (.slice a n cap) zs) (hz : zs = x :: ys) (hn : zs.length = n) : ∃ b o, a = some ⟨b, o, none⟩ ∧ n ≤ cap ∧ w.rangeAt b o (itemCells zs) := by
  rcases h with ⟨h0, _⟩ | ⟨b, o, c', hv, _, hcp, hr⟩
  · rw [h0] at hz; cases hz
  · injection hv with e1 e2 e3
    subst e1 e3
    exact ⟨b, o, rfl, by rw [← hn]; exact hcp, hr⟩
theorem two_ends {xs : List (Int × Int × Int)} {n : Nat} (h : xs.length = n + 1) : ∃ x ys y zs, xs = x :: ys ∧ xs = zs ++ [y] ∧ ys.length = n ∧ zs.length = n := by
  match xs, h with
  | x :: ys, h =>
    obtain ⟨zs, y, hy⟩ : ∃ zs y, x :: ys = zs ++ [y] := ⟨_, _, (List.dropLast_concat_getLast (by simp)).symm⟩
    refine ⟨x, ys, y, zs, rfl, hy, by simpa using h, ?_⟩
    have := congrArg List.length hy
    simp at this h; omega
theorem ends_last {c : Nat} {T R : Tr} {z y : Int × Int × Int} {zs : List (Int × Int × Int)} (h : itsC c T = endAt true (itsC c R) z) (hy : itsC c T = zs ++ [y]) : zs = itsC c R ∧ y = z := by
  rw [hy] at h
  obtain ⟨e1, e2⟩ := List.append_inj' (show zs ++ [y] = itsC c R ++ [z] from h) rfl
  injection e2 with e2
  exact ⟨e1, e2⟩
theorem ends_first {c : Nat} {T R : Tr} {z x : Int × Int × Int} {ys : List (Int × Int × Int)} (h : itsC c T = endAt false (itsC c R) z) (hx : itsC c T = x :: ys) : ys = itsC c R ∧ x = z := by
  rw [hx] at h
  have h2 : x :: ys = z :: itsC c R := h
  injection h2 with e1 e2
  exact ⟨e2, e1⟩
theorem rangeAt_bt {L : List Nat} {w w' : World} {b o : Nat} {cs : List Value} (hr : w.rangeAt b o cs) (e : Bt L w w') (hb : b ∉ L) : w'.rangeAt b o cs := fun j u hj => by
  have h := hr j u hj
  rw [World.cell?_of_block (w := w) (e.block b (cell_lt h) hb)]
  exact h
theorem irow3_tailA {w : World} {b o c : Nat} {zs : List (Int × Int × Int)} {z : Int × Int × Int} (hr : w.rangeAt b o (itemCells (z :: zs))) (hc : zs.length + 1 ≤ c) (h1 : c = 1) : IRow3 w (.slice (some ⟨b, o, none⟩) zs.length 0) zs := by
  have h := irow3_tail hr hc
  subst h1
  rwa [if_pos rfl] at h
theorem irow3_tailB {w : World} {b o c : Nat} {zs : List (Int × Int × Int)} {z : Int × Int × Int} (hr : w.rangeAt b o (itemCells (z :: zs))) (hc : zs.length + 1 ≤ c) : IRow3 w (.slice (some ⟨b, o + 3, none⟩) zs.length (c - 1)) zs :=
  irow3_rest hr (by omega)
theorem irow_sized {w : World} {a : Option Addr} {n c : Nat} {zs : List (Int × Int × Int)} (h : IRow3 w (.slice a zs.length c) zs) (hn : zs.length = n) : IRow3 w (.slice a n c) zs := hn ▸ h
theorem emp_block {P c : Nat} {m : Int} {w : World} {b o : Nat} {zs ys : List (Int × Int × Int)} {x : Int × Int × Int} (h : w.rangeAt b o (itemCells zs)) (hz : zs = x :: ys) (hs : Sch P c m w) : b < w.heap.size ∧ b ≠ P := by
  subst hz
  have h0 : w.cell? ⟨b, o + 0, none⟩ = some (.int .i64 x.1) := h 0 _ rfl
  exact ⟨cell_lt h0, hs.off h0⟩
theorem emp_count {c n k N : Nat} {T R : Tr} (hT : T.count = R.count + 1) (h1 : k + (n + 1) = N) (h2 : N ≤ 100) (h3 : (itsC c T).length = n + 1) : R.count = n ∧ n ≤ 100 ∧ R.size = (n : Int) ∧ T.count ≤ 20000 ∧ (itsC c R).length = n ∧ k + 1 + n = N := by
  rw [itsC_len] at h3 ⊢
  refine ⟨by omega, by omega, ?_, by omega, by omega, by omega⟩
  rw [Tr.size_count, show R.count = n by omega]
  unfold wrap64; omega
theorem emp_k {k n N : Nat} (h : k + (n + 1) = N) (hN : N ≤ 100) : Value.int .i64 (wrap64 ((k : Int) + 1)) = .int .i64 ((k + 1 : Nat) : Int) := by
  rw [show wrap64 ((k : Int) + 1) = ((k + 1 : Nat) : Int) by unfold wrap64; omega]
theorem nil_of_len {c : Nat} {T : Tr} (h : (itsC c T).length = 0) : T = .nil := by
  rw [itsC_len] at h
  cases T with
  | nil => rfl
  | node b l k v g r => rw [Tr.count_node] at h; omega
set_option maxRecDepth 100000 in
set_option maxHeartbeats 4000000 in
theorem cutEmpties_walk (c : Nat) (hc : c < 256) (a0 : Option Addr) (len0 cap0 : Nat) (z0 : List BeadL) (en : Int) (w : World) (w0 : IsBeads w (.slice a0 len0 cap0) z0) :
    Calls Tryz.prog 5 #[.int .u8 c, .slice a0 len0 cap0, .int .u64 en] w (Ret (.bool true) w) := by
  have hund : undef = Value.tuple #[] := rfl
  by_cases h4 : 1 ≤ c ∧ c ≤ 4
  · have HOF := Lib.hid (of22_yes c h4 w)
    have H4 := Lib.hid h4
    have q0 := parted_or h4 w0
    clear h4 w0
    rcases q0 with q0 | ⟨t0, -, rfl, l0, p0, b0, v0, q0⟩
    · have Q0 := Lib.hid q0
      clear q0
      go_enter Tryz.func5, Tryz.ntmps5
      go_wp2_with fail
      refine HOF.out.mono ?_
      rintro e w3 ⟨P, rfl, st⟩
      have hx := st.ext
      clear st
      go_wp2_with fail
      refine (Q0.out w3 hx).mono ?_
      rintro e w4 ⟨rfl, hS⟩
      replace hx := hx.trans hS
      clear hS
      go_wp2_with fail
      refine (is22_any c _).mono ?_
      rw [decide_eq_true H4.out]
      rintro e w21 ⟨rfl, hS⟩
      replace hx := hx.trans hS
      clear hS
      go_wp2_with fail
      refine (alive23_any _).mono ?_
      rintro e w22 ⟨rfl, hS⟩
      replace hx := hx.trans hS
      clear hS
      go_wp2
      go_ret
      exact Ret.mk hx
    · have Q0 := Lib.hid q0
      have Lt0 := Lib.hid l0
      have Pt0 := Lib.hid p0
      have HBt0 := Lib.hid b0
      have Wt0 := Lib.hid v0
      clear q0 l0 p0 b0 v0
      rcases Nat.lt_or_ge 100 t0.enc.length with h1 | h1
      · go_enter Tryz.func5, Tryz.ntmps5
        go_wp2_with fail
        refine HOF.out.mono ?_
        rintro e w3 ⟨P, rfl, st⟩
        have hx := st.ext
        clear st
        have h1' : (100 : Int) < (t0.enc.length : Int) := by omega
        go_wp2_with fail
        refine (Q0.out w3 hx).mono ?_
        rintro e w4 ⟨rfl, hS⟩
        replace hx := hx.trans hS
        clear hS
        go_wp2_with fail
        refine (is22_any c _).mono ?_
        rw [decide_eq_true H4.out]
        rintro e w21 ⟨rfl, hS⟩
        replace hx := hx.trans hS
        clear hS
        go_wp2_with fail
        refine (alive23_any _).mono ?_
        rintro e w22 ⟨rfl, hS⟩
        replace hx := hx.trans hS
        clear hS
        go_wp2
        go_ret
        exact Ret.mk hx
      · have HN := Lib.hid h1
        have h1' : (t0.enc.length : Int) ≤ (100 : Int) := by omega
        clear h1
        go_enter Tryz.func5, Tryz.ntmps5
        go_wp2_with fail
        refine HOF.out.mono ?_
        rintro e w3 ⟨P, rfl, st⟩
        go_wp2_with fail
        refine (Q0.out w3 st.ext).mono ?_
        rintro e w4 ⟨rfl, hS⟩
        replace st := st.more hS
        clear hS
        go_wp2_with fail
        clear h1'
        go_wp2_with fail
        refine (beadsMakeD_any t0 w4 _ (HBt0.out.ext st.ext) Lt0.out).mono ?_
        rintro e w5 ⟨T, rfl, iT, sT, hS⟩
        replace st := st.more hS
        have MT := Lib.hid (made_part H4.out sT.1 Wt0.out Lt0.out Pt0.out)
        have hT := hS
        clear hS sT
        clear hT
        have hlt := Lib.hid st.lt
        go_wp2_with fail
        refine (cutItems_any P c _ T w5 iT st.sch (by rw [MT.out.2.2]; exact Nat.le_trans HN.out (by decide))).mono ?_
        rintro e w6 ⟨v6, rfl, o6, B6, S6⟩
        have s6 := st.does B6 S6
        replace iT := st.sch.inh B6 iT
        obtain ⟨a6, c6, rfl⟩ := o6.sized
        have hl := (itsC_len c T).trans MT.out.2.2
        have O6 := o6.row
        rw [hl] at O6 ⊢
        have HS6 := Lib.hid (And.intro s6 (And.intro iT (And.intro O6 hl)))
        clear B6 S6 st o6 iT O6 hl s6
        go_wp2_with fail
        go_loopw [9, 10, 11] (fun t al i W => EmpSt w P c t0.enc.length t al i W) (fun _ al _ _ => alen al)
        case atStart => exact ⟨0, T, _, a6, _, c6, rfl, rfl, rfl, Lib.hid ⟨Nat.zero_add _, HN.out, HS6.out.2.2.2, HS6.out.1, HS6.out.2.1, MT.out.1, HS6.out.2.2.1⟩⟩
        case round =>
          obtain ⟨k, T2, m, a, n, cap, rfl, rfl, rfl, HX⟩ := hrel
          cases n with
          | zero =>
            obtain rfl : T2 = .nil := nil_of_len HX.out.2.2.1
            rw [Tr.ptr_nil]
            go_wp2_with fail
            refine (cutLast_no _ wr).mono ?_
            unfold itV
            rintro e w7 ⟨rfl, h7⟩
            have hx := HX.out.2.2.2.1.ext.trans h7
            clear h7
            go_wp2_with fail
            refine (alive23_any _).mono ?_
            rintro e w8 ⟨rfl, hS⟩
            replace hx := hx.trans hS
            clear hS
            go_wp2
            go_ret
            exact Ret.mk hx
          | succ n =>
            have HLB := Lib.hid HX.out.2.2.2.1.lt
            obtain ⟨x, ys, y, zs, hx1, hx2, hy1, hy2⟩ := two_ends HX.out.2.2.1
            obtain ⟨b, o, hs, hcp, hr⟩ : ∃ b o, a = some ⟨b, o, none⟩ ∧ n + 1 ≤ cap ∧ wr.rangeAt b o (itemCells (itsC c T2)) := irow3_at HX.out.2.2.2.2.2.2 hx1 HX.out.2.2.1
            subst hs
            have hE2 := ((Ext.refl wr).alloc (.cells #[.int .i64 0, .int .i64 0, .int .u64 0] 43)).alloc (.cells #[.int .i64 x.1, .int .i64 x.2.1, .int .u64 x.2.2] 43)
            obtain ⟨f0, f1, f2⟩ := icells_at (rangeAt_ext (hx1 ▸ hr) ((Ext.refl wr).alloc (.cells #[.int .i64 0, .int .i64 0, .int .u64 0] 43))) (i := 0) (z := x) rfl
            rw [Nat.zero_mul, Nat.add_zero] at f0 f1 f2
            obtain ⟨l0, l1, l2⟩ := icells_at (rangeAt_ext (hx2 ▸ hr) hE2) (i := zs.length) (z := y) (by simp)
            rw [hy2] at l0 l1 l2
            have HR := Lib.hid (And.intro hr (And.intro hx1 (And.intro hx2 (And.intro hy1 (And.intro hy2 hcp)))))
            have hwn : wrap64 (n : Int) = (n : Int) := wrap_small (k := n) (m := t0.enc.length) (by have := HX.out.1; omega) (by have := HN.out; omega)
            have hn0 : 0 ≤ (n : Int) := Int.natCast_nonneg _
            have hn1 : (n : Int) ≤ (cap : Int) := by omega
            clear hr hx1 hx2 hy1 hy2 hE2 hcp
            cases hq : ((en / 2 ^ (k % 64)).tmod 2 == 1) with
            | true =>
              have hb12 := (alloc_at wr (.cells #[.int .i64 0, .int .i64 0, .int .u64 0] 43) _ rfl)
              have hb13 := alloc_at (wr.alloc (.cells #[.int .i64 0, .int .i64 0, .int .u64 0] 43)) (.cells #[.int .i64 y.1, .int .i64 y.2.1, .int .u64 y.2.2] 43) _ rfl
              have hE := ((Ext.refl (wr.alloc (.cells #[.int .i64 0, .int .i64 0, .int .u64 0] 43))).alloc (.cells #[.int .i64 y.1, .int .i64 y.2.1, .int .u64 y.2.2] 43))
              replace hb12 := hE.get hb12
              rw [show (wr.alloc (.cells #[.int .i64 0, .int .i64 0, .int .u64 0] 43)).heap.size = wr.heap.size + 1 by simp] at hb13
              have hE0 := ((Ext.refl wr).alloc (.cells #[.int .i64 0, .int .i64 0, .int .u64 0] 43)).trans hE
              have HCL := Lib.hid (cutLast_yes P c m T2 _ (HX.out.2.2.2.1.sch.ext hE0) (HX.out.2.2.2.2.1.ext hE0) HX.out.2.2.2.2.2.1 (nil_not HR.out.2.1) (by rw [← itsC_len c T2, HX.out.2.2.1]; have := HX.out.1; have := HX.out.2.1; omega))
              have HB := Lib.hid (And.intro hb12 (And.intro hb13 hE0))
              clear hb12 hb13 hE hE0
              go_wp2_with fail
              clear f0 f1 f2 l0 l1 l2
              generalize (wr.alloc (.cells #[.int .i64 0, .int .i64 0, .int .u64 0] 43)).alloc (.cells #[.int .i64 y.1, .int .i64 y.2.1, .int .u64 y.2.2] 43) = w7 at *
              refine HCL.out.mono ?_
              rintro e w8 ⟨R, z, m2, rfl, B8, S8, iR, kR⟩
              obtain ⟨e1, e2⟩ := ends_last kR.its HR.out.2.2.1
              subst e1 e2
              unfold itV
              have HBL := Lib.hid (emp_block HR.out.1 HR.out.2.1 HX.out.2.2.2.1.sch)
              have s8 := (HX.out.2.2.2.1.more HB.out.2.2).does B8 S8.sch
              have hlP := HLB.out
              have hr8 := B8.get (show wr.heap.size ∉ [P] by simp; omega) HB.out.1
              have hw8 := B8.get (show wr.heap.size + 1 ∉ [P] by simp; omega) HB.out.2.1
              have hrow8 := rangeAt_bt (rangeAt_ext HR.out.1 HB.out.2.2) B8 (show b ∉ [P] by have := HBL.out.2; simp; omega)
              obtain ⟨d0, d1, d2, df⟩ := cells3 hr8
              obtain ⟨hr9, h9⟩ := put3_at hr8 (.int .i64 y.1) (.int .i64 y.2.1) (.int .u64 y.2.2)
              have hw9 := h9.get (show wr.heap.size + 1 ∉ [wr.heap.size] by simp) hw8
              have hrow9 := rangeAt_bt hrow8 h9 (show b ∉ [wr.heap.size] by have := HBL.out.1; simp; omega)
              have i9 := iR.bt h9 (fun k hk => by rw [List.mem_singleton.1 hk]; exact ⟨_, _, hr8, by decide⟩)
              have s9 : St w P c m2 (put3 w8 wr.heap.size (.int .i64 y.1) (.int .i64 y.2.1) (.int .u64 y.2.2)) := ⟨Bt.out s8.ext (by have := HX.out.2.2.2.1.ext.size; simpa using this) h9, s8.new, s8.sch.bt h9 (by simp; omega)⟩
              unfold put3 at hr9 hw9 hrow9 i9 s9
              have HW := Lib.hid (And.intro hr9 (And.intro hw9 (And.intro i9 (And.intro s9 hrow9))))
              have KR := Lib.hid kR
              have HC := Lib.hid (emp_count kR.count HX.out.1 HX.out.2.1 HX.out.2.2.1)
              clear B8 S8 iR kR s8 hlP hr8 hw8 hrow8 hr9 h9 hw9 hrow9 i9 s9 HCL
              go_wp2_with fail
              clear d0 d1 d2 df
              generalize ((w8.setCell ⟨wr.heap.size, 0, none⟩ (.int .i64 y.1)).setCell ⟨wr.heap.size, 1, none⟩ (.int .i64 y.2.1)).setCell ⟨wr.heap.size, 2, none⟩ (.int .u64 y.2.2) = w9 at *
              have K1 := Lib.hid (show (ckV c R).2 = 0 from KR.out.may.ck H4.out (by have := HC.out.1; have := HC.out.2.1; omega))
              refine (schCheck_any HW.out.2.2.2.1.sch (T := R) HW.out.2.2.1 (fun h => KR.out.may.part.tags (by omega) H4.out (by have := HC.out.1; have := HC.out.2.1; omega)) (show R.count ≤ 4000 by have := HC.out.1; have := HC.out.2.1; omega)).mono ?_
              rw [K1.out]
              rintro e w10 ⟨v, rfl, B10, S10, rfl⟩
              have s10 := HW.out.2.2.2.1.does B10 S10
              have hlP := HLB.out
              have i10 := HW.out.2.2.2.1.sch.inh B10 HW.out.2.2.1
              have hrw := IRow3.sch (irow_sized (irow3_front (HR.out.2.2.1 ▸ HW.out.2.2.2.2) (by rw [HR.out.2.2.2.2.1]; exact Nat.le_of_succ_le HR.out.2.2.2.2.2)) HR.out.2.2.2.2.1) HW.out.2.2.2.1.sch B10
              obtain ⟨p0, p1, p2, -⟩ := cells3 (B10.get (show wr.heap.size ∉ [P] by simp; omega) HW.out.1)
              obtain ⟨q0, q1, q2, -⟩ := cells3 (B10.get (show wr.heap.size + 1 ∉ [P] by simp; omega) HW.out.2.1)
              have HQ := Lib.hid (And.intro s10 (And.intro i10 hrw))
              clear B10 S10 s10 hlP i10 hrw
              go_wp2_with fail
              refine (size_any w10 R HQ.out.2.1).mono ?_
              rw [HC.out.2.2.1]
              rintro e w11 ⟨rfl, h11⟩
              have HQ2 := Lib.hid (And.intro (HQ.out.1.more h11) (And.intro (HQ.out.2.1.ext h11) (HQ.out.2.2.ext h11)))
              clear p0 p1 p2 q0 q1 q2 h11
              go_wp2_with fail
              refine (cutItems_any P c m2 R w11 HQ2.out.2.1 HQ2.out.1.sch (by have := HC.out.1; have := HC.out.2.1; omega)).mono ?_
              rintro e w12 ⟨v12, rfl, o12, B12, S12⟩
              have HSM := Lib.hid (same20_any w12 v12 _ (itsC c R) o12.row (IRow3.sch HQ2.out.2.2 HQ2.out.1.sch B12) (by rw [itsC_len]; have := HC.out.1; have := HC.out.2.1; omega))
              have HQ3 := Lib.hid (And.intro (HQ2.out.1.does B12 S12) (And.intro (HQ2.out.1.sch.inh B12 HQ2.out.2.1) (IRow3.sch HQ2.out.2.2 HQ2.out.1.sch B12)))
              clear B12 S12 o12
              go_wp2_with fail
              refine HSM.out.mono ?_
              rintro e w13 ⟨rfl, h13⟩
              have HQ4 := Lib.hid (And.intro (HQ3.out.1.more h13) (And.intro (HQ3.out.2.1.ext h13) (HQ3.out.2.2.ext h13)))
              clear h13 HSM
              have HKK := Lib.hid (emp_k HX.out.1 HX.out.2.1)
              go_wp2
              go_roundw
              case rel => exact ⟨k + 1, R, m2, _, n, _, HKK.out, rfl, rfl, Lib.hid ⟨HC.out.2.2.2.2.2, HX.out.2.1, HC.out.2.2.2.2.1, HQ4.out.1, HQ4.out.2.1, KR.out.may.part, HQ4.out.2.2⟩⟩
              case measure => exact Nat.lt_succ_self n
            | false =>
              have hb12 := (alloc_at wr (.cells #[.int .i64 0, .int .i64 0, .int .u64 0] 43) _ rfl)
              have hb13 := alloc_at (wr.alloc (.cells #[.int .i64 0, .int .i64 0, .int .u64 0] 43)) (.cells #[.int .i64 x.1, .int .i64 x.2.1, .int .u64 x.2.2] 43) _ rfl
              have hE := ((Ext.refl (wr.alloc (.cells #[.int .i64 0, .int .i64 0, .int .u64 0] 43))).alloc (.cells #[.int .i64 x.1, .int .i64 x.2.1, .int .u64 x.2.2] 43))
              replace hb12 := hE.get hb12
              rw [show (wr.alloc (.cells #[.int .i64 0, .int .i64 0, .int .u64 0] 43)).heap.size = wr.heap.size + 1 by simp] at hb13
              have hE0 := ((Ext.refl wr).alloc (.cells #[.int .i64 0, .int .i64 0, .int .u64 0] 43)).trans hE
              have HCL := Lib.hid (cutFirst_yes P c m T2 _ (HX.out.2.2.2.1.sch.ext hE0) (HX.out.2.2.2.2.1.ext hE0) HX.out.2.2.2.2.2.1 (nil_not HR.out.2.1) (by rw [← itsC_len c T2, HX.out.2.2.1]; have := HX.out.1; have := HX.out.2.1; omega))
              have HB := Lib.hid (And.intro hb12 (And.intro hb13 hE0))
              clear hb12 hb13 hE hE0
              go_wp2_with fail
              clear f0 f1 f2 l0 l1 l2
              generalize (wr.alloc (.cells #[.int .i64 0, .int .i64 0, .int .u64 0] 43)).alloc (.cells #[.int .i64 x.1, .int .i64 x.2.1, .int .u64 x.2.2] 43) = w7 at *
              refine HCL.out.mono ?_
              rintro e w8 ⟨R, z, m2, rfl, B8, S8, iR, kR⟩
              obtain ⟨e1, e2⟩ := ends_first kR.its HR.out.2.1
              subst e1 e2
              unfold itV
              have HBL := Lib.hid (emp_block HR.out.1 HR.out.2.1 HX.out.2.2.2.1.sch)
              have s8 := (HX.out.2.2.2.1.more HB.out.2.2).does B8 S8.sch
              have hlP := HLB.out
              have hr8 := B8.get (show wr.heap.size ∉ [P] by simp; omega) HB.out.1
              have hw8 := B8.get (show wr.heap.size + 1 ∉ [P] by simp; omega) HB.out.2.1
              have hrow8 := rangeAt_bt (rangeAt_ext HR.out.1 HB.out.2.2) B8 (show b ∉ [P] by have := HBL.out.2; simp; omega)
              obtain ⟨d0, d1, d2, df⟩ := cells3 hr8
              obtain ⟨hr9, h9⟩ := put3_at hr8 (.int .i64 x.1) (.int .i64 x.2.1) (.int .u64 x.2.2)
              have hw9 := h9.get (show wr.heap.size + 1 ∉ [wr.heap.size] by simp) hw8
              have hrow9 := rangeAt_bt hrow8 h9 (show b ∉ [wr.heap.size] by have := HBL.out.1; simp; omega)
              have i9 := iR.bt h9 (fun k hk => by rw [List.mem_singleton.1 hk]; exact ⟨_, _, hr8, by decide⟩)
              have s9 : St w P c m2 (put3 w8 wr.heap.size (.int .i64 x.1) (.int .i64 x.2.1) (.int .u64 x.2.2)) := ⟨Bt.out s8.ext (by have := HX.out.2.2.2.1.ext.size; simpa using this) h9, s8.new, s8.sch.bt h9 (by simp; omega)⟩
              unfold put3 at hr9 hw9 hrow9 i9 s9
              have HW := Lib.hid (And.intro hr9 (And.intro hw9 (And.intro i9 (And.intro s9 hrow9))))
              have KR := Lib.hid kR
              have HC := Lib.hid (emp_count kR.count HX.out.1 HX.out.2.1 HX.out.2.2.1)
              clear B8 S8 iR kR s8 hlP hr8 hw8 hrow8 hr9 h9 hw9 hrow9 i9 s9 HCL
              go_wp2_with fail
              clear d0 d1 d2 df
              generalize ((w8.setCell ⟨wr.heap.size, 0, none⟩ (.int .i64 x.1)).setCell ⟨wr.heap.size, 1, none⟩ (.int .i64 x.2.1)).setCell ⟨wr.heap.size, 2, none⟩ (.int .u64 x.2.2) = w9 at *
              · have K1 := Lib.hid (show (ckV c R).2 = 0 from KR.out.may.ck H4.out (by have := HC.out.1; have := HC.out.2.1; omega))
                refine (schCheck_any HW.out.2.2.2.1.sch (T := R) HW.out.2.2.1 (fun h => KR.out.may.part.tags (by omega) H4.out (by have := HC.out.1; have := HC.out.2.1; omega)) (show R.count ≤ 4000 by have := HC.out.1; have := HC.out.2.1; omega)).mono ?_
                rw [K1.out]
                rintro e w10 ⟨v, rfl, B10, S10, rfl⟩
                have s10 := HW.out.2.2.2.1.does B10 S10
                have hlP := HLB.out
                have i10 := HW.out.2.2.2.1.sch.inh B10 HW.out.2.2.1
                have hrw := IRow3.sch (irow_sized (irow3_tailA (HR.out.2.1 ▸ HW.out.2.2.2.2) (by rw [HR.out.2.2.2.1]; exact HR.out.2.2.2.2.2) (by assumption)) HR.out.2.2.2.1) HW.out.2.2.2.1.sch B10
                obtain ⟨p0, p1, p2, -⟩ := cells3 (B10.get (show wr.heap.size ∉ [P] by simp; omega) HW.out.1)
                obtain ⟨q0, q1, q2, -⟩ := cells3 (B10.get (show wr.heap.size + 1 ∉ [P] by simp; omega) HW.out.2.1)
                have HQ := Lib.hid (And.intro s10 (And.intro i10 hrw))
                clear B10 S10 s10 hlP i10 hrw
                go_wp2_with fail
                refine (size_any w10 R HQ.out.2.1).mono ?_
                rw [HC.out.2.2.1]
                rintro e w11 ⟨rfl, h11⟩
                have HQ2 := Lib.hid (And.intro (HQ.out.1.more h11) (And.intro (HQ.out.2.1.ext h11) (HQ.out.2.2.ext h11)))
                clear p0 p1 p2 q0 q1 q2 h11
                go_wp2_with fail
                refine (cutItems_any P c m2 R w11 HQ2.out.2.1 HQ2.out.1.sch (by have := HC.out.1; have := HC.out.2.1; omega)).mono ?_
                rintro e w12 ⟨v12, rfl, o12, B12, S12⟩
                have HSM := Lib.hid (same20_any w12 v12 _ (itsC c R) o12.row (IRow3.sch HQ2.out.2.2 HQ2.out.1.sch B12) (by rw [itsC_len]; have := HC.out.1; have := HC.out.2.1; omega))
                have HQ3 := Lib.hid (And.intro (HQ2.out.1.does B12 S12) (And.intro (HQ2.out.1.sch.inh B12 HQ2.out.2.1) (IRow3.sch HQ2.out.2.2 HQ2.out.1.sch B12)))
                clear B12 S12 o12
                go_wp2_with fail
                refine HSM.out.mono ?_
                rintro e w13 ⟨rfl, h13⟩
                have HQ4 := Lib.hid (And.intro (HQ3.out.1.more h13) (And.intro (HQ3.out.2.1.ext h13) (HQ3.out.2.2.ext h13)))
                clear h13 HSM
                have HKK := Lib.hid (emp_k HX.out.1 HX.out.2.1)
                go_wp2
                go_roundw
                case rel => exact ⟨k + 1, R, m2, _, n, _, HKK.out, rfl, rfl, Lib.hid ⟨HC.out.2.2.2.2.2, HX.out.2.1, HC.out.2.2.2.2.1, HQ4.out.1, HQ4.out.2.1, KR.out.may.part, HQ4.out.2.2⟩⟩
                case measure => exact Nat.lt_succ_self n
              · have K1 := Lib.hid (show (ckV c R).2 = 0 from KR.out.may.ck H4.out (by have := HC.out.1; have := HC.out.2.1; omega))
                refine (schCheck_any HW.out.2.2.2.1.sch (T := R) HW.out.2.2.1 (fun h => KR.out.may.part.tags (by omega) H4.out (by have := HC.out.1; have := HC.out.2.1; omega)) (show R.count ≤ 4000 by have := HC.out.1; have := HC.out.2.1; omega)).mono ?_
                rw [K1.out]
                rintro e w10 ⟨v, rfl, B10, S10, rfl⟩
                have s10 := HW.out.2.2.2.1.does B10 S10
                have hlP := HLB.out
                have i10 := HW.out.2.2.2.1.sch.inh B10 HW.out.2.2.1
                have hrw := IRow3.sch (irow_sized (irow3_tailB (HR.out.2.1 ▸ HW.out.2.2.2.2) (by rw [HR.out.2.2.2.1]; exact HR.out.2.2.2.2.2)) HR.out.2.2.2.1) HW.out.2.2.2.1.sch B10
                obtain ⟨p0, p1, p2, -⟩ := cells3 (B10.get (show wr.heap.size ∉ [P] by simp; omega) HW.out.1)
                obtain ⟨q0, q1, q2, -⟩ := cells3 (B10.get (show wr.heap.size + 1 ∉ [P] by simp; omega) HW.out.2.1)
                have HQ := Lib.hid (And.intro s10 (And.intro i10 hrw))
                clear B10 S10 s10 hlP i10 hrw
                go_wp2_with fail
                refine (size_any w10 R HQ.out.2.1).mono ?_
                rw [HC.out.2.2.1]
                rintro e w11 ⟨rfl, h11⟩
                have HQ2 := Lib.hid (And.intro (HQ.out.1.more h11) (And.intro (HQ.out.2.1.ext h11) (HQ.out.2.2.ext h11)))
                clear p0 p1 p2 q0 q1 q2 h11
                go_wp2_with fail
                refine (cutItems_any P c m2 R w11 HQ2.out.2.1 HQ2.out.1.sch (by have := HC.out.1; have := HC.out.2.1; omega)).mono ?_
                rintro e w12 ⟨v12, rfl, o12, B12, S12⟩
                have HSM := Lib.hid (same20_any w12 v12 _ (itsC c R) o12.row (IRow3.sch HQ2.out.2.2 HQ2.out.1.sch B12) (by rw [itsC_len]; have := HC.out.1; have := HC.out.2.1; omega))
                have HQ3 := Lib.hid (And.intro (HQ2.out.1.does B12 S12) (And.intro (HQ2.out.1.sch.inh B12 HQ2.out.2.1) (IRow3.sch HQ2.out.2.2 HQ2.out.1.sch B12)))
                clear B12 S12 o12
                go_wp2_with fail
                refine HSM.out.mono ?_
                rintro e w13 ⟨rfl, h13⟩
                have HQ4 := Lib.hid (And.intro (HQ3.out.1.more h13) (And.intro (HQ3.out.2.1.ext h13) (HQ3.out.2.2.ext h13)))
                clear h13 HSM
                have HKK := Lib.hid (emp_k HX.out.1 HX.out.2.1)
                go_wp2
                go_roundw
                case rel => exact ⟨k + 1, R, m2, _, n, _, HKK.out, rfl, rfl, Lib.hid ⟨HC.out.2.2.2.2.2, HX.out.2.1, HC.out.2.2.2.2.1, HQ4.out.1, HQ4.out.2.1, KR.out.may.part, HQ4.out.2.2⟩⟩
                case measure => exact Nat.lt_succ_self n
  · have HOF := Lib.hid (of22_no c hc h4 w)
    have HPP := Lib.hid (fun W => parted_no c h4 (.slice a0 len0 cap0) W)
    have H4 := Lib.hid h4
    clear h4 w0
    go_enter Tryz.func5, Tryz.ntmps5
    go_wp2_with fail
    refine HOF.out.mono ?_
    rintro e w3 ⟨rfl, hx⟩
    go_wp2_with fail
    refine (HPP.out w3).mono ?_
    rintro e w4 ⟨rfl, hS⟩
    replace hx := hx.trans hS
    clear hS
    go_wp2_with fail
    refine (is22_any c _).mono ?_
    rw [decide_eq_false H4.out]
    rintro e w21 ⟨rfl, hS⟩
    replace hx := hx.trans hS
    clear hS
    go_wp2_with fail
    refine (alive23_any _).mono ?_
    rintro e w22 ⟨rfl, hS⟩
    replace hx := hx.trans hS
    clear hS
    go_wp2
    go_ret
    exact Ret.mk hx
theorem cutEmpties_row (c : Int) (a0 : Option Addr) (len0 cap0 : Nat) (z0 : List BeadL) (en : Int) (w : World) (hc : (Lit.int .u8 c).wf = true) (w0 : IsBeads w (.slice a0 len0 cap0) z0) (_hen : (Lit.int .u64 en).wf = true) :
    Calls Tryz.prog 5 #[.int .u8 c, .slice a0 len0 cap0, .int .u64 en] w (Ret (.bool true) w) := by
  obtain ⟨m, rfl, hm⟩ := u8_nat hc
  exact cutEmpties_walk m hm a0 len0 cap0 z0 en w w0
end Go.Proofs.YtnhbcildpdhgnaaGreat
