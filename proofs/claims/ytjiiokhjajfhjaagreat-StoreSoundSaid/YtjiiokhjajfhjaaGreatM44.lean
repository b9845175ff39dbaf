/- The walk of StoreSound. -/
import Derived.Test.YtjiiokhjajfhjaaGreatM43
namespace Go.Proofs.YtjiiokhjajfhjaaGreat
open Go Go.RowKit

/-- rows of beads, and the trees that were made of them. -/
def SnRow (w : World) (Vs : List Tr) (cs : List Value) : Prop :=
  cs.length = Vs.length ∧ ∀ (i : Nat) (T : Tr), Vs[i]? = some T → ∃ (t : BT) (p : Value), cs[i]? = some p ∧ t.fits T ∧ TagsOk T ∧ t.enc.length ≤ 400 ∧ Beads w p t.enc
theorem SnRow.one (w : World) : SnRow w [.nil] [.slice none 0 0] := ⟨rfl, fun i T hi => by
  match i, hi with
  | 0, hi => cases hi; exact ⟨.nil, _, rfl, trivial, trivial, Nat.zero_le _, .inl ⟨rfl, _, _, rfl⟩⟩⟩
theorem SnRow.snoc {w : World} {Vs : List Tr} {cs : List Value} (h : SnRow w Vs cs) {T : Tr} {t : BT} {p : Value} (h1 : t.fits T) (h2 : TagsOk T) (h3 : t.enc.length ≤ 400) (h4 : Beads w p t.enc) : SnRow w (Vs ++ [T]) (cs ++ [p]) := by
  refine ⟨by rw [List.length_append, List.length_append, h.1]; rfl, fun i U hi => ?_⟩
  by_cases hl : i < Vs.length
  · rw [List.getElem?_append_left hl] at hi
    obtain ⟨t', p', k1, k2⟩ := h.2 i U hi
    exact ⟨t', p', by rw [List.getElem?_append_left (by rw [h.1]; exact hl)]; exact k1, k2⟩
  · rw [List.getElem?_append_right (by omega)] at hi
    have hz : i - Vs.length = 0 := by
      rcases hq : i - Vs.length with _ | q
      · rfl
      · rw [hq] at hi; simp at hi
    rw [hz] at hi
    obtain rfl : T = U := by simpa using hi
    exact ⟨t, p, by rw [List.getElem?_append_right (by rw [h.1]; omega), h.1, hz]; rfl, h1, h2, h3, h4⟩
theorem trow1 {w : World} {N : Nat} {A : Tr} {t : TypeId} (h : w.heap[N]? = some (.cells #[.pointer A.ptr] t (0, 0))) : TRow w (some ⟨N, 0, none⟩) 1 [A] :=
  .inr ⟨N, 0, rfl, Nat.le_refl _, fun i U hi => by
    match i, hi with
    | 0, hi => cases hi; exact cell_of h 0⟩
set_option maxRecDepth 100000 in
set_option maxHeartbeats 8000000 in
theorem storeSound_walk (c : Nat) (hc : c < 256) (a0 : Option Addr) (len0 cap0 : Nat) (z0 : List BeadL) (a1 : Option Addr) (len1 cap1 : Nat) (z1 : List BeadL) (tm : Nat) (w : World) (w0 : IsBeads w (.slice a0 len0 cap0) z0) (w1 : IsBeads w (.slice a1 len1 cap1) z1) :
    Calls Tryz.prog 5 #[.int .u8 c, .slice a0 len0 cap0, .slice a1 len1 cap1, .int .u8 tm] w (Ret (.bool true) w) := by
  have hund : undef = Value.tuple #[] := rfl
  obtain rfl : len0 = z0.length := by obtain ⟨_, _, h⟩ := beads_slice w0.1; cases h; rfl
  obtain rfl : len1 = z1.length := by obtain ⟨_, _, h⟩ := beads_slice w1.1; cases h; rfl
  have HB0 := Lib.hid w0.1
  have HB1 := Lib.hid w1.1
  have W0 := Lib.hid w0.2
  have W1 := Lib.hid w1.2
  have HL0 := Lib.hid (fun W (e : Ext w W) => beadsLong_any W _ z0 (w0.1.ext e))
  have HL1 := Lib.hid (fun W (e : Ext w W) => beadsLong_any W _ z1 (w1.1.ext e))
  clear w0 w1
  by_cases h4 : 1 ≤ c ∧ c ≤ 4
  · go_enter Tryz.func5, Tryz.ntmps5
    go_wp2_with fail
    refine (begun_yes c h4 w).mono ?_
    rintro e w1 ⟨P, Q, rfl, ss⟩
    go_wp2_with fail
    refine (HL0.out w1 ss.ext).mono ?_
    cases d0 : (decide (400 < z0.length) || !mayB z0) with
    | true =>
      rintro e w2 ⟨rfl, hS⟩
      replace ss := ss.more hS
      clear hS d0
      go_wp2_with fail
      refine (is22_any c _).mono ?_
      rw [decide_eq_true h4]
      rintro e w21 ⟨rfl, hS⟩
      replace ss := ss.more hS
      clear hS
      go_wp2_with fail
      refine (alive36_any w21).mono ?_
      rintro e w22 ⟨rfl, hS⟩
      replace ss := ss.more hS
      have HX := Lib.hid ss.ext
      clear hS ss
      go_wp2
      go_ret
      exact Ret.mk HX.out
    | false =>
      obtain ⟨l0, t0, e0⟩ := long_tree d0
      subst e0
      have L0 := Lib.hid l0
      rintro e w2 ⟨rfl, hS⟩
      replace ss := ss.more hS
      clear hS d0 l0
      go_wp2_with fail
      refine (HL1.out w2 ss.ext).mono ?_
      cases d1 : (decide (400 < z1.length) || !mayB z1) with
      | true =>
        rintro e w3 ⟨rfl, hS⟩
        replace ss := ss.more hS
        clear hS d1
        go_wp2_with fail
        refine (is22_any c _).mono ?_
        rw [decide_eq_true h4]
        rintro e w21 ⟨rfl, hS⟩
        replace ss := ss.more hS
        clear hS
        go_wp2_with fail
        refine (alive36_any w21).mono ?_
        rintro e w22 ⟨rfl, hS⟩
        replace ss := ss.more hS
        have HX := Lib.hid ss.ext
        clear hS ss
        go_wp2
        go_ret
        exact Ret.mk HX.out
      | false =>
        obtain ⟨l1, t1, e1⟩ := long_tree d1
        subst e1
        have L1 := Lib.hid l1
        rintro e w3 ⟨rfl, hS⟩
        replace ss := ss.more hS
        clear hS d1 l1
        have HE := Lib.hid ((Ext.refl w3).alloc (.cells #[.slice none 0 0] 22))
        have HC := Lib.hid (show (w3.alloc (.cells #[.slice none 0 0] 22)).cell? ⟨w3.heap.size, 0, none⟩ = some (.slice none 0 0) from cell_of (alloc_at w3 _ _ rfl) 0)
        have HSZ := Lib.hid (show w.heap.size ≤ (w3.alloc (.cells #[.slice none 0 0] 22)).heap.size from Nat.le_trans ss.ext.size HE.out.size)
        have HS := Lib.hid (ss.more HE.out)
        clear ss
        go_wp2_with (at_builtin; refine wpList_append_s (B := w.heap.size) (zs := []) (u := .slice none 0 0) (b := w3.heap.size) rfl (.tmp 38) (.tmp 39) rfl rfl rfl (SOwn.nil _ _) HC.out rfl (Nat.zero_le _) HSZ.out ?_)
        intro v4 w4 ho4 hg4
        have ss := HS.out.grown (SOwn.nil w.heap.size _) (Nat.le_refl _) (by refine ⟨?_, ?_, ?_, ?_, ?_⟩ <;> decide) hg4
        have H4 := Lib.hid (And.intro ss ho4)
        clear ss ho4 hg4 HE HC HSZ HS
        obtain ⟨N, hN⟩ : ∃ N : Nat, N = tm % 6 := ⟨_, rfl⟩
        have hNI : ((tm : Int) % 6) = (N : Int) := by omega
        have hN6 : N < 6 := by omega
        clear hN
        go_wp2
        go_loopw [10, 11] (fun av i X => ∃ k : Nat, k ≤ N ∧ i = .int .i64 k ∧ ∃ (Vs : List Tr) (cs : List Value), cs.length = k + 1 ∧ SS w P c Q 0 Vs X ∧ SOwn w.heap.size X av cs ∧ SnRow w Vs cs) (fun _ i _ => N - (intOf i).toNat)
        case atStart => exact ⟨0, Nat.zero_le _, rfl, _, _, rfl, H4.out.1, H4.out.2, SnRow.one w⟩
        case round =>
          obtain ⟨k, hk, rfl, Vs, cs, hcs, ss, ho, hrow⟩ := hrel
          by_cases hlt : k < N
          · by_cases h2 : k % 2 = 1
            · have h2I : (k : Int) % 2 = 1 := by omega
              clear h2
              have HE := Lib.hid ((Ext.refl wr).alloc (.cells #[.slice a1 t1.enc.length cap1] 22))
              have HO := Lib.hid (ho.ext HE.out)
              have HC := Lib.hid (show (wr.alloc (.cells #[.slice a1 t1.enc.length cap1] 22)).cell? ⟨wr.heap.size, 0, none⟩ = some (.slice a1 t1.enc.length cap1) from cell_of (alloc_at wr _ _ rfl) 0)
              have HSZ := Lib.hid (show w.heap.size ≤ (wr.alloc (.cells #[.slice a1 t1.enc.length cap1] 22)).heap.size from Nat.le_trans ss.ext.size HE.out.size)
              have HLEN := Lib.hid (show cs.length ≤ 1000 by omega)
              have HS := Lib.hid (ss.more HE.out)
              have HRW := Lib.hid hrow
              clear ho ss hrow
              go_wp2_with (at_builtin; refine wpList_append_s (B := w.heap.size) (zs := cs) (u := .slice a1 t1.enc.length cap1) (b := wr.heap.size) rfl (.tmp 53) (.tmp 55) rfl rfl rfl HO.out HC.out rfl HLEN.out HSZ.out ?_)
              intro v6 w6 ho6 hg6
              have ss := HS.out.grown HO.out (Nat.le_refl _) (by refine ⟨?_, ?_, ?_, ?_, ?_⟩ <;> decide) hg6
              have HO6 := Lib.hid ho6
              clear ho6 hg6 HO HC HSZ HLEN HS HE
              go_wp2_with fail
              refine (beadsMakeD_any t1 w6 _ (HB1.out.ext ss.ext) L1.out).mono ?_
              rintro e w7 ⟨A, rfl, iA, sA, hS⟩
              replace ss := ss.more hS
              have HO7 := Lib.hid (HO6.out.ext hS)
              clear hS HO6
              have hne : Q ≠ w7.heap.size := by have := ss.sto.lt; omega
              have hX : Ext w7 (w7.alloc (.cells #[.pointer A.ptr] 27)) := (Ext.refl w7).alloc _
              have hR := alloc_at w7 (.cells #[.pointer A.ptr] 27) _ rfl
              have HP := Lib.hid (stoPut_any Q P Vs [A] _ 1 _ (ss.more hX).sto (trow1 hR) (fun b o h _ => by cases h; exact hne.symm) (by have := HRW.out.1; simp; omega))
              go_wp2_with fail
              refine HP.out.mono ?_
              rintro e w8 ⟨nv, rfl, BB, mm, own⟩
              have s2 : SS w P c Q 0 (Vs ++ [A]) w8 := (ss.more hX).q BB mm (fun U hU => by
                rcases List.mem_append.1 hU with hU | hU
                · exact (ss.inh U hU).ext hX
                · rw [List.mem_singleton.1 hU]; exact iA.ext hX)
              have HZ := Lib.hid (And.intro s2 (And.intro (show SOwn w.heap.size w8 v6 (cs ++ [.slice a1 t1.enc.length cap1]) from (HO7.out.ext hX).bt (ss.more hX) BB (fun x hx => .inr (by simpa using hx))) (show SnRow w (Vs ++ [A]) (cs ++ [.slice a1 t1.enc.length cap1]) from HRW.out.snoc sA.1 (fits_tagsOk t1 A sA.1 W1.out) L1.out HB1.out)))
              obtain ⟨na, nc, rfl⟩ := own.slice
              clear ss s2 BB mm own iA sA hX hR hne HP HRW HO7
              go_wp2
              go_roundw
              case rel => exact ⟨k + 1, by omega, by go_num, Vs ++ [A], cs ++ [.slice a1 t1.enc.length cap1], by simp; omega, HZ.out.1, HZ.out.2.1, HZ.out.2.2⟩
              case measure => simp [intOf]; omega
            · have h2I : (k : Int) % 2 = 0 := by omega
              clear h2
              have HE := Lib.hid ((Ext.refl wr).alloc (.cells #[.slice a0 t0.enc.length cap0] 22))
              have HO := Lib.hid (ho.ext HE.out)
              have HC := Lib.hid (show (wr.alloc (.cells #[.slice a0 t0.enc.length cap0] 22)).cell? ⟨wr.heap.size, 0, none⟩ = some (.slice a0 t0.enc.length cap0) from cell_of (alloc_at wr _ _ rfl) 0)
              have HSZ := Lib.hid (show w.heap.size ≤ (wr.alloc (.cells #[.slice a0 t0.enc.length cap0] 22)).heap.size from Nat.le_trans ss.ext.size HE.out.size)
              have HLEN := Lib.hid (show cs.length ≤ 1000 by omega)
              have HS := Lib.hid (ss.more HE.out)
              have HRW := Lib.hid hrow
              clear ho ss hrow
              go_wp2_with (at_builtin; refine wpList_append_s (B := w.heap.size) (zs := cs) (u := .slice a0 t0.enc.length cap0) (b := wr.heap.size) rfl (.tmp 53) (.tmp 55) rfl rfl rfl HO.out HC.out rfl HLEN.out HSZ.out ?_)
              intro v6 w6 ho6 hg6
              have ss := HS.out.grown HO.out (Nat.le_refl _) (by refine ⟨?_, ?_, ?_, ?_, ?_⟩ <;> decide) hg6
              have HO6 := Lib.hid ho6
              clear ho6 hg6 HO HC HSZ HLEN HS HE
              go_wp2_with fail
              refine (beadsMakeD_any t0 w6 _ (HB0.out.ext ss.ext) L0.out).mono ?_
              rintro e w7 ⟨A, rfl, iA, sA, hS⟩
              replace ss := ss.more hS
              have HO7 := Lib.hid (HO6.out.ext hS)
              clear hS HO6
              have hne : Q ≠ w7.heap.size := by have := ss.sto.lt; omega
              have hX : Ext w7 (w7.alloc (.cells #[.pointer A.ptr] 27)) := (Ext.refl w7).alloc _
              have hR := alloc_at w7 (.cells #[.pointer A.ptr] 27) _ rfl
              have HP := Lib.hid (stoPut_any Q P Vs [A] _ 1 _ (ss.more hX).sto (trow1 hR) (fun b o h _ => by cases h; exact hne.symm) (by have := HRW.out.1; simp; omega))
              go_wp2_with fail
              refine HP.out.mono ?_
              rintro e w8 ⟨nv, rfl, BB, mm, own⟩
              have s2 : SS w P c Q 0 (Vs ++ [A]) w8 := (ss.more hX).q BB mm (fun U hU => by
                rcases List.mem_append.1 hU with hU | hU
                · exact (ss.inh U hU).ext hX
                · rw [List.mem_singleton.1 hU]; exact iA.ext hX)
              have HZ := Lib.hid (And.intro s2 (And.intro (show SOwn w.heap.size w8 v6 (cs ++ [.slice a0 t0.enc.length cap0]) from (HO7.out.ext hX).bt (ss.more hX) BB (fun x hx => .inr (by simpa using hx))) (show SnRow w (Vs ++ [A]) (cs ++ [.slice a0 t0.enc.length cap0]) from HRW.out.snoc sA.1 (fits_tagsOk t0 A sA.1 W0.out) L0.out HB0.out)))
              obtain ⟨na, nc, rfl⟩ := own.slice
              clear ss s2 BB mm own iA sA hX hR hne HP HRW HO7
              go_wp2
              go_roundw
              case rel => exact ⟨k + 1, by omega, by go_num, Vs ++ [A], cs ++ [.slice a0 t0.enc.length cap0], by simp; omega, HZ.out.1, HZ.out.2.1, HZ.out.2.2⟩
              case measure => simp [intOf]; omega
          · obtain rfl : k = N := by omega
            obtain ⟨aa, ac, rfl⟩ := ho.slice
            have HO := Lib.hid ho
            have HRW := Lib.hid hrow
            have hTg := Lib.hid (fun (T : Tr) (hT : T ∈ Vs) => by
              obtain ⟨i, hi⟩ := List.getElem?_of_mem hT
              obtain ⟨t, p, -, q1, q2, q3, -⟩ := hrow.2 i T hi
              exact And.intro q2 (show T.count ≤ 4000 by rw [fits_cnt q1]; omega))
            have hVl : Vs.length ≤ 6 := by have := hrow.1; omega
            have hcl : cs.length = Vs.length := hrow.1
            have HSD := Lib.hid (stoSoundB_any wr P c Q 0 Vs wr ss.sb (fun _ T hT => (hTg.out T hT).1) (fun T hT => (hTg.out T hT).2) (by omega))
            have HS := Lib.hid ss
            clear ho hrow ss
            go_wp2_with fail
            refine HSD.out.mono ?_
            rintro e w5 ⟨rfl, sb⟩
            have HO5 := Lib.hid (HO.out.bt HS.out sb.bt (fun x hx => by simpa using hx))
            have HE5 := Lib.hid ((HS.out.back sb).ext)
            clear sb HSD HO HS
            obtain ⟨BV, hBV⟩ : ∃ BV, BV = badV c Vs := ⟨_, rfl⟩
            rw [← hBV]
            have HBV := Lib.hid hBV
            clear hBV
            go_wp2
            go_loopw [15] (fun i X => ∃ k : Nat, k ≤ Vs.length ∧ i = .int .i64 k ∧ Ext w5 X ∧ badV c Vs = (k + (badV c (Vs.drop k)).1, (badV c (Vs.drop k)).2)) (fun i _ => Vs.length - (intOf i).toNat)
            case atStart => exact ⟨0, Nat.zero_le _, rfl, Ext.refl _, by simp⟩
            case round =>
              obtain ⟨j, hj, rfl, hX, hb⟩ := hrel
              have HBB := Lib.hid hb
              have HX := Lib.hid hX
              clear hb
              by_cases hlt : j < Vs.length
              · obtain ⟨T, hT⟩ : ∃ T, Vs[j]? = some T := ⟨_, List.getElem?_eq_getElem hlt⟩
                have hdrop : Vs.drop j = T :: Vs.drop (j + 1) := by
                  rw [List.drop_eq_getElem_cons hlt]
                  congr 1
                  exact (List.getElem?_eq_some_iff.1 hT).2
                have hbd : badV c (Vs.drop j) = if (ckV c T).2 = 0 then ((badV c (Vs.drop (j + 1))).1 + 1, (badV c (Vs.drop (j + 1))).2) else (0, (ckV c T).2) := by
                  rw [hdrop]; rfl
                have HBD := Lib.hid hbd
                obtain ⟨t, p, q0, q1, q2, q3, q4⟩ := HRW.out.2 j T hT
                obtain ⟨g, cap, e1, hcell⟩ := SOwn.cell (HO5.out.ext hX) q0
                injection e1 with e1 e2 e3
                subst e1 e3
                have HK := Lib.hid (check22_any c h4 t T wr p q1 (fun _ => q2) (q4.ext (HE5.out.trans hX)) (by omega))
                clear hT hdrop hbd q0 q1 q2 q3 q4 hX
                generalize hck : ckV c T = F at *
                obtain ⟨F1, F2⟩ := F
                simp only at HK HBD
                clear hck
                go_wp2_with fail
                refine HK.out.mono ?_
                rintro e w6 ⟨rfl, hS⟩
                have HX6 := Lib.hid (HX.out.trans hS)
                clear hS
                by_cases hf : F2 = 0
                · subst hf
                  go_wp2
                  go_roundw
                  case rel =>
                    refine ⟨j + 1, by omega, by go_num, HX6.out, ?_⟩
                    rw [HBB.out, HBD.out]
                    simp
                    omega
                  case measure => simp [intOf]; omega
                · have hf' := bne_iff_ne.2 hf
                  have hb1 : BV = (j, F2) := by rw [HBV.out, HBB.out, HBD.out, if_neg hf]; simp
                  subst hb1
                  go_wp2_with fail
                  refine (alive36_any w6).mono ?_
                  rintro e w7 ⟨rfl, hS⟩
                  have HX7 := Lib.hid ((HE5.out.trans HX6.out).trans hS)
                  clear hS
                  go_wp2
                  go_ret
                  exact Ret.mk HX7.out
              · obtain rfl : j = Vs.length := by omega
                have hb1 : BV = (Vs.length, 0) := by rw [HBV.out, HBB.out, List.drop_length]; rfl
                subst hb1
                clear hX
                go_wp2_with fail
                refine (alive36_any wr).mono ?_
                rintro e w7 ⟨rfl, hS⟩
                have HX7 := Lib.hid ((HE5.out.trans HX.out).trans hS)
                clear hS
                go_wp2
                go_ret
                exact Ret.mk HX7.out
  · go_enter Tryz.func5, Tryz.ntmps5
    go_wp2_with fail
    have hx := Ext.refl w
    go_wp2_with fail
    refine (begun_no c hc h4 w).mono ?_
    rintro e w1 ⟨rfl, hS⟩
    replace hx := hx.trans hS
    clear hS
    cases d0 : (decide (400 < z0.length) || !mayB z0) with
    | true =>
      rw [d0] at HL0
      clear d0
      go_wp2_with fail
      refine (HL0.out _ hx).mono ?_
      rintro e w2 ⟨rfl, hS⟩
      replace hx := hx.trans hS
      clear hS
      go_wp2_with fail
      refine (is22_any c _).mono ?_
      rw [decide_eq_false h4]
      rintro e w3 ⟨rfl, hS⟩
      replace hx := hx.trans hS
      clear hS
      go_wp2_with fail
      refine (alive36_any _).mono ?_
      rintro e w4 ⟨rfl, hS⟩
      replace hx := hx.trans hS
      clear hS
      go_wp2
      go_ret
      exact Ret.mk hx
    | false =>
      rw [d0] at HL0
      clear d0
      go_wp2_with fail
      refine (HL0.out _ hx).mono ?_
      rintro e w2 ⟨rfl, hS⟩
      replace hx := hx.trans hS
      clear hS
      cases d1 : (decide (400 < z1.length) || !mayB z1) with
      | true =>
        rw [d1] at HL1
        clear d1
        go_wp2_with fail
        refine (HL1.out _ hx).mono ?_
        rintro e w3 ⟨rfl, hS⟩
        replace hx := hx.trans hS
        clear hS
        go_wp2_with fail
        refine (is22_any c _).mono ?_
        rw [decide_eq_false h4]
        rintro e w4 ⟨rfl, hS⟩
        replace hx := hx.trans hS
        clear hS
        go_wp2_with fail
        refine (alive36_any _).mono ?_
        rintro e w5 ⟨rfl, hS⟩
        replace hx := hx.trans hS
        clear hS
        go_wp2
        go_ret
        exact Ret.mk hx
      | false =>
        rw [d1] at HL1
        clear d1
        go_wp2_with fail
        refine (HL1.out _ hx).mono ?_
        rintro e w3 ⟨rfl, hS⟩
        replace hx := hx.trans hS
        clear hS
        go_wp2_with fail
        refine (is22_any c _).mono ?_
        rw [decide_eq_false h4]
        rintro e w4 ⟨rfl, hS⟩
        replace hx := hx.trans hS
        clear hS
        go_wp2_with fail
        refine (alive36_any _).mono ?_
        rintro e w5 ⟨rfl, hS⟩
        replace hx := hx.trans hS
        clear hS
        go_wp2
        go_ret
        exact Ret.mk hx
theorem storeSound_row (c : Int) (a0 : Option Addr) (len0 cap0 : Nat) (z0 : List BeadL) (a1 : Option Addr) (len1 cap1 : Nat) (z1 : List BeadL) (tm : Int) (w : World) (hc : (Lit.int .u8 c).wf = true) (w0 : IsBeads w (.slice a0 len0 cap0) z0) (w1 : IsBeads w (.slice a1 len1 cap1) z1) (ht : (Lit.int .u8 tm).wf = true) :
    Calls Tryz.prog 5 #[.int .u8 c, .slice a0 len0 cap0, .slice a1 len1 cap1, .int .u8 tm] w (Ret (.bool true) w) := by
  obtain ⟨m, rfl, hm⟩ := u8_nat hc
  obtain ⟨k, rfl, -⟩ := u8_nat ht
  exact storeSound_walk m hm a0 len0 cap0 z0 a1 len1 cap1 z1 k w w0 w1
end Go.Proofs.YtjiiokhjajfhjaaGreat
