/- joineryref07.Text walked. -/
import Derived.Test.YtkkapmkhnmoeaaaByte7
import Derived.Laws.BytesArg
namespace Go.Proofs.Ytkkapmkhnmoeaaa
open Go Go.RowKit

/-- the state of the outer loop. -/
def TxtSt (w2 : World) (bs : List Nat) (v i : Value) (W : World) : Prop :=
  ∃ (ds : List Nat) (m : Nat), i = .int .i64 ((m : Int) - 1) ∧ IOwn w2.heap.size W v ds ∧ Ext w2 W ∧ Hid (m ≤ bs.length ∧ Dec ds ∧ tval ds = bval (bs.drop m) ∧ ds.length + 3 * m ≤ 1 + 3 * bs.length)
/-- the state of the inner loop. -/
def TxtIn (w2 : World) (T L0 : Nat) (v c k : Value) (W : World) : Prop :=
  ∃ (es : List Nat) (kk cc : Nat), c = .int .i64 (cc : Nat) ∧ k = .int .i64 (kk : Nat) ∧ IOwn w2.heap.size W v es ∧ Ext w2 W ∧ Hid (TxIn T L0 es kk cc)
def txm (L0 : Nat) (c k : Value) : Nat := (L0 - (intOf k).toNat) * 1000 + (intOf c).toNat
theorem txm_a {L0 kk cc c' : Nat} (h : kk < L0) (hc' : c' ≤ 255) : txm L0 (.int .i64 (c' : Nat)) (.int .i64 ((kk + 1 : Nat) : Int)) < txm L0 (.int .i64 (cc : Nat)) (.int .i64 (kk : Nat)) := by
  show (L0 - (kk + 1)) * 1000 + c' < (L0 - kk) * 1000 + cc
  omega
theorem txm_b {L0 kk cc c' : Nat} (h : L0 ≤ kk) (hc' : c' < cc) : txm L0 (.int .i64 (c' : Nat)) (.int .i64 ((kk + 1 : Nat) : Int)) < txm L0 (.int .i64 (cc : Nat)) (.int .i64 (kk : Nat)) := by
  show (L0 - (kk + 1)) * 1000 + c' < (L0 - kk) * 1000 + cc
  omega
/-- digits, the highest one first, as a text. -/
def strD (ds : List Nat) : ByteArray := strOfNums (ds.reverse.map (fun d => ((48 + d : Nat) : Int)))
theorem strD_snoc {ds : List Nat} {j : Nat} (h : j < ds.length) : strD (ds.drop (j + 1)) ++ strOfNums [((48 + ds.getD j 0 : Nat) : Int)] = strD (ds.drop j) := by
  rw [drop_cons_getD h]
  unfold strD strOfNums
  apply ByteArray.ext
  simp
set_option maxRecDepth 100000 in
set_option maxHeartbeats 4000000 in
theorem text07_any (w : World) (p : Value) (xs : List Nat) (hp : URow w p xs) (hx : Words xs) : Calls Try.prog 23 #[p] w (Ret (.string (TextV xs)) w) := by
  have HM1 := Lib.hid (may07_any w p xs hp)
  have HP := Lib.hid hp
  obtain ⟨R, hR⟩ : ∃ R, TextV xs = R := ⟨_, rfl⟩
  rw [hR]
  cases m1 : mayN xs with
  | false =>
    have HE := Lib.hid (show ByteArray.empty = R by rw [← hR]; unfold TextV; rw [m1]; rfl)
    rw [m1] at HM1
    clear hp hx m1 hR
    go_enter Try.func23, Try.ntmps23
    go_wp2_with fail
    refine HM1.out.mono ?_
    rintro e w1 ⟨rfl, h1⟩
    go_wp2
    go_ret
    exact ⟨by rw [← HE.out]; rfl, h1⟩
  | true =>
    have HN := Lib.hid (may_num hx m1)
    have HE := Lib.hid (show textOf (nval xs) = R by rw [← hR]; unfold TextV; rw [m1]; rfl)
    rw [m1] at HM1
    clear hp hx m1 hR
    go_enter Try.func23, Try.ntmps23
    go_wp2_with fail
    refine HM1.out.mono ?_
    rintro e w1 ⟨rfl, h1⟩
    go_wp2_with fail
    refine (bytes_num w1 p (nval xs) ⟨xs, HP.out.ext h1, HN.out.1, rfl⟩ (lt256 HN.out.2)).mono ?_
    rintro e w2 ⟨v3, bs, rfl, g1, g2, g3, h3⟩
    obtain ⟨ba, bc, rfl⟩ := g1.slice
    have HX2 := Lib.hid (h1.trans h3)
    have HB := Lib.hid (And.intro g1 (And.intro g2 g3))
    have hl : bs.length ≤ 512 := (len512 g2).2 (by rw [g3]; exact HN.out.2)
    have HL := Lib.hid hl
    have hA := Lib.hid ((Ext.refl w2).alloc (.cells #[.int .i64 0] 3))
    have hO0 := Lib.hid (show IOwn w2.heap.size (w2.alloc (.cells #[.int .i64 0] 3)) (.slice (some ⟨w2.heap.size, 0, none⟩) 1 1) [0] from ⟨rfl, .inr ⟨w2.heap.size, 1, _, rfl, Nat.le_refl _, alloc_at _ _ _ rfl, Nat.le_refl _, by decide, rfl, rfl⟩⟩)
    clear g1 g2 g3 h1 h3 HM1 HP
    go_wp2_with fail
    clear hl
    go_loopw [4, 5] (fun v i W => TxtSt w2 bs v i W) (fun _ i _ => (intOf i + 1).toNat)
    case atStart => exact ⟨[0], bs.length, rfl, hO0.out, hA.out, Lib.hid ⟨Nat.le_refl _, ⟨fun d hd => by simp at hd; subst hd; decide, by simp, .inl rfl⟩, by rw [List.drop_length]; simp [tval, bval], by simp⟩⟩
    case round =>
      clear hA hO0
      obtain ⟨ds, m, rfl, hO, hE, HH⟩ := hrel
      obtain ⟨va, vc, hv⟩ := hO.slice
      subst hv
      by_cases h0 : m = 0
      · subst h0
        have HO := Lib.hid hO
        have HE2 := Lib.hid hE
        have HD := Lib.hid (dec_decs HH.out.2.1)
        have hdl : ds.length ≤ 1537 := by have := HH.out.2.2.2; have := HL.out; omega
        have HR0 := Lib.hid (And.intro hO.row HH.out.2.1.1)
        have hlp : 0 < ds.length := List.length_pos_iff.2 HH.out.2.1.2.1
        obtain ⟨wo, rfl⟩ : ∃ wo, wo = wr := ⟨_, rfl⟩
        clear hO hE
        go_wp2_with fail
        clear hdl
        go_loopw [9, 10] (fun s i W => Ext wo W ∧ ∃ m : Nat, i = .int .i64 ((m : Int) - 1) ∧ s = .string (strD (ds.drop m)) ∧ Hid (m ≤ ds.length)) (fun _ i _ => (intOf i + 1).toNat)
        case atStart => exact ⟨Ext.refl _, ds.length, rfl, by rw [List.drop_length]; rfl, Lib.hid (Nat.le_refl _)⟩
        case round =>
          obtain ⟨hE, m, rfl, rfl, HM⟩ := hrel
          by_cases h0 : m = 0
          · subst h0
            have HX := Lib.hid ((HX2.out.trans HE2.out).trans hE)
            have HV := Lib.hid (show strD (ds.drop 0) = R by
              rw [List.drop_zero, HD.out, HH.out.2.2.1, List.drop_zero, HB.out.2.2, ← HE.out]; rfl)
            clear hE
            go_wp2
            go_ret
            exact ⟨by rw [← HV.out]; rfl, HX.out⟩
          · obtain ⟨j, rfl⟩ : ∃ j, m = j + 1 := ⟨m - 1, by omega⟩
            have hj : j < ds.length := HM.out
            have hj2 : j ≤ 1537 := by have := HH.out.2.2.2; have := HL.out; omega
            rcases HR0.out.1.ext hE with ⟨h, _⟩ | ⟨b', o, c', hv, _, h2, h3⟩
            · rw [h] at hj; exact absurd hj (Nat.not_lt_zero _)
            · obtain ⟨rfl, rfl⟩ : va = some ⟨b', o, none⟩ ∧ vc = c' := by cases hv; exact ⟨rfl, rfl⟩
              have cx := irow_cell h3 j hj
              have bx : ds.getD j 0 < 10 := t_words_getD HR0.out.2 j
              have HSD := Lib.hid (strD_snoc hj)
              generalize ds.getD j 0 = d at *
              have HEX := Lib.hid (hE.alloc (.cells #[.int .u8 (48 + (d : Int))] 5))
              have hcv := run_convert_bytes_arg (P := Try.prog) (wr.alloc (.cells #[.int .u8 (48 + (d : Int))] 5)) 55 5 Try.underlying55 Try.underlying5 wr.heap.size 0 1 1 [((48 + d : Nat) : Int)] rfl (fun i hi => by
                obtain rfl : i = 0 := by omega
                exact cell_of (alloc_at wr (.cells #[.int .u8 (48 + (d : Int))] 5) _ rfl) 0) 9 Try.underlying9
              rw [show ((j + 1 : Nat) : Int) - 1 = (j : Int) by omega]
              have HJ := Lib.hid hj
              have hs1 : (strD (ds.drop (j + 1))).size ≤ 1537 := by
                unfold strD
                rw [strOfNums_size, List.length_map, List.length_reverse, List.length_drop]
                have := HH.out.2.2.2; have := HL.out; omega
              have hs2 : (strOfNums [((48 + d : Nat) : Int)]).size ≤ 1 := by rw [strOfNums_size]; exact Nat.le_refl _
              generalize strD (ds.drop (j + 1)) = S1 at *
              generalize strOfNums [((48 + d : Nat) : Int)] = S2 at *
              clear hv h2 h3 hE h0
              go_wp2
              go_roundw
              case rel => exact ⟨HEX.out, j, rfl, by rw [← HSD.out], Lib.hid (Nat.le_of_lt HJ.out)⟩
              case measure => simp [intOf]
      · obtain ⟨j, rfl⟩ : ∃ j, m = j + 1 := ⟨m - 1, by omega⟩
        have hj : j < bs.length := HH.out.1
        rcases HB.out.1 with ⟨h, _⟩ | ⟨b', o, c', hv, _, h2, h3⟩
        · rw [h] at hj; exact absurd hj (Nat.not_lt_zero _)
        · obtain ⟨rfl, rfl⟩ : ba = some ⟨b', o, none⟩ ∧ bc = c' := by cases hv; exact ⟨rfl, rfl⟩
          have cx := irow_cell (rangeAt_ext' h3 hE) j hj
          have bx : bs.getD j 0 < 256 := b_words_getD HB.out.2.1.1 j
          have hdrop := drop_cons_getD hj
          obtain ⟨x, hx⟩ : ∃ x, bs.getD j 0 = x := ⟨_, rfl⟩
          rw [hx] at cx bx hdrop
          have HDR := Lib.hid hdrop
          have HBX := Lib.hid bx
          have HO := Lib.hid hO
          have HE2 := Lib.hid hE
          have hj2 : j ≤ 512 := by have := HL.out; omega
          have hd0 := HH.out.2.1.2.1
          have HST := Lib.hid (show TxIn (256 * tval ds + x) ds.length ds 0 x from ⟨HH.out.2.1.1, by simp [tval]; omega, Nat.zero_le _, Nat.le_refl _, by rw [Nat.sub_self, Nat.pow_zero, Nat.mul_one]; omega, .inl rfl, Nat.le_add_right _ _⟩)
          have HD := Lib.hid (show 1 ≤ ds.length ∧ (ds.length = 1 ∨ ten ^ (ds.length - 1) ≤ 256 * tval ds + x) from ⟨List.length_pos_iff.2 hd0, by
            rcases HH.out.2.1.2.2 with h | h
            · exact .inl h
            · right; omega⟩)
          have HDL := Lib.hid (show ds.length + 3 * (j + 1) ≤ 1 + 3 * bs.length from HH.out.2.2.2)
          have HJ := Lib.hid hj
          rw [show ((j + 1 : Nat) : Int) - 1 = (j : Int) by omega]
          clear hv h2 h3 hx hO hE hdrop h0 hd0 bx
          go_wp2_with fail
          clear cx
          go_loopw [4, 6, 7] (fun v c k W => TxtIn w2 (256 * tval ds + x) ds.length v c k W) (fun _ c k _ => txm ds.length c k)
          case atStart => exact ⟨ds, 0, x, rfl, rfl, HO.out, HE2.out, HST.out⟩
          case round =>
            clear HO HE2 HST
            obtain ⟨es, kk, cc, rfl, rfl, hO, hE, HI⟩ := hrel
            have hcc := HI.out.cc_le
            by_cases hk : kk < es.length
            · have hlen := HI.out.len (.inl hk)
              have hel : es.length ≤ 1539 := by have := HDL.out; have := HL.out; omega
              have A0 := Lib.hid (at07_any wr _ es kk hO.row (by omega))
              obtain ⟨g, c, hv, hg, hlc, cx, cf, hset⟩ := hO.at hk
              subst hv
              have be : es.getD kk 0 < 10 := t_words_getD HI.out.tens kk
              have HST := Lib.hid (HI.out.stepA hk)
              have HSL := Lib.hid (show kk < ds.length by
                rcases HI.out.top with h | h
                · omega
                · omega)
              obtain ⟨e, he⟩ : ∃ e, es.getD kk 0 = e := ⟨_, rfl⟩
              rw [he] at cx be A0 HST
              have HSET := Lib.hid (hset ((e * 256 + cc) % 10))
              have HC5 := Lib.hid (show (e * 256 + cc) / 10 ≤ 255 by omega)
              have HEX := Lib.hid (Below.setCell (B := w2.heap.size) (p := ⟨g, kk, none⟩) hE hg (.int .i64 (((e * 256 + cc) % 10 : Nat) : Int)))
              have hne : ¬ (kk : Int) = (es.length : Int) := by omega
              clear hlen hO hE hset he hg
              go_wp2_with fail
              refine A0.out.mono ?_
              rintro r w3 ⟨rfl, rfl⟩
              go_wp2
              go_roundw
              case rel => exact ⟨es.set kk ((e * 256 + cc) % 10), kk + 1, (e * 256 + cc) / 10, rfl, by go_num, by first | exact HSET.out | (rw [List.length_set]; exact HSET.out), HEX.out, HST.out⟩
              case measure => exact txm_a HSL.out HC5.out
            · by_cases hc0 : 0 < cc
              · have hke : kk = es.length := Nat.le_antisymm HI.out.klen (Nat.le_of_not_lt hk)
                subst hke
                have hlen := HI.out.len (.inr hc0)
                have hel : es.length ≤ 1539 := by have := HDL.out; have := HL.out; omega
                have A0 := Lib.hid (at07_any wr _ es es.length hO.row (by omega))
                rw [getD_past es _ (Nat.le_refl _)] at A0
                have HST := Lib.hid (HI.out.stepB hc0)
                have HSL := Lib.hid HI.out.l0
                have hA := (Ext.refl wr).alloc (.cells #[.int .i64 0] 3)
                have HO3 := Lib.hid (hO.ext hA)
                have HE3 := Lib.hid (hE.trans hA)
                have HC := Lib.hid (show (wr.alloc (.cells #[.int .i64 0] 3)).cell? ⟨wr.heap.size, 0, none⟩ = some (.int .i64 ((0 : Nat) : Int)) from cell_of (alloc_at wr (.cells #[.int .i64 0] 3) _ rfl) 0)
                obtain ⟨va, vc, hv⟩ := hO.slice
                subst hv
                have hc1 : 0 < (cc : Int) := by omega
                clear hlen hO hE hA hk
                go_wp2_with fail
                refine A0.out.mono ?_
                rintro r w3 ⟨rfl, rfl⟩
                go_wp2_with (at_builtin; refine wpList_append_int (B := w2.heap.size) (zs := es) (d := 0) (b := wr.heap.size) rfl (.tmp 48) (.tmp 49) rfl rfl rfl HO3.out HC.out (by omega) HE3.out.size ?_)
                intro v4 w4 ho4 hg4 _
                have hE4 : Ext w2 w4 := HO3.out.grown HE3.out hg4
                obtain ⟨g, c, hv, hg, hlc, cx, cf, hset⟩ := ho4.at (k := es.length) (by simp)
                subst hv
                have hlc2 : es.length < c := by rw [List.length_append, List.length_singleton] at hlc; omega
                have HSET := Lib.hid (hset (cc % 10))
                have hse : (es ++ [0]).set es.length (cc % 10) = es ++ [cc % 10] := by simp
                rw [hse] at HSET
                have HEX := Lib.hid (Below.setCell (B := w2.heap.size) (p := ⟨g, es.length, none⟩) hE4 hg (.int .i64 ((cc % 10 : Nat) : Int)))
                have hlen4 : (es ++ [0]).length = es.length + 1 := by simp
                rw [hlen4] at HSET ⊢
                clear hse ho4 hg4 hE4 hset hg hlc hlen4
                go_wp2
                go_roundw
                case rel => exact ⟨es ++ [cc % 10], es.length + 1, cc / 10, rfl, by go_num, HSET.out, HEX.out, HST.out⟩
                case measure => exact txm_b HSL.out (Nat.div_lt_self hc0 (by decide))
              · obtain rfl : cc = 0 := Nat.eq_zero_of_not_pos hc0
                obtain ⟨hT, hDec⟩ := HI.out.done hk HD.out.1 HD.out.2
                have HL3 := Lib.hid HI.out.len3
                have hke : ¬ kk < es.length := hk
                obtain ⟨va, vc, hv⟩ := hO.slice
                subst hv
                have HR := Lib.hid (show Dec es ∧ tval es = bval (bs.drop j) from ⟨hDec, by rw [hT, HDR.out, bval, ← HH.out.2.2.1, Nat.add_comm]; rfl⟩)
                have HO := Lib.hid hO
                have HE2 := Lib.hid hE
                clear hT hDec hO hE hk
                go_wp2
                go_roundw
                case rel => exact ⟨es, j, rfl, HO.out, HE2.out, Lib.hid ⟨Nat.le_of_lt HJ.out, HR.out.1, HR.out.2, by have := HL3.out; have := HDL.out; omega⟩⟩
                case measure => simp [intOf]
end Go.Proofs.Ytkkapmkhnmoeaaa
