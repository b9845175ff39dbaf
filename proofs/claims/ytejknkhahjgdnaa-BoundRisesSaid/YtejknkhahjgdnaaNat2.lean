/- nat.add, Add; joineryref07.Same. -/
import Derived.Test.YtejknkhahjgdnaaNat
namespace Go.Proofs.Ytejknkhahjgdnaa
open Go Go.RowKit

/-- the state of the sum's loop. -/
def AddSt (w : World) (g size : Nat) (xs ys : List Nat) (c k : Value) (W : World) : Prop :=
  ∃ (ds : List Nat) (kk cc : Nat), c = .int .u64 (cc : Nat) ∧ k = .int .i64 (kk : Nat) ∧ UBlk W g ds ∧ Ext w W ∧
    Hid (kk ≤ size ∧ ds.length = size ∧ cc ≤ 1 ∧ Words ds ∧ (∀ j, kk ≤ j → ds.getD j 0 = xs.getD j 0) ∧ nval (ds.take kk) + beta ^ kk * cc = nval (xs.take kk) + nval (ys.take kk))
theorem add_rel {w W : World} {g size kk cc s : Nat} {ds xs ys : List Nat} (hU : UBlk W g ds) (hE : Ext w W) (hg : w.heap.size ≤ g)
    (HH : Hid (kk ≤ size ∧ ds.length = size ∧ cc ≤ 1 ∧ Words ds ∧ (∀ j, kk ≤ j → ds.getD j 0 = xs.getD j 0) ∧ nval (ds.take kk) + beta ^ kk * cc = nval (xs.take kk) + nval (ys.take kk)))
    (hx : Words xs) (hy : Words ys) (hk : kk < size) (hs : s = cc + xs.getD kk 0 + ys.getD kk 0) :
    AddSt w g size xs ys (.int .u64 ((s / beta : Nat) : Int)) (.int .i64 ((kk + 1 : Nat) : Int)) (W.setCell ⟨g, kk, none⟩ (.int .u32 ((s % beta : Nat) : Int))) := by
  obtain ⟨h1, h2, h3, h4, h5, h6⟩ := HH.out
  have hkd : kk < ds.length := by rw [h2]; exact hk
  obtain ⟨a1, a2, a3⟩ := add_step (ys := ys) hkd h3 hx hy h5 h6
  rw [← hs] at a1 a2 a3
  exact ⟨ds.set kk (s % beta), kk + 1, s / beta, rfl, rfl, hU.set kk _, Below.setCell (B := w.heap.size) hE hg _, Lib.hid ⟨hk, by rw [List.length_set, h2], a1, words_set h4 (Nat.mod_lt _ beta_pos), a2, a3⟩⟩
theorem cast_mod (s : Nat) : ((s % beta : Nat) : Int) = (s : Int) % 4294967296 := by show ((s % 4294967296 : Nat) : Int) = _; omega
theorem cast_div (s : Nat) : ((s / beta : Nat) : Int) = (s : Int) / 4294967296 := by show ((s / 4294967296 : Nat) : Int) = _; omega
theorem add_close {w W : World} {g size kk cc x y : Nat} {ds xs ys : List Nat} (hU : UBlk W g ds) (hE : Ext w W) (hg : w.heap.size ≤ g)
    (HH : Hid (kk ≤ size ∧ ds.length = size ∧ cc ≤ 1 ∧ Words ds ∧ (∀ j, kk ≤ j → ds.getD j 0 = xs.getD j 0) ∧ nval (ds.take kk) + beta ^ kk * cc = nval (xs.take kk) + nval (ys.take kk)))
    (hx : Words xs) (hy : Words ys) (hk : kk < size) (hs : cc + x + y = cc + xs.getD kk 0 + ys.getD kk 0) :
    AddSt w g size xs ys (.int .u64 (((cc : Int) + (x : Int) + (y : Int)) / 4294967296)) (.int .i64 ((kk : Int) + 1)) (W.setCell ⟨g, kk, none⟩ (.int .u32 (((cc : Int) + (x : Int) + (y : Int)) % 4294967296))) ∧
      size - (intOf (.int .i64 ((kk : Int) + 1))).toNat < size - (intOf (.int .i64 (kk : Int))).toNat := by
  refine ⟨?_, ?_⟩
  · have := add_rel hU hE hg HH hx hy hk hs
    rw [cast_div, cast_mod] at this
    simp only [Int.natCast_add] at this
    exact this
  · show size - (kk + 1) < size - kk
    omega
theorem add_close2 {w W : World} {g size kk cc x : Nat} {ds xs ys : List Nat} (hU : UBlk W g ds) (hE : Ext w W) (hg : w.heap.size ≤ g)
    (HH : Hid (kk ≤ size ∧ ds.length = size ∧ cc ≤ 1 ∧ Words ds ∧ (∀ j, kk ≤ j → ds.getD j 0 = xs.getD j 0) ∧ nval (ds.take kk) + beta ^ kk * cc = nval (xs.take kk) + nval (ys.take kk)))
    (hx : Words xs) (hy : Words ys) (hk : kk < size) (hs : cc + x = cc + xs.getD kk 0 + ys.getD kk 0) :
    AddSt w g size xs ys (.int .u64 (((cc : Int) + (x : Int)) / 4294967296)) (.int .i64 ((kk : Int) + 1)) (W.setCell ⟨g, kk, none⟩ (.int .u32 (((cc : Int) + (x : Int)) % 4294967296))) ∧
      size - (intOf (.int .i64 ((kk : Int) + 1))).toNat < size - (intOf (.int .i64 (kk : Int))).toNat := by
  have := add_close hU hE hg HH hx hy hk (x := x) (y := 0) (by rw [Nat.add_zero]; exact hs)
  simpa using this
set_option maxRecDepth 100000 in
set_option maxHeartbeats 4000000 in
theorem natAdd_any (w : World) (p q : Value) (xs ys : List Nat) (hp : URow w p xs) (hq : URow w q ys) (hx : Words xs) (hy : Words ys) (lx : xs.length ≤ 900) (ly : ys.length ≤ 900) :
    Calls Try.prog 76 #[p, q] w (Num (nval xs + nval ys) w) := by
  obtain ⟨a, c, rfl⟩ := hp.slice
  obtain ⟨b, d, rfl⟩ := hq.slice
  obtain ⟨size, hsize⟩ : ∃ size, size = max xs.length ys.length + 1 := ⟨_, rfl⟩
  have HS := Lib.hid hsize
  have HW := Lib.hid (wide_any w _ xs size hp (by omega) (by omega))
  have HQ := Lib.hid hq
  have HX := Lib.hid (And.intro hx (And.intro hy (And.intro lx ly)))
  have l1 : (xs.length : Int) ≤ 900 := by omega
  have l2 : (ys.length : Int) ≤ 900 := by omega
  by_cases hlt : xs.length < ys.length
  · have hsz : ((ys.length : Nat) : Int) + 1 = (size : Int) := by omega
    clear hp hq hx hy lx ly hsize
    go_enter Try.func76, Try.ntmps76
    go_wp2_with fail
    (try rw [hsz])
    clear hsz hlt l1 l2
    refine HW.out.mono ?_
    rintro e w1 ⟨g, rfl, hg, hb, hx⟩
    have HG := Lib.hid hg
    have HB := Lib.hid hb
    have HE := Lib.hid hx
    clear hg hb hx
    go_wp2_with fail
    go_loopw [6, 18] (fun c k W => AddSt w g size xs ys c k W) (fun _ k _ => size - (intOf k).toNat)
    case atStart =>
      have h0 : xs.length ≤ size := by rw [HS.out]; omega
      exact ⟨_, 0, 0, rfl, rfl, HB.out, HE.out, Lib.hid ⟨Nat.zero_le _, by simp; omega, Nat.zero_le _, fun y hy => by
        rcases List.mem_append.1 hy with h | h
        · exact HX.out.1 y h
        · rw [(List.mem_replicate.1 h).2]; exact beta_pos, fun j _ => by
        rcases Nat.lt_or_ge j xs.length with h | h
        · simp [List.getD_eq_getElem?_getD, List.getElem?_append_left h]
        · rw [getD_past xs j h, List.getD_eq_getElem?_getD, List.getElem?_append_right h, List.getElem?_replicate]
          split <;> rfl, by simp [nval]⟩⟩
    case round =>
      obtain ⟨ds, kk, cc, rfl, rfl, hU, hE, HH⟩ := hrel
      by_cases hk : kk < size
      · obtain ⟨cx, cf⟩ := hU.cell kk (by rw [HH.out.2.1]; exact hk)
        rw [HH.out.2.2.2.2.1 kk (Nat.le_refl _)] at cx
        have HK := Lib.hid hk
        have HU := Lib.hid hU
        have HE2 := Lib.hid hE
        have hc := HH.out.2.2.1
        have bx := words_getD HX.out.1 kk
        have by' := words_getD HX.out.2.1 kk
        have hsz2 : size ≤ 901 := by have := HX.out.2.2; rw [HS.out]; omega
        obtain ⟨x, hx⟩ : ∃ x, xs.getD kk 0 = x := ⟨_, rfl⟩
        obtain ⟨y, hy⟩ : ∃ y, ys.getD kk 0 = y := ⟨_, rfl⟩
        have HXX := Lib.hid hx
        have HYY := Lib.hid hy
        rw [hx] at cx bx
        rw [hy] at by'
        unfold beta at bx by'
        clear hx hy hU hE
        by_cases hky : kk < ys.length
        · rcases HQ.out with ⟨h, _⟩ | ⟨b', o, d', hv, _, h2, h3⟩
          · rw [h] at hky; exact absurd hky (Nat.not_lt_zero _)
          · obtain ⟨rfl, rfl⟩ : b = some ⟨b', o, none⟩ ∧ d = d' := by cases hv; exact ⟨rfl, rfl⟩
            have cy := urow_cell (rangeAt_ext' h3 HE2.out) kk hky
            rw [HYY.out] at cy
            clear hv h2 h3
            go_wp2
            exact add_close HU.out HE2.out HG.out HH HX.out.1 HX.out.2.1 HK.out (by rw [HXX.out, HYY.out])
        · rw [getD_past ys kk (Nat.le_of_not_lt hky)] at HYY
          go_wp2
          exact add_close2 HU.out HE2.out HG.out HH HX.out.1 HX.out.2.1 HK.out (by rw [HXX.out, getD_past ys kk (Nat.le_of_not_lt hky), Nat.add_zero])
      · have HK := Lib.hid (Nat.le_antisymm HH.out.1 (Nat.le_of_not_lt hk))
        have HU := Lib.hid hU
        have HE2 := Lib.hid hE
        have hl2 : ds.length = size := HH.out.2.1
        have HT := Lib.hid (trim_num wr (some ⟨g, 0, none⟩) size ds (hU.row size (Nat.le_of_eq hl2)) HH.out.2.2.2.1 (by have := HX.out.2.2; rw [hl2, HS.out]; omega))
        rw [hl2, add_end HX.out.1 HX.out.2.1 (by rw [hl2]; exact HS.out) (by have := HH.out.2.2.2.2.2; rw [HK.out, ← hl2] at this; exact this)] at HT
        clear hU hE hl2
        go_wp2_with fail
        refine HT.out.mono ?_
        rintro e w3 ⟨v, rfl, h1, h2⟩
        go_wp2
        go_ret
        exact ⟨_, rfl, h1, HE2.out.trans h2⟩
  · have hsz : ((xs.length : Nat) : Int) + 1 = (size : Int) := by omega
    clear hp hq hx hy lx ly hsize
    go_enter Try.func76, Try.ntmps76
    go_wp2_with fail
    (try rw [hsz])
    clear hsz hlt l1 l2
    refine HW.out.mono ?_
    rintro e w1 ⟨g, rfl, hg, hb, hx⟩
    have HG := Lib.hid hg
    have HB := Lib.hid hb
    have HE := Lib.hid hx
    clear hg hb hx
    go_wp2_with fail
    go_loopw [6, 18] (fun c k W => AddSt w g size xs ys c k W) (fun _ k _ => size - (intOf k).toNat)
    case atStart =>
      have h0 : xs.length ≤ size := by rw [HS.out]; omega
      exact ⟨_, 0, 0, rfl, rfl, HB.out, HE.out, Lib.hid ⟨Nat.zero_le _, by simp; omega, Nat.zero_le _, fun y hy => by
        rcases List.mem_append.1 hy with h | h
        · exact HX.out.1 y h
        · rw [(List.mem_replicate.1 h).2]; exact beta_pos, fun j _ => by
        rcases Nat.lt_or_ge j xs.length with h | h
        · simp [List.getD_eq_getElem?_getD, List.getElem?_append_left h]
        · rw [getD_past xs j h, List.getD_eq_getElem?_getD, List.getElem?_append_right h, List.getElem?_replicate]
          split <;> rfl, by simp [nval]⟩⟩
    case round =>
      obtain ⟨ds, kk, cc, rfl, rfl, hU, hE, HH⟩ := hrel
      by_cases hk : kk < size
      · obtain ⟨cx, cf⟩ := hU.cell kk (by rw [HH.out.2.1]; exact hk)
        rw [HH.out.2.2.2.2.1 kk (Nat.le_refl _)] at cx
        have HK := Lib.hid hk
        have HU := Lib.hid hU
        have HE2 := Lib.hid hE
        have hc := HH.out.2.2.1
        have bx := words_getD HX.out.1 kk
        have by' := words_getD HX.out.2.1 kk
        have hsz2 : size ≤ 901 := by have := HX.out.2.2; rw [HS.out]; omega
        obtain ⟨x, hx⟩ : ∃ x, xs.getD kk 0 = x := ⟨_, rfl⟩
        obtain ⟨y, hy⟩ : ∃ y, ys.getD kk 0 = y := ⟨_, rfl⟩
        have HXX := Lib.hid hx
        have HYY := Lib.hid hy
        rw [hx] at cx bx
        rw [hy] at by'
        unfold beta at bx by'
        clear hx hy hU hE
        by_cases hky : kk < ys.length
        · rcases HQ.out with ⟨h, _⟩ | ⟨b', o, d', hv, _, h2, h3⟩
          · rw [h] at hky; exact absurd hky (Nat.not_lt_zero _)
          · obtain ⟨rfl, rfl⟩ : b = some ⟨b', o, none⟩ ∧ d = d' := by cases hv; exact ⟨rfl, rfl⟩
            have cy := urow_cell (rangeAt_ext' h3 HE2.out) kk hky
            rw [HYY.out] at cy
            clear hv h2 h3
            go_wp2
            exact add_close HU.out HE2.out HG.out HH HX.out.1 HX.out.2.1 HK.out (by rw [HXX.out, HYY.out])
        · rw [getD_past ys kk (Nat.le_of_not_lt hky)] at HYY
          go_wp2
          exact add_close2 HU.out HE2.out HG.out HH HX.out.1 HX.out.2.1 HK.out (by rw [HXX.out, getD_past ys kk (Nat.le_of_not_lt hky), Nat.add_zero])
      · have HK := Lib.hid (Nat.le_antisymm HH.out.1 (Nat.le_of_not_lt hk))
        have HU := Lib.hid hU
        have HE2 := Lib.hid hE
        have hl2 : ds.length = size := HH.out.2.1
        have HT := Lib.hid (trim_num wr (some ⟨g, 0, none⟩) size ds (hU.row size (Nat.le_of_eq hl2)) HH.out.2.2.2.1 (by have := HX.out.2.2; rw [hl2, HS.out]; omega))
        rw [hl2, add_end HX.out.1 HX.out.2.1 (by rw [hl2]; exact HS.out) (by have := HH.out.2.2.2.2.2; rw [HK.out, ← hl2] at this; exact this)] at HT
        clear hU hE hl2
        go_wp2_with fail
        refine HT.out.mono ?_
        rintro e w3 ⟨v, rfl, h1, h2⟩
        go_wp2
        go_ret
        exact ⟨_, rfl, h1, HE2.out.trans h2⟩
/-- what Add hands back. -/
def SumE (xs ys : List Nat) (n : Nat) : Int := if mayN xs && mayN ys then fitE n else 2
def SumN (xs ys : List Nat) (n : Nat) : Nat := if mayN xs && mayN ys then fitN n else 0
def Both (xs ys : List Nat) (n : Nat) (w : World) (e : Ending) (w' : World) : Prop :=
  ∃ v, e = .returned (.tuple #[v, .int .i64 (SumE xs ys n)]) ∧ NumIs w' v (SumN xs ys n) ∧ Ext w w'
theorem fits_numAny (w : World) (v : Value) (n : Nat) (h : NumIs w v n) (hn : n < beta ^ 256) : Calls Try.prog 75 #[v] w (Fits n w) := by
  obtain ⟨xs, h1, h2, h3⟩ := h
  have h4 := fits_any w v xs h1 h2.1 (Nat.le_trans ((norm_len h2 256).2 (by rw [h3]; exact hn)) (by decide))
  rw [h3] at h4
  exact h4
set_option maxHeartbeats 1000000 in
theorem natAddE_any (w : World) (p q : Value) (xs ys : List Nat) (hp : URow w p xs) (hq : URow w q ys) (hx : Words xs) (hy : Words ys) : Calls Try.prog 57 #[p, q] w (Both xs ys (nval xs + nval ys) w) := by
  obtain ⟨N, hN⟩ : ∃ N, nval xs + nval ys = N := ⟨_, rfl⟩
  have HNN := Lib.hid hN
  have HBIG := Lib.hid (show (Norm xs ∧ xs.length ≤ 128) → (Norm ys ∧ ys.length ≤ 128) → N < beta ^ 256 by
    intro h1 h2
    have a1 := (norm_len h1.1 128).1 h1.2
    have a2 := (norm_len h2.1 128).1 h2.2
    have a3 : beta ^ 129 ≤ beta ^ 256 := Nat.pow_le_pow_right beta_pos (by decide)
    have a4 : beta ^ 128 * 2 ≤ beta ^ 129 := by rw [Nat.pow_succ]; exact Nat.mul_le_mul_left _ (by decide)
    generalize beta ^ 128 = A at *
    generalize beta ^ 129 = B at *
    generalize beta ^ 256 = C at *
    omega)
  rw [hN]
  clear hN
  have HM1 := Lib.hid (natMay_any w p xs hp)
  have HM2 := Lib.hid (fun W (h : Ext w W) => natMay_any W q ys (hq.ext h))
  have HP := Lib.hid hp
  have HQ := Lib.hid hq
  have HX := Lib.hid (And.intro hx hy)
  cases m1 : mayN xs with
  | false =>
    have HE := Lib.hid (show SumE xs ys N = 2 ∧ SumN xs ys N = 0 by unfold SumE SumN; rw [m1]; exact ⟨rfl, rfl⟩)
    rw [m1] at HM1
    clear hp hq hx hy m1
    go_enter Try.func57, Try.ntmps57
    go_wp2_with fail
    refine HM1.out.mono ?_
    rintro e w1 ⟨rfl, h1⟩
    go_wp2
    go_ret2
    unfold Both
    rw [HE.out.1, HE.out.2]
    exact ⟨_, rfl, num_nil _ _ _, h1⟩
  | true =>
    cases m2 : mayN ys with
    | false =>
      have HE := Lib.hid (show SumE xs ys N = 2 ∧ SumN xs ys N = 0 by unfold SumE SumN; rw [m1, m2]; exact ⟨rfl, rfl⟩)
      rw [m1] at HM1
      rw [m2] at HM2
      clear hp hq hx hy m1 m2
      go_enter Try.func57, Try.ntmps57
      go_wp2_with fail
      refine HM1.out.mono ?_
      rintro e w1 ⟨rfl, h1⟩
      go_wp2_with fail
      refine (HM2.out w1 h1).mono ?_
      rintro e w2 ⟨rfl, h2⟩
      go_wp2
      go_ret2
      unfold Both
      rw [HE.out.1, HE.out.2]
      exact ⟨_, rfl, num_nil _ _ _, h1.trans h2⟩
    | true =>
      have HE := Lib.hid (show SumE xs ys N = fitE N ∧ SumN xs ys N = fitN N by unfold SumE SumN; rw [m1, m2]; exact ⟨rfl, rfl⟩)
      have n1 := (mayN_norm hx).1 m1
      have n2 := (mayN_norm hy).1 m2
      have HN := Lib.hid (And.intro n1 n2)
      rw [m1] at HM1
      rw [m2] at HM2
      clear hp hq hx hy m1 m2 n1 n2
      go_enter Try.func57, Try.ntmps57
      go_wp2_with fail
      refine HM1.out.mono ?_
      rintro e w1 ⟨rfl, h1⟩
      go_wp2_with fail
      refine (HM2.out w1 h1).mono ?_
      rintro e w2 ⟨rfl, h2⟩
      have h02 := h1.trans h2
      go_wp2_with fail
      refine (natAdd_any w2 p q xs ys (HP.out.ext h02) (HQ.out.ext h02) HX.out.1 HX.out.2 (Nat.le_trans HN.out.1.2 (by decide)) (Nat.le_trans HN.out.2.2 (by decide))).mono ?_
      rw [HNN.out]
      rintro e w3 ⟨v, rfl, hv, h3⟩
      go_wp2_with fail
      refine (fits_numAny w3 v N hv (HBIG.out HN.out.1 HN.out.2)).mono ?_
      rintro e w4 ⟨v4, rfl, hv4, h4⟩
      have HV := Lib.hid hv4
      go_wp2
      go_ret2
      unfold Both
      rw [HE.out.1, HE.out.2]
      exact ⟨_, rfl, HV.out, (h02.trans h3).trans h4⟩
end Go.Proofs.Ytejknkhahjgdnaa
