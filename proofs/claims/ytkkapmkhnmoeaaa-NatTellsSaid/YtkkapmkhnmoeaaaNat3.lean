/- nat.mul, Mul. -/
import Derived.Test.YtkkapmkhnmoeaaaNat2
namespace Go.Proofs.Ytkkapmkhnmoeaaa
open Go Go.RowKit

theorem meas_s {k n : Nat} (h : k < n) : n - (intOf (.int .i64 ((k + 1 : Nat) : Int))).toNat < n - (intOf (.int .i64 (k : Int))).toNat := by
  show n - (k + 1) < n - k
  omega
/-- the state of the product's outer loop. -/
def MulSt (w : World) (g size : Nat) (xs ys : List Nat) (i : Value) (W : World) : Prop :=
  ∃ (ds : List Nat) (ii : Nat), i = .int .i64 (ii : Nat) ∧ UBlk W g ds ∧ Ext w W ∧ Hid (ii ≤ xs.length ∧ ds.length = size ∧ Words ds ∧ nval ds = nval (xs.take ii) * nval ys)
/-- the state of its inner loop. -/
def MulIn (w : World) (g size : Nat) (ii V x : Nat) (ys : List Nat) (c k : Value) (W : World) : Prop :=
  ∃ (ds : List Nat) (kk cc : Nat), c = .int .u64 (cc : Nat) ∧ k = .int .i64 (kk : Nat) ∧ UBlk W g ds ∧ Ext w W ∧
    Hid (kk ≤ ys.length + 1 ∧ ds.length = size ∧ cc < beta ∧ Words ds ∧ nval ds + beta ^ (ii + kk) * cc = V + x * nval (ys.take kk) * beta ^ ii)
theorem mul_rel {w W : World} {g size ii V x kk cc s : Nat} {ds ys : List Nat} (hU : UBlk W g ds) (hE : Ext w W) (hg : w.heap.size ≤ g)
    (HH : Hid (kk ≤ ys.length + 1 ∧ ds.length = size ∧ cc < beta ∧ Words ds ∧ nval ds + beta ^ (ii + kk) * cc = V + x * nval (ys.take kk) * beta ^ ii))
    (hy : Words ys) (hx : x < beta) (hk : kk < ys.length + 1) (hi : ii + kk < size) (hs : s = cc + ds.getD (ii + kk) 0 + x * ys.getD kk 0) :
    MulIn w g size ii V x ys (.int .u64 ((s / beta : Nat) : Int)) (.int .i64 ((kk + 1 : Nat) : Int)) (W.setCell ⟨g, ii + kk, none⟩ (.int .u32 ((s % beta : Nat) : Int))) ∧
      ys.length + 1 - (intOf (.int .i64 ((kk + 1 : Nat) : Int))).toNat < ys.length + 1 - (intOf (.int .i64 (kk : Int))).toNat := by
  obtain ⟨h1, h2, h3, h4, h5⟩ := HH.out
  obtain ⟨a1, a2, a3⟩ := mul_step (ds := ds) (ys := ys) (i := ii) (k := kk) (c := cc) (x := x) (V := V) (by rw [h2]; exact hi) h4 hy hx h3 h5
  rw [← hs] at a1 a2 a3
  refine ⟨⟨ds.set (ii + kk) (s % beta), kk + 1, s / beta, rfl, rfl, hU.set _ _, Below.setCell (B := w.heap.size) hE hg _, Lib.hid ⟨hk, by rw [List.length_set, h2], a2, words_set h4 (Nat.mod_lt _ beta_pos), ?_⟩⟩, ?_⟩
  · rw [← Nat.add_assoc]; exact a3
  · show ys.length + 1 - (kk + 1) < ys.length + 1 - kk
    omega
theorem mul_bound {x y : Nat} (h3 : x < beta) (h4 : y < beta) : (x : Int) * (y : Int) ≤ 18446744065119617025 ∧ 0 ≤ (x : Int) * (y : Int) := by
  have h : x * y ≤ (beta - 1) * (beta - 1) := Nat.mul_le_mul (by omega) (by omega)
  have e : (beta - 1) * (beta - 1) = 18446744065119617025 := by decide
  rw [e] at h
  constructor
  · have := Int.ofNat_le.2 h
    rw [Int.natCast_mul] at this
    exact this
  · have := Int.natCast_nonneg (x * y)
    rw [Int.natCast_mul] at this
    exact this
set_option maxRecDepth 100000 in
set_option maxHeartbeats 4000000 in
theorem natMul_any (w : World) (p q : Value) (xs ys : List Nat) (hp : URow w p xs) (hq : URow w q ys) (hx : Words xs) (hy : Words ys) (lx : xs.length ≤ 900) (ly : ys.length ≤ 900) :
    Calls Try.prog 32 #[p, q] w (Num (nval xs * nval ys) w) := by
  obtain ⟨a, c, rfl⟩ := hp.slice
  obtain ⟨b, d, rfl⟩ := hq.slice
  obtain ⟨size, hsize⟩ : ∃ size, size = xs.length + ys.length + 1 := ⟨_, rfl⟩
  have HS := Lib.hid hsize
  have hmk := u32_make w size (by omega)
  have HP := Lib.hid hp
  have HQ := Lib.hid hq
  have HX := Lib.hid (And.intro hx (And.intro hy (And.intro lx ly)))
  have hsz : (xs.length : Int) + (ys.length : Int) + 1 = (size : Int) := by omega
  have l1 : (xs.length : Int) ≤ 900 := by omega
  have l2 : (ys.length : Int) ≤ 900 := by omega
  have hE := (Ext.refl w).alloc (.cells (Array.replicate size (u32 0)) 48)
  have hU : UBlk (w.alloc (.cells (Array.replicate size (u32 0)) 48)) w.heap.size (List.replicate size 0) := by
    have := alloc_at w (.cells (Array.replicate size (u32 0)) 48) _ rfl
    unfold UBlk
    simpa using this
  have HE := Lib.hid hE
  have HU := Lib.hid hU
  clear hp hq hx hy lx ly hsize hE hU
  go_enter Try.func32, Try.ntmps32
  go_wp2_with fail
  clear hsz hmk
  generalize hw1 : w.alloc (.cells (Array.replicate size (u32 0)) 48) = w1 at *
  generalize hg : w.heap.size = g at *
  have HG := Lib.hid (show w.heap.size ≤ g from Nat.le_of_eq hg)
  clear hw1 hg
  go_loopw [19] (fun i W => MulSt w g size xs ys i W) (fun i _ => xs.length - (intOf i).toNat)
  case atStart => exact ⟨_, 0, rfl, HU.out, HE.out, Lib.hid ⟨Nat.zero_le _, by simp, fun y hy => by rw [(List.mem_replicate.1 hy).2]; exact beta_pos, by rw [nval_zero (fun d hd => (List.mem_replicate.1 hd).2)]; simp [nval]⟩⟩
  case round =>
    obtain ⟨ds, ii, rfl, hU, hE, HH⟩ := hrel
    by_cases hi : ii < xs.length
    · have HU1 := Lib.hid hU
      have HE1 := Lib.hid hE
      have HI := Lib.hid hi
      rcases HP.out with ⟨h, _⟩ | ⟨a', o, c', hv, _, h2, h3⟩
      · rw [h] at hi; exact absurd hi (Nat.not_lt_zero _)
      · obtain ⟨rfl, rfl⟩ : a = some ⟨a', o, none⟩ ∧ c = c' := by cases hv; exact ⟨rfl, rfl⟩
        have cx := urow_cell (rangeAt_ext' h3 hE) ii hi
        have bx := words_getD HX.out.1 ii
        obtain ⟨x, hx⟩ : ∃ x, xs.getD ii 0 = x := ⟨_, rfl⟩
        have HXX := Lib.hid hx
        rw [hx] at cx bx
        have HBX := Lib.hid bx
        clear hv h2 h3 hU hE hx bx
        go_wp2_with fail
        clear cx
        have HV := Lib.hid HH.out.2.2.2
        go_loopw [8, 27] (fun c k W => MulIn w g size ii (nval ds) x ys c k W) (fun _ k _ => ys.length + 1 - (intOf k).toNat)
        case atStart => exact ⟨ds, 0, 0, rfl, rfl, HU1.out, HE1.out, Lib.hid ⟨Nat.zero_le _, HH.out.2.1, beta_pos, HH.out.2.2.1, by simp [nval]⟩⟩
        case round =>
          obtain ⟨es, kk, cc, rfl, rfl, hU, hE, HJ⟩ := hrel
          by_cases hk : kk < ys.length + 1
          · have hik : ii + kk < size := by rw [HS.out]; have := HI.out; omega
            obtain ⟨cx, cf⟩ := hU.cell (ii + kk) (by rw [HJ.out.2.1]; exact hik)
            have be := words_getD HJ.out.2.2.2.1 (ii + kk)
            have bc := HJ.out.2.2.1
            have by' := words_getD HX.out.2.1 kk
            have HST := Lib.hid (fun s => mul_rel (s := s) hU hE HG.out HJ HX.out.2.1 HBX.out hk hik)
            have l3 : ii < 900 := Nat.lt_of_lt_of_le HI.out HX.out.2.2.1
            have l4 : kk ≤ 900 := by have := HX.out.2.2.2; omega
            have l5 : size ≤ 1801 := by have := HX.out.2.2; rw [HS.out]; omega
            have bx := HBX.out
            obtain ⟨e, he⟩ : ∃ e, es.getD (ii + kk) 0 = e := ⟨_, rfl⟩
            obtain ⟨y, hy⟩ : ∃ y, ys.getD kk 0 = y := ⟨_, rfl⟩
            rw [he] at cx be HST
            rw [hy] at by' HST
            have hov := mul_bound bx by'
            unfold beta at be by' bx bc
            by_cases hky : kk < ys.length
            · rcases HQ.out with ⟨h, _⟩ | ⟨b', o', d', hv, _, h2, h3⟩
              · rw [h] at hky; exact absurd hky (Nat.not_lt_zero _)
              · obtain ⟨rfl, rfl⟩ : b = some ⟨b', o', none⟩ ∧ d = d' := by cases hv; exact ⟨rfl, rfl⟩
                have cy := urow_cell (rangeAt_ext' h3 hE) kk hky
                rw [hy] at cy
                clear hv h2 h3 hU hE he hy
                go_wp2
                have h := HST.out (cc + e + x * y) rfl
                rw [cast_div, cast_mod] at h
                simp only [Int.natCast_add, Int.natCast_mul] at h
                exact h
            · have hy0 : y = 0 := by rw [← hy]; exact getD_past ys kk (Nat.le_of_not_lt hky)
              subst hy0
              clear hU hE he hy hov by'
              go_wp2
              have h := HST.out (cc + e) (by rw [Nat.mul_zero, Nat.add_zero])
              rw [cast_div, cast_mod] at h
              simp only [Int.natCast_add] at h
              exact h
          · have hke : kk = ys.length + 1 := Nat.le_antisymm HJ.out.1 (Nat.le_of_not_lt hk)
            have HEND := Lib.hid (mul_end (i := ii) (V := nval ds) HX.out.1 HX.out.2.1 HI.out HV.out (by have := HJ.out.2.2.2.2; rw [hke, ← HXX.out] at this; exact this))
            have HU2 := Lib.hid hU
            have HE2 := Lib.hid hE
            have HL := Lib.hid (And.intro HJ.out.2.1 HJ.out.2.2.2.1)
            have l3 : ii < 900 := Nat.lt_of_lt_of_le HI.out HX.out.2.2.1
            clear hU hE hke
            go_wp2
            go_roundw
            case rel => exact ⟨es, ii + 1, rfl, HU2.out, HE2.out, Lib.hid ⟨HI.out, HL.out.1, HL.out.2, HEND.out⟩⟩
            case measure => exact meas_s HI.out
    · have HK := Lib.hid (Nat.le_antisymm HH.out.1 (Nat.le_of_not_lt hi))
      have HE2 := Lib.hid hE
      have hl2 : ds.length = size := HH.out.2.1
      have HT := Lib.hid (trim_num wr (some ⟨g, 0, none⟩) size ds (hU.row size (Nat.le_of_eq hl2)) HH.out.2.2.1 (by have := HX.out.2.2; rw [hl2, HS.out]; omega))
      rw [hl2, HH.out.2.2.2, HK.out, List.take_length] at HT
      clear hU hE hl2
      go_wp2_with fail
      refine HT.out.mono ?_
      rintro e w3 ⟨v, rfl, h1, h2⟩
      go_wp2
      go_ret
      exact ⟨_, rfl, h1, HE2.out.trans h2⟩
set_option maxHeartbeats 1000000 in
theorem natMulE_any (w : World) (p q : Value) (xs ys : List Nat) (hp : URow w p xs) (hq : URow w q ys) (hx : Words xs) (hy : Words ys) : Calls Try.prog 14 #[p, q] w (Both xs ys (nval xs * nval ys) w) := by
  obtain ⟨N, hN⟩ : ∃ N, nval xs * nval ys = N := ⟨_, rfl⟩
  have HNN := Lib.hid hN
  have HBIG := Lib.hid (show (Norm xs ∧ xs.length ≤ 128) → (Norm ys ∧ ys.length ≤ 128) → N < beta ^ 256 by
    intro h1 h2
    have a1 := (norm_len h1.1 128).1 h1.2
    have a2 := (norm_len h2.1 128).1 h2.2
    rw [← hN, show (256 : Nat) = 128 + 128 from rfl, Nat.pow_add]
    exact Nat.mul_lt_mul_of_lt_of_le a1 (Nat.le_of_lt a2) (Nat.pow_pos beta_pos))
  rw [hN]
  clear hN
  have HM1 := Lib.hid (natMay_any w p xs hp)
  have HM2 := Lib.hid (fun W (h : Ext w W) => natMay_any W q ys (hq.ext h))
  have HP := Lib.hid hp
  have HQ := Lib.hid hq
  have HX := Lib.hid (And.intro hx hy)
  cases m1 : mayN xs with
  | false =>
    have HE := Lib.hid (show SumE xs ys N = 2 ∧ SumN xs ys N = 0 by unfold SumE SumN; rw [m1]; exact ⟨rfl, rfl⟩)
    rw [m1] at HM1
    clear hp hq hx hy m1
    go_enter Try.func14, Try.ntmps14
    go_wp2_with fail
    refine HM1.out.mono ?_
    rintro e w1 ⟨rfl, h1⟩
    go_wp2
    go_ret2
    unfold Both
    rw [HE.out.1, HE.out.2]
    exact ⟨_, rfl, num_nil _ _ _, h1⟩
  | true =>
    cases m2 : mayN ys with
    | false =>
      have HE := Lib.hid (show SumE xs ys N = 2 ∧ SumN xs ys N = 0 by unfold SumE SumN; rw [m1, m2]; exact ⟨rfl, rfl⟩)
      rw [m1] at HM1
      rw [m2] at HM2
      clear hp hq hx hy m1 m2
      go_enter Try.func14, Try.ntmps14
      go_wp2_with fail
      refine HM1.out.mono ?_
      rintro e w1 ⟨rfl, h1⟩
      go_wp2_with fail
      refine (HM2.out w1 h1).mono ?_
      rintro e w2 ⟨rfl, h2⟩
      go_wp2
      go_ret2
      unfold Both
      rw [HE.out.1, HE.out.2]
      exact ⟨_, rfl, num_nil _ _ _, h1.trans h2⟩
    | true =>
      have HE := Lib.hid (show SumE xs ys N = fitE N ∧ SumN xs ys N = fitN N by unfold SumE SumN; rw [m1, m2]; exact ⟨rfl, rfl⟩)
      have n1 := (mayN_norm hx).1 m1
      have n2 := (mayN_norm hy).1 m2
      have HN := Lib.hid (And.intro n1 n2)
      rw [m1] at HM1
      rw [m2] at HM2
      clear hp hq hx hy m1 m2 n1 n2
      go_enter Try.func14, Try.ntmps14
      go_wp2_with fail
      refine HM1.out.mono ?_
      rintro e w1 ⟨rfl, h1⟩
      go_wp2_with fail
      refine (HM2.out w1 h1).mono ?_
      rintro e w2 ⟨rfl, h2⟩
      have h02 := h1.trans h2
      go_wp2_with fail
      refine (natMul_any w2 p q xs ys (HP.out.ext h02) (HQ.out.ext h02) HX.out.1 HX.out.2 (Nat.le_trans HN.out.1.2 (by decide)) (Nat.le_trans HN.out.2.2 (by decide))).mono ?_
      rw [HNN.out]
      rintro e w3 ⟨v, rfl, hv, h3⟩
      go_wp2_with fail
      refine (fits_numAny w3 v N hv (HBIG.out HN.out.1 HN.out.2)).mono ?_
      rintro e w4 ⟨v4, rfl, hv4, h4⟩
      have HV := Lib.hid hv4
      go_wp2
      go_ret2
      unfold Both
      rw [HE.out.1, HE.out.2]
      exact ⟨_, rfl, HV.out, (h02.trans h3).trans h4⟩
end Go.Proofs.Ytkkapmkhnmoeaaa
