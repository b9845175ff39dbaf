/- nat.Cmp. -/
import Derived.Test.YtejknkhahjgdnaaNat5
namespace Go.Proofs.Ytejknkhahjgdnaa
open Go Go.RowKit

/-- what Cmp answers. -/
def CmpR (xs ys : List Nat) : Int := if mayN xs && mayN ys then cmpV (nval xs) (nval ys) else 0
theorem nval_pad (xs : List Nat) (n : Nat) : nval (xs ++ List.replicate n 0) = nval xs := by
  rw [nval_append, nval_zero (fun d hd => (List.mem_replicate.1 hd).2), Nat.mul_zero, Nat.add_zero]
theorem words_pad {xs : List Nat} (h : Words xs) (n : Nat) : Words (xs ++ List.replicate n 0) := fun y hy => by
  rcases List.mem_append.1 hy with h1 | h1
  · exact h y h1
  · rw [(List.mem_replicate.1 h1).2]; exact beta_pos
theorem words_rev {xs : List Nat} (h : Words xs) : Words xs.reverse := fun y hy => h y (List.mem_reverse.1 hy)
theorem cmp_pad (xs ys : List Nat) (n : Nat) (hx : Words xs) (hy : Words ys) (h1 : xs.length ≤ n) (h2 : ys.length ≤ n) :
    cmpL (xs ++ List.replicate (n - xs.length) 0).reverse (ys ++ List.replicate (n - ys.length) 0).reverse = cmpV (nval xs) (nval ys) := by
  rw [cmpL_rev _ _ (by simp; omega) (words_rev (words_pad hx _)) (words_rev (words_pad hy _)), List.reverse_reverse, List.reverse_reverse, nval_pad, nval_pad]
set_option maxHeartbeats 4000000 in
theorem natCmp_any (w : World) (p q : Value) (xs ys : List Nat) (hp : URow w p xs) (hq : URow w q ys) (hx : Words xs) (hy : Words ys) : Calls Try.prog 16 #[p, q] w (Ret (.int .i64 (CmpR xs ys)) w) := by
  have HM1 := Lib.hid (natMay_any w p xs hp)
  have HM2 := Lib.hid (fun W (h : Ext w W) => natMay_any W q ys (hq.ext h))
  have HP := Lib.hid hp
  have HQ := Lib.hid hq
  have HX := Lib.hid (And.intro hx hy)
  cases m1 : mayN xs with
  | false =>
    have HE := Lib.hid (show CmpR xs ys = 0 by unfold CmpR; rw [m1]; rfl)
    rw [m1] at HM1
    clear hp hq hx hy m1
    go_enter Try.func16, Try.ntmps16
    go_wp2_with fail
    refine HM1.out.mono ?_
    rintro e w1 ⟨rfl, h1⟩
    go_wp2
    go_ret
    exact ⟨ret_int HE.out.symm, h1⟩
  | true =>
    cases m2 : mayN ys with
    | false =>
      have HE := Lib.hid (show CmpR xs ys = 0 by unfold CmpR; rw [m1, m2]; rfl)
      rw [m1] at HM1
      rw [m2] at HM2
      clear hp hq hx hy m1 m2
      go_enter Try.func16, Try.ntmps16
      go_wp2_with fail
      refine HM1.out.mono ?_
      rintro e w1 ⟨rfl, h1⟩
      go_wp2_with fail
      refine (HM2.out w1 h1).mono ?_
      rintro e w2 ⟨rfl, h2⟩
      go_wp2
      go_ret
      exact ⟨ret_int HE.out.symm, h1.trans h2⟩
    | true =>
      have HE := Lib.hid (show CmpR xs ys = cmpV (nval xs) (nval ys) by unfold CmpR; rw [m1, m2]; rfl)
      have n1 := ((mayN_norm hx).1 m1).2
      have n2 := ((mayN_norm hy).1 m2).2
      rw [m1] at HM1
      rw [m2] at HM2
      obtain ⟨pa, pc, rfl⟩ := hp.slice
      obtain ⟨qa, qc, rfl⟩ := hq.slice
      have l1 : (xs.length : Int) ≤ 128 := by omega
      have l2 : (ys.length : Int) ≤ 128 := by omega
      by_cases hlt : xs.length < ys.length
      · obtain ⟨size, hsize⟩ : ∃ size, ys.length = size := ⟨_, rfl⟩
        have HS := Lib.hid (show xs.length ≤ size ∧ ys.length ≤ size ∧ size ≤ 2000 by omega)
        have hsz : (ys.length : Int) = (size : Int) := by omega
        clear hp hq hx hy m1 m2 n1 n2 hsize
        go_enter Try.func16, Try.ntmps16
        go_wp2_with fail
        refine HM1.out.mono ?_
        rintro e w1 ⟨rfl, h1⟩
        go_wp2_with fail
        refine (HM2.out w1 h1).mono ?_
        rintro e w2 ⟨rfl, h2⟩
        have h02 := h1.trans h2
        clear h1 h2
        go_wp2_with fail
        (try rw [hsz])
        refine (wide_any w2 _ xs size (HP.out.ext h02) HS.out.1 HS.out.2.2).mono ?_
        rintro e w3 ⟨g, rfl, hg, hb, h3⟩
        have h03 := h02.trans h3
        have HB := Lib.hid hb
        have HG := Lib.hid (Nat.le_trans h02.size hg)
        clear h02 h3 hg hb
        go_wp2_with fail
        (try rw [hsz])
        refine (wide_any w3 _ ys size (HQ.out.ext h03) HS.out.2.1 HS.out.2.2).mono ?_
        rintro e w4 ⟨g', rfl, hg', hb', h4⟩
        have hne : g' ≠ g := by have := (Array.getElem?_eq_some_iff.1 HB.out).1; omega
        have HNE := Lib.hid hne
        have HB := Lib.hid (show UBlk w4 g _ from h4.get HB.out)
        have HB' := Lib.hid hb'
        have HG' := Lib.hid (Nat.le_trans h03.size hg')
        have h04 := h03.trans h4
        clear h03 h4 hg' hb' hne
        go_wp2_with fail
        obtain ⟨A, hA⟩ : ∃ A, xs ++ List.replicate (size - xs.length) 0 = A := ⟨_, rfl⟩
        obtain ⟨B, hB⟩ : ∃ B, ys ++ List.replicate (size - ys.length) 0 = B := ⟨_, rfl⟩
        rw [hA] at HB
        rw [hB] at HB'
        have hla : A.length = size := by rw [← hA]; simp; exact Nat.add_sub_cancel' HS.out.1
        have hlb : B.length = size := by rw [← hB]; simp; exact Nat.add_sub_cancel' HS.out.2.1
        have HCP := Lib.hid (cmp_pad xs ys size HX.out.1 HX.out.2 HS.out.1 HS.out.2.1)
        rw [hA, hB] at HCP
        have HLA := Lib.hid (And.intro hla hlb)
        have HRA := Lib.hid (fun W (h : UBlk W g A) => reverse_any W g size A h (by rw [hla]; exact Nat.le_trans HS.out.2.2 (by decide)))
        have HRB := Lib.hid (fun W (h : UBlk W g' B) => reverse_any W g' size B h (by rw [hlb]; exact Nat.le_trans HS.out.2.2 (by decide)))
        rw [hla] at HRA
        rw [hlb] at HRB
        clear hA hB hla hlb
        refine (HRA.out w4 HB.out).mono ?_
        rintro e w5 ⟨⟨v5, rfl⟩, hb5, ho5⟩
        have HB5 := Lib.hid hb5
        have HB5' := Lib.hid (show UBlk w5 g' B from ho5.2 g' _ HNE.out HB'.out)
        have h05 := ho5.1 w h04 HG.out
        clear hb5 ho5 h04
        go_wp2_with fail
        refine (HRB.out w5 HB5'.out).mono ?_
        rintro e w6 ⟨⟨v6, rfl⟩, hb6, ho6⟩
        have HB6 := Lib.hid (show UBlk w6 g A.reverse from ho6.2 g _ (Ne.symm HNE.out) HB5.out)
        have HB6' := Lib.hid hb6
        have h06 := ho6.1 w h05 HG'.out
        clear hb6 ho6 h05
        go_wp2_with fail
        have HCC := Lib.hid (compare_any w6 g g' size size A.reverse B.reverse HB6.out HB6'.out (by rw [List.length_reverse, List.length_reverse, HLA.out.1, HLA.out.2]) (by rw [List.length_reverse, HLA.out.1]; exact Nat.le_trans HS.out.2.2 (by decide)))
        rw [List.length_reverse, HLA.out.1, HCP.out] at HCC
        refine HCC.out.mono ?_
        rintro e w7 ⟨rfl, h7⟩
        go_wp2
        go_ret
        exact ⟨ret_int HE.out.symm, h06.trans h7⟩
      · obtain ⟨size, hsize⟩ : ∃ size, xs.length = size := ⟨_, rfl⟩
        have HS := Lib.hid (show xs.length ≤ size ∧ ys.length ≤ size ∧ size ≤ 2000 by omega)
        have hsz : (xs.length : Int) = (size : Int) := by omega
        clear hp hq hx hy m1 m2 n1 n2 hsize
        go_enter Try.func16, Try.ntmps16
        go_wp2_with fail
        refine HM1.out.mono ?_
        rintro e w1 ⟨rfl, h1⟩
        go_wp2_with fail
        refine (HM2.out w1 h1).mono ?_
        rintro e w2 ⟨rfl, h2⟩
        have h02 := h1.trans h2
        clear h1 h2
        go_wp2_with fail
        (try rw [hsz])
        refine (wide_any w2 _ xs size (HP.out.ext h02) HS.out.1 HS.out.2.2).mono ?_
        rintro e w3 ⟨g, rfl, hg, hb, h3⟩
        have h03 := h02.trans h3
        have HB := Lib.hid hb
        have HG := Lib.hid (Nat.le_trans h02.size hg)
        clear h02 h3 hg hb
        go_wp2_with fail
        (try rw [hsz])
        refine (wide_any w3 _ ys size (HQ.out.ext h03) HS.out.2.1 HS.out.2.2).mono ?_
        rintro e w4 ⟨g', rfl, hg', hb', h4⟩
        have hne : g' ≠ g := by have := (Array.getElem?_eq_some_iff.1 HB.out).1; omega
        have HNE := Lib.hid hne
        have HB := Lib.hid (show UBlk w4 g _ from h4.get HB.out)
        have HB' := Lib.hid hb'
        have HG' := Lib.hid (Nat.le_trans h03.size hg')
        have h04 := h03.trans h4
        clear h03 h4 hg' hb' hne
        go_wp2_with fail
        obtain ⟨A, hA⟩ : ∃ A, xs ++ List.replicate (size - xs.length) 0 = A := ⟨_, rfl⟩
        obtain ⟨B, hB⟩ : ∃ B, ys ++ List.replicate (size - ys.length) 0 = B := ⟨_, rfl⟩
        rw [hA] at HB
        rw [hB] at HB'
        have hla : A.length = size := by rw [← hA]; simp; exact Nat.add_sub_cancel' HS.out.1
        have hlb : B.length = size := by rw [← hB]; simp; exact Nat.add_sub_cancel' HS.out.2.1
        have HCP := Lib.hid (cmp_pad xs ys size HX.out.1 HX.out.2 HS.out.1 HS.out.2.1)
        rw [hA, hB] at HCP
        have HLA := Lib.hid (And.intro hla hlb)
        have HRA := Lib.hid (fun W (h : UBlk W g A) => reverse_any W g size A h (by rw [hla]; exact Nat.le_trans HS.out.2.2 (by decide)))
        have HRB := Lib.hid (fun W (h : UBlk W g' B) => reverse_any W g' size B h (by rw [hlb]; exact Nat.le_trans HS.out.2.2 (by decide)))
        rw [hla] at HRA
        rw [hlb] at HRB
        clear hA hB hla hlb
        refine (HRA.out w4 HB.out).mono ?_
        rintro e w5 ⟨⟨v5, rfl⟩, hb5, ho5⟩
        have HB5 := Lib.hid hb5
        have HB5' := Lib.hid (show UBlk w5 g' B from ho5.2 g' _ HNE.out HB'.out)
        have h05 := ho5.1 w h04 HG.out
        clear hb5 ho5 h04
        go_wp2_with fail
        refine (HRB.out w5 HB5'.out).mono ?_
        rintro e w6 ⟨⟨v6, rfl⟩, hb6, ho6⟩
        have HB6 := Lib.hid (show UBlk w6 g A.reverse from ho6.2 g _ (Ne.symm HNE.out) HB5.out)
        have HB6' := Lib.hid hb6
        have h06 := ho6.1 w h05 HG'.out
        clear hb6 ho6 h05
        go_wp2_with fail
        have HCC := Lib.hid (compare_any w6 g g' size size A.reverse B.reverse HB6.out HB6'.out (by rw [List.length_reverse, List.length_reverse, HLA.out.1, HLA.out.2]) (by rw [List.length_reverse, HLA.out.1]; exact Nat.le_trans HS.out.2.2 (by decide)))
        rw [List.length_reverse, HLA.out.1, HCP.out] at HCC
        refine HCC.out.mono ?_
        rintro e w7 ⟨rfl, h7⟩
        go_wp2
        go_ret
        exact ⟨ret_int HE.out.symm, h06.trans h7⟩
end Go.Proofs.Ytejknkhahjgdnaa
