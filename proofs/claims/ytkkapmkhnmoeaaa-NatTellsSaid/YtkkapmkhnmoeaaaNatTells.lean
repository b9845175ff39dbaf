/- joinerylaw07.NatTells. -/
import Derived.Test.YtkkapmkhnmoeaaaByte8
import Derived.Test.YtkkapmkhnmoeaaaNatPowers
namespace Go.Proofs.Ytkkapmkhnmoeaaa
open Go Go.RowKit

theorem fitN_lt (n : Nat) : fitN n < beta ^ 128 := by
  unfold fitN
  split
  · assumption
  · exact Nat.pow_pos beta_pos
theorem sumN_lt (xs ys : List Nat) (n : Nat) : SumN xs ys n < beta ^ 128 := by
  unfold SumN
  split
  · exact fitN_lt n
  · exact Nat.pow_pos beta_pos
theorem powN_lt (xs : List Nat) (e : Int) (n : Nat) : PowN xs e n < beta ^ 128 := by
  unfold PowN
  split
  · exact fitN_lt n
  · exact Nat.pow_pos beta_pos
set_option maxRecDepth 100000 in
set_option maxHeartbeats 8000000 in
theorem natTells_walk (a1 : Option Addr) (l1 c1 : Nat) (xs : List Nat) (a2 : Option Addr) (l2 c2 : Nat) (ys : List Nat) (e : Int) (x : Int) (w : World)
    (hx : URow w (.slice a1 l1 c1) xs ∧ Words xs) (hy : URow w (.slice a2 l2 c2) ys ∧ Words ys) (_he : (Lit.int .i64 e).wf = true) (hxx : (Lit.int .u64 x).wf = true) :
    Calls Try.prog 4 #[.slice a1 l1 c1, .slice a2 l2 c2, .int .i64 e, .int .u64 x] w (Ret (.bool true) w) := by
  obtain ⟨⟨_, _, e1⟩, ⟨_, _, e2⟩⟩ := And.intro hx.1.slice hy.1.slice
  obtain rfl : l1 = xs.length := by cases e1; rfl
  obtain rfl : l2 = ys.length := by cases e2; rfl
  clear e1 e2
  obtain ⟨X, rfl, hX⟩ := nat_of_u hxx (m := 18446744073709551615) rfl rfl
  clear hxx
  have HXB := Lib.hid (show X < 18446744073709551616 by omega)
  clear hX
  by_cases k1 : xs.length ≤ 200
  case neg =>
    have k : (200 : Int) < xs.length := by omega
    clear k1 hx hy
    go_enter Try.func4, Try.ntmps4
    go_wp2_with fail
    refine (alive07_any _).mono ?_
    rintro e w9 ⟨rfl, h9⟩
    go_wp2
    go_ret
    exact Ret.mk h9
  by_cases k2 : ys.length ≤ 200
  case neg =>
    have j1 : ¬ (200 : Int) < xs.length := by omega
    have k : (200 : Int) < ys.length := by omega
    clear k1 k2 hx hy
    go_enter Try.func4, Try.ntmps4
    go_wp2_with fail
    refine (alive07_any _).mono ?_
    rintro e w9 ⟨rfl, h9⟩
    go_wp2
    go_ret
    exact Ret.mk h9
  have j1 : ¬ (200 : Int) < xs.length := by omega
  have j2 : ¬ (200 : Int) < ys.length := by omega
  have HK := Lib.hid (And.intro k1 k2)
  have HH := Lib.hid (And.intro hx hy)
  clear k1 k2 hx hy
  have HW := Lib.hid (And.intro HH.out.1.2 HH.out.2.2)
  have HX := Lib.hid (Ext.refl w)
  have HN : Hid (Nums w []) := Lib.hid (fun x hx => by cases hx)
  go_enter Try.func4, Try.ntmps4
  go_wp2_with fail
  refine (own07_any w _ xs HH.out.1.1 (Nat.le_trans HK.out.1 (by decide))).mono ?_
  rintro r w1 ⟨m, rfl, m1, h1⟩
  go_wp2_with fail
  refine (own07_any w1 _ ys (HH.out.2.1.ext h1) (Nat.le_trans HK.out.2 (by decide))).mono ?_
  rintro r w2 ⟨n, rfl, n1, h2⟩
  replace HX := Lib.hid (h1.trans h2)
  replace HN : Hid (Nums w2 []) := Lib.hid (fun x hx => by cases hx)
  have HM := Lib.hid (m1.ext h2)
  have HMN := Lib.hid n1
  clear j1 j2 m1 n1 h1 h2
  go_wp2_with fail
  refine (natAddE_any w2 m n xs ys HM.out HMN.out HW.out.1 HW.out.2).mono ?_
  rintro r w3 ⟨vc, rfl, n', h'⟩
  replace HX := Lib.hid (HX.out.trans h')
  replace HN := Lib.hid (HN.out.add n' h')
  replace HM := Lib.hid (HM.out.ext h')
  replace HMN := Lib.hid (HMN.out.ext h')
  clear n' h'
  go_wp2_with fail
  refine (addE07_any w3 _ _ xs ys (HH.out.1.1.ext HX.out) (HH.out.2.1.ext HX.out) HW.out.1 HW.out.2).mono ?_
  rintro r w4 ⟨vd, rfl, n', h'⟩
  replace HX := Lib.hid (HX.out.trans h')
  replace HN := Lib.hid (HN.out.add n' h')
  replace HM := Lib.hid (HM.out.ext h')
  replace HMN := Lib.hid (HMN.out.ext h')
  clear n' h'
  go_wp2_with fail
  refine (natMulE_any w4 m n xs ys HM.out HMN.out HW.out.1 HW.out.2).mono ?_
  rintro r w5 ⟨vp, rfl, n', h'⟩
  replace HX := Lib.hid (HX.out.trans h')
  replace HN := Lib.hid (HN.out.add n' h')
  replace HM := Lib.hid (HM.out.ext h')
  replace HMN := Lib.hid (HMN.out.ext h')
  clear n' h'
  go_wp2_with fail
  refine (mulE07_any w5 _ _ xs ys (HH.out.1.1.ext HX.out) (HH.out.2.1.ext HX.out) HW.out.1 HW.out.2).mono ?_
  rintro r w6 ⟨vq, rfl, n', h'⟩
  replace HX := Lib.hid (HX.out.trans h')
  replace HN := Lib.hid (HN.out.add n' h')
  replace HM := Lib.hid (HM.out.ext h')
  replace HMN := Lib.hid (HMN.out.ext h')
  clear n' h'
  go_wp2_with fail
  refine (natPow_any w6 m xs e HM.out HW.out.1).mono ?_
  rintro r w7 ⟨vu, rfl, n', h'⟩
  replace HX := Lib.hid (HX.out.trans h')
  replace HN := Lib.hid (HN.out.add n' h')
  replace HM := Lib.hid (HM.out.ext h')
  replace HMN := Lib.hid (HMN.out.ext h')
  clear n' h'
  go_wp2_with fail
  refine (pow07_any w7 _ xs e (HH.out.1.1.ext HX.out) HW.out.1).mono ?_
  rintro r w8 ⟨vv, rfl, n', h'⟩
  replace HX := Lib.hid (HX.out.trans h')
  replace HN := Lib.hid (HN.out.add n' h')
  replace HM := Lib.hid (HM.out.ext h')
  replace HMN := Lib.hid (HMN.out.ext h')
  clear n' h'
  go_wp2_with fail
  refine (sameN_num w8 vc vd (SumN xs ys (nval xs + nval ys)) (HN.out (vc, SumN xs ys (nval xs + nval ys)) (by simp)) (HN.out (vd, SumN xs ys (nval xs + nval ys)) (by simp)) (lt256 (sumN_lt _ _ _))).mono ?_
  rintro r w9 ⟨rfl, h'⟩
  replace HX := Lib.hid (HX.out.trans h')
  replace HN := Lib.hid (HN.out.ext h')
  replace HM := Lib.hid (HM.out.ext h')
  replace HMN := Lib.hid (HMN.out.ext h')
  clear h'
  go_wp2_with fail
  refine (sameN_num w9 vp vq (SumN xs ys (nval xs * nval ys)) (HN.out (vp, SumN xs ys (nval xs * nval ys)) (by simp)) (HN.out (vq, SumN xs ys (nval xs * nval ys)) (by simp)) (lt256 (sumN_lt _ _ _))).mono ?_
  rintro r w10 ⟨rfl, h'⟩
  replace HX := Lib.hid (HX.out.trans h')
  replace HN := Lib.hid (HN.out.ext h')
  replace HM := Lib.hid (HM.out.ext h')
  replace HMN := Lib.hid (HMN.out.ext h')
  clear h'
  go_wp2_with fail
  refine (sameN_num w10 vu vv (PowN xs e (nval xs ^ e.toNat)) (HN.out (vu, PowN xs e (nval xs ^ e.toNat)) (by simp)) (HN.out (vv, PowN xs e (nval xs ^ e.toNat)) (by simp)) (lt256 (powN_lt _ _ _))).mono ?_
  rintro r w11 ⟨rfl, h'⟩
  replace HX := Lib.hid (HX.out.trans h')
  replace HN := Lib.hid (HN.out.ext h')
  replace HM := Lib.hid (HM.out.ext h')
  replace HMN := Lib.hid (HMN.out.ext h')
  clear h'
  go_wp2_with fail
  refine (sameN_any w11 m _ xs HM.out (HH.out.1.1.ext HX.out) (Nat.le_trans HK.out.1 (by decide))).mono ?_
  rintro r w12 ⟨rfl, h'⟩
  replace HX := Lib.hid (HX.out.trans h')
  replace HN := Lib.hid (HN.out.ext h')
  replace HM := Lib.hid (HM.out.ext h')
  replace HMN := Lib.hid (HMN.out.ext h')
  clear h'
  go_wp2_with fail
  refine (sameN_any w12 n _ ys HMN.out (HH.out.2.1.ext HX.out) (Nat.le_trans HK.out.2 (by decide))).mono ?_
  rintro r w13 ⟨rfl, h'⟩
  replace HX := Lib.hid (HX.out.trans h')
  replace HN := Lib.hid (HN.out.ext h')
  replace HM := Lib.hid (HM.out.ext h')
  replace HMN := Lib.hid (HMN.out.ext h')
  clear h'
  go_wp2_with fail
  refine (natMay_any w13 m xs HM.out).mono ?_
  rintro r w14 ⟨rfl, h'⟩
  replace HX := Lib.hid (HX.out.trans h')
  replace HN := Lib.hid (HN.out.ext h')
  replace HM := Lib.hid (HM.out.ext h')
  replace HMN := Lib.hid (HMN.out.ext h')
  clear h'
  go_wp2_with fail
  refine (may07_any w14 _ xs (HH.out.1.1.ext HX.out)).mono ?_
  rintro r w15 ⟨rfl, h'⟩
  replace HX := Lib.hid (HX.out.trans h')
  replace HN := Lib.hid (HN.out.ext h')
  replace HM := Lib.hid (HM.out.ext h')
  replace HMN := Lib.hid (HMN.out.ext h')
  clear h'
  go_wp2_with fail
  refine (natCmp_any w15 m n xs ys HM.out HMN.out HW.out.1 HW.out.2).mono ?_
  rintro r w16 ⟨rfl, h'⟩
  replace HX := Lib.hid (HX.out.trans h')
  replace HN := Lib.hid (HN.out.ext h')
  replace HM := Lib.hid (HM.out.ext h')
  replace HMN := Lib.hid (HMN.out.ext h')
  clear h'
  go_wp2_with fail
  refine (cmp07_any w16 _ _ xs ys (HH.out.1.1.ext HX.out) (HH.out.2.1.ext HX.out) HW.out.1 HW.out.2).mono ?_
  rintro r w17 ⟨rfl, h'⟩
  replace HX := Lib.hid (HX.out.trans h')
  replace HN := Lib.hid (HN.out.ext h')
  replace HM := Lib.hid (HM.out.ext h')
  replace HMN := Lib.hid (HMN.out.ext h')
  clear h'
  go_wp2_with fail
  refine (natText_any w17 m xs HM.out HW.out.1).mono ?_
  rintro r w18 ⟨rfl, h'⟩
  replace HX := Lib.hid (HX.out.trans h')
  replace HN := Lib.hid (HN.out.ext h')
  replace HM := Lib.hid (HM.out.ext h')
  replace HMN := Lib.hid (HMN.out.ext h')
  clear h'
  go_wp2_with fail
  refine (text07_any w18 _ xs (HH.out.1.1.ext HX.out) HW.out.1).mono ?_
  rintro r w19 ⟨rfl, h'⟩
  replace HX := Lib.hid (HX.out.trans h')
  replace HN := Lib.hid (HN.out.ext h')
  replace HM := Lib.hid (HM.out.ext h')
  replace HMN := Lib.hid (HMN.out.ext h')
  clear h'
  go_wp2_with fail
  refine (from_any w19 X HXB.out).mono ?_
  rintro r w20 ⟨vf, rfl, n', h'⟩
  replace HX := Lib.hid (HX.out.trans h')
  replace HN := Lib.hid (HN.out.add n' h')
  replace HM := Lib.hid (HM.out.ext h')
  replace HMN := Lib.hid (HMN.out.ext h')
  clear n' h'
  go_wp2_with fail
  refine (from07_any w20 X HXB.out).mono ?_
  rintro r w21 ⟨vg, rfl, n', h'⟩
  replace HX := Lib.hid (HX.out.trans h')
  replace HN := Lib.hid (HN.out.add n' h')
  replace HM := Lib.hid (HM.out.ext h')
  replace HMN := Lib.hid (HMN.out.ext h')
  clear n' h'
  go_wp2_with fail
  refine (sameN_num w21 vf vg X (HN.out (vf, X) (by simp)) (HN.out (vg, X) (by simp)) (Nat.lt_of_lt_of_le HXB.out (by decide +kernel))).mono ?_
  rintro r w22 ⟨rfl, h'⟩
  replace HX := Lib.hid (HX.out.trans h')
  replace HN := Lib.hid (HN.out.ext h')
  replace HM := Lib.hid (HM.out.ext h')
  replace HMN := Lib.hid (HMN.out.ext h')
  clear h'
  go_wp2_with fail
  refine (alive07_any _).mono ?_
  rintro e w9 ⟨rfl, h9⟩
  go_wp2
  go_ret
  exact Ret.mk (HX.out.trans h9)
end Go.Proofs.Ytkkapmkhnmoeaaa
