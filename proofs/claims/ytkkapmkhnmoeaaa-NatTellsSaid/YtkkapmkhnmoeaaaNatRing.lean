/- joinerylaw07.NatRing. -/
import Derived.Test.YtkkapmkhnmoeaaaNat12
namespace Go.Proofs.Ytkkapmkhnmoeaaa
open Go Go.RowKit

/-- numbers in memory. -/
def Nums (w : World) (l : List (Value × Nat)) : Prop := ∀ x ∈ l, NumIs w x.1 x.2
theorem Nums.add {w w' : World} {l : List (Value × Nat)} {v : Value} {n : Nat} (h : Nums w l) (hv : NumIs w' v n) (hE : Ext w w') : Nums w' ((v, n) :: l) := fun x hx => by
  rcases List.mem_cons.1 hx with rfl | hx
  · exact hv
  · exact (h x hx).ext hE
theorem Nums.ext {w w' : World} {l : List (Value × Nat)} (h : Nums w l) (hE : Ext w w') : Nums w' l := fun x hx => (h x hx).ext hE
theorem ring_bounds {a b c : Nat} (ha : a < beta ^ 40) (hb : b < beta ^ 40) (hc : c < beta ^ 40) :
    a + b < beta ^ 128 ∧ b + c < beta ^ 128 ∧ a * b < beta ^ 128 ∧ b * c < beta ^ 128 ∧ a * c < beta ^ 128 ∧ a + b + c < beta ^ 128 ∧ a * (b + c) < beta ^ 128 ∧ a * b * c < beta ^ 128 := by
  obtain ⟨B, hB⟩ : ∃ B, B = beta ^ 40 := ⟨_, rfl⟩
  have h1 : 3 * beta ^ 40 ≤ beta ^ 128 := by decide +kernel
  have h2 : 2 * (beta ^ 40 * beta ^ 40) ≤ beta ^ 128 := by decide +kernel
  have h3 : beta ^ 40 * beta ^ 40 * beta ^ 40 ≤ beta ^ 128 := by decide +kernel
  rw [← hB] at ha hb hc h1 h2 h3
  have hab : a * b < B * B := Nat.mul_lt_mul'' ha hb
  have hac : a * c < B * B := Nat.mul_lt_mul'' ha hc
  have hbc : b * c < B * B := Nat.mul_lt_mul'' hb hc
  have habc : a * b * c < B * B * B := Nat.mul_lt_mul'' hab hc
  generalize beta ^ 128 = M at *
  rw [Nat.mul_add]
  refine ⟨?_, ?_, ?_, ?_, ?_, ?_, ?_, ?_⟩ <;> omega
theorem small_num {xs : List Nat} (h : Norm xs) (hl : xs.length ≤ 40) : nval xs < beta ^ 40 := (norm_len h 40).1 hl
theorem lt128 {n : Nat} (h : n < beta ^ 40) : n < beta ^ 128 := Nat.lt_of_lt_of_le h (by decide +kernel)
theorem lt256 {n : Nat} (h : n < beta ^ 128) : n < beta ^ 256 := Nat.lt_of_lt_of_le h (by decide +kernel)
theorem fit_at {n m : Nat} (h : m < beta ^ 128) (e : n = m) : fitE n = 0 ∧ fitN n = m := by subst e; exact fit_of h
set_option maxRecDepth 100000 in
set_option maxHeartbeats 8000000 in
theorem natRing_walk (a1 : Option Addr) (l1 c1 : Nat) (xs : List Nat) (a2 : Option Addr) (l2 c2 : Nat) (ys : List Nat) (a3 : Option Addr) (l3 c3 : Nat) (zs : List Nat) (w : World)
    (hx : URow w (.slice a1 l1 c1) xs ∧ Words xs) (hy : URow w (.slice a2 l2 c2) ys ∧ Words ys) (hz : URow w (.slice a3 l3 c3) zs ∧ Words zs) :
    Calls Try.prog 5 #[.slice a1 l1 c1, .slice a2 l2 c2, .slice a3 l3 c3] w (Ret (.bool true) w) := by
  obtain ⟨⟨_, _, e1⟩, ⟨_, _, e2⟩, ⟨_, _, e3⟩⟩ := And.intro hx.1.slice (And.intro hy.1.slice hz.1.slice)
  obtain rfl : l1 = xs.length := by cases e1; rfl
  obtain rfl : l2 = ys.length := by cases e2; rfl
  obtain rfl : l3 = zs.length := by cases e3; rfl
  clear e1 e2 e3
  have HM1 := Lib.hid (natMay_any w _ xs hx.1)
  have HM2 := Lib.hid (fun W (h : Ext w W) => natMay_any W _ ys (hy.1.ext h))
  have HM3 := Lib.hid (fun W (h : Ext w W) => natMay_any W _ zs (hz.1.ext h))
  by_cases k1 : xs.length ≤ 40
  case neg =>
    have k : (40 : Int) < xs.length := by omega
    clear k1 hx hy hz
    go_enter Try.func5, Try.ntmps5
    go_wp2_with fail
    refine (alive07_any _).mono ?_
    rintro e w9 ⟨rfl, h9⟩
    go_wp2
    go_ret
    exact Ret.mk h9
  by_cases k2 : ys.length ≤ 40
  case neg =>
    have j1 : ¬ (40 : Int) < xs.length := by omega
    have k : (40 : Int) < ys.length := by omega
    clear k1 k2 hx hy hz
    go_enter Try.func5, Try.ntmps5
    go_wp2_with fail
    refine (alive07_any _).mono ?_
    rintro e w9 ⟨rfl, h9⟩
    go_wp2
    go_ret
    exact Ret.mk h9
  by_cases k3 : zs.length ≤ 40
  case neg =>
    have j1 : ¬ (40 : Int) < xs.length := by omega
    have j2 : ¬ (40 : Int) < ys.length := by omega
    have k : (40 : Int) < zs.length := by omega
    clear k1 k2 k3 hx hy hz
    go_enter Try.func5, Try.ntmps5
    go_wp2_with fail
    refine (alive07_any _).mono ?_
    rintro e w9 ⟨rfl, h9⟩
    go_wp2
    go_ret
    exact Ret.mk h9
  have j1 : ¬ (40 : Int) < xs.length := by omega
  have j2 : ¬ (40 : Int) < ys.length := by omega
  have j3 : ¬ (40 : Int) < zs.length := by omega
  have HK := Lib.hid (And.intro k1 (And.intro k2 k3))
  have HH := Lib.hid (And.intro hx (And.intro hy hz))
  clear k1 k2 k3 hx hy hz
  cases m1 : mayN xs with
  | false =>
    rw [m1] at HM1
    clear m1
    go_enter Try.func5, Try.ntmps5
    go_wp2_with fail
    refine HM1.out.mono ?_
    rintro e w1 ⟨rfl, h1⟩
    go_wp2_with fail
    refine (alive07_any _).mono ?_
    rintro e w9 ⟨rfl, h9⟩
    go_wp2
    go_ret
    exact Ret.mk (h1.trans h9)
  | true =>
    rw [m1] at HM1
    cases m2 : mayN ys with
    | false =>
      rw [m2] at HM2
      clear m1 m2
      go_enter Try.func5, Try.ntmps5
      go_wp2_with fail
      refine HM1.out.mono ?_
      rintro e w1 ⟨rfl, h1⟩
      go_wp2_with fail
      refine (HM2.out w1 h1).mono ?_
      rintro e w2 ⟨rfl, h2⟩
      go_wp2_with fail
      refine (alive07_any _).mono ?_
      rintro e w9 ⟨rfl, h9⟩
      go_wp2
      go_ret
      exact Ret.mk ((h1.trans h2).trans h9)
    | true =>
      rw [m2] at HM2
      cases m3 : mayN zs with
      | false =>
        rw [m3] at HM3
        clear m1 m2 m3
        go_enter Try.func5, Try.ntmps5
        go_wp2_with fail
        refine HM1.out.mono ?_
        rintro e w1 ⟨rfl, h1⟩
        go_wp2_with fail
        refine (HM2.out w1 h1).mono ?_
        rintro e w2 ⟨rfl, h2⟩
        go_wp2_with fail
        refine (HM3.out w2 (h1.trans h2)).mono ?_
        rintro e w3 ⟨rfl, h3⟩
        go_wp2_with fail
        refine (alive07_any _).mono ?_
        rintro e w9 ⟨rfl, h9⟩
        go_wp2
        go_ret
        exact Ret.mk (((h1.trans h2).trans h3).trans h9)
      | true =>
        rw [m3] at HM3
        obtain ⟨a, ha⟩ : ∃ a, nval xs = a := ⟨_, rfl⟩
        obtain ⟨b, hb⟩ : ∃ b, nval ys = b := ⟨_, rfl⟩
        obtain ⟨c, hc⟩ : ∃ c, nval zs = c := ⟨_, rfl⟩
        have n1 := ((mayN_norm HH.out.1.2).1 m1).1
        have n2 := ((mayN_norm HH.out.2.1.2).1 m2).1
        have n3 := ((mayN_norm HH.out.2.2.2).1 m3).1
        have s1 := small_num n1 HK.out.1
        have s2 := small_num n2 HK.out.2.1
        have s3 := small_num n3 HK.out.2.2
        rw [ha] at s1
        rw [hb] at s2
        rw [hc] at s3
        obtain ⟨b1, b2, b3, b4, b5, b6, b7, b8⟩ := ring_bounds s1 s2 s3
        have HB := Lib.hid (And.intro (lt128 s1) (And.intro (lt128 s2) (lt128 s3)))
        have B1 := Lib.hid b1
        have B2 := Lib.hid b2
        have B3 := Lib.hid b3
        have B4 := Lib.hid b4
        have B5 := Lib.hid b5
        have B6 := Lib.hid b6
        have B7 := Lib.hid b7
        have B8 := Lib.hid b8
        have hcm : 0 ≤ cmpV (a + b) a := by unfold cmpV; split <;> (try split) <;> omega
        obtain ⟨C, hC⟩ : ∃ C, cmpV (a + b) a = C := ⟨_, rfl⟩
        have HC := Lib.hid hC
        rw [hC] at hcm
        have HN0 : Nums w [(.slice a1 xs.length c1, a), (.slice a2 ys.length c2, b), (.slice a3 zs.length c3, c)] := by
          intro x hx
          simp only [List.mem_cons, List.not_mem_nil, or_false] at hx
          rcases hx with rfl | rfl | rfl
          · exact ⟨xs, HH.out.1.1, n1, ha⟩
          · exact ⟨ys, HH.out.2.1.1, n2, hb⟩
          · exact ⟨zs, HH.out.2.2.1, n3, hc⟩
        have HN0 := Lib.hid HN0
        clear m1 m2 m3 n1 n2 n3 s1 s2 s3 b1 b2 b3 b4 b5 b6 b7 b8 ha hb hc HH HK hC
        go_enter Try.func5, Try.ntmps5
        go_wp2_with fail
        refine HM1.out.mono ?_
        rintro e w1 ⟨rfl, h1⟩
        go_wp2_with fail
        refine (HM2.out w1 h1).mono ?_
        rintro e w2 ⟨rfl, h2⟩
        go_wp2_with fail
        refine (HM3.out w2 (h1.trans h2)).mono ?_
        rintro e w3 ⟨rfl, h3⟩
        have HX := Lib.hid ((h1.trans h2).trans h3)
        have HN := Lib.hid (HN0.out.ext HX.out)
        clear h1 h2 h3 j1 j2 j3 HN0 HM1 HM2 HM3
        go_wp2_with fail
        refine (natAdd_num w3 _ _ a b (HN.out (.slice a1 xs.length c1, a) (by simp)) (HN.out (.slice a2 ys.length c2, b) (by simp)) HB.out.1 HB.out.2.1).mono ?_
        rintro e w4 ⟨vx, rfl, n', h'⟩
        rw [(fit_of B1.out).2] at n'
        rw [(fit_of B1.out).1]
        replace HX := Lib.hid (HX.out.trans h')
        replace HN := Lib.hid (HN.out.add n' h')
        clear n' h'
        go_wp2_with fail
        refine (natAdd_num w4 _ _ b a (HN.out (.slice a2 ys.length c2, b) (by simp)) (HN.out (.slice a1 xs.length c1, a) (by simp)) HB.out.2.1 HB.out.1).mono ?_
        rintro e w5 ⟨vy, rfl, n', h'⟩
        rw [(fit_at B1.out (Nat.add_comm b a)).2] at n'
        rw [(fit_at B1.out (Nat.add_comm b a)).1]
        replace HX := Lib.hid (HX.out.trans h')
        replace HN := Lib.hid (HN.out.add n' h')
        clear n' h'
        go_wp2_with fail
        refine (natAdd_num w5 _ _ b c (HN.out (.slice a2 ys.length c2, b) (by simp)) (HN.out (.slice a3 zs.length c3, c) (by simp)) HB.out.2.1 HB.out.2.2).mono ?_
        rintro e w6 ⟨vz, rfl, n', h'⟩
        rw [(fit_of B2.out).2] at n'
        rw [(fit_of B2.out).1]
        replace HX := Lib.hid (HX.out.trans h')
        replace HN := Lib.hid (HN.out.add n' h')
        clear n' h'
        go_wp2_with fail
        refine (natMul_num w6 _ _ a b (HN.out (.slice a1 xs.length c1, a) (by simp)) (HN.out (.slice a2 ys.length c2, b) (by simp)) HB.out.1 HB.out.2.1).mono ?_
        rintro e w7 ⟨vp, rfl, n', h'⟩
        rw [(fit_of B3.out).2] at n'
        rw [(fit_of B3.out).1]
        replace HX := Lib.hid (HX.out.trans h')
        replace HN := Lib.hid (HN.out.add n' h')
        clear n' h'
        go_wp2_with fail
        refine (natMul_num w7 _ _ b a (HN.out (.slice a2 ys.length c2, b) (by simp)) (HN.out (.slice a1 xs.length c1, a) (by simp)) HB.out.2.1 HB.out.1).mono ?_
        rintro e w8 ⟨vq, rfl, n', h'⟩
        rw [(fit_at B3.out (Nat.mul_comm b a)).2] at n'
        rw [(fit_at B3.out (Nat.mul_comm b a)).1]
        replace HX := Lib.hid (HX.out.trans h')
        replace HN := Lib.hid (HN.out.add n' h')
        clear n' h'
        go_wp2_with fail
        refine (natMul_num w8 _ _ b c (HN.out (.slice a2 ys.length c2, b) (by simp)) (HN.out (.slice a3 zs.length c3, c) (by simp)) HB.out.2.1 HB.out.2.2).mono ?_
        rintro e w9 ⟨vs, rfl, n', h'⟩
        rw [(fit_of B4.out).2] at n'
        rw [(fit_of B4.out).1]
        replace HX := Lib.hid (HX.out.trans h')
        replace HN := Lib.hid (HN.out.add n' h')
        clear n' h'
        go_wp2_with fail
        refine (natMul_num w9 _ _ a c (HN.out (.slice a1 xs.length c1, a) (by simp)) (HN.out (.slice a3 zs.length c3, c) (by simp)) HB.out.1 HB.out.2.2).mono ?_
        rintro e w10 ⟨vt, rfl, n', h'⟩
        rw [(fit_of B5.out).2] at n'
        rw [(fit_of B5.out).1]
        replace HX := Lib.hid (HX.out.trans h')
        replace HN := Lib.hid (HN.out.add n' h')
        clear n' h'
        go_wp2_with fail
        refine (natAdd_num w10 _ _ (a + b) c (HN.out (vx, (a + b)) (by simp)) (HN.out (.slice a3 zs.length c3, c) (by simp)) B1.out HB.out.2.2).mono ?_
        rintro e w11 ⟨vl, rfl, n', h'⟩
        rw [(fit_of B6.out).2] at n'
        rw [(fit_of B6.out).1]
        replace HX := Lib.hid (HX.out.trans h')
        replace HN := Lib.hid (HN.out.add n' h')
        clear n' h'
        go_wp2_with fail
        refine (natAdd_num w11 _ _ a (b + c) (HN.out (.slice a1 xs.length c1, a) (by simp)) (HN.out (vz, (b + c)) (by simp)) HB.out.1 B2.out).mono ?_
        rintro e w12 ⟨vm, rfl, n', h'⟩
        rw [(fit_at B6.out (Nat.add_assoc a b c).symm).2] at n'
        rw [(fit_at B6.out (Nat.add_assoc a b c).symm).1]
        replace HX := Lib.hid (HX.out.trans h')
        replace HN := Lib.hid (HN.out.add n' h')
        clear n' h'
        go_wp2_with fail
        refine (natMul_num w12 _ _ a (b + c) (HN.out (.slice a1 xs.length c1, a) (by simp)) (HN.out (vz, (b + c)) (by simp)) HB.out.1 B2.out).mono ?_
        rintro e w13 ⟨vn, rfl, n', h'⟩
        rw [(fit_of B7.out).2] at n'
        rw [(fit_of B7.out).1]
        replace HX := Lib.hid (HX.out.trans h')
        replace HN := Lib.hid (HN.out.add n' h')
        clear n' h'
        go_wp2_with fail
        refine (natAdd_num w13 _ _ (a * b) (a * c) (HN.out (vp, (a * b)) (by simp)) (HN.out (vt, (a * c)) (by simp)) B3.out B5.out).mono ?_
        rintro e w14 ⟨vo, rfl, n', h'⟩
        rw [(fit_at B7.out (Nat.mul_add a b c).symm).2] at n'
        rw [(fit_at B7.out (Nat.mul_add a b c).symm).1]
        replace HX := Lib.hid (HX.out.trans h')
        replace HN := Lib.hid (HN.out.add n' h')
        clear n' h'
        go_wp2_with fail
        refine (natMul_num w14 _ _ (a * b) c (HN.out (vp, (a * b)) (by simp)) (HN.out (.slice a3 zs.length c3, c) (by simp)) B3.out HB.out.2.2).mono ?_
        rintro e w15 ⟨vu, rfl, n', h'⟩
        rw [(fit_of B8.out).2] at n'
        rw [(fit_of B8.out).1]
        replace HX := Lib.hid (HX.out.trans h')
        replace HN := Lib.hid (HN.out.add n' h')
        clear n' h'
        go_wp2_with fail
        refine (natMul_num w15 _ _ a (b * c) (HN.out (.slice a1 xs.length c1, a) (by simp)) (HN.out (vs, (b * c)) (by simp)) HB.out.1 B4.out).mono ?_
        rintro e w16 ⟨vv, rfl, n', h'⟩
        rw [(fit_at B8.out (Nat.mul_assoc a b c).symm).2] at n'
        rw [(fit_at B8.out (Nat.mul_assoc a b c).symm).1]
        replace HX := Lib.hid (HX.out.trans h')
        replace HN := Lib.hid (HN.out.add n' h')
        clear n' h'
        go_wp2_with fail
        refine (sameN_num _ _ _ (a + b) (HN.out (vx, a + b) (by simp)) (HN.out (vy, a + b) (by simp)) (lt256 B1.out)).mono ?_
        rintro e wn ⟨rfl, h'⟩
        replace HX := Lib.hid (HX.out.trans h')
        replace HN := Lib.hid (HN.out.ext h')
        clear h'
        go_wp2_with fail
        refine (sameN_num _ _ _ (a * b) (HN.out (vp, a * b) (by simp)) (HN.out (vq, a * b) (by simp)) (lt256 B3.out)).mono ?_
        rintro e wn ⟨rfl, h'⟩
        replace HX := Lib.hid (HX.out.trans h')
        replace HN := Lib.hid (HN.out.ext h')
        clear h'
        go_wp2_with fail
        refine (sameN_num _ _ _ (a + b + c) (HN.out (vl, a + b + c) (by simp)) (HN.out (vm, a + b + c) (by simp)) (lt256 B6.out)).mono ?_
        rintro e wn ⟨rfl, h'⟩
        replace HX := Lib.hid (HX.out.trans h')
        replace HN := Lib.hid (HN.out.ext h')
        clear h'
        go_wp2_with fail
        refine (sameN_num _ _ _ (a * (b + c)) (HN.out (vn, a * (b + c)) (by simp)) (HN.out (vo, a * (b + c)) (by simp)) (lt256 B7.out)).mono ?_
        rintro e wn ⟨rfl, h'⟩
        replace HX := Lib.hid (HX.out.trans h')
        replace HN := Lib.hid (HN.out.ext h')
        clear h'
        go_wp2_with fail
        refine (sameN_num _ _ _ (a * b * c) (HN.out (vu, a * b * c) (by simp)) (HN.out (vv, a * b * c) (by simp)) (lt256 B8.out)).mono ?_
        rintro e wn ⟨rfl, h'⟩
        replace HX := Lib.hid (HX.out.trans h')
        replace HN := Lib.hid (HN.out.ext h')
        clear h'
        go_wp2_with fail
        refine (natMay_num _ _ (a + b) (HN.out (vx, a + b) (by simp)) B1.out).mono ?_
        rintro e wn ⟨rfl, h'⟩
        replace HX := Lib.hid (HX.out.trans h')
        replace HN := Lib.hid (HN.out.ext h')
        clear h'
        go_wp2_with fail
        refine (natMay_num _ _ (a * b) (HN.out (vp, a * b) (by simp)) B3.out).mono ?_
        rintro e wn ⟨rfl, h'⟩
        replace HX := Lib.hid (HX.out.trans h')
        replace HN := Lib.hid (HN.out.ext h')
        clear h'
        go_wp2_with fail
        refine (natCmp_num _ _ _ (a + b) a (HN.out (vx, a + b) (by simp)) (HN.out (.slice a1 xs.length c1, a) (by simp)) B1.out HB.out.1).mono ?_
        rw [HC.out]
        rintro e wn ⟨rfl, h'⟩
        replace HX := Lib.hid (HX.out.trans h')
        clear h'
        go_wp2_with fail
        refine (alive07_any _).mono ?_
        rintro e w9 ⟨rfl, h9⟩
        go_wp2
        go_ret
        exact Ret.mk (HX.out.trans h9)
end Go.Proofs.Ytkkapmkhnmoeaaa
