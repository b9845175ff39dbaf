/- joinerylaw07.NatPowers. -/
import Derived.Test.YtkkapmkhnmoeaaaNatRing
namespace Go.Proofs.Ytkkapmkhnmoeaaa
open Go Go.RowKit

theorem pow_bounds {n d e : Nat} (hn : n < 65536) (hd : d < 100) (he : e < 100) : n ^ d < beta ^ 128 ∧ n ^ e < beta ^ 128 ∧ n ^ (d + e) < beta ^ 128 ∧ ∀ a, a < 18446744073709551616 → a + n ^ d < beta ^ 128 := by
  have h0 : ∀ k, k ≤ 200 → n ^ k ≤ 65536 ^ 200 := fun k hk => Nat.le_trans (Nat.pow_le_pow_left (Nat.le_of_lt hn) k) (Nat.pow_le_pow_right (by decide) hk)
  have h1 : 65536 ^ 200 + 18446744073709551616 < beta ^ 128 := by decide +kernel
  have a1 := h0 d (by omega)
  have a2 := h0 e (by omega)
  have a3 := h0 (d + e) (by omega)
  generalize 65536 ^ 200 = M at *
  generalize beta ^ 128 = B at *
  refine ⟨by omega, by omega, by omega, fun a ha => by omega⟩
set_option maxRecDepth 100000 in
set_option maxHeartbeats 8000000 in
theorem natPowers_nat (n d e a b : Nat) (w : World) (hn : n < 65536) (hd : d < 256) (he : e < 256) (ha : a < 18446744073709551616) (hb : b < 18446744073709551616) :
    Calls Try.prog 6 #[.int .u16 (n : Nat), .int .u8 (d : Nat), .int .u8 (e : Nat), .int .u64 (a : Nat), .int .u64 (b : Nat)] w (Ret (.bool true) w) := by
  obtain ⟨D, hD⟩ : ∃ D, D = d % 100 := ⟨_, rfl⟩
  obtain ⟨E, hE⟩ : ∃ E, E = e % 100 := ⟨_, rfl⟩
  have hD1 : D < 100 := by omega
  have hE1 : E < 100 := by omega
  obtain ⟨b1, b2, b3, b4⟩ := pow_bounds hn hD1 hE1
  have B1 := Lib.hid b1
  have B2 := Lib.hid b2
  have B3 := Lib.hid b3
  have B4 := Lib.hid (b4 a ha)
  have B5 := Lib.hid (b4 b hb)
  have HA := Lib.hid ha
  have HB := Lib.hid hb
  have HN0 := Lib.hid hn
  have hD2 : (d : Int).tmod 100 = (D : Int) := by rw [Int.tmod_eq_emod_of_nonneg (by omega)]; omega
  have hE2 : (e : Int).tmod 100 = (E : Int) := by rw [Int.tmod_eq_emod_of_nonneg (by omega)]; omega
  have HX := Lib.hid (Ext.refl w)
  have HN : Hid (Nums w []) := Lib.hid (fun x hx => by cases hx)
  clear hD hE b1 b2 b3 b4
  rcases Nat.lt_trichotomy a b with h | h | h
  · have hc : Hid (cmpV a b = -1 ∧ cmpV b a = 1 ∧ cmpV (a + n ^ D) (b + n ^ D) = -1) := Lib.hid (by generalize n ^ D = z; unfold cmpV; refine ⟨if_pos h, ?_, if_pos (by omega)⟩; rw [if_neg (by omega), if_pos h])
    have i1 : (a : Int) < (b : Int) := by omega
    have i2 : ¬ (a : Int) = (b : Int) := by omega
    clear h
    go_enter Try.func6, Try.ntmps6
    go_wp2_with fail
    refine (from_any w n (Nat.lt_trans HN0.out (by decide))).mono ?_
    rintro e w1 ⟨vn, rfl, n', h'⟩
    replace HX := Lib.hid (HX.out.trans h')
    replace HN := Lib.hid (HN.out.add n' h')
    clear n' h'
    go_wp2_with fail
    refine (natPow_num w1 vn n D (HN.out (vn, n) (by simp)) (Nat.lt_trans HN0.out (by decide +kernel)) (by omega)).mono ?_
    rintro e w2 ⟨vp, rfl, n', h'⟩
    rw [(fit_of B1.out).2] at n'
    rw [(fit_of B1.out).1]
    replace HX := Lib.hid (HX.out.trans h')
    replace HN := Lib.hid (HN.out.add n' h')
    clear n' h'
    go_wp2_with fail
    refine (natPow_num w2 vn n E (HN.out (vn, n) (by simp)) (Nat.lt_trans HN0.out (by decide +kernel)) (by omega)).mono ?_
    rintro e w3 ⟨vq, rfl, n', h'⟩
    rw [(fit_of B2.out).2] at n'
    rw [(fit_of B2.out).1]
    replace HX := Lib.hid (HX.out.trans h')
    replace HN := Lib.hid (HN.out.add n' h')
    clear n' h'
    go_wp2_with fail
    refine (natPow_num w3 vn n (D + E) (HN.out (vn, n) (by simp)) (Nat.lt_trans HN0.out (by decide +kernel)) (by omega)).mono ?_
    rintro e w4 ⟨vr, rfl, n', h'⟩
    rw [(fit_of B3.out).2] at n'
    rw [(fit_of B3.out).1]
    replace HX := Lib.hid (HX.out.trans h')
    replace HN := Lib.hid (HN.out.add n' h')
    clear n' h'
    go_wp2_with fail
    refine (natMul_num w4 vp vq (n ^ D) (n ^ E) (HN.out (vp, n ^ D) (by simp)) (HN.out (vq, n ^ E) (by simp)) B1.out B2.out).mono ?_
    rintro e w5 ⟨vs, rfl, n', h'⟩
    rw [(fit_at B3.out (Nat.pow_add n D E).symm).2] at n'
    rw [(fit_at B3.out (Nat.pow_add n D E).symm).1]
    replace HX := Lib.hid (HX.out.trans h')
    replace HN := Lib.hid (HN.out.add n' h')
    clear n' h'
    go_wp2_with fail
    refine (sameN_num w5 vr vs (n ^ (D + E)) (HN.out (vr, n ^ (D + E)) (by simp)) (HN.out (vs, n ^ (D + E)) (by simp)) (lt256 B3.out)).mono ?_
    rintro e w6 ⟨rfl, h'⟩
    replace HX := Lib.hid (HX.out.trans h')
    replace HN := Lib.hid (HN.out.ext h')
    clear h'
    go_wp2_with fail
    refine (from_any w6 a HA.out).mono ?_
    rintro e w7 ⟨va, rfl, n', h'⟩
    replace HX := Lib.hid (HX.out.trans h')
    replace HN := Lib.hid (HN.out.add n' h')
    clear n' h'
    go_wp2_with fail
    refine (from_any w7 b HB.out).mono ?_
    rintro e w8 ⟨vb, rfl, n', h'⟩
    replace HX := Lib.hid (HX.out.trans h')
    replace HN := Lib.hid (HN.out.add n' h')
    clear n' h'
    go_wp2_with fail
    refine (natCmp_num w8 va vb a b (HN.out (va, a) (by simp)) (HN.out (vb, b) (by simp)) (Nat.lt_trans HA.out (by decide +kernel)) (Nat.lt_trans HB.out (by decide +kernel))).mono ?_
    rw [hc.out.1]
    rintro e w9 ⟨rfl, h'⟩
    replace HX := Lib.hid (HX.out.trans h')
    replace HN := Lib.hid (HN.out.ext h')
    clear h'
    go_wp2_with fail
    refine (from_any w9 b HB.out).mono ?_
    rintro e w10 ⟨vb2, rfl, n', h'⟩
    replace HX := Lib.hid (HX.out.trans h')
    replace HN := Lib.hid (HN.out.add n' h')
    clear n' h'
    go_wp2_with fail
    refine (from_any w10 a HA.out).mono ?_
    rintro e w11 ⟨va2, rfl, n', h'⟩
    replace HX := Lib.hid (HX.out.trans h')
    replace HN := Lib.hid (HN.out.add n' h')
    clear n' h'
    go_wp2_with fail
    refine (natCmp_num w11 vb2 va2 b a (HN.out (vb2, b) (by simp)) (HN.out (va2, a) (by simp)) (Nat.lt_trans HB.out (by decide +kernel)) (Nat.lt_trans HA.out (by decide +kernel))).mono ?_
    rw [hc.out.2.1]
    rintro e w12 ⟨rfl, h'⟩
    replace HX := Lib.hid (HX.out.trans h')
    replace HN := Lib.hid (HN.out.ext h')
    clear h'
    go_wp2_with fail
    refine (from_any w12 a HA.out).mono ?_
    rintro e w13 ⟨va3, rfl, n', h'⟩
    replace HX := Lib.hid (HX.out.trans h')
    replace HN := Lib.hid (HN.out.add n' h')
    clear n' h'
    go_wp2_with fail
    refine (natAdd_num w13 va3 vp a (n ^ D) (HN.out (va3, a) (by simp)) (HN.out (vp, n ^ D) (by simp)) (Nat.lt_trans HA.out (by decide +kernel)) B1.out).mono ?_
    rintro e w14 ⟨vu, rfl, n', h'⟩
    rw [(fit_of B4.out).2] at n'
    rw [(fit_of B4.out).1]
    replace HX := Lib.hid (HX.out.trans h')
    replace HN := Lib.hid (HN.out.add n' h')
    clear n' h'
    go_wp2_with fail
    refine (from_any w14 b HB.out).mono ?_
    rintro e w15 ⟨vb3, rfl, n', h'⟩
    replace HX := Lib.hid (HX.out.trans h')
    replace HN := Lib.hid (HN.out.add n' h')
    clear n' h'
    go_wp2_with fail
    refine (natAdd_num w15 vb3 vp b (n ^ D) (HN.out (vb3, b) (by simp)) (HN.out (vp, n ^ D) (by simp)) (Nat.lt_trans HB.out (by decide +kernel)) B1.out).mono ?_
    rintro e w16 ⟨vv, rfl, n', h'⟩
    rw [(fit_of B5.out).2] at n'
    rw [(fit_of B5.out).1]
    replace HX := Lib.hid (HX.out.trans h')
    replace HN := Lib.hid (HN.out.add n' h')
    clear n' h'
    go_wp2_with fail
    refine (natCmp_num w16 vu vv (a + n ^ D) (b + n ^ D) (HN.out (vu, a + n ^ D) (by simp)) (HN.out (vv, b + n ^ D) (by simp)) B4.out B5.out).mono ?_
    rw [hc.out.2.2]
    rintro e w17 ⟨rfl, h'⟩
    replace HX := Lib.hid (HX.out.trans h')
    clear h'
    go_wp2_with fail
    refine (alive07_any _).mono ?_
    rintro e w18 ⟨rfl, h9⟩
    go_wp2
    go_ret
    exact Ret.mk (HX.out.trans h9)
  · subst h
    have hc : Hid (cmpV a a = 0 ∧ cmpV a a = 0 ∧ cmpV (a + n ^ D) (a + n ^ D) = 0) := Lib.hid (by generalize n ^ D = z; unfold cmpV; refine ⟨?_, ?_, ?_⟩ <;> simp)
    have i1 : ¬ (a : Int) < (a : Int) := by omega
    go_enter Try.func6, Try.ntmps6
    go_wp2_with fail
    refine (from_any w n (Nat.lt_trans HN0.out (by decide))).mono ?_
    rintro e w1 ⟨vn, rfl, n', h'⟩
    replace HX := Lib.hid (HX.out.trans h')
    replace HN := Lib.hid (HN.out.add n' h')
    clear n' h'
    go_wp2_with fail
    refine (natPow_num w1 vn n D (HN.out (vn, n) (by simp)) (Nat.lt_trans HN0.out (by decide +kernel)) (by omega)).mono ?_
    rintro e w2 ⟨vp, rfl, n', h'⟩
    rw [(fit_of B1.out).2] at n'
    rw [(fit_of B1.out).1]
    replace HX := Lib.hid (HX.out.trans h')
    replace HN := Lib.hid (HN.out.add n' h')
    clear n' h'
    go_wp2_with fail
    refine (natPow_num w2 vn n E (HN.out (vn, n) (by simp)) (Nat.lt_trans HN0.out (by decide +kernel)) (by omega)).mono ?_
    rintro e w3 ⟨vq, rfl, n', h'⟩
    rw [(fit_of B2.out).2] at n'
    rw [(fit_of B2.out).1]
    replace HX := Lib.hid (HX.out.trans h')
    replace HN := Lib.hid (HN.out.add n' h')
    clear n' h'
    go_wp2_with fail
    refine (natPow_num w3 vn n (D + E) (HN.out (vn, n) (by simp)) (Nat.lt_trans HN0.out (by decide +kernel)) (by omega)).mono ?_
    rintro e w4 ⟨vr, rfl, n', h'⟩
    rw [(fit_of B3.out).2] at n'
    rw [(fit_of B3.out).1]
    replace HX := Lib.hid (HX.out.trans h')
    replace HN := Lib.hid (HN.out.add n' h')
    clear n' h'
    go_wp2_with fail
    refine (natMul_num w4 vp vq (n ^ D) (n ^ E) (HN.out (vp, n ^ D) (by simp)) (HN.out (vq, n ^ E) (by simp)) B1.out B2.out).mono ?_
    rintro e w5 ⟨vs, rfl, n', h'⟩
    rw [(fit_at B3.out (Nat.pow_add n D E).symm).2] at n'
    rw [(fit_at B3.out (Nat.pow_add n D E).symm).1]
    replace HX := Lib.hid (HX.out.trans h')
    replace HN := Lib.hid (HN.out.add n' h')
    clear n' h'
    go_wp2_with fail
    refine (sameN_num w5 vr vs (n ^ (D + E)) (HN.out (vr, n ^ (D + E)) (by simp)) (HN.out (vs, n ^ (D + E)) (by simp)) (lt256 B3.out)).mono ?_
    rintro e w6 ⟨rfl, h'⟩
    replace HX := Lib.hid (HX.out.trans h')
    replace HN := Lib.hid (HN.out.ext h')
    clear h'
    go_wp2_with fail
    refine (from_any w6 a HA.out).mono ?_
    rintro e w7 ⟨va, rfl, n', h'⟩
    replace HX := Lib.hid (HX.out.trans h')
    replace HN := Lib.hid (HN.out.add n' h')
    clear n' h'
    go_wp2_with fail
    refine (from_any w7 a HB.out).mono ?_
    rintro e w8 ⟨vb, rfl, n', h'⟩
    replace HX := Lib.hid (HX.out.trans h')
    replace HN := Lib.hid (HN.out.add n' h')
    clear n' h'
    go_wp2_with fail
    refine (natCmp_num w8 va vb a a (HN.out (va, a) (by simp)) (HN.out (vb, a) (by simp)) (Nat.lt_trans HA.out (by decide +kernel)) (Nat.lt_trans HB.out (by decide +kernel))).mono ?_
    rw [hc.out.1]
    rintro e w9 ⟨rfl, h'⟩
    replace HX := Lib.hid (HX.out.trans h')
    replace HN := Lib.hid (HN.out.ext h')
    clear h'
    go_wp2_with fail
    refine (from_any w9 a HB.out).mono ?_
    rintro e w10 ⟨vb2, rfl, n', h'⟩
    replace HX := Lib.hid (HX.out.trans h')
    replace HN := Lib.hid (HN.out.add n' h')
    clear n' h'
    go_wp2_with fail
    refine (from_any w10 a HA.out).mono ?_
    rintro e w11 ⟨va2, rfl, n', h'⟩
    replace HX := Lib.hid (HX.out.trans h')
    replace HN := Lib.hid (HN.out.add n' h')
    clear n' h'
    go_wp2_with fail
    refine (natCmp_num w11 vb2 va2 a a (HN.out (vb2, a) (by simp)) (HN.out (va2, a) (by simp)) (Nat.lt_trans HB.out (by decide +kernel)) (Nat.lt_trans HA.out (by decide +kernel))).mono ?_
    rw [hc.out.2.1]
    rintro e w12 ⟨rfl, h'⟩
    replace HX := Lib.hid (HX.out.trans h')
    replace HN := Lib.hid (HN.out.ext h')
    clear h'
    go_wp2_with fail
    refine (from_any w12 a HA.out).mono ?_
    rintro e w13 ⟨va3, rfl, n', h'⟩
    replace HX := Lib.hid (HX.out.trans h')
    replace HN := Lib.hid (HN.out.add n' h')
    clear n' h'
    go_wp2_with fail
    refine (natAdd_num w13 va3 vp a (n ^ D) (HN.out (va3, a) (by simp)) (HN.out (vp, n ^ D) (by simp)) (Nat.lt_trans HA.out (by decide +kernel)) B1.out).mono ?_
    rintro e w14 ⟨vu, rfl, n', h'⟩
    rw [(fit_of B4.out).2] at n'
    rw [(fit_of B4.out).1]
    replace HX := Lib.hid (HX.out.trans h')
    replace HN := Lib.hid (HN.out.add n' h')
    clear n' h'
    go_wp2_with fail
    refine (from_any w14 a HB.out).mono ?_
    rintro e w15 ⟨vb3, rfl, n', h'⟩
    replace HX := Lib.hid (HX.out.trans h')
    replace HN := Lib.hid (HN.out.add n' h')
    clear n' h'
    go_wp2_with fail
    refine (natAdd_num w15 vb3 vp a (n ^ D) (HN.out (vb3, a) (by simp)) (HN.out (vp, n ^ D) (by simp)) (Nat.lt_trans HB.out (by decide +kernel)) B1.out).mono ?_
    rintro e w16 ⟨vv, rfl, n', h'⟩
    rw [(fit_of B5.out).2] at n'
    rw [(fit_of B5.out).1]
    replace HX := Lib.hid (HX.out.trans h')
    replace HN := Lib.hid (HN.out.add n' h')
    clear n' h'
    go_wp2_with fail
    refine (natCmp_num w16 vu vv (a + n ^ D) (a + n ^ D) (HN.out (vu, a + n ^ D) (by simp)) (HN.out (vv, a + n ^ D) (by simp)) B4.out B5.out).mono ?_
    rw [hc.out.2.2]
    rintro e w17 ⟨rfl, h'⟩
    replace HX := Lib.hid (HX.out.trans h')
    clear h'
    go_wp2_with fail
    refine (alive07_any _).mono ?_
    rintro e w18 ⟨rfl, h9⟩
    go_wp2
    go_ret
    exact Ret.mk (HX.out.trans h9)
  · have hc : Hid (cmpV a b = 1 ∧ cmpV b a = -1 ∧ cmpV (a + n ^ D) (b + n ^ D) = 1) := Lib.hid (by generalize n ^ D = z; unfold cmpV; refine ⟨?_, if_pos h, ?_⟩ <;> (rw [if_neg (by omega), if_pos (by omega)]))
    have i3 : decide (a < b) = false := by simp; omega
    have i4 : ((a : Int) == (b : Int)) = false := by simp; omega
    have i1 : ¬ (a : Int) < (b : Int) := by omega
    clear h
    go_enter Try.func6, Try.ntmps6
    go_wp2_with fail
    refine (from_any w n (Nat.lt_trans HN0.out (by decide))).mono ?_
    rintro e w1 ⟨vn, rfl, n', h'⟩
    replace HX := Lib.hid (HX.out.trans h')
    replace HN := Lib.hid (HN.out.add n' h')
    clear n' h'
    go_wp2_with fail
    refine (natPow_num w1 vn n D (HN.out (vn, n) (by simp)) (Nat.lt_trans HN0.out (by decide +kernel)) (by omega)).mono ?_
    rintro e w2 ⟨vp, rfl, n', h'⟩
    rw [(fit_of B1.out).2] at n'
    rw [(fit_of B1.out).1]
    replace HX := Lib.hid (HX.out.trans h')
    replace HN := Lib.hid (HN.out.add n' h')
    clear n' h'
    go_wp2_with fail
    refine (natPow_num w2 vn n E (HN.out (vn, n) (by simp)) (Nat.lt_trans HN0.out (by decide +kernel)) (by omega)).mono ?_
    rintro e w3 ⟨vq, rfl, n', h'⟩
    rw [(fit_of B2.out).2] at n'
    rw [(fit_of B2.out).1]
    replace HX := Lib.hid (HX.out.trans h')
    replace HN := Lib.hid (HN.out.add n' h')
    clear n' h'
    go_wp2_with fail
    refine (natPow_num w3 vn n (D + E) (HN.out (vn, n) (by simp)) (Nat.lt_trans HN0.out (by decide +kernel)) (by omega)).mono ?_
    rintro e w4 ⟨vr, rfl, n', h'⟩
    rw [(fit_of B3.out).2] at n'
    rw [(fit_of B3.out).1]
    replace HX := Lib.hid (HX.out.trans h')
    replace HN := Lib.hid (HN.out.add n' h')
    clear n' h'
    go_wp2_with fail
    refine (natMul_num w4 vp vq (n ^ D) (n ^ E) (HN.out (vp, n ^ D) (by simp)) (HN.out (vq, n ^ E) (by simp)) B1.out B2.out).mono ?_
    rintro e w5 ⟨vs, rfl, n', h'⟩
    rw [(fit_at B3.out (Nat.pow_add n D E).symm).2] at n'
    rw [(fit_at B3.out (Nat.pow_add n D E).symm).1]
    replace HX := Lib.hid (HX.out.trans h')
    replace HN := Lib.hid (HN.out.add n' h')
    clear n' h'
    go_wp2_with fail
    refine (sameN_num w5 vr vs (n ^ (D + E)) (HN.out (vr, n ^ (D + E)) (by simp)) (HN.out (vs, n ^ (D + E)) (by simp)) (lt256 B3.out)).mono ?_
    rintro e w6 ⟨rfl, h'⟩
    replace HX := Lib.hid (HX.out.trans h')
    replace HN := Lib.hid (HN.out.ext h')
    clear h'
    go_wp2_with fail
    refine (from_any w6 a HA.out).mono ?_
    rintro e w7 ⟨va, rfl, n', h'⟩
    replace HX := Lib.hid (HX.out.trans h')
    replace HN := Lib.hid (HN.out.add n' h')
    clear n' h'
    go_wp2_with fail
    refine (from_any w7 b HB.out).mono ?_
    rintro e w8 ⟨vb, rfl, n', h'⟩
    replace HX := Lib.hid (HX.out.trans h')
    replace HN := Lib.hid (HN.out.add n' h')
    clear n' h'
    go_wp2_with fail
    refine (natCmp_num w8 va vb a b (HN.out (va, a) (by simp)) (HN.out (vb, b) (by simp)) (Nat.lt_trans HA.out (by decide +kernel)) (Nat.lt_trans HB.out (by decide +kernel))).mono ?_
    rw [hc.out.1]
    rintro e w9 ⟨rfl, h'⟩
    replace HX := Lib.hid (HX.out.trans h')
    replace HN := Lib.hid (HN.out.ext h')
    clear h'
    go_wp2_with fail
    refine (from_any w9 b HB.out).mono ?_
    rintro e w10 ⟨vb2, rfl, n', h'⟩
    replace HX := Lib.hid (HX.out.trans h')
    replace HN := Lib.hid (HN.out.add n' h')
    clear n' h'
    go_wp2_with fail
    refine (from_any w10 a HA.out).mono ?_
    rintro e w11 ⟨va2, rfl, n', h'⟩
    replace HX := Lib.hid (HX.out.trans h')
    replace HN := Lib.hid (HN.out.add n' h')
    clear n' h'
    go_wp2_with fail
    refine (natCmp_num w11 vb2 va2 b a (HN.out (vb2, b) (by simp)) (HN.out (va2, a) (by simp)) (Nat.lt_trans HB.out (by decide +kernel)) (Nat.lt_trans HA.out (by decide +kernel))).mono ?_
    rw [hc.out.2.1]
    rintro e w12 ⟨rfl, h'⟩
    replace HX := Lib.hid (HX.out.trans h')
    replace HN := Lib.hid (HN.out.ext h')
    clear h'
    go_wp2_with fail
    refine (from_any w12 a HA.out).mono ?_
    rintro e w13 ⟨va3, rfl, n', h'⟩
    replace HX := Lib.hid (HX.out.trans h')
    replace HN := Lib.hid (HN.out.add n' h')
    clear n' h'
    go_wp2_with fail
    refine (natAdd_num w13 va3 vp a (n ^ D) (HN.out (va3, a) (by simp)) (HN.out (vp, n ^ D) (by simp)) (Nat.lt_trans HA.out (by decide +kernel)) B1.out).mono ?_
    rintro e w14 ⟨vu, rfl, n', h'⟩
    rw [(fit_of B4.out).2] at n'
    rw [(fit_of B4.out).1]
    replace HX := Lib.hid (HX.out.trans h')
    replace HN := Lib.hid (HN.out.add n' h')
    clear n' h'
    go_wp2_with fail
    refine (from_any w14 b HB.out).mono ?_
    rintro e w15 ⟨vb3, rfl, n', h'⟩
    replace HX := Lib.hid (HX.out.trans h')
    replace HN := Lib.hid (HN.out.add n' h')
    clear n' h'
    go_wp2_with fail
    refine (natAdd_num w15 vb3 vp b (n ^ D) (HN.out (vb3, b) (by simp)) (HN.out (vp, n ^ D) (by simp)) (Nat.lt_trans HB.out (by decide +kernel)) B1.out).mono ?_
    rintro e w16 ⟨vv, rfl, n', h'⟩
    rw [(fit_of B5.out).2] at n'
    rw [(fit_of B5.out).1]
    replace HX := Lib.hid (HX.out.trans h')
    replace HN := Lib.hid (HN.out.add n' h')
    clear n' h'
    go_wp2_with fail
    refine (natCmp_num w16 vu vv (a + n ^ D) (b + n ^ D) (HN.out (vu, a + n ^ D) (by simp)) (HN.out (vv, b + n ^ D) (by simp)) B4.out B5.out).mono ?_
    rw [hc.out.2.2]
    rintro e w17 ⟨rfl, h'⟩
    replace HX := Lib.hid (HX.out.trans h')
    clear h'
    go_wp2_with fail
    refine (alive07_any _).mono ?_
    rintro e w18 ⟨rfl, h9⟩
    go_wp2
    go_ret
    exact Ret.mk (HX.out.trans h9)
theorem nat_of_u {k : IntKind} {z m : Int} (h : (Lit.int k z).wf = true) (h0 : k.min = 0) (h1 : k.max = m) : ∃ x : Nat, z = (x : Int) ∧ (x : Int) ≤ m := by
  simp only [Lit.wf, Bool.and_eq_true, decide_eq_true_eq] at h
  rw [h0, h1] at h
  exact ⟨z.toNat, by omega, by omega⟩
theorem natPowers_walk (n d e a b : Int) (w : World) (hn : (Lit.int .u16 n).wf = true) (hd : (Lit.int .u8 d).wf = true) (he : (Lit.int .u8 e).wf = true) (ha : (Lit.int .u64 a).wf = true) (hb : (Lit.int .u64 b).wf = true) :
    Calls Try.prog 6 #[.int .u16 n, .int .u8 d, .int .u8 e, .int .u64 a, .int .u64 b] w (Ret (.bool true) w) := by
  obtain ⟨n, rfl, n1⟩ := nat_of_u hn (m := 65535) rfl rfl
  obtain ⟨d, rfl, d1⟩ := nat_of_u hd (m := 255) rfl rfl
  obtain ⟨e, rfl, e1⟩ := nat_of_u he (m := 255) rfl rfl
  obtain ⟨a, rfl, a1⟩ := nat_of_u ha (m := 18446744073709551615) rfl rfl
  obtain ⟨b, rfl, b1⟩ := nat_of_u hb (m := 18446744073709551615) rfl rfl
  exact natPowers_nat n d e a b w (by omega) (by omega) (by omega) (by omega) (by omega)
end Go.Proofs.Ytkkapmkhnmoeaaa
