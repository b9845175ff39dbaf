/- The contracts at numbers; joinerylaw07.alive. -/
import Derived.Test.YtkkapmkhnmoeaaaNat8
import Derived.Test.YtkkapmkhnmoeaaaNat11
namespace Go.Proofs.Ytkkapmkhnmoeaaa
open Go Go.RowKit

theorem may_of {xs : List Nat} {n : Nat} (h : Norm xs) (e : nval xs = n) (hn : n < beta ^ 128) : mayN xs = true := (mayN_norm h.1).2 ⟨h, (norm_len h 128).2 (by rw [e]; exact hn)⟩
theorem natMay_num (w : World) (p : Value) (n : Nat) (hp : NumIs w p n) (hn : n < beta ^ 128) : Calls Try.prog 18 #[p] w (Ret (.bool true) w) := by
  obtain ⟨xs, h1, h2, h3⟩ := hp
  have := natMay_any w p xs h1
  rwa [may_of h2 h3 hn] at this
theorem natAdd_num (w : World) (p q : Value) (a b : Nat) (hp : NumIs w p a) (hq : NumIs w q b) (ha : a < beta ^ 128) (hb : b < beta ^ 128) : Calls Try.prog 11 #[p, q] w (Fits (a + b) w) := by
  obtain ⟨xs, h1, h2, h3⟩ := hp
  obtain ⟨ys, g1, g2, g3⟩ := hq
  refine (natAddE_any w p q xs ys h1 g1 h2.1 g2.1).mono ?_
  rintro e w1 ⟨v, rfl, h, hE⟩
  have m1 := may_of h2 h3 ha
  have m2 := may_of g2 g3 hb
  rw [h3, g3] at h ⊢
  unfold SumE SumN at *
  simp only [m1, m2, Bool.and_self, if_true] at h ⊢
  exact ⟨v, rfl, h, hE⟩
theorem natMul_num (w : World) (p q : Value) (a b : Nat) (hp : NumIs w p a) (hq : NumIs w q b) (ha : a < beta ^ 128) (hb : b < beta ^ 128) : Calls Try.prog 14 #[p, q] w (Fits (a * b) w) := by
  obtain ⟨xs, h1, h2, h3⟩ := hp
  obtain ⟨ys, g1, g2, g3⟩ := hq
  refine (natMulE_any w p q xs ys h1 g1 h2.1 g2.1).mono ?_
  rintro e w1 ⟨v, rfl, h, hE⟩
  have m1 := may_of h2 h3 ha
  have m2 := may_of g2 g3 hb
  rw [h3, g3] at h ⊢
  unfold SumE SumN at *
  simp only [m1, m2, Bool.and_self, if_true] at h ⊢
  exact ⟨v, rfl, h, hE⟩
theorem natPow_num (w : World) (p : Value) (a e : Nat) (hp : NumIs w p a) (ha : a < beta ^ 128) (he : e ≤ 200) : Calls Try.prog 16 #[p, .int .i64 (e : Nat)] w (Fits (a ^ e) w) := by
  obtain ⟨xs, h1, h2, h3⟩ := hp
  refine (natPow_any w p xs (e : Nat) h1 h2.1).mono ?_
  rintro r w1 ⟨v, rfl, h, hE⟩
  have m1 := may_of h2 h3 ha
  have hc : mayN xs = true ∧ (0 : Int) ≤ (e : Nat) ∧ ((e : Nat) : Int) ≤ 200 := ⟨m1, by omega, by omega⟩
  rw [h3, Int.toNat_natCast] at h ⊢
  unfold PowE PowN at *
  rw [if_pos hc] at h ⊢
  exact ⟨v, rfl, h, hE⟩
theorem natCmp_num (w : World) (p q : Value) (a b : Nat) (hp : NumIs w p a) (hq : NumIs w q b) (ha : a < beta ^ 128) (hb : b < beta ^ 128) : Calls Try.prog 20 #[p, q] w (Ret (.int .i64 (cmpV a b)) w) := by
  obtain ⟨xs, h1, h2, h3⟩ := hp
  obtain ⟨ys, g1, g2, g3⟩ := hq
  have h := natCmp_any w p q xs ys h1 g1 h2.1 g2.1
  unfold CmpR at h
  rw [may_of h2 h3 ha, may_of g2 g3 hb, h3, g3] at h
  exact h
theorem natText_num (w : World) (p : Value) (a : Nat) (hp : NumIs w p a) (ha : a < beta ^ 128) : Calls Try.prog 22 #[p] w (Ret (.string (textOf a)) w) := by
  obtain ⟨xs, h1, h2, h3⟩ := hp
  have h := natText_any w p xs h1 h2.1
  unfold TextV at h
  rw [may_of h2 h3 ha, h3] at h
  exact h
theorem text0 : textOf 0 = ⟨#[48]⟩ := by decide +kernel
theorem text1 : textOf (fibN 10) = ⟨#[53, 53]⟩ := by decide +kernel
theorem text2 : textOf (2 ^ 100) = ⟨#[49, 50, 54, 55, 54, 53, 48, 54, 48, 48, 50, 50, 56, 50, 50, 57, 52, 48, 49, 52, 57, 54, 55, 48, 51, 50, 48, 53, 51, 55, 54]⟩ := by decide +kernel
theorem fit_of {n : Nat} (h : n < beta ^ 128) : fitE n = 0 ∧ fitN n = n := by unfold fitE fitN; rw [if_pos h, if_pos h]; exact ⟨rfl, rfl⟩
theorem fit1 : fitE (18446744073709551615 + 1) = 0 ∧ fitN (18446744073709551615 + 1) = 18446744073709551616 := fit_of (by decide +kernel)
theorem fit2 : fitE (2 ^ 100) = 0 ∧ fitN (2 ^ 100) = 2 ^ 100 := fit_of (by decide +kernel)
theorem fit3 : fitE (9223372036854775808 ^ 66) = 5 := by unfold fitE; exact if_neg (by decide +kernel)
theorem alive_lits (w : World) : NumIs (w.alloc (.cells #[.int .u32 0, .int .u32 1] 48)) (.slice (some ⟨w.heap.size, 0, none⟩) 2 2) 4294967296 ∧
    NumIs (w.alloc (.cells #[.int .u32 0, .int .u32 0, .int .u32 1] 48)) (.slice (some ⟨w.heap.size, 0, none⟩) 3 3) 18446744073709551616 := by
  refine ⟨⟨[0, 1], UBlk.row (alloc_at w _ _ rfl) 2 (by decide), ⟨?_, by decide⟩, by decide⟩, ⟨[0, 0, 1], UBlk.row (alloc_at w _ _ rfl) 3 (by decide), ⟨?_, by decide⟩, by decide⟩⟩ <;> (intro d hd; simp at hd; rcases hd with rfl | rfl <;> decide)
set_option maxRecDepth 100000 in
set_option maxHeartbeats 4000000 in
theorem alive07_any (w : World) : Calls Try.prog 10 #[] w (Ret (.bool true) w) := by
  go_enter Try.func10, Try.ntmps10
  go_wp2_with fail
  refine (from_any w 18446744073709551615 (by decide)).mono ?_
  rintro e w1 ⟨v1, rfl, n1, h1⟩
  go_wp2_with fail
  refine (from_any w1 1 (by decide)).mono ?_
  rintro e w2 ⟨v2, rfl, n2, h2⟩
  go_wp2_with fail
  refine (natAdd_num w2 v1 v2 _ _ (n1.ext h2) n2 (by decide +kernel) (by decide +kernel)).mono ?_
  rintro e w3 ⟨v3, rfl, n3, h3⟩
  rw [fit1.2] at n3
  rw [fit1.1]
  have H3 := Lib.hid ((h1.trans h2).trans h3)
  have N3 := Lib.hid n3
  clear n1 n2 h1 h2 h3 n3
  go_wp2_with fail
  refine (from_any w3 2 (by decide)).mono ?_
  rintro e w4 ⟨v4, rfl, n4, h4⟩
  go_wp2_with fail
  refine (natPow_num w4 v4 2 100 n4 (by decide +kernel) (by decide)).mono ?_
  rintro e w5 ⟨v5, rfl, n5, h5⟩
  rw [fit2.2] at n5
  rw [fit2.1]
  have H5 := Lib.hid (H3.out.trans (h4.trans h5))
  have N5 := Lib.hid n5
  have N3 := Lib.hid (N3.out.ext (h4.trans h5))
  clear n4 n5 h4 h5
  go_wp2_with fail
  refine (natFib_any w5 10).mono ?_
  rintro e w6 ⟨v6, rfl, n6, h6⟩
  rw [show FibV 10 = fibN 10 from rfl] at n6
  rw [show FibE 10 = 0 from rfl]
  have H6 := Lib.hid (H5.out.trans h6)
  have N6 := Lib.hid n6
  have N3 := Lib.hid (N3.out.ext h6)
  have N5 := Lib.hid (N5.out.ext h6)
  clear n6 h6
  go_wp2_with fail
  refine (from_any w6 9223372036854775808 (by decide)).mono ?_
  rintro e w7 ⟨v7, rfl, n7, h7⟩
  go_wp2_with fail
  refine (natPow_num w7 v7 9223372036854775808 66 n7 (by decide +kernel) (by decide)).mono ?_
  rintro e w8 ⟨v8, rfl, n8, h8⟩
  rw [fit3]
  have H8 := Lib.hid (H6.out.trans (h7.trans h8))
  have N3 := Lib.hid (N3.out.ext (h7.trans h8))
  have N5 := Lib.hid (N5.out.ext (h7.trans h8))
  have N6 := Lib.hid (N6.out.ext (h7.trans h8))
  clear n7 n8 h7 h8
  go_wp2_with fail
  refine (from_any w8 4294967296 (by decide)).mono ?_
  rintro e w9 ⟨v9, rfl, n9, h9⟩
  have h10 := (Ext.refl w9).alloc (.cells #[.int .u32 0, .int .u32 1] 48)
  have L1 := Lib.hid (alive_lits w9).1
  have N9 := Lib.hid (n9.ext h10)
  have H9 := Lib.hid (h9.trans h10)
  clear n9 h9 h10
  go_wp2_with fail
  refine (sameN_num _ _ _ 4294967296 N9.out L1.out (by decide +kernel)).mono ?_
  rintro e w10 ⟨rfl, h10⟩
  have H10 := Lib.hid (H8.out.trans (H9.out.trans h10))
  have N3 := Lib.hid (N3.out.ext (H9.out.trans h10))
  have N5 := Lib.hid (N5.out.ext (H9.out.trans h10))
  have N6 := Lib.hid (N6.out.ext (H9.out.trans h10))
  have h11 := (Ext.refl w10).alloc (.cells #[.int .u32 0, .int .u32 0, .int .u32 1] 48)
  have L2 := Lib.hid (alive_lits w10).2
  have H11 := Lib.hid h11
  clear h10 h11
  go_wp2_with fail
  refine (sameN_num _ _ _ 18446744073709551616 (N3.out.ext H11.out) L2.out (by decide +kernel)).mono ?_
  rintro e w11 ⟨rfl, h12⟩
  have H12 := Lib.hid (H10.out.trans (H11.out.trans h12))
  have N5 := Lib.hid (N5.out.ext (H11.out.trans h12))
  have N6 := Lib.hid (N6.out.ext (H11.out.trans h12))
  clear h12
  go_wp2_with fail
  refine (natText_num _ _ (2 ^ 100) N5.out (by decide +kernel)).mono ?_
  rw [text2]
  rintro e w12 ⟨rfl, h13⟩
  have H13 := Lib.hid (H12.out.trans h13)
  have N6 := Lib.hid (N6.out.ext h13)
  clear h13
  go_wp2_with fail
  refine (natText_num _ _ (fibN 10) N6.out (by decide +kernel)).mono ?_
  rw [text1]
  rintro e w13 ⟨rfl, h14⟩
  have H14 := Lib.hid (H13.out.trans h14)
  clear h14
  go_wp2_with fail
  refine (natText_num _ _ 0 (num_nil _ _ _) (by decide +kernel)).mono ?_
  rw [text0]
  rintro e w14 ⟨rfl, h15⟩
  go_wp2
  go_ret
  exact ⟨ret_bool (by decide +kernel), H14.out.trans h15⟩
end Go.Proofs.Ytkkapmkhnmoeaaa
