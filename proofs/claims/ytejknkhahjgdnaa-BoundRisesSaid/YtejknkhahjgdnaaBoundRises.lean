/- joinerylaw34.BoundRises. -/
import Derived.Test.YtejknkhahjgdnaaBoundTells
import Derived.Test.YtejknkhahjgdnaaNatPowers
namespace Go.Proofs.Ytejknkhahjgdnaa
open Go Go.RowKit

/-- who is higher wants more. -/
theorem leastN_up {s h : Nat} (hs : 1 ≤ s ∧ s ≤ 4) : leastN s h < leastN s (h + 1) := by
  have : s = 1 ∨ s = 2 ∨ s = 3 ∨ s = 4 := by omega
  rcases this with rfl | rfl | rfl | rfl
  · show fibN (h + 2) - 1 < fibN (h + 3) - 1
    have h1 : fibN (h + 3) = fibN (h + 1) + fibN (h + 2) := rfl
    have h2 := fibN_pos h
    have h3 := fibN_pos (h + 1)
    have h4 : fibN (h + 1 + 1) = fibN (h + 2) := rfl
    omega
  · show (if h % 2 = 1 then 3 * 2 ^ ((h + 1) / 2 - 1) - 2 else 2 * 2 ^ ((h + 1) / 2) - 2) < (if (h + 1) % 2 = 1 then 3 * 2 ^ ((h + 1 + 1) / 2 - 1) - 2 else 2 * 2 ^ ((h + 1 + 1) / 2) - 2)
    rcases Nat.mod_two_eq_zero_or_one h with hp | hp
    · rw [if_neg (by omega), if_pos (by omega), show (h + 1 + 1) / 2 - 1 = (h + 1) / 2 by omega]
      have := Nat.pow_pos (n := (h + 1) / 2) (show 0 < 2 by decide)
      omega
    · rw [if_pos hp, if_neg (by omega), show (h + 1 + 1) / 2 = ((h + 1) / 2 - 1) + 1 by omega, Nat.pow_succ]
      have := Nat.pow_pos (n := (h + 1) / 2 - 1) (show 0 < 2 by decide)
      omega
  · show wrow h - 1 < wrow (h + 1) - 1
    have h1 := wrow_pos h
    have h2 : wrow (h + 1) = wrow h + (29 * wrow h + 70) / 71 := rfl
    omega
  · exact Nat.lt_succ_self h
theorem leastN_mono {s h k : Nat} (hs : 1 ≤ s ∧ s ≤ 4) (hk : h ≤ k) : leastN s h ≤ leastN s k := by
  induction hk with
  | refl => exact Nat.le_refl _
  | step _ ih => exact Nat.le_trans ih (Nat.le_of_lt (leastN_up hs))
/-- the height that a count tells. -/
def Top (s c m : Nat) : Prop := leastN s m ≤ c ∧ c < leastN s (m + 1) ∧ okH s m = true ∧ okH s (m + 1) = true
theorem Top.rises {s c m k : Nat} (hs : 1 ≤ s ∧ s ≤ 4) (a : Top s c m) (b : Top s (c + 1) k) : m ≤ k ∧ k ≤ m + 1 := by
  obtain ⟨a1, a2, -⟩ := a
  obtain ⟨b1, b2, -⟩ := b
  constructor
  · rcases Nat.lt_or_ge k m with h | h
    · have := leastN_mono hs (show k + 1 ≤ m from h); omega
    · exact h
  · rcases Nat.lt_or_ge (m + 1) k with h | h
    · have h1 := leastN_mono hs (show m + 1 + 1 ≤ k from h)
      have h2 := leastN_up (h := m + 1) hs
      omega
    · exact h
theorem least100 : 4294967297 < leastN 1 100 ∧ 4294967297 < leastN 2 100 ∧ 4294967297 < leastN 3 100 := by decide +kernel
theorem mosts_top {s c : Nat} {w : World} {r : Ending} {w' : World} (hs : 1 ≤ s ∧ s ≤ 4) (hc : c ≤ 4294967296) (k : Mosts s c w r w') : ∃ m : Nat, Top s c m ∧ Ret (.tuple #[.int .i64 (m : Nat), .int .i64 0]) w r w' := by
  rcases k with ⟨k, _⟩ | ⟨k, _, _, hr⟩ | ⟨k1, k2, _, _, m, hm, hr⟩
  · exact absurd (show (1 : Int) ≤ s ∧ (s : Int) ≤ 4 ∧ (0 : Int) ≤ c ∧ (c : Int) ≤ 1099511627776 by omega) k
  · obtain rfl : s = 4 := by omega
    refine ⟨c, ⟨Nat.le_refl c, Nat.lt_succ_self c, ?_, ?_⟩, hr⟩
    · unfold okH; simp; omega
    · unfold okH; simp; omega
  · rw [Int.toNat_natCast, Int.toNat_natCast] at hm
    obtain ⟨m1, m2, m3⟩ := hm
    have h100 : c < leastN s 100 := by
      have : s = 1 ∨ s = 2 ∨ s = 3 := by omega
      have := least100
      rcases ‹s = 1 ∨ s = 2 ∨ s = 3› with rfl | rfl | rfl <;> omega
    have hm100 : m < 100 := by
      rcases Nat.lt_or_ge m 100 with h | h
      · exact h
      · have : m = 100 := by omega
        subst this
        have := m2 100 (by omega) (by omega)
        omega
    refine ⟨m, ⟨?_, ?_, ?_, ?_⟩, hr⟩
    · rcases Nat.eq_zero_or_pos m with h | h
      · subst h
        have : s = 1 ∨ s = 2 ∨ s = 3 := by omega
        rcases this with rfl | rfl | rfl <;> exact Nat.zero_le _
      · exact m2 m h (Nat.le_refl m)
    · rcases m3 with h | h
      · omega
      · exact h
    · unfold okH; rw [if_neg (by omega)]; simp; omega
    · unfold okH; rw [if_neg (by omega)]; simp; omega
/-- Least, of a height that there is. -/
def LstK (L : Nat) (w : World) (r : Ending) (w' : World) : Prop := ∃ v, r = .returned (.tuple #[v, .int .i64 0]) ∧ NumIs w' v L ∧ Ext w w'
theorem least_ok (w : World) (s h : Nat) (k : okH s h = true) : Calls Try.prog 7 #[.int .u8 (s : Nat), .int .i64 (h : Nat)] w (LstK (leastN s h) w) := by
  refine (least_any w s h).mono ?_
  rintro e w1 ⟨v, rfl, h1, h2⟩
  rw [(lst_ok k).2, Int.toNat_natCast, Int.toNat_natCast] at h1
  rw [(lst_ok k).1]
  exact ⟨v, rfl, h1, h2⟩
theorem okH_small {s h : Nat} (hs : 1 ≤ s ∧ s ≤ 4) (hh : h ≤ 100) : okH s h = true := by
  unfold okH
  split
  · simp; omega
  · simp; omega
theorem lstN_big {s h : Nat} (k : okH s h = true) : leastN s h < beta ^ 128 := by
  have := lstN_lt s h
  rwa [(lst_ok k).2, Int.toNat_natCast, Int.toNat_natCast] at this
set_option maxRecDepth 100000 in
set_option maxHeartbeats 8000000 in
theorem boundRises_nat (x h c : Nat) (w : World) (hx : x < 256) (hh : h < 4294967296) (hc : c < 4294967296) :
    Calls Try.prog 4 #[.int .u8 (x : Nat), .int .u32 (h : Nat), .int .u32 (c : Nat)] w (Ret (.bool true) w) := by
  obtain ⟨S, hS⟩ : ∃ S, S = 1 + x % 4 := ⟨_, rfl⟩
  obtain ⟨K, hK⟩ : ∃ K, K = h % 100 := ⟨_, rfl⟩
  have HS := Lib.hid (show 1 ≤ S ∧ S ≤ 4 by omega)
  have hS2 : 1 + (x : Int) % 4 = (S : Int) := by omega
  have hK2 : (h : Int).tmod 100 = (K : Int) := by rw [Int.tmod_eq_emod_of_nonneg (by omega)]; omega
  have hK3 : K < 100 := by omega
  have hS3 : S ≤ 4 := HS.out.2
  have HO1 := Lib.hid (okH_small (h := K) HS.out (by omega))
  have HO2 := Lib.hid (okH_small (h := K + 1) HS.out (by omega))
  have HCB := Lib.hid (show c ≤ 4294967296 ∧ c + 1 ≤ 4294967296 by omega)
  have HC1 := Lib.hid (cmpV_lt (leastN_up (s := S) (h := K) HS.out))
  clear hS hK
  go_enter Try.func4, Try.ntmps4
  go_wp2_with fail
  refine (least_ok w S K HO1.out).mono ?_
  rintro r w1 ⟨a, rfl, n1, h1⟩
  have HX := Lib.hid h1
  have HA := Lib.hid n1
  clear n1 h1
  go_wp2_with fail
  refine (least_ok w1 S (K + 1) HO2.out).mono ?_
  rintro r w2 ⟨b, rfl, n2, h2⟩
  replace HX := Lib.hid (HX.out.trans h2)
  replace HA := Lib.hid (And.intro (HA.out.ext h2) n2)
  clear n2 h2
  go_wp2_with fail
  refine (most_any w2 S c).mono ?_
  rintro r w3 hm
  obtain ⟨m, tm, rfl, h3⟩ := mosts_top HS.out HCB.out.1 hm
  replace HX := Lib.hid (HX.out.trans h3)
  replace HA := Lib.hid (And.intro (HA.out.1.ext h3) (HA.out.2.ext h3))
  have HT := Lib.hid tm
  clear hm h3 tm
  go_wp2_with fail
  refine (most_any w3 S (c + 1 : Nat)).mono ?_
  rintro r w4 hm
  obtain ⟨m2, tm, rfl, h4⟩ := mosts_top HS.out HCB.out.2 hm
  replace HX := Lib.hid (HX.out.trans h4)
  replace HA := Lib.hid (And.intro (HA.out.1.ext h4) (HA.out.2.ext h4))
  have hr := HT.out.rises HS.out tm
  clear hm h4 tm
  obtain ⟨hr1, hr2⟩ := hr
  have HMB := Lib.hid (show m ≤ 1099511627777 by
    have := HT.out.2.2.1
    unfold okH at this
    simp only [Bool.and_eq_true, decide_eq_true_eq] at this
    have h2 := this.2
    split at h2 <;> simp at h2 <;> omega)
  have HL2 := Lib.hid (And.intro (lstN_big HO1.out) (lstN_big HO2.out))
  have hmb : m ≤ 1099511627777 := HMB.out
  go_wp2_with fail
  refine (natCmp_num w4 a b (leastN S K) (leastN S (K + 1)) HA.out.1 HA.out.2 HL2.out.1 HL2.out.2).mono ?_
  rw [HC1.out]
  rintro r w5 ⟨rfl, h5⟩
  replace HX := Lib.hid (HX.out.trans h5)
  clear h5 HA HL2
  go_wp2_with fail
  refine (least_ok w5 S m HT.out.2.2.1).mono ?_
  rintro r w6 ⟨p, rfl, n6, h6⟩
  replace HX := Lib.hid (HX.out.trans h6)
  have HA := Lib.hid n6
  clear n6 h6
  go_wp2_with fail
  refine (least_ok w6 S (m + 1) HT.out.2.2.2).mono ?_
  rintro r w7 ⟨q, rfl, n7, h7⟩
  replace HX := Lib.hid (HX.out.trans h7)
  replace HA := Lib.hid (And.intro (HA.out.ext h7) n7)
  clear n7 h7
  go_wp2_with fail
  refine (from_any w7 c (by omega)).mono ?_
  rintro r w8 ⟨u, rfl, n8, h8⟩
  replace HX := Lib.hid (HX.out.trans h8)
  replace HA := Lib.hid (And.intro (HA.out.1.ext h8) (And.intro (HA.out.2.ext h8) n8))
  clear n8 h8
  have HL2 := Lib.hid (And.intro (lstN_big HT.out.2.2.1) (lstN_big HT.out.2.2.2))
  have HCB2 := Lib.hid (u64_beta (n := c) (by omega))
  have HV1 := Lib.hid (show decide (cmpV (leastN S m) c ≤ 0) = true by rw [cmp_le]; exact decide_eq_true HT.out.1)
  have HV2 := Lib.hid (cmpV_gt HT.out.2.1)
  go_wp2_with fail
  refine (natCmp_num w8 p u (leastN S m) c HA.out.1 HA.out.2.2 HL2.out.1 HCB2.out).mono ?_
  rintro r w9 ⟨rfl, h9⟩
  replace HX := Lib.hid (HX.out.trans h9)
  replace HA := Lib.hid (And.intro (HA.out.1.ext h9) (And.intro (HA.out.2.1.ext h9) (HA.out.2.2.ext h9)))
  have hv1 : cmpV (leastN S m) c ≤ 0 := of_decide_eq_true HV1.out
  generalize cmpV (leastN S m) c = V1 at *
  clear h9
  go_wp2_with fail
  refine (natCmp_num w9 q u (leastN S (m + 1)) c HA.out.2.1 HA.out.2.2 HL2.out.2 HCB2.out).mono ?_
  rw [HV2.out]
  rintro r w10 ⟨rfl, h10⟩
  replace HX := Lib.hid (HX.out.trans h10)
  clear h10
  go_wp2_with fail
  refine (alive34_any _).mono ?_
  rintro r w11 ⟨rfl, h11⟩
  go_wp2
  go_ret
  exact Ret.mk (HX.out.trans h11)
theorem boundRises_walk (x h c : Int) (w : World) (hx : (Lit.int .u8 x).wf = true) (hh : (Lit.int .u32 h).wf = true) (hc : (Lit.int .u32 c).wf = true) :
    Calls Try.prog 4 #[.int .u8 x, .int .u32 h, .int .u32 c] w (Ret (.bool true) w) := by
  obtain ⟨x, rfl, x1⟩ := nat_of_u hx (m := 255) rfl rfl
  obtain ⟨h, rfl, h1⟩ := nat_of_u hh (m := 4294967295) rfl rfl
  obtain ⟨c, rfl, c1⟩ := nat_of_u hc (m := 4294967295) rfl rfl
  exact boundRises_nat x h c w (by omega) (by omega) (by omega)
end Go.Proofs.Ytejknkhahjgdnaa
