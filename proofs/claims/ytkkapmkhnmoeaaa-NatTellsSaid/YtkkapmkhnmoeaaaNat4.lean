/- joineryref07.Same; nat.Pow. -/
import Derived.Test.YtkkapmkhnmoeaaaNat3
import Derived.BigRegion
namespace Go.Proofs.Ytkkapmkhnmoeaaa
open Go Go.RowKit

set_option maxHeartbeats 1000000 in
theorem sameN_any (w : World) (p q : Value) (xs : List Nat) (hp : URow w p xs) (hq : URow w q xs) (hl : xs.length ≤ 5000) : Calls Try.prog 9 #[p, q] w (Ret (.bool true) w) := by
  rcases hp with ⟨h0, a, c, rfl⟩ | ⟨b, o, c, rfl, hne, hc, hr⟩
  · subst h0
    obtain ⟨a2, c2, rfl⟩ := hq.slice
    rw [show ([] : List Nat).length = 0 from rfl]
    clear hq hl
    go_enter Try.func9, Try.ntmps9
    go_wp2
    go_loop [5] (fun i => i = .int .i64 0) (fun _ => 0)
    case atStart => rfl
    case round =>
      subst hrel
      go_wp2
      go_ret
      exact Ret.mk (Ext.refl _)
  · rcases hq with ⟨h0, _⟩ | ⟨b2, o2, c2, rfl, _, hc2, hr2⟩
    · exact (hne h0).elim
    · have H := Lib.hid hr
      have H2 := Lib.hid hr2
      clear hr hr2 hne
      go_enter Try.func9, Try.ntmps9
      go_wp2
      go_loopw [5] (fun i W => Ext w W ∧ ∃ k : Nat, k ≤ xs.length ∧ i = .int .i64 k) (fun i _ => xs.length - (intOf i).toNat)
      case atStart => exact ⟨Ext.refl _, 0, Nat.zero_le _, rfl⟩
      case round =>
        obtain ⟨hX, k, hk, rfl⟩ := hrel
        by_cases hlt : k < xs.length
        · have c0 := urow_cell (rangeAt_ext' H.out hX) k hlt
          have d0 := urow_cell (rangeAt_ext' H2.out hX) k hlt
          generalize xs.getD k 0 = x at *
          go_wp2_with fail
          go_region
          go_wp2
          go_roundw
          case rel => exact ⟨by first | exact hX | exact hX.trans (Ext.drew _), k + 1, by omega, by go_num⟩
          case measure => simp [intOf]; omega
        · go_wp2
          go_ret
          exact Ret.mk hX
theorem sameN_num (w : World) (p q : Value) (n : Nat) (hp : NumIs w p n) (hq : NumIs w q n) (hn : n < beta ^ 256) : Calls Try.prog 9 #[p, q] w (Ret (.bool true) w) := by
  obtain ⟨xs, h1, h2, h3⟩ := hp
  obtain ⟨ys, g1, g2, g3⟩ := hq
  have e := norm_inj h2 g2 (by rw [h3, g3])
  subst e
  exact sameN_any w p q xs h1 g1 (Nat.le_trans ((norm_len h2 256).2 (by rw [h3]; exact hn)) (by decide))
/-- what Pow hands back. -/
def PowE (xs : List Nat) (e : Int) (n : Nat) : Int := if mayN xs ∧ 0 ≤ e ∧ e ≤ 200 then fitE n else 2
def PowN (xs : List Nat) (e : Int) (n : Nat) : Nat := if mayN xs ∧ 0 ≤ e ∧ e ≤ 200 then fitN n else 0
def Pows (xs : List Nat) (e : Int) (n : Nat) (w : World) (r : Ending) (w' : World) : Prop :=
  ∃ v, r = .returned (.tuple #[v, .int .i64 (PowE xs e n)]) ∧ NumIs w' v (PowN xs e n) ∧ Ext w w'
theorem pow_big {n k e : Nat} (hk : k ≤ e) (h : ¬ n ^ k < beta ^ 128) : ¬ n ^ e < beta ^ 128 := by
  rcases Nat.eq_zero_or_pos n with rfl | hn
  · rcases Nat.eq_zero_or_pos k with rfl | h0
    · exact absurd (show 0 ^ 0 < beta ^ 128 from Nat.one_lt_pow (by decide) (by decide)) h
    · rw [Nat.zero_pow h0] at h; exact absurd (Nat.pow_pos beta_pos) h
  · have := Nat.pow_le_pow_right hn hk
    omega
set_option maxHeartbeats 2000000 in
theorem natPow_any (w : World) (p : Value) (xs : List Nat) (e : Int) (hp : URow w p xs) (hx : Words xs) : Calls Try.prog 16 #[p, .int .i64 e] w (Pows xs e (nval xs ^ e.toNat) w) := by
  obtain ⟨n, hn⟩ : ∃ n, nval xs = n := ⟨_, rfl⟩
  have HNN := Lib.hid hn
  rw [hn]
  have HM1 := Lib.hid (natMay_any w p xs hp)
  have HP := Lib.hid hp
  have HX := Lib.hid hx
  cases m1 : mayN xs with
  | false =>
    have HE := Lib.hid (show PowE xs e (n ^ e.toNat) = 2 ∧ PowN xs e (n ^ e.toNat) = 0 by unfold PowE PowN; rw [m1]; simp)
    rw [m1] at HM1
    clear hp hx hn m1
    go_enter Try.func16, Try.ntmps16
    go_wp2_with fail
    refine HM1.out.mono ?_
    rintro r w1 ⟨rfl, h1⟩
    go_wp2
    go_ret2
    unfold Pows
    rw [HE.out.1, HE.out.2]
    exact ⟨_, rfl, num_nil _ _ _, h1⟩
  | true =>
    by_cases he : 0 ≤ e ∧ e ≤ 200
    · have HE := Lib.hid (show PowE xs e (n ^ e.toNat) = fitE (n ^ e.toNat) ∧ PowN xs e (n ^ e.toNat) = fitN (n ^ e.toNat) by unfold PowE PowN; rw [m1]; simp [he])
      have HN := Lib.hid ((mayN_norm hx).1 m1)
      obtain ⟨he0, he1⟩ := he
      obtain ⟨E, rfl⟩ := Int.eq_ofNat_of_zero_le he0
      rw [Int.toNat_natCast] at HE ⊢
      rw [m1] at HM1
      clear hp hx hn m1
      go_enter Try.func16, Try.ntmps16
      go_wp2_with fail
      refine HM1.out.mono ?_
      rintro r w1 ⟨rfl, h1⟩
      go_wp2_with fail
      refine (from_any w1 1 (by decide)).mono ?_
      rintro r w2 ⟨v, rfl, hv, h2⟩
      have HV := Lib.hid hv
      have HX2 := Lib.hid (h1.trans h2)
      clear h1 h2 hv
      go_wp2_with fail
      go_loopw [6, 20] (fun v i W => ∃ k : Nat, i = .int .i64 (k : Nat) ∧ Hid (k ≤ E ∧ NumIs W v (n ^ k) ∧ n ^ k < beta ^ 128 ∧ Ext w W)) (fun _ i _ => E - (intOf i).toNat)
      case atStart => exact ⟨0, rfl, Lib.hid ⟨Nat.zero_le _, HV.out, Nat.one_lt_pow (by decide) (by decide), HX2.out⟩⟩
      case round =>
        obtain ⟨k, rfl, HH⟩ := hrel
        by_cases hk : k < E
        · obtain ⟨ys, y1, y2, y3⟩ := HH.out.2.1
          have HC := Lib.hid (natMul_any wr u6 p ys xs y1 (HP.out.ext HH.out.2.2.2) y2.1 HX.out (Nat.le_trans ((norm_len y2 128).2 (by rw [y3]; exact HH.out.2.2.1)) (by decide)) (Nat.le_trans HN.out.2 (by decide)))
          rw [y3, HNN.out, ← Nat.pow_succ] at HC
          have HK := Lib.hid hk
          clear y1 y2 y3
          go_wp2_with fail
          refine HC.out.mono ?_
          rintro r w3 ⟨v3, rfl, ⟨zs, z1, z2, z3⟩, h3⟩
          obtain ⟨za, zc, rfl⟩ := z1.slice
          have HL := Lib.hid (norm_len z2 128)
          have HZ := Lib.hid (And.intro z1 (And.intro z2 z3))
          have HX3 := Lib.hid (HH.out.2.2.2.trans h3)
          clear z1 z2 z3 h3
          by_cases hz : zs.length ≤ 128
          · have hz' : ¬ (128 : Int) < zs.length := by omega
            have HZL := Lib.hid hz
            clear hz
            go_wp2
            go_roundw
            case rel =>
              have e1 : Value.int .i64 ((k : Int) + 1) = .int .i64 ((k + 1 : Nat) : Int) := rfl
              exact ⟨k + 1, by first | rfl | (rw [show wrap64 ((k : Int) + 1) = ((k + 1 : Nat) : Int) by unfold wrap64; omega]), Lib.hid ⟨HK.out, ⟨zs, HZ.out.1, HZ.out.2.1, HZ.out.2.2⟩, by rw [← HZ.out.2.2]; exact HL.out.1 HZL.out, HX3.out⟩⟩
            case measure => first | exact meas_s HK.out | (rw [show wrap64 ((k : Int) + 1) = ((k + 1 : Nat) : Int) by unfold wrap64; omega]; exact meas_s HK.out)
          · have hz' : (128 : Int) < zs.length := by omega
            have HZL := Lib.hid hz
            clear hz
            go_wp2
            go_ret2
            unfold Pows
            have hb := pow_big (n := n) (k := k + 1) (e := E) HK.out (by rw [← HZ.out.2.2]; exact fun h => HZL.out (HL.out.2 h))
            rw [HE.out.1, HE.out.2]
            unfold fitE fitN
            rw [if_neg hb, if_neg hb]
            exact ⟨_, rfl, num_nil _ _ _, HX3.out⟩
        · have hke : k = E := Nat.le_antisymm HH.out.1 (Nat.le_of_not_lt hk)
          subst hke
          go_wp2
          go_ret2
          unfold Pows
          rw [HE.out.1, HE.out.2]
          unfold fitE fitN
          rw [if_pos HH.out.2.2.1, if_pos HH.out.2.2.1]
          exact ⟨_, rfl, HH.out.2.1, HH.out.2.2.2⟩
    · have HE := Lib.hid (show PowE xs e (n ^ e.toNat) = 2 ∧ PowN xs e (n ^ e.toNat) = 0 by unfold PowE PowN; rw [m1]; simp; omega)
      rw [m1] at HM1
      clear hp hx hn m1
      by_cases e0 : e < 0
      · clear he
        go_enter Try.func16, Try.ntmps16
        go_wp2_with fail
        refine HM1.out.mono ?_
        rintro r w1 ⟨rfl, h1⟩
        go_wp2
        go_ret2
        unfold Pows
        rw [HE.out.1, HE.out.2]
        exact ⟨_, rfl, num_nil _ _ _, h1⟩
      · have e1 : 200 < e := by omega
        clear he
        go_enter Try.func16, Try.ntmps16
        go_wp2_with fail
        refine HM1.out.mono ?_
        rintro r w1 ⟨rfl, h1⟩
        go_wp2
        go_ret2
        unfold Pows
        rw [HE.out.1, HE.out.2]
        exact ⟨_, rfl, num_nil _ _ _, h1⟩
end Go.Proofs.Ytkkapmkhnmoeaaa
