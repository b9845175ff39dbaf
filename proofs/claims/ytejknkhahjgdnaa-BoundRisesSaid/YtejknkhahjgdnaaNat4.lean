/- joineryref07.Same; nat.Pow. -/
import Derived.Test.YtejknkhahjgdnaaNat3
import Derived.BigRegion
namespace Go.Proofs.Ytejknkhahjgdnaa
open Go Go.RowKit

set_option maxHeartbeats 1000000 in
theorem sameN_any (w : World) (p q : Value) (xs : List Nat) (hp : URow w p xs) (hq : URow w q xs) (hl : xs.length ≤ 5000) : Calls Try.prog 14 #[p, q] w (Ret (.bool true) w) := by
  rcases hp with ⟨h0, a, c, rfl⟩ | ⟨b, o, c, rfl, hne, hc, hr⟩
  · subst h0
    obtain ⟨a2, c2, rfl⟩ := hq.slice
    rw [show ([] : List Nat).length = 0 from rfl]
    clear hq hl
    go_enter Try.func14, Try.ntmps14
    go_wp2
    go_loop [5] (fun i => i = .int .i64 0) (fun _ => 0)
    case atStart => rfl
    case round =>
      subst hrel
      go_wp2
      go_ret
      exact Ret.mk (Ext.refl _)
  · rcases hq with ⟨h0, _⟩ | ⟨b2, o2, c2, rfl, _, hc2, hr2⟩
    · exact (hne h0).elim
    · have H := Lib.hid hr
      have H2 := Lib.hid hr2
      clear hr hr2 hne
      go_enter Try.func14, Try.ntmps14
      go_wp2
      go_loopw [5] (fun i W => Ext w W ∧ ∃ k : Nat, k ≤ xs.length ∧ i = .int .i64 k) (fun i _ => xs.length - (intOf i).toNat)
      case atStart => exact ⟨Ext.refl _, 0, Nat.zero_le _, rfl⟩
      case round =>
        obtain ⟨hX, k, hk, rfl⟩ := hrel
        by_cases hlt : k < xs.length
        · have c0 := urow_cell (rangeAt_ext' H.out hX) k hlt
          have d0 := urow_cell (rangeAt_ext' H2.out hX) k hlt
          generalize xs.getD k 0 = x at *
          go_wp2_with fail
          go_region
          go_wp2
          go_roundw
          case rel => exact ⟨by first | exact hX | exact hX.trans (Ext.drew _), k + 1, by omega, by go_num⟩
          case measure => simp [intOf]; omega
        · go_wp2
          go_ret
          exact Ret.mk hX
theorem sameN_num (w : World) (p q : Value) (n : Nat) (hp : NumIs w p n) (hq : NumIs w q n) (hn : n < beta ^ 256) : Calls Try.prog 14 #[p, q] w (Ret (.bool true) w) := by
  obtain ⟨xs, h1, h2, h3⟩ := hp
  obtain ⟨ys, g1, g2, g3⟩ := hq
  have e := norm_inj h2 g2 (by rw [h3, g3])
  subst e
  exact sameN_any w p q xs h1 g1 (Nat.le_trans ((norm_len h2 256).2 (by rw [h3]; exact hn)) (by decide))
/-- what Pow hands back. -/
def PowE (xs : List Nat) (e : Int) (n : Nat) : Int := if mayN xs ∧ 0 ≤ e ∧ e ≤ 200 then fitE n else 2
def PowN (xs : List Nat) (e : Int) (n : Nat) : Nat := if mayN xs ∧ 0 ≤ e ∧ e ≤ 200 then fitN n else 0
def Pows (xs : List Nat) (e : Int) (n : Nat) (w : World) (r : Ending) (w' : World) : Prop :=
  ∃ v, r = .returned (.tuple #[v, .int .i64 (PowE xs e n)]) ∧ NumIs w' v (PowN xs e n) ∧ Ext w w'
theorem pow_big {n k e : Nat} (hk : k ≤ e) (h : ¬ n ^ k < beta ^ 128) : ¬ n ^ e < beta ^ 128 := by
  rcases Nat.eq_zero_or_pos n with rfl | hn
  · rcases Nat.eq_zero_or_pos k with rfl | h0
    · exact absurd (show 0 ^ 0 < beta ^ 128 from Nat.one_lt_pow (by decide) (by decide)) h
    · rw [Nat.zero_pow h0] at h; exact absurd (Nat.pow_pos beta_pos) h
  · have := Nat.pow_le_pow_right hn hk
    omega
end Go.Proofs.Ytejknkhahjgdnaa
