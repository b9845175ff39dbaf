/- joinerylaw34: least, alive, BoundTells. -/
import Derived.Test.YtejknkhahjgdnaaBound8
namespace Go.Proofs.Ytejknkhahjgdnaa
open Go Go.RowKit

def leastT (s h : Int) : ByteArray := if okH s h then textOf (LstN s h) else ⟨#[110, 111, 110, 101]⟩
set_option maxHeartbeats 1000000 in
theorem leastT_any (w : World) (s h : Int) : Calls Try.prog 28 #[.int .u8 s, .int .i64 h] w (Ret (.string (leastT s h)) w) := by
  have HL := Lib.hid (least_any w s h)
  have HLT := Lib.hid (lstN_lt s h)
  obtain ⟨T, hT⟩ : ∃ T, leastT s h = T := ⟨_, rfl⟩
  rw [hT]
  unfold leastT at hT
  cases k : okH s h with
  | false =>
    have e := lst_not k
    unfold Lst at HL
    rw [e.1] at HL
    rw [k] at hT
    have HT := Lib.hid hT
    clear e k hT
    go_enter Try.func28, Try.ntmps28
    go_wp2_with fail
    refine HL.out.mono ?_
    rintro e w1 ⟨v, rfl, n1, h1⟩
    clear n1
    go_wp2
    go_ret
    exact ⟨by rw [← HT.out]; rfl, h1⟩
  | true =>
    have e := lst_ok k
    unfold Lst at HL
    rw [e.1] at HL
    rw [k, if_pos rfl] at hT
    have HT := Lib.hid hT
    clear e k hT
    generalize LstN s h = L at *
    go_enter Try.func28, Try.ntmps28
    go_wp2_with fail
    refine HL.out.mono ?_
    rintro e w1 ⟨v, rfl, n1, h1⟩
    have H1 := Lib.hid (And.intro n1 h1)
    clear n1 h1
    go_wp2_with fail
    refine (natText_num w1 v L H1.out.1 HLT.out).mono ?_
    rintro e w2 ⟨rfl, h2⟩
    go_wp2
    go_ret
    exact ⟨by rw [← HT.out]; rfl, H1.out.2.trans h2⟩
theorem mosts_is {s n h : Nat} {w : World} {r : Ending} {w' : World} (hs : 1 ≤ s ∧ s ≤ 3) (hn : n ≤ 1099511627776) (k : Mosts s n w r w') (hm : IsMost s n h) : Ret (.tuple #[.int .i64 (h : Nat), .int .i64 0]) w r w' := by
  rcases k with ⟨k, _⟩ | ⟨k, _⟩ | ⟨_, _, _, _, h', k, hr⟩
  · exact absurd (show (1 : Int) ≤ s ∧ (s : Int) ≤ 4 ∧ (0 : Int) ≤ n ∧ (n : Int) ≤ 1099511627776 by omega) k
  · omega
  · rw [Int.toNat_natCast, Int.toNat_natCast] at k
    rw [hm.uniq k]; exact hr
theorem aliveM1 : IsMost 1 6 3 := by
  refine ⟨by decide, fun j h1 h2 => ?_, .inr (by decide +kernel)⟩
  have : ∀ j, j < 4 → leastN 1 j ≤ 6 := by decide +kernel
  exact this j (by omega)
theorem aliveM2 : IsMost 3 1000 17 := by
  refine ⟨by decide, fun j h1 h2 => ?_, .inr (by decide +kernel)⟩
  have : ∀ j, j < 18 → leastN 3 j ≤ 1000 := by decide +kernel
  exact this j (by omega)
theorem aliveT : leastT 1 4 = ⟨#[55]⟩ ∧ leastT 2 4 = ⟨#[54]⟩ ∧ leastT 2 3 = ⟨#[52]⟩ ∧ leastT 3 3 = ⟨#[52]⟩ ∧ leastT 4 9 = ⟨#[57]⟩ ∧ leastT 0 1 = ⟨#[110, 111, 110, 101]⟩ := by decide +kernel
theorem aliveY : mayB 1 2 3 = true ∧ mayB 1 2 4 = false := by decide +kernel
set_option maxRecDepth 100000 in
set_option maxHeartbeats 4000000 in
theorem alive34_any (w : World) : Calls Try.prog 13 #[] w (Ret (.bool true) w) := by
  have hM1 := Lib.hid (fun w => (most_any w 1 6).mono fun _ _ k => mosts_is (s := 1) (n := 6) (by decide) (by decide) k aliveM1)
  have hM2 := Lib.hid (fun w => (most_any w 3 1000).mono fun _ _ k => mosts_is (s := 3) (n := 1000) (by decide) (by decide) k aliveM2)
  have H := Lib.hid aliveT
  have HY := Lib.hid aliveY
  go_enter Try.func13, Try.ntmps13
  go_wp2_with fail
  refine (hM1.out w).mono ?_
  rintro e w1 ⟨rfl, h1⟩
  go_wp2_with fail
  refine (hM2.out w1).mono ?_
  rintro e w2 ⟨rfl, h2⟩
  go_wp2_with fail
  refine (leastT_any w2 1 4).mono ?_
  rw [H.out.1]
  rintro e w3 ⟨rfl, h3⟩
  go_wp2_with fail
  refine (leastT_any w3 2 4).mono ?_
  rw [H.out.2.1]
  rintro e w4 ⟨rfl, h4⟩
  go_wp2_with fail
  refine (leastT_any w4 2 3).mono ?_
  rw [H.out.2.2.1]
  rintro e w5 ⟨rfl, h5⟩
  go_wp2_with fail
  refine (leastT_any w5 3 3).mono ?_
  rw [H.out.2.2.2.1]
  rintro e w6 ⟨rfl, h6⟩
  go_wp2_with fail
  refine (leastT_any w6 4 9).mono ?_
  rw [H.out.2.2.2.2.1]
  rintro e w7 ⟨rfl, h7⟩
  go_wp2_with fail
  refine (leastT_any w7 0 1).mono ?_
  rw [H.out.2.2.2.2.2]
  rintro e w8 ⟨rfl, h8⟩
  go_wp2_with fail
  refine (mayN_any34 w8 1 2 3 _ rfl).mono ?_
  rw [HY.out.1]
  rintro e w9 ⟨rfl, h9⟩
  go_wp2_with fail
  refine (mayN_any34 w9 1 2 4 _ rfl).mono ?_
  rw [HY.out.2]
  rintro e w10 ⟨rfl, h10⟩
  go_wp2
  go_ret
  exact Ret.mk (((((((((h1.trans h2).trans h3).trans h4).trans h5).trans h6).trans h7).trans h8).trans h9).trans h10)
end Go.Proofs.Ytejknkhahjgdnaa
