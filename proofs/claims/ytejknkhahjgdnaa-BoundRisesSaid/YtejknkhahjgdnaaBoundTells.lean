/- joinerylaw34.BoundTells. -/
import Derived.Test.YtejknkhahjgdnaaBound9
namespace Go.Proofs.Ytejknkhahjgdnaa
open Go Go.RowKit

/-- both Mosts hand back the same. -/
theorem mosts_same {s n : Int} {w : World} {r : Ending} {w' : World} (k : Mosts s n w r w') : ∃ m e : Int, r = .returned (.tuple #[.int .i64 m, .int .i64 e]) ∧ Ext w w' ∧ ∀ (u : World) (q : Ending) (u' : World), Mosts s n u q u' → q = .returned (.tuple #[.int .i64 m, .int .i64 e]) ∧ Ext u u' := by
  rcases k with ⟨k, rfl, h⟩ | ⟨k0, k1, k2, rfl, h⟩ | ⟨k1, k2, k3, k4, m, hm, rfl, h⟩
  · refine ⟨0, 2, rfl, h, fun u q u' j => ?_⟩
    rcases j with ⟨_, rfl, h⟩ | ⟨j0, j1, j2, _⟩ | ⟨j1, j2, j3, j4, _⟩
    · exact ⟨rfl, h⟩
    · exact absurd (show 1 ≤ s ∧ s ≤ 4 ∧ 0 ≤ n ∧ n ≤ 1099511627776 by omega) k
    · exact absurd (show 1 ≤ s ∧ s ≤ 4 ∧ 0 ≤ n ∧ n ≤ 1099511627776 by omega) k
  · refine ⟨n, 0, rfl, h, fun u q u' j => ?_⟩
    rcases j with ⟨j, _⟩ | ⟨_, _, _, rfl, h⟩ | ⟨j1, j2, _⟩
    · exact absurd (show 1 ≤ s ∧ s ≤ 4 ∧ 0 ≤ n ∧ n ≤ 1099511627776 by omega) j
    · exact ⟨rfl, h⟩
    · omega
  · refine ⟨m, 0, rfl, h, fun u q u' j => ?_⟩
    rcases j with ⟨j, _⟩ | ⟨j, _⟩ | ⟨_, _, _, _, m', hm', rfl, h⟩
    · exact absurd (show 1 ≤ s ∧ s ≤ 4 ∧ 0 ≤ n ∧ n ≤ 1099511627776 by omega) j
    · omega
    · rw [hm.uniq hm']; exact ⟨rfl, h⟩
theorem num_zero_slice {w : World} {v : Value} (h : NumIs w v 0) : ∃ a c, v = .slice a 0 c := by
  obtain ⟨xs, h1, h2, h3⟩ := h
  have := norm_zero h2 h3
  subst this
  exact h1.slice
set_option maxRecDepth 100000 in
set_option maxHeartbeats 4000000 in
theorem boundTells_walk (s h n : Int) (w : World) (_hs : (Lit.int .u8 s).wf = true) (_hh : (Lit.int .i64 h).wf = true) (_hn : (Lit.int .i64 n).wf = true) :
    Calls Try.prog 3 #[.int .u8 s, .int .i64 h, .int .i64 n] w (Ret (.bool true) w) := by
  have HL := Lib.hid (least_any w s h)
  have HY := Lib.hid (fun w => mayN_any34 w s h n _ rfl)
  have HZ := Lib.hid (fun w => may34_any w s h n _ rfl)
  have HH := Lib.hid (fun w => height34_any w s h _ rfl)
  have hund : undef = Value.tuple #[] := rfl
  generalize mayB s h n = Y at *
  cases k : okH s h with
  | false =>
    have e := lst_not k
    unfold Lst at HL
    rw [e.1, e.2] at HL
    rw [k] at HH
    clear e k
    go_enter Try.func3, Try.ntmps3
    go_wp2_with fail
    refine HL.out.mono ?_
    rintro r w1 ⟨v, rfl, n1, h1⟩
    obtain ⟨a, c, rfl⟩ := num_zero_slice n1
    have HX := Lib.hid h1
    clear n1 h1
    go_wp2_with fail
    refine (most_any w1 s n).mono ?_
    rintro r w2 hm
    obtain ⟨m, e, rfl, h2, hq⟩ := mosts_same hm
    replace HX := Lib.hid (HX.out.trans h2)
    have HQ := Lib.hid hq
    clear hm h2 hq
    go_wp2_with fail
    refine (most34_any w2 s n _ rfl).mono ?_
    rintro r w3 hm
    obtain ⟨rfl, h3⟩ := HQ.out _ _ _ hm
    replace HX := Lib.hid (HX.out.trans h3)
    clear hm h3 HQ
    go_wp2_with fail
    refine (HY.out w3).mono ?_
    rintro r w4 ⟨rfl, h4⟩
    go_wp2_with fail
    refine (HZ.out w4).mono ?_
    rintro r w5 ⟨rfl, h5⟩
    replace HX := Lib.hid ((HX.out.trans h4).trans h5)
    clear h4 h5
    go_wp2_with fail
    refine (HH.out w5).mono ?_
    rintro r w6 ⟨rfl, rfl⟩
    go_wp2_with fail
    refine (alive34_any _).mono ?_
    rintro r w9 ⟨rfl, h9⟩
    go_wp2
    go_ret
    exact Ret.mk (HX.out.trans h9)
  | true =>
    have e := lst_ok k
    unfold Lst at HL
    rw [e.1] at HL
    have HR := Lib.hid (fun w => least34_any w s h k)
    have HLT := Lib.hid (lstN_lt s h)
    rw [k] at HH
    generalize LstN s h = L at *
    clear e k
    go_enter Try.func3, Try.ntmps3
    go_wp2_with fail
    refine HL.out.mono ?_
    rintro r w1 ⟨v, rfl, n1, h1⟩
    have HX := Lib.hid h1
    have HN := Lib.hid n1
    clear n1 h1
    go_wp2_with fail
    refine (most_any w1 s n).mono ?_
    rintro r w2 hm
    obtain ⟨m, e, rfl, h2, hq⟩ := mosts_same hm
    replace HX := Lib.hid (HX.out.trans h2)
    replace HN := Lib.hid (HN.out.ext h2)
    have HQ := Lib.hid hq
    clear hm h2 hq
    go_wp2_with fail
    refine (most34_any w2 s n _ rfl).mono ?_
    rintro r w3 hm
    obtain ⟨rfl, h3⟩ := HQ.out _ _ _ hm
    replace HX := Lib.hid (HX.out.trans h3)
    replace HN := Lib.hid (HN.out.ext h3)
    clear hm h3 HQ
    go_wp2_with fail
    refine (HY.out w3).mono ?_
    rintro r w4 ⟨rfl, h4⟩
    go_wp2_with fail
    refine (HZ.out w4).mono ?_
    rintro r w5 ⟨rfl, h5⟩
    replace HX := Lib.hid ((HX.out.trans h4).trans h5)
    replace HN := Lib.hid ((HN.out.ext h4).ext h5)
    clear h4 h5
    go_wp2_with fail
    refine (HH.out w5).mono ?_
    rintro r w6 ⟨rfl, rfl⟩
    go_wp2_with fail
    refine (HR.out w5).mono ?_
    rintro r w6 ⟨v6, rfl, n6, h6⟩
    replace HX := Lib.hid (HX.out.trans h6)
    replace HN := Lib.hid (And.intro (HN.out.ext h6) n6)
    clear n6 h6
    go_wp2_with fail
    refine (sameN_num w6 v v6 L HN.out.1 HN.out.2 (lt256 HLT.out)).mono ?_
    rintro r w7 ⟨rfl, h7⟩
    replace HX := Lib.hid (HX.out.trans h7)
    clear h7
    go_wp2_with fail
    refine (alive34_any _).mono ?_
    rintro r w9 ⟨rfl, h9⟩
    go_wp2
    go_ret
    exact Ret.mk (HX.out.trans h9)
end Go.Proofs.Ytejknkhahjgdnaa
