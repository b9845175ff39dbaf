/- nat.fibs, the statement that goes over it, nat.Fib. -/
import Derived.Test.YtejknkhahjgdnaaNat4
namespace Go.Proofs.Ytejknkhahjgdnaa
open Go Go.RowKit Go.Shelf
attribute [local go_sem] Oper.semAt_some

/-- Fibonacci's numbers. -/
def fibN : Nat → Nat
  | 0 => 0
  | 1 => 1
  | n + 2 => fibN n + fibN (n + 1)
theorem fibN_le : ∀ n, fibN n ≤ 2 ^ n ∧ fibN (n + 1) ≤ 2 ^ (n + 1)
  | 0 => ⟨by decide, by decide⟩
  | n + 1 => by
    obtain ⟨h1, h2⟩ := fibN_le n
    refine ⟨h2, ?_⟩
    show fibN n + fibN (n + 1) ≤ 2 ^ (n + 1 + 1)
    rw [Nat.pow_succ 2 (n + 1)]
    rw [Nat.pow_succ] at h2 ⊢
    omega
theorem fibN_lt {n : Nat} (h : n ≤ 210) : fibN n < beta ^ 7 := by
  have h1 := (fibN_le n).1
  have h2 : 2 ^ n ≤ 2 ^ 210 := Nat.pow_le_pow_right (by decide) h
  have h3 : 2 ^ 210 < beta ^ 7 := by decide +kernel
  omega
abbrev KN (a b : World) : Prop := Keep (fun _ => False) a b
theorem rangeAt_kn {w w' : World} {b o : Nat} {cs : List Value} (h : w.rangeAt b o cs) (e : KN w w') : w'.rangeAt b o cs := fun q u hq => by
  have hc := h q u hq
  unfold World.cell? at hc ⊢
  cases ho : w.heap[b]? with
  | none => simp [ho] at hc
  | some x =>
    cases x with
    | cells c t f => rw [e.cells _ _ _ _ id ho]; rw [ho] at hc; exact hc
    | _ => simp [ho] at hc
theorem URow.kn {w w' : World} {v : Value} {xs : List Nat} (h : URow w v xs) (e : KN w w') : URow w' v xs := by
  rcases h with h | ⟨b, o, c, h0, h1, h2, h3⟩
  · exact .inl h
  · exact .inr ⟨b, o, c, h0, h1, h2, rangeAt_kn h3 e⟩
theorem NumIs.kn {w w' : World} {v : Value} {n : Nat} (h : NumIs w v n) (e : KN w w') : NumIs w' v n := by
  obtain ⟨xs, h1, h2⟩ := h; exact ⟨xs, h1.kn e, h2⟩
/-- a number's row lies off a box that holds a slice. -/
theorem NumIs.box {w : World} {v u u' : Value} {n B : Nat} {t : TypeId} (h : NumIs w v n) (hB : Boxed w B t u) (hu : ∀ k m, u ≠ .int k m) : NumIs (w.setCell ⟨B, 0, none⟩ u') v n := by
  obtain ⟨xs, h1, h2⟩ := h
  refine ⟨xs, ?_, h2⟩
  rcases h1 with h | ⟨b, o, c, h0, h1, h2, h3⟩
  · exact .inl h
  · refine .inr ⟨b, o, c, h0, h1, h2, fun q y hq => ?_⟩
    have hc := h3 q y hq
    by_cases hb : B = b
    · subst hb
      exfalso
      have h4 : w.cell? ⟨B, o + q, none⟩ = _ := cell_of (show w.heap[B]? = some (.cells #[u] t (0, 0)) from hB) (o + q)
      rw [hc] at h4
      rw [List.getElem?_map] at hq
      obtain ⟨z, _, rfl⟩ := Option.map_eq_some_iff.1 hq
      rcases Nat.eq_zero_or_pos (o + q) with e | e
      · rw [e] at h4; simp [u32] at h4; exact hu _ _ h4.symm
      · have : (#[u] : Array Value)[o + q]? = none := by simp; omega
        simp [this] at h4
    · unfold World.cell? at hc ⊢
      rw [Below.heap_setCell _ _ _ b (fun e => hb (by first | exact e | exact e.symm))]; exact hc
set_option maxRecDepth 100000 in
set_option maxHeartbeats 2000000 in
theorem fibs1_in (l N : Nat) (J Jx : World → Prop) (hN : Hid (N ≤ 200)) (hJE : ∀ W W', J W → Ext W W' → J W')
    (hY : ∀ m k v W, k < N → J W → NumIs W v (fibN k) → YieldAt Fence.wide m Try.prog l #[.int .i64 (k : Nat), v] W fun e W' => e = .returned (.bool true) ∧ J W' ∧ KN W W')
    (hYx : ∀ m v W, J W → NumIs W v (fibN N) → YieldAt Fence.wide m Try.prog l #[.int .i64 (N : Nat), v] W fun e W' => e = .returned (.bool false) ∧ Jx W') (n : Nat) (W : World) (hJ : J W) :
    CallsIn Fence.wide n Try.prog 96 #[.func (.yield l) #[] #[]] W fun e W' => (∃ v, e = .returned v) ∧ Jx W' := by
  have hfn : ∀ f, Fence.wide.fn f := fun _ => trivial
  have HJE := Lib.hid hJE
  have HY := Lib.hid hY
  have HYX := Lib.hid hYx
  have HJ := Lib.hid hJ
  clear hJE hY hYx hJ
  refine callsIn_of_wp Try.func96 rfl trivial ?_ rfl
  simp only [Try.ntmps96, List.size_toArray, List.length_cons, List.length_nil, Nat.reduceAdd, Nat.reduceSub, Array.replicate_succ, Array.replicate_zero, List.push_toArray, List.append_toArray, List.nil_append, List.cons_append]
  gi_wp2_with fail
  refine ⟨wide_room _, (callsIn_wide.2 (from_any W 0 (by decide))).mono ?_⟩
  rintro e W1 ⟨v0, rfl, n0, h1⟩
  gi_wp2_with fail
  refine ⟨wide_room _, (callsIn_wide.2 (from_any W1 1 (by decide))).mono ?_⟩
  rintro e W2 ⟨v1, rfl, n1, h2⟩
  have HS := Lib.hid (And.intro (n0.ext h2) (And.intro n1 (HJE.out _ _ HJ.out (h1.trans h2))))
  clear h1 h2 n0 n1
  gi_wp2_with fail
  gi_loopw [2, 3, 4] (fun a b i W => ∃ k : Nat, i = .int .i64 (k : Nat) ∧ Hid (k ≤ N ∧ NumIs W a (fibN k) ∧ NumIs W b (fibN (k + 1)) ∧ J W)) (fun _ _ i _ => N - (intOf i).toNat)
  case atStart => exact ⟨0, rfl, Lib.hid ⟨Nat.zero_le _, HS.out.1, HS.out.2.1, HS.out.2.2⟩⟩
  case round =>
    obtain ⟨k, rfl, HH⟩ := hrel
    clear HS
    by_cases hk : k < N
    · have HK := Lib.hid hk
      have hkn : k < 200 := Nat.lt_of_lt_of_le hk hN.out
      obtain ⟨fn, tmps, assign, body, hy1, hR⟩ := HY.out n k u2 wr hk HH.out.2.2.2 HH.out.2.1
      have HR := Lib.hid hR
      clear hR hk
      gi_wp2_with fail
      clear hy1
      refine ⟨wide_room _, (RoundIn.any HR.out).mono ?_⟩
      rintro e W3 ⟨rfl, hJ3, hk3⟩
      have HA := Lib.hid (HH.out.2.1.kn hk3)
      have HB := Lib.hid (HH.out.2.2.1.kn hk3)
      obtain ⟨xs, x1, x2, x3⟩ := HA.out
      obtain ⟨ys, y1, y2, y3⟩ := HB.out
      have HC := Lib.hid (natAdd_any W3 u2 u3 xs ys x1 y1 x2.1 y2.1 (Nat.le_trans ((norm_len x2 7).2 (by rw [x3]; exact fibN_lt (by omega))) (by decide)) (Nat.le_trans ((norm_len y2 7).2 (by rw [y3]; exact fibN_lt (by omega))) (by decide)))
      rw [x3, y3, show fibN k + fibN (k + 1) = fibN (k + 1 + 1) from rfl] at HC
      have HJ3 := Lib.hid hJ3
      clear x1 x2 x3 y1 y2 y3 hJ3 hk3 hkn
      gi_wp2_with fail
      refine ⟨wide_room _, (callsIn_wide.2 HC.out).mono ?_⟩
      rintro e W4 ⟨v4, rfl, n4, h4⟩
      have HS4 := Lib.hid (And.intro n4 h4)
      have hk2 : k < 200 := Nat.lt_of_lt_of_le HK.out hN.out
      clear n4 h4
      gi_wp2
      go_roundw
      case rel => exact ⟨k + 1, by first | rfl | (rw [show wrap64 ((k : Int) + 1) = ((k + 1 : Nat) : Int) by unfold wrap64; omega]), Lib.hid ⟨HK.out, HB.out.ext HS4.out.2, HS4.out.1, HJE.out _ _ HJ3.out HS4.out.2⟩⟩
      case measure => first | exact meas_s HK.out | (rw [show wrap64 ((k : Int) + 1) = ((k + 1 : Nat) : Int) by unfold wrap64; omega]; exact meas_s HK.out)
    · obtain rfl : k = N := Nat.le_antisymm HH.out.1 (Nat.le_of_not_lt hk)
      clear hk
      obtain ⟨fn, tmps, assign, body, hy1, hR⟩ := HYX.out n u2 wr HH.out.2.2.2 HH.out.2.1
      have HR := Lib.hid hR
      clear hR
      gi_wp2_with fail
      clear hy1
      refine ⟨wide_room _, (RoundIn.any HR.out).mono ?_⟩
      rintro e W3 ⟨rfl, hJ3⟩
      gi_wp2
      go_end0
      exact ⟨⟨_, rfl⟩, hJ3⟩
theorem fibs_any (w : World) : Calls Try.prog 74 #[] w fun e w' => e = .returned (.func (.func 96) #[] #[]) ∧ w' = w := by
  go_enter Try.func74, Try.ntmps74
  go_wp2
  go_ret
  exact ⟨rfl, rfl⟩
end Go.Proofs.Ytejknkhahjgdnaa
