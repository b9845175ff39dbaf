/- joineryref34: Height, fib, less, Least, within, Most, May. -/
import Derived.Test.YtejknkhahjgdnaaBound5
import Derived.Test.YtejknkhahjgdnaaByte8
namespace Go.Proofs.Ytejknkhahjgdnaa
open Go Go.RowKit

set_option maxRecDepth 100000 in
set_option maxHeartbeats 1000000 in
theorem height34_any (w : World) (s h M : Int) (hM : M = 1099511627776) : Calls Try.prog 12 #[.int .u8 s, .int .i64 h] w fun e w' => e = .returned (.bool (okH s h)) ∧ w = w' := by
  have hund : undef = Value.tuple #[] := rfl
  by_cases h4 : s = 4
  · subst h4
    have e : okH 4 h = (decide (0 ≤ h) && decide (h ≤ M)) := by unfold okH; rw [if_pos rfl, hM]
    rw [e]
    by_cases h0 : 0 ≤ h
    · rw [decide_eq_true h0]
      clear e
      go_enter Try.func12, Try.ntmps12
      rw [← hM]
      clear hM
      go_wp2
      go_ret
      exact ⟨rfl, rfl⟩
    · rw [decide_eq_false h0]
      clear e
      go_enter Try.func12, Try.ntmps12
      rw [← hM]
      clear hM
      go_wp2
      go_ret
      exact ⟨rfl, rfl⟩
  · have e : okH s h = (decide (1 ≤ s) && decide (s ≤ 3) && decide (0 ≤ h) && decide (h ≤ 100)) := by unfold okH; rw [if_neg h4]; cases decide (0 ≤ h) <;> cases decide (1 ≤ s) <;> cases decide (s ≤ 3) <;> rfl
    rw [e]
    by_cases h1 : 1 ≤ s
    · by_cases h3 : s ≤ 3
      · by_cases h0 : 0 ≤ h
        · rw [decide_eq_true h1, decide_eq_true h3, decide_eq_true h0]
          clear e
          go_enter Try.func12, Try.ntmps12
          rw [← hM]
          clear hM
          go_wp2
          go_ret
          exact ⟨rfl, rfl⟩
        · rw [decide_eq_true h1, decide_eq_true h3, decide_eq_false h0]
          clear e
          go_enter Try.func12, Try.ntmps12
          rw [← hM]
          clear hM
          go_wp2
          go_ret
          exact ⟨rfl, rfl⟩
      · rw [decide_eq_true h1, decide_eq_false h3]
        clear e
        go_enter Try.func12, Try.ntmps12
        rw [← hM]
        clear hM
        go_wp2
        go_ret
        exact ⟨rfl, rfl⟩
    · rw [decide_eq_false h1]
      clear e
      go_enter Try.func12, Try.ntmps12
      rw [← hM]
      clear hM
      go_wp2
      go_ret
      exact ⟨rfl, rfl⟩
theorem fib34_any (w : World) (k : Nat) (hk : k ≤ 200) : Calls Try.prog 30 #[.int .i64 (k : Nat)] w (Num (fibN k) w) := by
  have HF := Lib.hid (fib07_any w (k : Nat))
  have e1 : FibE ((k : Nat) : Int) = 0 := if_pos (by omega)
  have e2 : FibV ((k : Nat) : Int) = fibN k := by unfold FibV; rw [if_pos (by omega)]; rfl
  unfold Fibs at HF
  rw [e1, e2] at HF
  clear e1 e2
  go_enter Try.func30, Try.ntmps30
  go_wp2_with fail
  refine HF.out.mono ?_
  rintro e w1 ⟨f, rfl, n1, h1⟩
  have H1 := Lib.hid (And.intro n1 h1)
  clear n1 h1
  go_wp2
  go_ret
  exact ⟨_, rfl, H1.out.1, H1.out.2⟩
/-- a word of a row of one's own. -/
theorem UOwn.at {B : Nat} {w : World} {v : Value} {zs : List Nat} (h : UOwn B w v zs) {k : Nat} (hk : k < zs.length) :
    ∃ g c, v = .slice (some ⟨g, 0, none⟩) zs.length c ∧ B ≤ g ∧ zs.length ≤ c ∧ w.cell? ⟨g, k, none⟩ = some (.int .u32 (zs.getD k 0 : Nat)) ∧ w.frozen? ⟨g, k, none⟩ = false ∧ ∀ d : Nat, UOwn B (w.setCell ⟨g, k, none⟩ (.int .u32 (d : Nat))) v (zs.set k d) := by
  obtain ⟨h1, ⟨rfl, h0⟩ | ⟨g, cap, cur, rfl, hb, hg, hc, hm, hs, ht⟩⟩ := h
  · omega
  · rw [Nat.mul_one] at hs ht
    have hcur : cur.toList[k]? = some (u32 (zs.getD k 0)) := by
      have e1 : (cur.toList.take zs.length)[k]? = cur.toList[k]? := by rw [List.getElem?_take, if_pos hk]
      rw [← e1, ht, List.getElem?_map, List.getD_eq_getElem?_getD, List.getElem?_eq_getElem hk]; rfl
    refine ⟨g, cap, rfl, hb, hc, ?_, frozen_of hg k, fun d => ?_⟩
    · rw [cell_of hg k]
      simpa [u32] using hcur
    · refine ⟨by simp, .inr ⟨g, cap, cur.setIfInBounds k (.int .u32 (d : Nat)), by rw [List.length_set], hb, ?_, by rw [List.length_set]; exact hc, hm, by simpa using hs, ?_⟩⟩
      · simp only [World.setCell, Array.getElem?_modify, hg]
        simp
      · rw [List.length_set, Nat.mul_one, Array.toList_setIfInBounds, List.take_set, ht, List.map_set]
        rfl
/-- what holds while one is taken away. -/
def LessH (n : Nat) (ds : List Nat) (i k : Nat) : Prop := Words ds ∧ i ≤ ds.length ∧ k ≤ 1 ∧ nval ds + 1 = n + beta ^ i * k
theorem less_a {n i d : Nat} {ds : List Nat} (h : LessH n ds i 1) (hi : i < ds.length) (hd : ds.getD i 0 = d + 1) : LessH n (ds.set i d) (i + 1) 0 := by
  obtain ⟨h1, h2, h3, h4⟩ := h
  have hb := words_getD h1 i
  have := nval_set ds i d hi
  rw [hd] at this hb
  refine ⟨words_set h1 (by omega), by rw [List.length_set]; omega, by omega, ?_⟩
  rw [Nat.mul_add] at this
  omega
theorem less_b {n i : Nat} {ds : List Nat} (h : LessH n ds i 1) (hi : i < ds.length) (hd : ds.getD i 0 = 0) : LessH n (ds.set i 4294967295) (i + 1) 1 := by
  obtain ⟨h1, h2, h3, h4⟩ := h
  have := nval_set ds i 4294967295 hi
  rw [hd] at this
  refine ⟨words_set h1 (by decide), by rw [List.length_set]; omega, by omega, ?_⟩
  have e : beta ^ (i + 1) = beta ^ i * 4294967295 + beta ^ i := by rw [Nat.pow_succ, ← Nat.mul_succ]; rfl
  omega
theorem less_end {n i k : Nat} {ds : List Nat} (h : LessH n ds i k) (hn : 1 ≤ n) (hx : ¬ (i < ds.length ∧ 0 < k)) : nval ds = n - 1 := by
  obtain ⟨h1, h2, h3, h4⟩ := h
  rcases Nat.eq_zero_or_pos k with hk | hk
  · subst hk; omega
  · have : k = 1 := by omega
    subst this
    have hie : i = ds.length := by omega
    have := nval_lt h1
    rw [hie] at h4
    omega
set_option maxRecDepth 100000 in
set_option maxHeartbeats 4000000 in
theorem less_any (w : World) (p : Value) (n : Nat) (h : NumIs w p n) (h1 : 1 ≤ n) (hn : n < beta ^ 256) : Calls Try.prog 29 #[p, .int .u32 1] w (Num (n - 1) w) := by
  obtain ⟨xs, hu, hN, hv⟩ := h
  have hl : xs.length ≤ 256 := (norm_len hN 256).2 (by rw [hv]; exact hn)
  obtain ⟨a, c, rfl⟩ := hu.slice
  have HU := Lib.hid hu
  have HL := Lib.hid hl
  have HS := Lib.hid (show LessH n xs 0 1 from ⟨hN.1, Nat.zero_le _, Nat.le_refl _, by rw [hv]; rfl⟩)
  have HX := Lib.hid h1
  clear hu hl hN hv h1 hn
  go_enter Try.func29, Try.ntmps29
  go_wp2_with (at_builtin; refine wpList_append_words rfl (.const (.slice none 0 0)) (.tmp 7) rfl rfl rfl HU.out (Nat.le_trans HL.out (by decide)) ?_)
  intro v1 w1 ho hE
  obtain ⟨va, vc, rfl⟩ := ho.slice
  have HO := Lib.hid ho
  have HE := Lib.hid hE
  clear ho hE
  go_wp2_with fail
  go_loopw [1, 6] (fun k i W => ∃ (kk ii : Nat) (ds : List Nat), k = .int .u32 (kk : Nat) ∧ i = .int .i64 (ii : Nat) ∧ UOwn w.heap.size W (.slice va xs.length vc) ds ∧ Ext w W ∧ Hid (ds.length = xs.length ∧ LessH n ds ii kk)) (fun _ i _ => xs.length - (intOf i).toNat)
  case atStart => exact ⟨1, 0, xs, rfl, rfl, HO.out, HE.out, Lib.hid ⟨rfl, HS.out⟩⟩
  case round =>
    clear HO HE HS
    obtain ⟨k, i, ds, rfl, rfl, hO, hE, HH⟩ := hrel
    have hk1 := HH.out.2.2.2.1
    have hll : xs.length ≤ 256 := HL.out
    by_cases hgo : i < xs.length ∧ 0 < k
    · obtain ⟨hi, hk0⟩ := hgo
      obtain rfl : k = 1 := by omega
      obtain ⟨g, c2, hv, hg, hlc, cx, cf, hset⟩ := hO.at (k := i) (by rw [HH.out.1]; exact hi)
      rw [HH.out.1] at hv hlc
      obtain ⟨rfl, rfl⟩ : va = some ⟨g, 0, none⟩ ∧ vc = c2 := by cases hv; exact ⟨rfl, rfl⟩
      have HI := Lib.hid hi
      have HLN := Lib.hid HH.out.1
      rcases Nat.eq_zero_or_pos (ds.getD i 0) with hd | hd
      · have HB := Lib.hid (less_b HH.out.2 (by rw [HH.out.1]; exact hi) hd)
        rw [hd] at cx
        have HSET := Lib.hid (hset 4294967295)
        have HEX := Lib.hid (Below.setCell (B := w.heap.size) (p := ⟨g, i, none⟩) hE hg (.int .u32 ((4294967295 : Nat) : Int)))
        clear hv hd hO hE hset hg hk0 hk1
        go_wp2
        go_roundw
        case rel => exact ⟨1, i + 1, ds.set i 4294967295, rfl, by go_num, HSET.out, HEX.out, Lib.hid ⟨by rw [List.length_set]; exact HLN.out, HB.out⟩⟩
        case measure => exact meas_i HI.out
      · obtain ⟨d, hd1⟩ : ∃ d, ds.getD i 0 = d + 1 := ⟨ds.getD i 0 - 1, by omega⟩
        have HB := Lib.hid (less_a HH.out.2 (by rw [HH.out.1]; exact hi) hd1)
        have hb := words_getD HH.out.2.1 i
        rw [hd1] at cx hb
        have hb2 : d < 4294967295 := by unfold beta at hb; omega
        have HSET := Lib.hid (hset d)
        have HEX := Lib.hid (Below.setCell (B := w.heap.size) (p := ⟨g, i, none⟩) hE hg (.int .u32 ((d : Nat) : Int)))
        clear hv hd hd1 hb hO hE hset hg hk0 hk1
        go_wp2
        go_roundw
        case rel => exact ⟨0, i + 1, ds.set i d, rfl, by go_num, by first | exact HSET.out | skip, by first | exact HEX.out | skip, Lib.hid ⟨by rw [List.length_set]; exact HLN.out, HB.out⟩⟩
        case measure => exact meas_i HI.out
    · have HEND := Lib.hid (less_end HH.out.2 HX.out (by rw [HH.out.1]; exact hgo))
      have HR := Lib.hid hO.row
      have HE := Lib.hid hE
      have HD := Lib.hid (And.intro HH.out.1 HH.out.2.1)
      clear hO hE HU
      by_cases hi : i < xs.length
      · obtain rfl : k = 0 := by omega
        clear hgo HH hk1
        obtain ⟨wo, rfl⟩ : ∃ wo, wo = wr := ⟨_, rfl⟩
        go_wp2_with fail
        clear hi
        go_loopw [5] (fun v W => W = wo ∧ ∃ k : Nat, v = .slice va k vc ∧ Hid (k ≤ xs.length ∧ ∀ j, k ≤ j → ds.getD j 0 = 0)) (fun v _ => match v with | .slice _ k _ => k | _ => 0)
        case atStart => exact ⟨rfl, xs.length, rfl, Lib.hid ⟨Nat.le_refl _, fun j hj => getD_past ds j (by rw [HD.out.1]; exact hj)⟩⟩
        case round =>
          obtain ⟨rfl, m, rfl, HK⟩ := hrel
          by_cases h0 : m = 0
          · subst h0
            have HF := Lib.hid (trim_norm HD.out.2 (Nat.zero_le _) HK.out.2 (.inl rfl))
            go_wp2
            go_ret
            refine ⟨_, rfl, ⟨[], .inl ⟨rfl, _, _, rfl⟩, ⟨(fun d hd => by cases hd), .inl rfl⟩, ?_⟩, HE.out⟩
            rw [← HEND.out, ← HF.out.2]; rfl
          · obtain ⟨q, rfl⟩ : ∃ q, m = q + 1 := ⟨m - 1, by omega⟩
            clear h0
            have hm : q < ds.length := by rw [HD.out.1]; exact HK.out.1
            have hm2 : q < 256 := Nat.lt_of_lt_of_le HK.out.1 HL.out
            rcases HR.out with ⟨h, _⟩ | ⟨b, o, c', hv, _, h2, h3⟩
            · exact absurd h (by intro e; rw [e] at hm; exact absurd hm (Nat.not_lt_zero _))
            · rw [HD.out.1] at hv
              obtain ⟨rfl, rfl⟩ : va = some ⟨b, o, none⟩ ∧ vc = c' := by cases hv; exact ⟨rfl, rfl⟩
              have hc := urow_cell h3 q hm
              have hcap : q + 1 ≤ vc := by omega
              have HM := Lib.hid hm
              clear hv h2 h3 hm
              by_cases hz : ds.getD q 0 = 0
              · rw [hz] at hc
                have HZ := Lib.hid hz
                clear hz
                go_wp2
                go_roundw
                case rel => exact ⟨by first | rfl | trivial, q, rfl, Lib.hid ⟨Nat.le_of_succ_le HK.out.1, fun j hj => by
                  rcases Nat.eq_or_lt_of_le hj with e | e
                  · rw [← e]; exact HZ.out
                  · exact HK.out.2 j e⟩⟩
                case measure => exact Nat.lt_succ_self q
              · have HZ := Lib.hid hz
                obtain ⟨d, hd⟩ : ∃ d, ds.getD q 0 = d := ⟨_, rfl⟩
                rw [hd] at hc hz
                have hz' : ¬ (d : Int) = 0 := by omega
                have hz2 : ((d : Int) == 0) = false := by simpa using hz
                clear hz hd
                have HF := Lib.hid (trim_norm HD.out.2 (by rw [HD.out.1]; exact HK.out.1) HK.out.2 (.inr HZ.out))
                have HRR := Lib.hid (HR.out.take (q + 1) HM.out)
                go_wp2
                go_ret
                exact ⟨_, rfl, ⟨ds.take (q + 1), HRR.out, HF.out.1, by rw [HF.out.2, HEND.out]⟩, HE.out⟩
      · clear hgo HH hk1
        obtain ⟨wo, rfl⟩ : ∃ wo, wo = wr := ⟨_, rfl⟩
        go_wp2_with fail
        clear hi
        go_loopw [5] (fun v W => W = wo ∧ ∃ k : Nat, v = .slice va k vc ∧ Hid (k ≤ xs.length ∧ ∀ j, k ≤ j → ds.getD j 0 = 0)) (fun v _ => match v with | .slice _ k _ => k | _ => 0)
        case atStart => exact ⟨rfl, xs.length, rfl, Lib.hid ⟨Nat.le_refl _, fun j hj => getD_past ds j (by rw [HD.out.1]; exact hj)⟩⟩
        case round =>
          obtain ⟨rfl, m, rfl, HK⟩ := hrel
          by_cases h0 : m = 0
          · subst h0
            have HF := Lib.hid (trim_norm HD.out.2 (Nat.zero_le _) HK.out.2 (.inl rfl))
            go_wp2
            go_ret
            refine ⟨_, rfl, ⟨[], .inl ⟨rfl, _, _, rfl⟩, ⟨(fun d hd => by cases hd), .inl rfl⟩, ?_⟩, HE.out⟩
            rw [← HEND.out, ← HF.out.2]; rfl
          · obtain ⟨q, rfl⟩ : ∃ q, m = q + 1 := ⟨m - 1, by omega⟩
            clear h0
            have hm : q < ds.length := by rw [HD.out.1]; exact HK.out.1
            have hm2 : q < 256 := Nat.lt_of_lt_of_le HK.out.1 HL.out
            rcases HR.out with ⟨h, _⟩ | ⟨b, o, c', hv, _, h2, h3⟩
            · exact absurd h (by intro e; rw [e] at hm; exact absurd hm (Nat.not_lt_zero _))
            · rw [HD.out.1] at hv
              obtain ⟨rfl, rfl⟩ : va = some ⟨b, o, none⟩ ∧ vc = c' := by cases hv; exact ⟨rfl, rfl⟩
              have hc := urow_cell h3 q hm
              have hcap : q + 1 ≤ vc := by omega
              have HM := Lib.hid hm
              clear hv h2 h3 hm
              by_cases hz : ds.getD q 0 = 0
              · rw [hz] at hc
                have HZ := Lib.hid hz
                clear hz
                go_wp2
                go_roundw
                case rel => exact ⟨by first | rfl | trivial, q, rfl, Lib.hid ⟨Nat.le_of_succ_le HK.out.1, fun j hj => by
                  rcases Nat.eq_or_lt_of_le hj with e | e
                  · rw [← e]; exact HZ.out
                  · exact HK.out.2 j e⟩⟩
                case measure => exact Nat.lt_succ_self q
              · have HZ := Lib.hid hz
                obtain ⟨d, hd⟩ : ∃ d, ds.getD q 0 = d := ⟨_, rfl⟩
                rw [hd] at hc hz
                have hz' : ¬ (d : Int) = 0 := by omega
                have hz2 : ((d : Int) == 0) = false := by simpa using hz
                clear hz hd
                have HF := Lib.hid (trim_norm HD.out.2 (by rw [HD.out.1]; exact HK.out.1) HK.out.2 (.inr HZ.out))
                have HRR := Lib.hid (HR.out.take (q + 1) HM.out)
                go_wp2
                go_ret
                exact ⟨_, rfl, ⟨ds.take (q + 1), HRR.out, HF.out.1, by rw [HF.out.2, HEND.out]⟩, HE.out⟩
end Go.Proofs.Ytejknkhahjgdnaa
