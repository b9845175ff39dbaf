/- The package wb. wb.May, wb.Rank; joineryref18. -/
import Derived.Deep.LoopGhost
import Derived.Test.YtoiohjifjmejkaaGreatM8
import Derived.Test.YtoiohjifjmejkaaGreatM9
import Derived.Test.YtoiohjifjmejkaaGreatM14
namespace Go.Proofs.YtoiohjifjmejkaaGreat
open Go Go.RowKit

set_option maxHeartbeats 400000 in
theorem wbMake_any (w : World) (l r : Tr) (k v : Int) (hl : InH w l) (hr : InH w r) : Calls Tryz.prog 118 #[.pointer l.ptr, .int .i64 k, .int .i64 v, .pointer r.ptr] w (New l k v 0 r w) := by
  go_enter Tryz.func118, Tryz.ntmps118
  go_wp2_with fail
  refine (new_any w l r k v 0 hl hr).mono ?_
  rintro e w3 ⟨b, rfl, hb, ht, h3⟩
  go_wp2
  go_ret
  exact ⟨b, rfl, hb, ht, h3⟩
/-- a tree's weight. -/
def wt (t : Tr) : Int := wrap64 (t.size + 1)
set_option maxHeartbeats 400000 in
theorem wbWeight_any (w : World) (t : Tr) (ht : InH w t) : Calls Tryz.prog 119 #[.pointer t.ptr] w (Ret (.int .i64 (wt t)) w) := by
  go_enter Tryz.func119, Tryz.ntmps119
  go_wp2_with fail
  refine (size_any _ t ht).mono ?_
  rintro e w1 ⟨rfl, h1⟩
  go_wp2
  go_ret
  exact Ret.mk h1
def withinB (lo hi a b : Int) : Bool := decide (lo ≤ a) && decide (a ≤ hi) && decide (lo ≤ b) && decide (b ≤ hi)
set_option maxHeartbeats 1000000 in
theorem within_any (w : World) (lo hi a b : Int) (B : Nat) (c0 : w.cell? ⟨B, 0, none⟩ = some (.int .i64 a)) (c1 : w.cell? ⟨B, 1, none⟩ = some (.int .i64 b)) : Calls Tryz.prog 150 #[.int .i64 lo, .int .i64 hi, .slice (some ⟨B, 0, none⟩) 2 2] w (Ret (.bool (withinB lo hi a b)) w) := by
  obtain ⟨X, hX⟩ : ∃ X, X = withinB lo hi a b := ⟨_, rfl⟩
  rw [← hX]
  have HX := Lib.hid hX
  clear hX
  by_cases h1 : a < lo
  · go_enter Tryz.func150, Tryz.ntmps150
    go_wp2
    refine wp_loop_rounds 3 ?_
    rw [rounds_succ]
    go_wp2
    go_ret
    exact ⟨ret_bool (by rw [HX.out]; simp [withinB]; omega), Ext.refl _⟩
  · by_cases h2 : hi < a
    · go_enter Tryz.func150, Tryz.ntmps150
      go_wp2
      refine wp_loop_rounds 3 ?_
      rw [rounds_succ]
      go_wp2
      go_ret
      exact ⟨ret_bool (by rw [HX.out]; simp [withinB]; omega), Ext.refl _⟩
    · by_cases h3 : b < lo
      · go_enter Tryz.func150, Tryz.ntmps150
        go_wp2
        refine wp_loop_rounds 3 ?_
        rw [rounds_succ]
        go_wp2
        rw [rounds_succ]
        go_wp2
        go_ret
        exact ⟨ret_bool (by rw [HX.out]; simp [withinB]; omega), Ext.refl _⟩
      · by_cases h4 : hi < b
        · go_enter Tryz.func150, Tryz.ntmps150
          go_wp2
          refine wp_loop_rounds 3 ?_
          rw [rounds_succ]
          go_wp2
          rw [rounds_succ]
          go_wp2
          go_ret
          exact ⟨ret_bool (by rw [HX.out]; simp [withinB]; omega), Ext.refl _⟩
        · go_enter Tryz.func150, Tryz.ntmps150
          go_wp2
          refine wp_loop_rounds 3 ?_
          rw [rounds_succ]
          go_wp2
          rw [rounds_succ]
          go_wp2
          rw [rounds_succ]
          go_wp2
          go_ret
          exact ⟨ret_bool (by rw [HX.out]; simp [withinB]; omega), Ext.refl _⟩
/-- are two weights alike? -/
def likeB (a b : Int) : Bool := withinB 1 1099511627776 a b && decide (29 * (a + b) ≤ 100 * min a b)
/-- the same, as the code has it. -/
def likeR (m a b : Int) : Bool := withinB 1 m a b && decide (wrap64 (29 * wrap64 (a + b)) ≤ wrap64 (100 * min a b))
theorem likeR_eq (a b : Int) : likeR 1099511627776 a b = likeB a b := by
  unfold likeR likeB
  cases h : withinB 1 1099511627776 a b with
  | false => rfl
  | true =>
    simp only [withinB, Bool.and_eq_true, decide_eq_true_eq] at h
    rw [Bool.true_and, Bool.true_and]
    congr 1
    rw [show wrap64 (a + b) = a + b by unfold wrap64; omega, show wrap64 (29 * (a + b)) = 29 * (a + b) by unfold wrap64; omega, show wrap64 (100 * min a b) = 100 * min a b by unfold wrap64; omega]
set_option maxHeartbeats 1000000 in
theorem wbLike_any (w : World) (a b : Int) : Calls Tryz.prog 121 #[.int .i64 a, .int .i64 b] w (Ret (.bool (likeB a b)) w) := by
  obtain ⟨X, hX⟩ : ∃ X, X = likeB a b := ⟨_, rfl⟩
  rw [← hX]
  rw [← likeR_eq] at hX
  have HX := Lib.hid hX
  clear hX
  have hc0 := cell_of (alloc_at w (.cells #[.int .i64 a, .int .i64 b] 3) _ rfl) 0
  have hc1 := cell_of (alloc_at w (.cells #[.int .i64 a, .int .i64 b] 3) _ rfl) 1
  have H := Lib.hid (fun m => within_any (w.alloc (.cells #[.int .i64 a, .int .i64 b] 3)) 1 m a b w.heap.size hc0 hc1)
  have hE := (Ext.refl w).alloc (.cells #[.int .i64 a, .int .i64 b] 3)
  clear hc0 hc1
  go_enter Tryz.func121, Tryz.ntmps121
  go_wp2_with fail
  obtain ⟨M, hM⟩ : ∃ M : Int, M = 1099511627776 := ⟨_, rfl⟩
  rw [← hM] at HX ⊢
  clear hM
  refine (H.out M).mono ?_
  rintro e w1 ⟨rfl, h1⟩
  have h01 := hE.trans h1
  cases hw : withinB 1 M a b with
  | false =>
    have HW := Lib.hid hw
    clear hw
    go_wp2
    go_ret
    exact ⟨ret_bool (by rw [HX.out]; simp [likeR, HW.out]), h01⟩
  | true =>
    have HW := Lib.hid hw
    clear hw
    rcases Int.lt_or_le b a with hab | hab
    all_goals
      have HAB := Lib.hid hab
      go_wp2
      go_ret
      have := HAB.out
      exact ⟨ret_bool (by rw [HX.out]; simp only [likeR, HW.out, Bool.true_and]; congr 3; omega), h01⟩
/-- what is wrong with a node. -/
def wbOne (t : Tr) : Int := if t.tag = 0 then (if likeB (wt t.left) (wt t.right) then 0 else 8) else 140
/-- the state of Check's loop. -/
def ChkSt (w : World) (T : Tr) (X : Nat × Int) (g : Nat) (at_ e v : Value) (W : World) : Prop :=
  ∃ (j : Nat) (st : List Tr), at_ = .int .i64 j ∧ e = .int .i64 0 ∧ NOwn w.heap.size W v (st.map Tr.ptr) ∧ (∀ x ∈ st, InH w x) ∧ Ext w W ∧
    X = (j + (firstOf wbOne (pend st)).1, (firstOf wbOne (pend st)).2) ∧ 2 * (pend st).length + st.length ≤ g ∧ j + (pend st).length ≤ T.pre.length ∧ st.length ≤ j + 1
set_option maxHeartbeats 4000000 in
theorem wbCheck_any (w : World) (T : Tr) (hT : InH w T) (hc : T.pre.length ≤ 4000) :
    Calls Tryz.prog 82 #[.pointer T.ptr] w (Ret (.tuple #[.int .i64 (firstOf wbOne T.pre).1, .int .i64 (firstOf wbOne T.pre).2]) w) := by
  obtain ⟨X, hX⟩ : ∃ X, X = firstOf wbOne T.pre := ⟨_, rfl⟩
  rw [← hX]
  have HX := Lib.hid hX
  have HT := Lib.hid hT
  clear hX hT
  go_enter Tryz.func82, Tryz.ntmps82
  go_wp2_with fail
  go_step3
  go_wp2_with fail
  go_step3
  go_wp2_with fail
  go_loopg [2, 3, 4] (2 * T.pre.length + 1) (fun g a e v W => ChkSt w T X g a e v W)
  case atStart =>
    refine ⟨0, [T], rfl, rfl, ?_, ?_, (Ext.refl w).alloc _, ?_, ?_, ?_, ?_⟩
    · exact ⟨rfl, .inr ⟨w.heap.size, 1, _, rfl, Nat.le_refl _, alloc_at _ _ _ rfl, Nat.le_refl _, by decide, rfl, rfl⟩⟩
    · intro x hx
      obtain rfl : x = T := by simpa using hx
      exact HT.out
    · rw [HX.out]; simp [pend]
    · simp [pend]
    · simp [pend]
    · simp
  case round =>
    obtain ⟨j, st, rfl, rfl, hown, hst, hE, hx, hg, hj, hl⟩ := hrel
    rcases List.eq_nil_or_concat st with rfl | ⟨st', t, rfl⟩
    · obtain ⟨a, c, rfl⟩ := hown.slice
      rw [pend_nil] at hx
      have HXX := Lib.hid hx
      clear hx hg hj hl hown hst
      rw [List.map_nil, List.length_nil]
      go_wp2
      rw [Exit.noGoto_ret]
      go_ret2
      exact ⟨ret_two (by rw [HXX.out]; simp [firstOf]) (by rw [HXX.out]; rfl), hE⟩
    · rw [List.concat_eq_append] at *
      rw [List.map_append] at hown
      obtain ⟨gb, cap, rfl, hcap, hcell, hown'⟩ := NOwn.pop (x := t.ptr) hown
      rw [pend_snoc] at hx hg hj
      rw [List.length_append] at hg hj
      rw [List.length_append, List.length_singleton] at hg hl
      have ht := hst t (by simp)
      have hst' : ∀ x ∈ st', InH w x := fun x hx => hst x (by simp [hx])
      have HST := Lib.hid hst'
      have HOWN := Lib.hid hown'
      have HXX := Lib.hid hx
      clear hst hst' hown hown' hx
      rw [List.length_map] at HOWN hcap hcell ⊢
      have HSM := Lib.hid (show (st'.map Tr.ptr).length = st'.length from List.length_map _)
      generalize hN : st'.length = n at *
      have HN := Lib.hid hN
      clear hN
      cases t with
      | nil =>
        rw [Tr.ptr_nil] at hcell
        clear ht
        go_wp2
        go_roundg (2 * (pend st').length + n)
        case measure => omega
        case rel => exact ⟨j, st', rfl, rfl, HOWN.out, HST.out, hE, HXX.out, by have := HN.out; omega, by simp [Tr.pre] at hj; exact hj, by have := HN.out; omega⟩
      | node tb tl tk tv tg tr =>
        rw [Tr.ptr_node] at hcell
        have hpl : (Tr.node tb tl tk tv tg tr).pre.length = 1 + (tl.pre.length + tr.pre.length) := by simp [Tr.pre]; omega
        rw [hpl] at hg hj
        clear hpl
        have htr := ht.ext hE
        have hone : wbOne (.node tb tl tk tv tg tr) = if tg = 0 then (if likeB (wt tl) (wt tr) then 0 else 8) else 140 := rfl
        have HXO : Hid (X = if wbOne (.node tb tl tk tv tg tr) = 0 then (j + ((firstOf wbOne (tl.pre ++ (tr.pre ++ pend st'))).1 + 1), (firstOf wbOne (tl.pre ++ (tr.pre ++ pend st'))).2) else (j + 0, wbOne (.node tb tl tk tv tg tr))) := Lib.hid (by
          have := HXX.out
          rw [Tr.pre, List.cons_append, firstOf_cons, List.append_assoc] at this
          rw [this]
          split <;> rfl)
        have HTT := Lib.hid ht
        clear ht HXX
        go_wp2_with fail
        refine (tag_any wr _ htr).mono ?_
        rw [Tr.tag_node]
        rintro e w2 ⟨rfl, h2⟩
        by_cases c0 : tg = 0
        · rw [if_pos c0] at hone
          subst c0
          cases cl : likeB (wt tl) (wt tr) with
          | false =>
            rw [cl] at hone
            have HONE := Lib.hid (show wbOne (.node tb tl tk tv 0 tr) = 8 from hone)
            have CL := Lib.hid cl
            clear hone cl
            go_wp2_with fail
            refine (left_any w2 (.node tb tl tk tv 0 tr) (htr.ext h2)).mono ?_
            rw [Tr.left_node]
            rintro e w3 ⟨rfl, h3⟩
            go_wp2_with fail
            have h23 := h2.trans h3
            refine (wbWeight_any w3 tl (left_ok (htr.ext h23))).mono ?_
            rintro e w4 ⟨rfl, h4⟩
            go_wp2_with fail
            have h24 := h23.trans h4
            refine (right_any w4 (.node tb tl tk tv 0 tr) (htr.ext h24)).mono ?_
            rw [Tr.right_node]
            rintro e w5 ⟨rfl, h5⟩
            go_wp2_with fail
            have h25 := h24.trans h5
            refine (wbWeight_any w5 tr (right_ok (htr.ext h25))).mono ?_
            rintro e w6 ⟨rfl, h6⟩
            have h26 := h25.trans h6
            clear h2 h3 h23 h4 h24 h5 h25 h6
            go_wp2_with fail
            refine (wbLike_any w6 (wt tl) (wt tr)).mono ?_
            rw [CL.out]
            rintro e w7 ⟨rfl, h7⟩
            go_wp2
            rw [Exit.noGoto_ret]
            go_ret2
            exact ⟨ret_two (by rw [HXO.out, HONE.out]; simp) (by rw [HXO.out, HONE.out]; simp), hE.trans (h26.trans h7)⟩
          | true =>
            rw [cl] at hone
            have HONE := Lib.hid (show wbOne (.node tb tl tk tv 0 tr) = 0 from hone)
            have CL := Lib.hid cl
            clear hone cl
            go_wp2_with fail
            refine (left_any w2 (.node tb tl tk tv 0 tr) (htr.ext h2)).mono ?_
            rw [Tr.left_node]
            rintro e w3 ⟨rfl, h3⟩
            go_wp2_with fail
            have h23 := h2.trans h3
            refine (wbWeight_any w3 tl (left_ok (htr.ext h23))).mono ?_
            rintro e w4 ⟨rfl, h4⟩
            go_wp2_with fail
            have h24 := h23.trans h4
            refine (right_any w4 (.node tb tl tk tv 0 tr) (htr.ext h24)).mono ?_
            rw [Tr.right_node]
            rintro e w5 ⟨rfl, h5⟩
            go_wp2_with fail
            have h25 := h24.trans h5
            refine (wbWeight_any w5 tr (right_ok (htr.ext h25))).mono ?_
            rintro e w6 ⟨rfl, h6⟩
            have h26 := h25.trans h6
            clear h2 h3 h23 h4 h24 h5 h25 h6
            go_wp2_with fail
            refine (wbLike_any w6 (wt tl) (wt tr)).mono ?_
            rw [CL.out]
            rintro e w7 ⟨rfl, h7⟩
            go_wp2_with fail
            have h27 := h26.trans h7
            refine (right_any w7 (.node tb tl tk tv 0 tr) (htr.ext h27)).mono ?_
            rw [Tr.right_node]
            rintro e w8 ⟨rfl, h8⟩
            go_wp2_with fail
            have h28 := h27.trans h8
            refine (left_any w8 (.node tb tl tk tv 0 tr) (htr.ext h28)).mono ?_
            rw [Tr.left_node]
            rintro e w9 ⟨rfl, h9⟩
            have h29 := h28.trans h9
            have hA := (Ext.refl w9).alloc (.cells #[.pointer tr.ptr, .pointer tl.ptr] 31)
            have hR : (w9.alloc (.cells #[.pointer tr.ptr, .pointer tl.ptr] 31)).rangeAt w9.heap.size 0 ([tr.ptr, tl.ptr].map Value.pointer) := fun q u hq => by
              rw [Nat.zero_add, cell_of (alloc_at w9 (.cells #[.pointer tr.ptr, .pointer tl.ptr] 31) _ rfl) q]
              simpa using hq
            have HR := Lib.hid hR
            have hE9 := hE.trans h29
            have HO := Lib.hid ((HOWN.out.ext h29).ext hA)
            have HE := Lib.hid (hE9.trans hA)
            clear h26 h7 h27 h8 h28 h9 h29 hA hR hE9
            go_wp2_with (at_builtin; refine wpList_append_nodes (B := w.heap.size) (xs := st'.map Tr.ptr) (ys := [tr.ptr, tl.ptr]) rfl (.tmp 40) (.tmp 45) rfl rfl rfl HO.out HR.out ?b1 HE.out.size ?_)
            case b1 => have := HSM.out; have := HN.out; simp; omega
            intro v10 w10 hown10 hg10
            have h010 : Ext w w10 := ngrown_ext HE.out HO.out hg10
            have HO10 := Lib.hid hown10
            have htl := htr
            clear hg10 hown10
            go_wp2
            go_roundg (2 * (pend (st' ++ [tr, tl])).length + (st' ++ [tr, tl]).length)
            case measure => rw [pend_two]; have := HN.out; simp; omega
            case rel =>
              refine ⟨j + 1, st' ++ [tr, tl], by go_num, rfl, by simpa using HO10.out, ?_, h010, ?_, Nat.le_refl _, ?_, ?_⟩
              · intro x hx
                rcases List.mem_append.1 hx with hx | hx
                · exact HST.out x hx
                · have := HTT.out
                  rcases List.mem_cons.1 hx with rfl | hx
                  · exact this.2.2
                  · obtain rfl := List.mem_singleton.1 hx
                    exact this.2.1
              · rw [HXO.out, HONE.out, pend_two, if_pos rfl]
                congr 1
                omega
              · rw [pend_two]; simp; omega
              · have := HN.out; simp; omega
        · rw [if_neg c0] at hone
          have HONE := Lib.hid hone
          have c1 : (tg != 0) = true := by simpa using c0
          clear hone c0
          go_wp2
          rw [Exit.noGoto_ret]
          go_ret2
          exact ⟨ret_two (by rw [HXO.out, HONE.out]; simp) (by rw [HXO.out, HONE.out]; simp), hE.trans h2⟩
end Go.Proofs.YtoiohjifjmejkaaGreat
namespace Go.Proofs.YtoiohjifjmejkaaGreat
open Go Go.RowKit

def wbMay (T : Tr) : Bool := mayOf wbOne T
set_option maxHeartbeats 400000 in
theorem wbMay_any (w : World) (T : Tr) (hT : InH w T) (hc : T.pre.length ≤ 4000) : Calls Tryz.prog 83 #[.pointer T.ptr] w (Ret (.bool (wbMay T)) w) := by
  go_enter Tryz.func83, Tryz.ntmps83
  go_wp2_with fail
  refine (wbCheck_any _ T hT hc).mono ?_
  rintro e w1 ⟨rfl, h1⟩
  go_wp2
  go_ret
  exact ⟨rfl, h1⟩
theorem pow_log (n k : Nat) (hn : n ≠ 0) : k ≤ Nat.log2 n ↔ (0 : Int) < (n : Int) / 2 ^ k := by
  rw [Nat.le_log2 hn]
  have e : ((2 : Int) ^ k) = ((2 ^ k : Nat) : Int) := by simp
  rw [e]
  have hp : 0 < 2 ^ k := Nat.two_pow_pos k
  constructor
  · intro h
    have := (Nat.le_div_iff_mul_le hp).2 (by omega : 1 * 2 ^ k ≤ n)
    omega
  · intro h
    have h2 : 0 < n / 2 ^ k := by
      have : ((n / 2 ^ k : Nat) : Int) = (n : Int) / ((2 ^ k : Nat) : Int) := Int.natCast_ediv n (2 ^ k)
      omega
    have := (Nat.le_div_iff_mul_le hp).1 h2
    omega
set_option maxHeartbeats 1000000 in
theorem wbRank_any (w : World) (T : Tr) (n : Nat) (hT : InH w T) (hn : wt T = n) (h1 : 1 ≤ n) (h2 : n ≤ 100000) : Calls Tryz.prog 84 #[.pointer T.ptr] w (Ret (.int .i64 (Nat.log2 n)) w) := by
  have HN := Lib.hid hn
  have HU := Lib.hid (show IntKind.u64.wrap (n : Int) = n by
    have : (2 : Int) ^ 64 = 18446744073709551616 := by decide
    simp only [IntKind.wrap, IntKind.bits, IntKind.signed, this]
    simp
    omega)
  clear hn
  go_enter Tryz.func84, Tryz.ntmps84
  go_wp2_with fail
  refine (wbWeight_any w T hT).mono ?_
  rw [HN.out]
  rintro e w1 ⟨rfl, h1⟩
  go_wp2_with fail
  go_loop [2, 8] (fun r i => ∃ k : Nat, k ≤ 63 ∧ i = .int .i64 k ∧ r = .int .i64 (min k (Nat.log2 n) : Nat)) (fun _ i => 63 - (intOf i).toNat)
  case atStart => exact ⟨0, Nat.zero_le _, rfl, rfl⟩
  case round =>
    obtain ⟨k, hk, rfl, rfl⟩ := hrel
    by_cases hlt : k < 63
    · have hk1 : 0 ≤ (k : Int) + 1 := by omega
      have hk2 : (k : Int) + 1 ≤ 64 := by omega
      have htn : ((k : Int) + 1).toNat = k + 1 := by omega
      have hpow := pow_log n (k + 1) (by omega)
      by_cases hq : k + 1 ≤ Nat.log2 n
      · have hd : (0 : Int) < (n : Int) / 2 ^ (k + 1) := hpow.1 hq
        have hmin := Lib.hid (show min (k + 1) (Nat.log2 n) = k + 1 by omega)
        clear hpow hq
        go_wp2
        go_round
        case rel => exact ⟨k + 1, by omega, by go_num, by rw [hmin.out]; go_num⟩
        case measure => simp [intOf]; omega
      · have hd : ¬ (0 : Int) < (n : Int) / 2 ^ (k + 1) := fun h => hq (hpow.2 h)
        have hmin := Lib.hid (show min (k + 1) (Nat.log2 n) = min k (Nat.log2 n) by omega)
        clear hpow hq
        go_wp2
        go_round
        case rel => exact ⟨k + 1, by omega, by go_num, by rw [hmin.out]⟩
        case measure => simp [intOf]; omega
    · have hl := Nat.log2_lt (n := n) (k := 63) (by omega)
      have hl2 := Lib.hid (show min k (Nat.log2 n) = Nat.log2 n by
        have := hl.2 (by omega)
        omega)
      clear hl
      go_wp2
      go_ret
      exact ⟨ret_int (by rw [hl2.out]), h1⟩
end Go.Proofs.YtoiohjifjmejkaaGreat
