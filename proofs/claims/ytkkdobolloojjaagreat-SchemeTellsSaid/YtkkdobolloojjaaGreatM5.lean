/- The package wb. wb.May, wb.Rank; joineryref18. joineryref18: Like, Check, May, Rank, Least. joinerylaw18.alive, light; the walks of WbTells, WbLikes, WbHigh, WbMakes. Weight-balanced trees; what becomes of a tree on whose outer side a lighter one hangs (plain, no program). wbjoin: its sides, make, once, twice. wbjoin: once, twice. wbjoin.hang. wbjoin.hang: the walk. The walk of joinerylaw18.WbMakes. wbjoin.Join, Most; joineryref19; joinerylaw19.long, alive; the walk of WbJoins. joinerylaw19.alive; joineryref19.Joined; the walk of WbJoins. Sets of nodes: maps whose keys are pointers. -/
import Derived.Test.YtkkdobolloojjaaGreatM4
import Derived.Deep.LoopGhost
import Derived.MapKept
import Derived.LaidEql
namespace Go.Proofs.YtkkdobolloojjaaGreat
open Go Go.RowKit

set_option maxHeartbeats 400000 in
theorem wbMake_any (w : World) (l r : Tr) (k v : Int) (hl : InH w l) (hr : InH w r) : Calls Tryz.prog 120 #[.pointer l.ptr, .int .i64 k, .int .i64 v, .pointer r.ptr] w (New l k v 0 r w) := by
  go_enter Tryz.func120, Tryz.ntmps120
  go_wp2_with fail
  refine (new_any w l r k v 0 hl hr).mono ?_
  rintro e w3 ⟨b, rfl, hb, ht, h3⟩
  go_wp2
  go_ret
  exact ⟨b, rfl, hb, ht, h3⟩
/-- a tree's weight. -/
def wt (t : Tr) : Int := wrap64 (t.size + 1)
set_option maxHeartbeats 400000 in
theorem wbWeight_any (w : World) (t : Tr) (ht : InH w t) : Calls Tryz.prog 121 #[.pointer t.ptr] w (Ret (.int .i64 (wt t)) w) := by
  go_enter Tryz.func121, Tryz.ntmps121
  go_wp2_with fail
  refine (size_any _ t ht).mono ?_
  rintro e w1 ⟨rfl, h1⟩
  go_wp2
  go_ret
  exact Ret.mk h1
def withinB (lo hi a b : Int) : Bool := decide (lo ≤ a) && decide (a ≤ hi) && decide (lo ≤ b) && decide (b ≤ hi)
set_option maxHeartbeats 1000000 in
theorem within_any (w : World) (lo hi a b : Int) (B : Nat) (c0 : w.cell? ⟨B, 0, none⟩ = some (.int .i64 a)) (c1 : w.cell? ⟨B, 1, none⟩ = some (.int .i64 b)) : Calls Tryz.prog 146 #[.int .i64 lo, .int .i64 hi, .slice (some ⟨B, 0, none⟩) 2 2] w (Ret (.bool (withinB lo hi a b)) w) := by
  obtain ⟨X, hX⟩ : ∃ X, X = withinB lo hi a b := ⟨_, rfl⟩
  rw [← hX]
  have HX := Lib.hid hX
  clear hX
  by_cases h1 : a < lo
  · go_enter Tryz.func146, Tryz.ntmps146
    go_wp2
    refine wp_loop_rounds 3 ?_
    rw [rounds_succ]
    go_wp2
    go_ret
    exact ⟨ret_bool (by rw [HX.out]; simp [withinB]; omega), Ext.refl _⟩
  · by_cases h2 : hi < a
    · go_enter Tryz.func146, Tryz.ntmps146
      go_wp2
      refine wp_loop_rounds 3 ?_
      rw [rounds_succ]
      go_wp2
      go_ret
      exact ⟨ret_bool (by rw [HX.out]; simp [withinB]; omega), Ext.refl _⟩
    · by_cases h3 : b < lo
      · go_enter Tryz.func146, Tryz.ntmps146
        go_wp2
        refine wp_loop_rounds 3 ?_
        rw [rounds_succ]
        go_wp2
        rw [rounds_succ]
        go_wp2
        go_ret
        exact ⟨ret_bool (by rw [HX.out]; simp [withinB]; omega), Ext.refl _⟩
      · by_cases h4 : hi < b
        · go_enter Tryz.func146, Tryz.ntmps146
          go_wp2
          refine wp_loop_rounds 3 ?_
          rw [rounds_succ]
          go_wp2
          rw [rounds_succ]
          go_wp2
          go_ret
          exact ⟨ret_bool (by rw [HX.out]; simp [withinB]; omega), Ext.refl _⟩
        · go_enter Tryz.func146, Tryz.ntmps146
          go_wp2
          refine wp_loop_rounds 3 ?_
          rw [rounds_succ]
          go_wp2
          rw [rounds_succ]
          go_wp2
          rw [rounds_succ]
          go_wp2
          go_ret
          exact ⟨ret_bool (by rw [HX.out]; simp [withinB]; omega), Ext.refl _⟩
/-- are two weights alike? -/
def likeB (a b : Int) : Bool := withinB 1 1099511627776 a b && decide (29 * (a + b) ≤ 100 * min a b)
/-- the same, as the code has it. -/
def likeR (m a b : Int) : Bool := withinB 1 m a b && decide (wrap64 (29 * wrap64 (a + b)) ≤ wrap64 (100 * min a b))
theorem likeR_eq (a b : Int) : likeR 1099511627776 a b = likeB a b := by
  unfold likeR likeB
  cases h : withinB 1 1099511627776 a b with
  | false => rfl
  | true =>
    simp only [withinB, Bool.and_eq_true, decide_eq_true_eq] at h
    rw [Bool.true_and, Bool.true_and]
    congr 1
    rw [show wrap64 (a + b) = a + b by unfold wrap64; omega, show wrap64 (29 * (a + b)) = 29 * (a + b) by unfold wrap64; omega, show wrap64 (100 * min a b) = 100 * min a b by unfold wrap64; omega]
set_option maxHeartbeats 1000000 in
theorem wbLike_any (w : World) (a b : Int) : Calls Tryz.prog 123 #[.int .i64 a, .int .i64 b] w (Ret (.bool (likeB a b)) w) := by
  obtain ⟨X, hX⟩ : ∃ X, X = likeB a b := ⟨_, rfl⟩
  rw [← hX]
  rw [← likeR_eq] at hX
  have HX := Lib.hid hX
  clear hX
  have hc0 := cell_of (alloc_at w (.cells #[.int .i64 a, .int .i64 b] 3) _ rfl) 0
  have hc1 := cell_of (alloc_at w (.cells #[.int .i64 a, .int .i64 b] 3) _ rfl) 1
  have H := Lib.hid (fun m => within_any (w.alloc (.cells #[.int .i64 a, .int .i64 b] 3)) 1 m a b w.heap.size hc0 hc1)
  have hE := (Ext.refl w).alloc (.cells #[.int .i64 a, .int .i64 b] 3)
  clear hc0 hc1
  go_enter Tryz.func123, Tryz.ntmps123
  go_wp2_with fail
  obtain ⟨M, hM⟩ : ∃ M : Int, M = 1099511627776 := ⟨_, rfl⟩
  rw [← hM] at HX ⊢
  clear hM
  refine (H.out M).mono ?_
  rintro e w1 ⟨rfl, h1⟩
  have h01 := hE.trans h1
  cases hw : withinB 1 M a b with
  | false =>
    have HW := Lib.hid hw
    clear hw
    go_wp2
    go_ret
    exact ⟨ret_bool (by rw [HX.out]; simp [likeR, HW.out]), h01⟩
  | true =>
    have HW := Lib.hid hw
    clear hw
    rcases Int.lt_or_le b a with hab | hab
    all_goals
      have HAB := Lib.hid hab
      go_wp2
      go_ret
      have := HAB.out
      exact ⟨ret_bool (by rw [HX.out]; simp only [likeR, HW.out, Bool.true_and]; congr 3; omega), h01⟩
/-- what is wrong with a node. -/
def wbOne (t : Tr) : Int := if t.tag = 0 then (if likeB (wt t.left) (wt t.right) then 0 else 8) else 140
/-- the state of Check's loop. -/
def ChkSt (w : World) (T : Tr) (X : Nat × Int) (g : Nat) (at_ e v : Value) (W : World) : Prop :=
  ∃ (j : Nat) (st : List Tr), at_ = .int .i64 j ∧ e = .int .i64 0 ∧ NOwn w.heap.size W v (st.map Tr.ptr) ∧ (∀ x ∈ st, InH w x) ∧ Ext w W ∧
    X = (j + (firstOf wbOne (pend st)).1, (firstOf wbOne (pend st)).2) ∧ 2 * (pend st).length + st.length ≤ g ∧ j + (pend st).length ≤ T.pre.length ∧ st.length ≤ j + 1
set_option maxHeartbeats 4000000 in
theorem wbCheck_any (w : World) (T : Tr) (hT : InH w T) (hc : T.pre.length ≤ 4000) :
    Calls Tryz.prog 101 #[.pointer T.ptr] w (Ret (.tuple #[.int .i64 (firstOf wbOne T.pre).1, .int .i64 (firstOf wbOne T.pre).2]) w) := by
  obtain ⟨X, hX⟩ : ∃ X, X = firstOf wbOne T.pre := ⟨_, rfl⟩
  rw [← hX]
  have HX := Lib.hid hX
  have HT := Lib.hid hT
  clear hX hT
  go_enter Tryz.func101, Tryz.ntmps101
  go_wp2_with fail
  go_step3
  go_wp2_with fail
  go_step3
  go_wp2_with fail
  go_loopg [2, 3, 4] (2 * T.pre.length + 1) (fun g a e v W => ChkSt w T X g a e v W)
  case atStart =>
    refine ⟨0, [T], rfl, rfl, ?_, ?_, (Ext.refl w).alloc _, ?_, ?_, ?_, ?_⟩
    · exact ⟨rfl, .inr ⟨w.heap.size, 1, _, rfl, Nat.le_refl _, alloc_at _ _ _ rfl, Nat.le_refl _, by decide, rfl, rfl⟩⟩
    · intro x hx
      obtain rfl : x = T := by simpa using hx
      exact HT.out
    · rw [HX.out]; simp [pend]
    · simp [pend]
    · simp [pend]
    · simp
  case round =>
    obtain ⟨j, st, rfl, rfl, hown, hst, hE, hx, hg, hj, hl⟩ := hrel
    rcases List.eq_nil_or_concat st with rfl | ⟨st', t, rfl⟩
    · obtain ⟨a, c, rfl⟩ := hown.slice
      rw [pend_nil] at hx
      have HXX := Lib.hid hx
      clear hx hg hj hl hown hst
      rw [List.map_nil, List.length_nil]
      go_wp2
      rw [Exit.noGoto_ret]
      go_ret2
      exact ⟨ret_two (by rw [HXX.out]; simp [firstOf]) (by rw [HXX.out]; rfl), hE⟩
    · rw [List.concat_eq_append] at *
      rw [List.map_append] at hown
      obtain ⟨gb, cap, rfl, hcap, hcell, hown'⟩ := NOwn.pop (x := t.ptr) hown
      rw [pend_snoc] at hx hg hj
      rw [List.length_append] at hg hj
      rw [List.length_append, List.length_singleton] at hg hl
      have ht := hst t (by simp)
      have hst' : ∀ x ∈ st', InH w x := fun x hx => hst x (by simp [hx])
      have HST := Lib.hid hst'
      have HOWN := Lib.hid hown'
      have HXX := Lib.hid hx
      clear hst hst' hown hown' hx
      rw [List.length_map] at HOWN hcap hcell ⊢
      have HSM := Lib.hid (show (st'.map Tr.ptr).length = st'.length from List.length_map _)
      generalize hN : st'.length = n at *
      have HN := Lib.hid hN
      clear hN
      cases t with
      | nil =>
        rw [Tr.ptr_nil] at hcell
        clear ht
        go_wp2
        go_roundg (2 * (pend st').length + n)
        case measure => omega
        case rel => exact ⟨j, st', rfl, rfl, HOWN.out, HST.out, hE, HXX.out, by have := HN.out; omega, by simp [Tr.pre] at hj; exact hj, by have := HN.out; omega⟩
      | node tb tl tk tv tg tr =>
        rw [Tr.ptr_node] at hcell
        have hpl : (Tr.node tb tl tk tv tg tr).pre.length = 1 + (tl.pre.length + tr.pre.length) := by simp [Tr.pre]; omega
        rw [hpl] at hg hj
        clear hpl
        have htr := ht.ext hE
        have hone : wbOne (.node tb tl tk tv tg tr) = if tg = 0 then (if likeB (wt tl) (wt tr) then 0 else 8) else 140 := rfl
        have HXO : Hid (X = if wbOne (.node tb tl tk tv tg tr) = 0 then (j + ((firstOf wbOne (tl.pre ++ (tr.pre ++ pend st'))).1 + 1), (firstOf wbOne (tl.pre ++ (tr.pre ++ pend st'))).2) else (j + 0, wbOne (.node tb tl tk tv tg tr))) := Lib.hid (by
          have := HXX.out
          rw [Tr.pre, List.cons_append, firstOf_cons, List.append_assoc] at this
          rw [this]
          split <;> rfl)
        have HTT := Lib.hid ht
        clear ht HXX
        go_wp2_with fail
        refine (tag_any wr _ htr).mono ?_
        rw [Tr.tag_node]
        rintro e w2 ⟨rfl, h2⟩
        by_cases c0 : tg = 0
        · rw [if_pos c0] at hone
          subst c0
          cases cl : likeB (wt tl) (wt tr) with
          | false =>
            rw [cl] at hone
            have HONE := Lib.hid (show wbOne (.node tb tl tk tv 0 tr) = 8 from hone)
            have CL := Lib.hid cl
            clear hone cl
            go_wp2_with fail
            refine (left_any w2 (.node tb tl tk tv 0 tr) (htr.ext h2)).mono ?_
            rw [Tr.left_node]
            rintro e w3 ⟨rfl, h3⟩
            go_wp2_with fail
            have h23 := h2.trans h3
            refine (wbWeight_any w3 tl (left_ok (htr.ext h23))).mono ?_
            rintro e w4 ⟨rfl, h4⟩
            go_wp2_with fail
            have h24 := h23.trans h4
            refine (right_any w4 (.node tb tl tk tv 0 tr) (htr.ext h24)).mono ?_
            rw [Tr.right_node]
            rintro e w5 ⟨rfl, h5⟩
            go_wp2_with fail
            have h25 := h24.trans h5
            refine (wbWeight_any w5 tr (right_ok (htr.ext h25))).mono ?_
            rintro e w6 ⟨rfl, h6⟩
            have h26 := h25.trans h6
            clear h2 h3 h23 h4 h24 h5 h25 h6
            go_wp2_with fail
            refine (wbLike_any w6 (wt tl) (wt tr)).mono ?_
            rw [CL.out]
            rintro e w7 ⟨rfl, h7⟩
            go_wp2
            rw [Exit.noGoto_ret]
            go_ret2
            exact ⟨ret_two (by rw [HXO.out, HONE.out]; simp) (by rw [HXO.out, HONE.out]; simp), hE.trans (h26.trans h7)⟩
          | true =>
            rw [cl] at hone
            have HONE := Lib.hid (show wbOne (.node tb tl tk tv 0 tr) = 0 from hone)
            have CL := Lib.hid cl
            clear hone cl
            go_wp2_with fail
            refine (left_any w2 (.node tb tl tk tv 0 tr) (htr.ext h2)).mono ?_
            rw [Tr.left_node]
            rintro e w3 ⟨rfl, h3⟩
            go_wp2_with fail
            have h23 := h2.trans h3
            refine (wbWeight_any w3 tl (left_ok (htr.ext h23))).mono ?_
            rintro e w4 ⟨rfl, h4⟩
            go_wp2_with fail
            have h24 := h23.trans h4
            refine (right_any w4 (.node tb tl tk tv 0 tr) (htr.ext h24)).mono ?_
            rw [Tr.right_node]
            rintro e w5 ⟨rfl, h5⟩
            go_wp2_with fail
            have h25 := h24.trans h5
            refine (wbWeight_any w5 tr (right_ok (htr.ext h25))).mono ?_
            rintro e w6 ⟨rfl, h6⟩
            have h26 := h25.trans h6
            clear h2 h3 h23 h4 h24 h5 h25 h6
            go_wp2_with fail
            refine (wbLike_any w6 (wt tl) (wt tr)).mono ?_
            rw [CL.out]
            rintro e w7 ⟨rfl, h7⟩
            go_wp2_with fail
            have h27 := h26.trans h7
            refine (right_any w7 (.node tb tl tk tv 0 tr) (htr.ext h27)).mono ?_
            rw [Tr.right_node]
            rintro e w8 ⟨rfl, h8⟩
            go_wp2_with fail
            have h28 := h27.trans h8
            refine (left_any w8 (.node tb tl tk tv 0 tr) (htr.ext h28)).mono ?_
            rw [Tr.left_node]
            rintro e w9 ⟨rfl, h9⟩
            have h29 := h28.trans h9
            have hA := (Ext.refl w9).alloc (.cells #[.pointer tr.ptr, .pointer tl.ptr] 28)
            have hR : (w9.alloc (.cells #[.pointer tr.ptr, .pointer tl.ptr] 28)).rangeAt w9.heap.size 0 ([tr.ptr, tl.ptr].map Value.pointer) := fun q u hq => by
              rw [Nat.zero_add, cell_of (alloc_at w9 (.cells #[.pointer tr.ptr, .pointer tl.ptr] 28) _ rfl) q]
              simpa using hq
            have HR := Lib.hid hR
            have hE9 := hE.trans h29
            have HO := Lib.hid ((HOWN.out.ext h29).ext hA)
            have HE := Lib.hid (hE9.trans hA)
            clear h26 h7 h27 h8 h28 h9 h29 hA hR hE9
            go_wp2_with (at_builtin; refine wpList_append_nodes (B := w.heap.size) (xs := st'.map Tr.ptr) (ys := [tr.ptr, tl.ptr]) rfl (.tmp 40) (.tmp 45) rfl rfl rfl HO.out HR.out ?b1 HE.out.size ?_)
            case b1 => have := HSM.out; have := HN.out; simp; omega
            intro v10 w10 hown10 hg10
            have h010 : Ext w w10 := ngrown_ext HE.out HO.out hg10
            have HO10 := Lib.hid hown10
            have htl := htr
            clear hg10 hown10
            go_wp2
            go_roundg (2 * (pend (st' ++ [tr, tl])).length + (st' ++ [tr, tl]).length)
            case measure => rw [pend_two]; have := HN.out; simp; omega
            case rel =>
              refine ⟨j + 1, st' ++ [tr, tl], by go_num, rfl, by simpa using HO10.out, ?_, h010, ?_, Nat.le_refl _, ?_, ?_⟩
              · intro x hx
                rcases List.mem_append.1 hx with hx | hx
                · exact HST.out x hx
                · have := HTT.out
                  rcases List.mem_cons.1 hx with rfl | hx
                  · exact this.2.2
                  · obtain rfl := List.mem_singleton.1 hx
                    exact this.2.1
              · rw [HXO.out, HONE.out, pend_two, if_pos rfl]
                congr 1
                omega
              · rw [pend_two]; simp; omega
              · have := HN.out; simp; omega
        · rw [if_neg c0] at hone
          have HONE := Lib.hid hone
          have c1 : (tg != 0) = true := by simpa using c0
          clear hone c0
          go_wp2
          rw [Exit.noGoto_ret]
          go_ret2
          exact ⟨ret_two (by rw [HXO.out, HONE.out]; simp) (by rw [HXO.out, HONE.out]; simp), hE.trans h2⟩
end Go.Proofs.YtkkdobolloojjaaGreat
namespace Go.Proofs.YtkkdobolloojjaaGreat
open Go Go.RowKit

def wbMay (T : Tr) : Bool := mayOf wbOne T
set_option maxHeartbeats 400000 in
theorem wbMay_any (w : World) (T : Tr) (hT : InH w T) (hc : T.pre.length ≤ 4000) : Calls Tryz.prog 102 #[.pointer T.ptr] w (Ret (.bool (wbMay T)) w) := by
  go_enter Tryz.func102, Tryz.ntmps102
  go_wp2_with fail
  refine (wbCheck_any _ T hT hc).mono ?_
  rintro e w1 ⟨rfl, h1⟩
  go_wp2
  go_ret
  exact ⟨rfl, h1⟩
theorem pow_log (n k : Nat) (hn : n ≠ 0) : k ≤ Nat.log2 n ↔ (0 : Int) < (n : Int) / 2 ^ k := by
  rw [Nat.le_log2 hn]
  have e : ((2 : Int) ^ k) = ((2 ^ k : Nat) : Int) := by simp
  rw [e]
  have hp : 0 < 2 ^ k := Nat.two_pow_pos k
  constructor
  · intro h
    have := (Nat.le_div_iff_mul_le hp).2 (by omega : 1 * 2 ^ k ≤ n)
    omega
  · intro h
    have h2 : 0 < n / 2 ^ k := by
      have : ((n / 2 ^ k : Nat) : Int) = (n : Int) / ((2 ^ k : Nat) : Int) := Int.natCast_ediv n (2 ^ k)
      omega
    have := (Nat.le_div_iff_mul_le hp).1 h2
    omega
set_option maxHeartbeats 1000000 in
theorem wbRank_any (w : World) (T : Tr) (n : Nat) (hT : InH w T) (hn : wt T = n) (h1 : 1 ≤ n) (h2 : n ≤ 100000) : Calls Tryz.prog 103 #[.pointer T.ptr] w (Ret (.int .i64 (Nat.log2 n)) w) := by
  have HN := Lib.hid hn
  have HU := Lib.hid (show IntKind.u64.wrap (n : Int) = n by
    have : (2 : Int) ^ 64 = 18446744073709551616 := by decide
    simp only [IntKind.wrap, IntKind.bits, IntKind.signed, this]
    simp
    omega)
  clear hn
  go_enter Tryz.func103, Tryz.ntmps103
  go_wp2_with fail
  refine (wbWeight_any w T hT).mono ?_
  rw [HN.out]
  rintro e w1 ⟨rfl, h1⟩
  go_wp2_with fail
  go_loop [2, 8] (fun r i => ∃ k : Nat, k ≤ 63 ∧ i = .int .i64 k ∧ r = .int .i64 (min k (Nat.log2 n) : Nat)) (fun _ i => 63 - (intOf i).toNat)
  case atStart => exact ⟨0, Nat.zero_le _, rfl, rfl⟩
  case round =>
    obtain ⟨k, hk, rfl, rfl⟩ := hrel
    by_cases hlt : k < 63
    · have hk1 : 0 ≤ (k : Int) + 1 := by omega
      have hk2 : (k : Int) + 1 ≤ 64 := by omega
      have htn : ((k : Int) + 1).toNat = k + 1 := by omega
      have hpow := pow_log n (k + 1) (by omega)
      by_cases hq : k + 1 ≤ Nat.log2 n
      · have hd : (0 : Int) < (n : Int) / 2 ^ (k + 1) := hpow.1 hq
        have hmin := Lib.hid (show min (k + 1) (Nat.log2 n) = k + 1 by omega)
        clear hpow hq
        go_wp2
        go_round
        case rel => exact ⟨k + 1, by omega, by go_num, by rw [hmin.out]; go_num⟩
        case measure => simp [intOf]; omega
      · have hd : ¬ (0 : Int) < (n : Int) / 2 ^ (k + 1) := fun h => hq (hpow.2 h)
        have hmin := Lib.hid (show min (k + 1) (Nat.log2 n) = min k (Nat.log2 n) by omega)
        clear hpow hq
        go_wp2
        go_round
        case rel => exact ⟨k + 1, by omega, by go_num, by rw [hmin.out]⟩
        case measure => simp [intOf]; omega
    · have hl := Nat.log2_lt (n := n) (k := 63) (by omega)
      have hl2 := Lib.hid (show min k (Nat.log2 n) = Nat.log2 n by
        have := hl.2 (by omega)
        omega)
      clear hl
      go_wp2
      go_ret
      exact ⟨ret_int (by rw [hl2.out]), h1⟩
end Go.Proofs.YtkkdobolloojjaaGreat
namespace Go.Proofs.YtkkdobolloojjaaGreat
open Go Go.RowKit

/-- the same, as the document's code has it. -/
def likeD (m a b : Int) : Bool := withinB 1 m a b && (decide (wrap64 (29 * wrap64 (a + b)) ≤ wrap64 (100 * a)) && decide (wrap64 (29 * wrap64 (a + b)) ≤ wrap64 (100 * b)))
theorem likeD_eq (a b : Int) : likeD 1099511627776 a b = likeB a b := by
  unfold likeD likeB
  cases h : withinB 1 1099511627776 a b with
  | false => rfl
  | true =>
    simp only [withinB, Bool.and_eq_true, decide_eq_true_eq] at h
    rw [Bool.true_and, Bool.true_and]
    rw [show wrap64 (a + b) = a + b by unfold wrap64; omega, show wrap64 (29 * (a + b)) = 29 * (a + b) by unfold wrap64; omega, show wrap64 (100 * a) = 100 * a by unfold wrap64; omega, show wrap64 (100 * b) = 100 * b by unfold wrap64; omega]
    rw [Bool.eq_iff_iff]
    simp only [Bool.and_eq_true, decide_eq_true_eq]
    omega
set_option maxHeartbeats 1000000 in
theorem like18_any (w : World) (a b : Int) : Calls Tryz.prog 81 #[.int .i64 a, .int .i64 b] w (Ret (.bool (likeB a b)) w) := by
  obtain ⟨X, hX⟩ : ∃ X, X = likeB a b := ⟨_, rfl⟩
  rw [← hX]
  rw [← likeD_eq] at hX
  obtain ⟨M, hM⟩ : ∃ M : Int, M = 1099511627776 := ⟨_, rfl⟩
  rw [← hM] at hX
  have HX := Lib.hid hX
  clear hX
  by_cases h1 : a < 1
  · go_enter Tryz.func81, Tryz.ntmps81
    rw [← hM]
    clear hM
    go_wp2
    all_goals
      go_ret
      exact ⟨ret_bool (by rw [HX.out]; simp [likeD, withinB] <;> omega), Ext.refl _⟩
  · by_cases h2 : b < 1
    · go_enter Tryz.func81, Tryz.ntmps81
      rw [← hM]
      clear hM
      go_wp2
      all_goals
        go_ret
        exact ⟨ret_bool (by rw [HX.out]; simp [likeD, withinB] <;> omega), Ext.refl _⟩
    · by_cases h3 : M < a
      · go_enter Tryz.func81, Tryz.ntmps81
        rw [← hM]
        clear hM
        go_wp2
        all_goals
          go_ret
          exact ⟨ret_bool (by rw [HX.out]; simp [likeD, withinB] <;> omega), Ext.refl _⟩
      · by_cases h4 : M < b
        · go_enter Tryz.func81, Tryz.ntmps81
          rw [← hM]
          clear hM
          go_wp2
          all_goals
            go_ret
            exact ⟨ret_bool (by rw [HX.out]; simp [likeD, withinB] <;> omega), Ext.refl _⟩
        · by_cases h5 : wrap64 (29 * wrap64 (a + b)) ≤ wrap64 (100 * a)
          · have H := Lib.hid (And.intro (show withinB 1 M a b = true by simp [withinB]; omega) h5)
            go_enter Tryz.func81, Tryz.ntmps81
            rw [← hM]
            clear hM
            go_wp2
            all_goals
              go_ret
              exact ⟨ret_bool (by rw [HX.out]; simp only [likeD, H.out.1, H.out.2, decide_true, Bool.true_and]), Ext.refl _⟩
          · have H := Lib.hid (And.intro (show withinB 1 M a b = true by simp [withinB]; omega) h5)
            go_enter Tryz.func81, Tryz.ntmps81
            rw [← hM]
            clear hM
            go_wp2
            all_goals
              go_ret
              exact ⟨ret_bool (by rw [HX.out]; have q := H.out.2; simp only [likeD, H.out.1, Bool.true_and]; rw [decide_eq_false (p := wrap64 (29 * wrap64 (a + b)) ≤ wrap64 (100 * a)) (by omega)]; rfl), Ext.refl _⟩
theorem fits_wt {t : BT} {T : Tr} (h : t.fits T) (hl : t.enc.length ≤ 100000) : wt T = t.enc.length + 1 := by
  unfold wt
  rw [(fits_sum h).2]
  unfold wrap64
  omega
set_option maxHeartbeats 1000000 in
theorem check18_any (t : BT) : ∀ (T : Tr) (w : World) (p : Value), t.fits T → Beads w p t.enc → t.enc.length ≤ 2000 →
    Calls Tryz.prog 58 #[p] w (Ret (.tuple #[.int .i64 (firstOf wbOne T.pre).1, .int .i64 (firstOf wbOne T.pre).2]) w) := by
  induction t with
  | nil =>
    intro T w p hf hb hl
    obtain ⟨a, c, rfl⟩ := beads_slice hb
    have e : T = .nil := by cases T with | nil => rfl | node => exact hf.elim
    subst e
    rw [show BT.nil.enc.length = 0 from rfl, show firstOf wbOne Tr.nil.pre = (0, 0) from rfl]
    clear hb hl hf
    go_enter Tryz.func58, Tryz.ntmps58
    go_wp2
    go_ret2
    exact ⟨rfl, Ext.refl _⟩
  | node k v s n g l r ihl ihr =>
    intro T w p hf hb hl
    cases T with
    | nil => exact hf.elim
    | node tb tl tk tv tg tr =>
    obtain ⟨-, -, hg, hfl, hfr⟩ := hf
    subst hg
    have hp := fun (w : World) (hb : Beads w p _) => parts_any w p k v s n g l r hb hl
    have hlen : (BT.node k v s n g l r).enc.length = 1 + l.enc.length + r.enc.length := by simp [BT.enc]; omega
    have hll : l.enc.length ≤ 2000 := by omega
    have hlr : r.enc.length ≤ 2000 := by omega
    have hwl := fits_wt hfl (by omega)
    have hwr := fits_wt hfr (by omega)
    have hcl : (firstOf wbOne tl.pre).1 ≤ l.enc.length := by rw [← BT.fits_len hfl]; exact firstOf_le _
    have hcr : (firstOf wbOne tr.pre).1 ≤ r.enc.length := by rw [← BT.fits_len hfr]; exact firstOf_le _
    have hA : firstOf wbOne (Tr.node tb tl tk tv g tr).pre = if wbOne (Tr.node tb tl tk tv g tr) = 0 then (if (firstOf wbOne tl.pre).2 = 0 then (tl.pre.length + (firstOf wbOne tr.pre).1 + 1, (firstOf wbOne tr.pre).2) else ((firstOf wbOne tl.pre).1 + 1, (firstOf wbOne tl.pre).2)) else (0, wbOne (Tr.node tb tl tk tv g tr)) := by
      rw [Tr.pre, firstOf_cons, firstOf_append]
      split
      · split <;> rfl
      · rfl
    have hone : wbOne (.node tb tl tk tv g tr) = if g = 0 then (if likeB (l.enc.length + 1) (r.enc.length + 1) then 0 else 8) else 140 := by
      rw [← hwl, ← hwr]; rfl
    have hnone : (firstOf wbOne tl.pre).2 = 0 → (firstOf wbOne tl.pre).1 = tl.pre.length := fun h => (firstOf_none h).1
    have HP := Lib.hid (hp w hb)
    obtain ⟨a, c, rfl⟩ := beads_slice hb
    have IHl := Lib.hid (fun W v (hv : Beads W v l.enc) => ihl tl W v hfl hv hll)
    have IHr := Lib.hid (fun W v (hv : Beads W v r.enc) => ihr tr W v hfr hv hlr)
    have h1 : 1 ≤ (BT.node k v s n g l r).enc.length := by omega
    obtain ⟨A, eA⟩ : ∃ A, A = firstOf wbOne (Tr.node tb tl tk tv g tr).pre := ⟨_, rfl⟩
    rw [← eA] at hA ⊢
    generalize wbOne (Tr.node tb tl tk tv g tr) = ONE at *
    generalize firstOf wbOne tl.pre = L at *
    generalize firstOf wbOne tr.pre = R at *
    obtain ⟨Ln, Le⟩ := L
    obtain ⟨Rn, Re⟩ := R
    simp only at hnone hcl hcr hA
    have hLn : Ln ≤ 2000 := by omega
    have hRn : Rn ≤ 2000 := by omega
    have HA := Lib.hid hA
    have HNONE := Lib.hid hnone
    clear hA hnone eA hp ihl ihr hb hl hwl hwr hcl hcr hlen hfl hfr
    generalize (BT.node k v s n g l r).enc.length = LL at *
    by_cases hg0 : g = 0
    · rw [if_pos hg0] at hone
      subst hg0
      cases cl : likeB (l.enc.length + 1) (r.enc.length + 1) with
      | false =>
        rw [cl] at hone
        have HONE := Lib.hid (show ONE = 8 from hone)
        have CL := Lib.hid cl
        clear hone cl
        go_enter Tryz.func58, Tryz.ntmps58
        go_wp2_with fail
        refine (HP.out).mono ?_
        rintro e w1 ⟨v1, v2, rfl, hv1, hv2, hS⟩
        have h01 := hS.trans ((Ext.refl w1).alloc (.cells #[.int .i64 k, .int .i64 v, .int .i64 s, .int .i64 n, .int .u64 0, .bool (!l.isNil), .bool (!r.isNil)] 96))
        obtain ⟨a1, c1, rfl⟩ := beads_slice hv1
        obtain ⟨a2, c2, rfl⟩ := beads_slice hv2
        clear hv1 hv2 hS
        go_wp2_with fail
        refine (like18_any _ _ _).mono ?_
        rw [CL.out]
        rintro e w2 ⟨rfl, hS⟩
        go_wp2
        go_ret2
        exact ⟨ret_two (by rw [HA.out, HONE.out]; rfl) (by rw [HA.out, HONE.out]; rfl), h01.trans hS⟩
      | true =>
        rw [cl] at hone
        have HONE := Lib.hid (show ONE = 0 from hone)
        have CL := Lib.hid cl
        clear hone cl
        go_enter Tryz.func58, Tryz.ntmps58
        go_wp2_with fail
        refine (HP.out).mono ?_
        rintro e w1 ⟨v1, v2, rfl, hv1, hv2, hS⟩
        have hE2 := (Ext.refl w1).alloc (.cells #[.int .i64 k, .int .i64 v, .int .i64 s, .int .i64 n, .int .u64 0, .bool (!l.isNil), .bool (!r.isNil)] 96)
        have hx := hS.trans hE2
        replace hv1 := hv1.ext hE2
        replace hv2 := hv2.ext hE2
        clear hS hE2
        have s1 := beads_slice hv1
        have s2 := beads_slice hv2
        have HV1 := Lib.hid hv1
        have HV2 := Lib.hid hv2
        clear hv1 hv2
        obtain ⟨a1, c1, rfl⟩ := s1
        obtain ⟨a2, c2, rfl⟩ := s2
        go_wp2_with fail
        refine (like18_any _ _ _).mono ?_
        rw [CL.out]
        rintro e w2 ⟨rfl, h2⟩
        go_wp2_with fail
        refine (IHl.out w2 _ (HV1.out.ext h2)).mono ?_
        rintro e w3 ⟨rfl, h3⟩
        have h23 := h2.trans h3
        by_cases c3 : Le = 0
        · subst c3
          go_wp2_with fail
          refine (IHr.out w3 _ (HV2.out.ext h23)).mono ?_
          rintro e w4 ⟨rfl, h4⟩
          have hEE := hx.trans (h23.trans h4)
          clear hx h2 h3 h23 h4
          go_wp2
          go_ret2
          exact ⟨ret_two (by rw [HA.out, HONE.out]; have h9 := HNONE.out trivial; simp; omega) (by rw [HA.out, HONE.out]; rfl), hEE⟩
        · have c3' := bne_iff_ne.2 c3
          have hEE := hx.trans h23
          clear hx h2 h3 h23
          go_wp2
          go_ret2
          exact ⟨ret_two (by rw [HA.out, HONE.out]; simp [c3]; omega) (by rw [HA.out, HONE.out]; simp [c3]), hEE⟩
    · rw [if_neg hg0] at hone
      have HONE := Lib.hid hone
      have hg1 : (g != 0) = true := by simpa using hg0
      clear hone hg0
      go_enter Tryz.func58, Tryz.ntmps58
      go_wp2_with fail
      refine (HP.out).mono ?_
      rintro e w1 ⟨v1, v2, rfl, hv1, hv2, hS⟩
      have hEE := hS.trans ((Ext.refl w1).alloc (.cells #[.int .i64 k, .int .i64 v, .int .i64 s, .int .i64 n, .int .u64 g, .bool (!l.isNil), .bool (!r.isNil)] 96))
      clear hv1 hv2 hS
      go_wp2
      go_ret2
      exact ⟨ret_two (by rw [HA.out, HONE.out]; rfl) (by rw [HA.out, HONE.out]; rfl), hEE⟩
set_option maxHeartbeats 400000 in
theorem rank18_any (n : Nat) (w : World) (hn : n ≤ 1000000) : Calls Tryz.prog 63 #[.int .i64 n] w (Ret (.int .i64 (Nat.log2 (n + 1))) w) := by
  go_enter Tryz.func63, Tryz.ntmps63
  go_wp2
  go_loop [3, 4] (fun k w => ∃ j q : Nat, 1 ≤ q ∧ q ≤ 1000001 ∧ Nat.log2 (n + 1) = j + Nat.log2 q ∧ j ≤ 100 ∧ k = .int .i64 j ∧ w = .int .i64 q) (fun _ w => (intOf w).toNat)
  case atStart => exact ⟨0, n + 1, by omega, by omega, by omega, by omega, rfl, by go_num⟩
  case round =>
    obtain ⟨j, q, h1, h2, hl, hj, rfl, rfl⟩ := hrel
    have HL := Lib.hid hl
    clear hl
    by_cases hq : 1 < q
    · have HQ := Lib.hid (show Nat.log2 q = Nat.log2 (q / 2) + 1 by rw [Nat.log2_def q, if_pos (by omega)])
      have hlog : j + 1 ≤ 100 := by
        have h3 := Nat.log2_lt (n := n + 1) (k := 20) (by omega)
        have h4 := h3.2 (by omega)
        have := HL.out
        have := HQ.out
        omega
      go_wp2
      go_round
      case rel => exact ⟨j + 1, q / 2, by omega, by omega, by rw [HL.out, HQ.out]; omega, hlog, by go_num, by go_num⟩
      case measure => simp [intOf]; omega
    · have hq1 : q = 1 := by omega
      have HQ1 := Lib.hid hq1
      clear hq1
      go_wp2
      go_ret
      exact ⟨ret_int (by rw [HL.out, HQ1.out, show Nat.log2 1 = 0 by decide +kernel]; omega), Ext.refl _⟩
def wLeast : Nat → Nat
  | 0 => 1
  | h + 1 => (100 * wLeast h + 70) / 71
theorem wLeast_step (h : Nat) : wLeast h ≤ wLeast (h + 1) := by rw [wLeast]; omega
theorem wLeast_mono {a b : Nat} (h : a ≤ b) : wLeast a ≤ wLeast b := by
  induction b with
  | zero => obtain rfl : a = 0 := by omega
            exact Nat.le_refl _
  | succ b ih =>
    rcases Nat.lt_or_ge a (b + 1) with h1 | h1
    · exact Nat.le_trans (ih (by omega)) (wLeast_step b)
    · obtain rfl : a = b + 1 := by omega
      exact Nat.le_refl _
theorem least_div (x : Nat) (h : x ≤ 4000000000) : wrap64 ((100 * (x : Int) + 70).tdiv 71) = ((100 * x + 70) / 71 : Nat) := by
  rw [Int.tdiv_eq_ediv_of_nonneg (by omega)]
  have e : (((100 * x + 70) / 71 : Nat) : Int) = (100 * (x : Int) + 70) / 71 := by omega
  rw [← e]
  have h2 : (100 * x + 70) / 71 ≤ 6000000000 := by omega
  generalize (100 * x + 70) / 71 = y at *
  unfold wrap64
  omega
end Go.Proofs.YtkkdobolloojjaaGreat
namespace Go.Proofs.YtkkdobolloojjaaGreat
open Go Go.RowKit

theorem like_sym (a b : Int) : likeB a b = likeB b a := by
  unfold likeB withinB
  rw [Int.add_comm b a, Int.min_comm b a]
  congr 1
  rw [Bool.eq_iff_iff]
  simp only [Bool.and_eq_true, decide_eq_true_eq]
  constructor <;> rintro ⟨⟨⟨h1, h2⟩, h3⟩, h4⟩ <;> exact ⟨⟨⟨h3, h4⟩, h1⟩, h2⟩
theorem like_self (a : Int) : likeB a a = (decide (1 ≤ a) && decide (a ≤ 1099511627776)) := by
  unfold likeB withinB
  rw [Bool.eq_iff_iff]
  simp only [Bool.and_eq_true, decide_eq_true_eq]
  omega
/-- the arithmetic of what may be by weights. -/
theorem wbMay_node (b : Nat) (l : Tr) (k v g : Int) (r : Tr) : wbMay (.node b l k v g r) = (wbOne (.node b l k v g r) == 0 && wbMay l && wbMay r) := mayOf_node b l k v g r
theorem wt_count (T : Tr) (h : T.count ≤ 100000) : wt T = ((T.count + 1 : Nat) : Int) := by
  unfold wt
  rw [Tr.size_count]
  unfold wrap64
  omega
theorem wb_sides {b : Nat} {l r : Tr} {k v g : Int} (h : wbMay (.node b l k v g r) = true) : g = 0 ∧ likeB (wt l) (wt r) = true ∧ wbMay l = true ∧ wbMay r = true := by
  rw [wbMay_node] at h
  simp only [Bool.and_eq_true, beq_iff_eq] at h
  obtain ⟨⟨h1, h2⟩, h3⟩ := h
  have e : wbOne (.node b l k v g r) = if g = 0 then (if likeB (wt l) (wt r) then 0 else 8) else 140 := rfl
  rw [e] at h1
  split at h1
  · rename_i hg
    split at h1
    · rename_i hl; exact ⟨hg, hl, h2, h3⟩
    · cases h1
  · cases h1
theorem like_arith {a b : Nat} (h : likeB (a : Int) (b : Int) = true) : 29 * (a + b) ≤ 100 * a ∧ 29 * (a + b) ≤ 100 * b := by
  unfold likeB at h
  simp only [Bool.and_eq_true, decide_eq_true_eq] at h
  omega
theorem wb_least : ∀ T : Tr, wbMay T = true → T.count ≤ 100000 → wLeast T.ht ≤ T.count + 1
  | .nil, _, _ => by simp [Tr.ht, wLeast]
  | .node b l k v g r, h, hc => by
    obtain ⟨-, h1, h2, h3⟩ := wb_sides h
    rw [Tr.count_node] at hc ⊢
    rw [wt_count l (by omega), wt_count r (by omega)] at h1
    have h4 := like_arith h1
    have l1 := wb_least l h2 (by omega)
    have r1 := wb_least r h3 (by omega)
    rw [Tr.ht, Nat.add_comm 1, wLeast]
    rcases Nat.le_total l.ht r.ht with hh | hh
    · rw [Nat.max_eq_right hh]; omega
    · rw [Nat.max_eq_left hh]; omega
theorem ret_ib {a c : Int} {b : Bool} (h : a = c) : Ending.returned (.tuple #[.int .i64 a, .bool b]) = .returned (.tuple #[.int .i64 c, .bool b]) := by rw [h]
end Go.Proofs.YtkkdobolloojjaaGreat
namespace Go.Proofs.YtkkdobolloojjaaGreat
open Go Go.RowKit

/-- two weights are alike. -/
def lk (a b : Nat) : Prop := 29 * (a + b) ≤ 100 * a ∧ 29 * (a + b) ≤ 100 * b
theorem likeB_lk {a b : Nat} (ha : 1 ≤ a) (hb : 1 ≤ b) (ha' : a ≤ 1000000) (hb' : b ≤ 1000000) : likeB (a : Int) (b : Int) = true ↔ lk a b := by
  unfold likeB withinB lk
  simp only [Bool.and_eq_true, decide_eq_true_eq]
  omega
theorem likeB_not {a b : Nat} (ha : 1 ≤ a) (hb : 1 ≤ b) (ha' : a ≤ 1000000) (hb' : b ≤ 1000000) (h : ¬ lk a b) : likeB (a : Int) (b : Int) = false := by
  cases hl : likeB (a : Int) (b : Int) with
  | false => rfl
  | true => exact (h ((likeB_lk ha hb ha' hb').1 hl)).elim
/-- a tree in balance by weights. -/
def WbH : Tr → Prop
  | .nil => True
  | .node _ l _ _ g r => g = 0 ∧ WbH l ∧ WbH r ∧ lk (l.count + 1) (r.count + 1)
theorem WbH.may : ∀ {T : Tr}, WbH T → T.count ≤ 100000 → wbMay T = true
  | .nil, _, _ => rfl
  | .node b l k v g r, ⟨hg, hl, hr, hk⟩, hc => by
    rw [Tr.count_node] at hc
    rw [wbMay_node, WbH.may hl (by omega), WbH.may hr (by omega)]
    have e : wbOne (.node b l k v g r) = if g = 0 then (if likeB (wt l) (wt r) then 0 else 8) else 140 := rfl
    rw [e, if_pos hg, wt_count l (by omega), wt_count r (by omega), if_pos ((likeB_lk (by omega) (by omega) (by omega) (by omega)).2 hk)]
    rfl
theorem WbH.of_may : ∀ {T : Tr}, wbMay T = true → T.count ≤ 100000 → WbH T
  | .nil, _, _ => trivial
  | .node b l k v g r, hm, hc => by
    obtain ⟨h0, h1, h2, h3⟩ := wb_sides hm
    rw [Tr.count_node] at hc
    rw [wt_count l (by omega), wt_count r (by omega)] at h1
    exact ⟨h0, WbH.of_may h2 (by omega), WbH.of_may h3 (by omega), (likeB_lk (by omega) (by omega) (by omega) (by omega)).1 h1⟩
theorem lk_comm {a b : Nat} (h : lk a b) : lk b a := ⟨by have := h.2; omega, by have := h.1; omega⟩
section
variable {s : Bool} {b : Nat} {i o : Tr} {k v g : Int}
theorem mk_wb : WbH (mkN s b i k v g o) ↔ g = 0 ∧ WbH i ∧ WbH o ∧ lk (i.count + 1) (o.count + 1) := by
  cases s
  · exact ⟨fun ⟨h0, h1, h2, h3⟩ => ⟨h0, h2, h1, lk_comm h3⟩, fun ⟨h0, h1, h2, h3⟩ => ⟨h0, h2, h1, lk_comm h3⟩⟩
  · exact Iff.rfl
end
/-- so many levels down. -/
def Lev (k L W : Nat) : Prop := k = 0 ∨ 71 * (L * 100 ^ (k - 1)) < 29 * (W * 71 ^ (k - 1))
theorem lev_up {k L W o : Nat} (h : Lev k L o) (ho : 100 * o ≤ 71 * W) (hL : 71 * L < 29 * W) : Lev (k + 1) L W := by
  right
  rw [Nat.add_sub_cancel]
  rcases h with rfl | h
  · simpa using hL
  · rcases Nat.eq_zero_or_pos k with rfl | hk
    · simpa using hL
    · obtain ⟨j, rfl⟩ : ∃ j, k = j + 1 := ⟨k - 1, by omega⟩
      rw [Nat.add_sub_cancel] at h
      have h1 : 100 * (o * 71 ^ j) ≤ 71 * (W * 71 ^ j) := by
        rw [← Nat.mul_assoc, ← Nat.mul_assoc]; exact Nat.mul_le_mul_right _ ho
      have e1 : L * 100 ^ (j + 1) = 100 * (L * 100 ^ j) := by rw [Nat.pow_succ, ← Nat.mul_assoc, Nat.mul_comm]
      have e2 : W * 71 ^ (j + 1) = 71 * (W * 71 ^ j) := by rw [Nat.pow_succ, ← Nat.mul_assoc, Nat.mul_comm]
      rw [e1, e2]
      omega
/-- what becomes of a tree t, if a pair and a lighter one hang on its outer side. -/
structure WHang (n : Nat) (s : Bool) (t low : Tr) (k v : Int) (T : Tr) : Prop where
  wb : WbH T
  news : ∃ d, T.news n ≤ 2 * d + 1 ∧ Lev d (low.count + 1) (t.count + 1)
  kvs : T.kvs = both s t.kvs [(k, v)] low.kvs
  old : ∀ x ∈ T.pre, x.blk < n → x ∈ t.pre ∨ x ∈ low.pre
  top : n ≤ T.blk
  nn : T ≠ .nil
theorem WHang.count {n : Nat} {s : Bool} {t low T : Tr} {k v : Int} (h : WHang n s t low k v T) : T.count = t.count + low.count + 1 := by
  rw [← Tr.kvs_count, h.kvs, ← Tr.kvs_count, ← Tr.kvs_count]
  cases s <;> simp [both] <;> omega
section
variable {n : Nat} {s : Bool} {b : Nat} {i o low : Tr} {k v g pk pv : Int}
theorem whang_base {t : Tr} (bx : Nat) (ht : WbH t) (hl : WbH low) (hk : lk (t.count + 1) (low.count + 1)) (nt : t.news n = 0) (nl : low.news n = 0) (hb : n ≤ bx) : WHang n s t low pk pv (mkN s bx t pk pv 0 low) := by
  refine ⟨mk_wb.2 ⟨rfl, ht, hl, hk⟩, ⟨0, ?_, .inl rfl⟩, mk_kvs, fun x hx hn => ?_, by rw [mk_blk]; exact hb, mk_nn⟩
  · rw [mk_news, nt, nl, if_pos hb]; omega
  · rcases (mk_pre x).1 hx with rfl | h | h
    · rw [mk_blk] at hn; omega
    · exact .inl h
    · exact .inr h
theorem side_lev {x : Tr} (hio : lk (i.count + 1) (o.count + 1)) (hx : WHang n s o low pk pv x) (hL : 71 * (low.count + 1) < 29 * (i.count + 1 + (o.count + 1))) : ∃ d, x.news n ≤ 2 * d + 1 ∧ Lev (d + 1) (low.count + 1) ((mkN s b i k v g o).count + 1) := by
  obtain ⟨d, h1, h2⟩ := hx.news
  refine ⟨d, h1, lev_up h2 ?_ ?_⟩
  · rw [mk_count]; have := hio.1; omega
  · rw [mk_count]; omega
theorem whang_plain {x : Tr} (bt : Nat) (hi : WbH i) (hio : lk (i.count + 1) (o.count + 1)) (hx : WHang n s o low pk pv x) (hL : 71 * (low.count + 1) < 29 * (i.count + 1 + (o.count + 1))) (hlk : lk (i.count + 1) (x.count + 1)) (ni : i.news n = 0) (hb : n ≤ bt) :
    WHang n s (mkN s b i k v g o) low pk pv (mkN s bt i k v 0 x) := by
  obtain ⟨d, h1, h2⟩ := side_lev (b := b) (k := k) (v := v) (g := g) hio hx hL
  refine ⟨mk_wb.2 ⟨rfl, hi, hx.wb, hlk⟩, ⟨d + 1, ?_, h2⟩, ?_, fun y hy hyn => ?_, by rw [mk_blk]; exact hb, mk_nn⟩
  · rw [mk_news, ni, if_pos hb]; omega
  · rw [mk_kvs, mk_kvs, hx.kvs, both_out]
  · rcases (mk_pre y).1 hy with rfl | h | h
    · rw [mk_blk] at hyn; omega
    · exact .inl ((mk_pre y).2 (.inr (.inl h)))
    · rcases hx.old y h hyn with h | h
      · exact .inl ((mk_pre y).2 (.inr (.inr h)))
      · exact .inr h
theorem whang_once {xi xo : Tr} {xk xv xg : Int} {bx : Nat} (b3 b4 : Nat) (hi : WbH i) (hio : lk (i.count + 1) (o.count + 1)) (hx : WHang n s o low pk pv (mkN s bx xi xk xv xg xo)) (hL : 71 * (low.count + 1) < 29 * (i.count + 1 + (o.count + 1)))
    (h1 : lk (i.count + 1) (xi.count + 1)) (h2 : lk (i.count + 1 + (xi.count + 1)) (xo.count + 1)) (ni : i.news n = 0) (hbx : n ≤ bx) (hb3 : n ≤ b3) (hb4 : n ≤ b4) :
    WHang n s (mkN s b i k v g o) low pk pv (mkN s b4 (mkN s b3 i k v 0 xi) xk xv 0 xo) := by
  obtain ⟨d, d1, d2⟩ := side_lev (b := b) (k := k) (v := v) (g := g) hio hx hL
  obtain ⟨-, x1, x2, -⟩ := mk_wb.1 hx.wb
  rw [mk_news, if_pos hbx] at d1
  refine ⟨mk_wb.2 ⟨rfl, mk_wb.2 ⟨rfl, hi, x1, h1⟩, x2, by rw [mk_count, show i.count + 1 + xi.count + 1 = i.count + 1 + (xi.count + 1) by omega]; exact h2⟩, ⟨d + 1, ?_, d2⟩, ?_, fun y hy hyn => ?_, by rw [mk_blk]; exact hb4, mk_nn⟩
  · rw [mk_news, mk_news, ni, if_pos hb3, if_pos hb4]; omega
  · have hk := hx.kvs
    simp only [mk_kvs] at hk ⊢
    rw [← both_out, hk, both_out]
  · have hin : ∀ z, z ∈ xi.pre ∨ z ∈ xo.pre → z.blk < n → z ∈ (mkN s b i k v g o).pre ∨ z ∈ low.pre := fun z hz hzn => by
      rcases hx.old z ((mk_pre z).2 (.inr hz)) hzn with h | h
      · exact .inl ((mk_pre z).2 (.inr (.inr h)))
      · exact .inr h
    rcases (mk_pre y).1 hy with rfl | h | h
    · rw [mk_blk] at hyn; omega
    · rcases (mk_pre y).1 h with rfl | h | h
      · rw [mk_blk] at hyn; omega
      · exact .inl ((mk_pre y).2 (.inr (.inl h)))
      · exact hin y (.inl h) hyn
    · exact hin y (.inr h) hyn
theorem wb_two (w o L a1 a2 b : Nat) (h1 : 29 * (w + o) ≤ 100 * w) (h2 : 29 * (w + o) ≤ 100 * o) (hL : 71 * L < 29 * (w + o)) (h4 : 29 * (w + (o + L)) > 100 * w ∨ 29 * (w + (o + L)) > 100 * (o + L)) (e : a1 + a2 + b = o + L)
    (h5 : 29 * (a1 + a2 + b) ≤ 100 * (a1 + a2)) (h6 : 29 * (a1 + a2 + b) ≤ 100 * b) (h7 : 29 * (a1 + a2) ≤ 100 * a1) (h8 : 29 * (a1 + a2) ≤ 100 * a2) (p1 : 1 ≤ w) (p2 : 1 ≤ o) (p3 : 1 ≤ L) (p4 : 1 ≤ a1) (p6 : 1 ≤ b)
    (h9 : 29 * (w + (a1 + a2)) > 100 * w ∨ 29 * (w + (a1 + a2)) > 100 * (a1 + a2) ∨ 29 * (w + (a1 + a2) + b) > 100 * (w + (a1 + a2)) ∨ 29 * (w + (a1 + a2) + b) > 100 * b) :
    29 * (w + a1) ≤ 100 * w ∧ 29 * (w + a1) ≤ 100 * a1 ∧ 29 * (a2 + b) ≤ 100 * a2 ∧ 29 * (a2 + b) ≤ 100 * b ∧ 29 * (w + a1 + (a2 + b)) ≤ 100 * (w + a1) ∧ 29 * (w + a1 + (a2 + b)) ≤ 100 * (a2 + b) := by
  refine ⟨?_, ?_, ?_, ?_, ?_, ?_⟩ <;> rcases h4 with h4 | h4 <;> rcases h9 with h9 | h9 | h9 | h9 <;> omega
theorem not_lk {a b : Nat} (h : ¬ lk a b) : 29 * (a + b) > 100 * a ∨ 29 * (a + b) > 100 * b := by unfold lk at h; omega
theorem wb_wide (w o L a b : Nat) (h1 : 29 * (w + o) ≤ 100 * w) (h2 : 29 * (w + o) ≤ 100 * o) (hL : 71 * L < 29 * (w + o)) (h4 : 29 * (w + (o + L)) > 100 * w ∨ 29 * (w + (o + L)) > 100 * (o + L)) (e : a + b = o + L)
    (h5 : 29 * (a + b) ≤ 100 * a) (p1 : 1 ≤ w) (p3 : 1 ≤ L) (h9 : 29 * (w + a) > 100 * w ∨ 29 * (w + a) > 100 * a ∨ 29 * (w + a + b) > 100 * (w + a) ∨ 29 * (w + a + b) > 100 * b) : 2 ≤ a := by
  rcases h4 with h4 | h4 <;> rcases h9 with h9 | h9 | h9 | h9 <;> omega
theorem four {a c w : Nat} (h : ¬ (lk w a ∧ lk (w + a) c)) : 29 * (w + a) > 100 * w ∨ 29 * (w + a) > 100 * a ∨ 29 * (w + a + c) > 100 * (w + a) ∨ 29 * (w + a + c) > 100 * c := by unfold lk at h; omega
/-- the inner side of what came up is a node, if one turn does not do. -/
theorem whang_mid {xi xo : Tr} {xk xv xg : Int} {bx : Nat} (hio : lk (i.count + 1) (o.count + 1)) (hx : WHang n s o low pk pv (mkN s bx xi xk xv xg xo)) (hL : 71 * (low.count + 1) < 29 * (i.count + 1 + (o.count + 1))) (hno : ¬ lk (i.count + 1) ((mkN s bx xi xk xv xg xo).count + 1))
    (h9 : ¬ (lk (i.count + 1) (xi.count + 1) ∧ lk (i.count + 1 + (xi.count + 1)) (xo.count + 1))) : xi ≠ .nil := fun h => by
  have hc := hx.count
  rw [mk_count] at hc
  rw [mk_count] at hno
  obtain ⟨-, x1, x2, x3⟩ := mk_wb.1 hx.wb
  have := wb_wide (i.count + 1) (o.count + 1) (low.count + 1) (xi.count + 1) (xo.count + 1) hio.1 hio.2 hL (by have := not_lk hno; rw [show o.count + 1 + (low.count + 1) = xi.count + 1 + xo.count + 1 by omega]; exact this) (by omega) x3.1 (by omega) (by omega) (four h9)
  rw [h] at this
  simp [Tr.count, Tr.pre] at this
theorem whang_twice {m1 m2 xo : Tr} {xk xv xg mk_ mv mg : Int} {bx bm : Nat} (b3 b4 b5 : Nat) (hi : WbH i) (hio : lk (i.count + 1) (o.count + 1)) (hx : WHang n s o low pk pv (mkN s bx (mkN s bm m1 mk_ mv mg m2) xk xv xg xo)) (hL : 71 * (low.count + 1) < 29 * (i.count + 1 + (o.count + 1)))
    (hno : ¬ lk (i.count + 1) ((mkN s bx (mkN s bm m1 mk_ mv mg m2) xk xv xg xo).count + 1)) (h9 : ¬ (lk (i.count + 1) ((mkN s bm m1 mk_ mv mg m2).count + 1) ∧ lk (i.count + 1 + ((mkN s bm m1 mk_ mv mg m2).count + 1)) (xo.count + 1)))
    (ni : i.news n = 0) (hbx : n ≤ bx) (hb3 : n ≤ b3) (hb4 : n ≤ b4) (hb5 : n ≤ b5) :
    WHang n s (mkN s b i k v g o) low pk pv (mkN s b5 (mkN s b3 i k v 0 m1) mk_ mv 0 (mkN s b4 m2 xk xv 0 xo)) := by
  obtain ⟨d, d1, d2⟩ := side_lev (b := b) (k := k) (v := v) (g := g) hio hx hL
  have hc := hx.count
  obtain ⟨-, x1, x2, x3⟩ := mk_wb.1 hx.wb
  obtain ⟨-, y1, y2, y3⟩ := mk_wb.1 x1
  rw [mk_count, mk_count] at hc hno
  rw [mk_count] at x3 h9
  rw [mk_news, if_pos hbx, mk_news] at d1
  have hno' := not_lk hno
  have h9' := four h9
  unfold lk at x3 y3 hio
  have key := wb_two (i.count + 1) (o.count + 1) (low.count + 1) (m1.count + 1) (m2.count + 1) (xo.count + 1) hio.1 hio.2 hL (by rw [show o.count + 1 + (low.count + 1) = m1.count + 1 + m2.count + 1 + xo.count + 1 by omega]; exact hno') (by omega)
    (by omega) (by omega) y3.1 y3.2 (by omega) (by omega) (by omega) (by omega) (by omega) (by rw [show m1.count + 1 + (m2.count + 1) = m1.count + 1 + m2.count + 1 by omega]; exact h9')
  obtain ⟨k1, k2, k3, k4, k5, k6⟩ := key
  refine ⟨mk_wb.2 ⟨rfl, mk_wb.2 ⟨rfl, hi, y1, k1, k2⟩, mk_wb.2 ⟨rfl, y2, x2, k3, k4⟩, ?_⟩, ⟨d + 1, ?_, d2⟩, ?_, fun y hy hyn => ?_, by rw [mk_blk]; exact hb5, mk_nn⟩
  · rw [mk_count, mk_count]; unfold lk; omega
  · rw [mk_news, mk_news, mk_news, ni, if_pos hb3, if_pos hb4, if_pos hb5]; split at d1 <;> omega
  · have hk := hx.kvs
    simp only [mk_kvs] at hk ⊢
    rw [← both_out s i.kvs [(k, v)] m1.kvs, ← both_out s i.kvs [(k, v)] o.kvs, ← hk, both_out s m1.kvs]
  · have hin : ∀ z, z ∈ m1.pre ∨ z ∈ m2.pre ∨ z ∈ xo.pre → z.blk < n → z ∈ (mkN s b i k v g o).pre ∨ z ∈ low.pre := fun z hz hzn => by
      have hz' : z ∈ (mkN s bx (mkN s bm m1 mk_ mv mg m2) xk xv xg xo).pre := (mk_pre z).2 (.inr (by
        rcases hz with h | h | h
        · exact .inl ((mk_pre z).2 (.inr (.inl h)))
        · exact .inl ((mk_pre z).2 (.inr (.inr h)))
        · exact .inr h))
      rcases hx.old z hz' hzn with h | h
      · exact .inl ((mk_pre z).2 (.inr (.inr h)))
      · exact .inr h
    rcases (mk_pre y).1 hy with rfl | h | h
    · rw [mk_blk] at hyn; omega
    · rcases (mk_pre y).1 h with rfl | h | h
      · rw [mk_blk] at hyn; omega
      · exact .inl ((mk_pre y).2 (.inr (.inl h)))
      · exact hin y (.inl h) hyn
    · rcases (mk_pre y).1 h with rfl | h | h
      · rw [mk_blk] at hyn; omega
      · exact hin y (.inr (.inl h)) hyn
      · exact hin y (.inr (.inr h)) hyn
end
/-- what a join of two trees is. -/
structure WJoinOk (n : Nat) (l r : Tr) (k v : Int) (T : Tr) : Prop where
  wb : WbH T
  news : ∃ d, T.news n ≤ 2 * d + 1 ∧ Lev d (min l.count r.count + 1) (max l.count r.count + 1)
  kvs : T.kvs = l.kvs ++ (k, v) :: r.kvs
  old : ∀ x ∈ T.pre, x.blk < n → x ∈ l.pre ∨ x ∈ r.pre
  top : n ≤ T.blk
  nn : T ≠ .nil
theorem wjoin_right {n : Nat} {l r : Tr} {k v : Int} {T : Tr} (h : WHang n true l r k v T) (hle : r.count ≤ l.count) : WJoinOk n l r k v T := by
  obtain ⟨h1, h2, h4, h5, h6, h7⟩ := h
  exact ⟨h1, by rw [Nat.min_eq_right hle, Nat.max_eq_left hle]; exact h2, by rw [h4]; simp [both], h5, h6, h7⟩
theorem wjoin_left {n : Nat} {l r : Tr} {k v : Int} {T : Tr} (h : WHang n false r l k v T) (hle : l.count ≤ r.count) : WJoinOk n l r k v T := by
  obtain ⟨h1, h2, h4, h5, h6, h7⟩ := h
  exact ⟨h1, by rw [Nat.min_eq_left hle, Nat.max_eq_right hle]; exact h2, by rw [h4]; simp [both], fun y hy hn => (h5 y hy hn).symm, h6, h7⟩
end Go.Proofs.YtkkdobolloojjaaGreat
namespace Go.Proofs.YtkkdobolloojjaaGreat
open Go Go.RowKit

/-- a side, as the code tells it. -/
def wsideV (s : Bool) : Value := .int .i64 (if s then 1 else 0)
theorem pset2 {w : World} {N : Nat} {T : TypeId} {a0 a1 : Value} (h : w.heap[N]? = some (.cells #[a0, a1] T (0, 0))) (b0 b1 : Value) :
    ((w.setCell ⟨N, 0, none⟩ b0).setCell ⟨N, 1, none⟩ b1).heap[N]? = some (.cells #[b0, b1] T (0, 0)) := by
  simp [World.setCell, Array.getElem?_modify, h]
theorem pext {w w1 : World} (h : Ext w w1) (j : Nat) (u : Value) : Ext w (w1.setCell ⟨w.heap.size, j, none⟩ u) := Below.setCell (B := w.heap.size) h (Nat.le_refl _) u
theorem pload2 {w : World} {N : Nat} {a b : Option Addr} (hh : w.heap[N]? = some (.cells #[.pointer a, .pointer b] 180 (0, 0))) : (loadVar 180 ⟨N, 0, none⟩).run Tryz.prog w = .ok (.agg #[.pointer a, .pointer b]) w := by
  refine run_loadVar_mid w N 0 _ [.pointer a, .pointer b] _ (fun j v hj => ?_) Tryz.underlying180 rfl (by kernel_rfl)
  rw [Nat.zero_add, cell_of hh j]
  simpa using hj
theorem presults {fn : Func} {p : Tmp} {ty : TypeId} (h : fn.results = #[.cell p ty]) (tmps : Array Value) (w : World) {x : Value} {a : Addr} (hp : tmps.getD p undef = .pointer (some a))
    (hl : (loadVar ty a).run Tryz.prog w = .ok x w) : (results fn tmps).run Tryz.prog w = .ok x w := by
  simp only [Array.getD_eq_getD_getElem?] at hp
  simp [results, h, hp, hl, asAddr]
theorem pindex0 (a b : Option Addr) (w : World) : (Instr.index 180 (.agg #[.pointer a, .pointer b]) (.int .i64 0)).run Tryz.prog w = .ok (.pointer a) w := by kernel_rfl
theorem pindex1 (a b : Option Addr) (w : World) : (Instr.index 180 (.agg #[.pointer a, .pointer b]) (.int .i64 1)).run Tryz.prog w = .ok (.pointer b) w := by kernel_rfl
theorem wbOf_any (w : World) (t : Tr) (ht : InH w t) : Calls Tryz.prog 154 #[.pointer t.ptr] w (Ret (.agg #[.pointer t.left.ptr, .pointer t.right.ptr]) w) := by
  have hnew := alloc_at w (.cells #[.pointer none, .pointer none] 180) _ rfl
  have hE := (Ext.refl w).alloc (.cells #[.pointer none, .pointer none] 180)
  go_enter Tryz.func154, Tryz.ntmps154
  go_wp2_with fail
  refine (left_any _ t (ht.ext hE)).mono ?_
  rintro e w1 ⟨rfl, h1⟩
  go_wp2_with fail
  refine (right_any _ t (ht.ext (hE.trans h1))).mono ?_
  rintro e w2 ⟨rfl, h2⟩
  have h02 := h1.trans h2
  have hnew2 := (h02.block _ (lt_of hnew)).trans hnew
  have hE2 := hE.trans h02
  have hn0 := cell_of hnew2 0
  have hn1 := cell_of hnew2 1
  have hf0 := frozen_of hnew2 0
  have hf1 := frozen_of hnew2 1
  simp at hn0 hn1
  clear hE hnew h1 h2 h02
  go_wp2
  exact bodyPost_ret (presults rfl _ _ rfl (pload2 (pset2 hnew2 _ _))) rfl (Ret.mk (pext (pext hE2 0 _) 1 _))
theorem wbAt_any (s : Bool) (w : World) (t : Tr) (ht : InH w t) : Calls Tryz.prog 143 #[wsideV s, .pointer t.ptr] w (Ret (.pointer (outOf s t).ptr) w) := by
  have hi0 := pindex0
  have hi1 := pindex1
  unfold wsideV
  cases s
  · rw [if_neg (by simp)]
    go_enter Tryz.func143, Tryz.ntmps143
    go_wp2_with fail
    refine (wbOf_any w t ht).mono ?_
    rintro e w1 ⟨rfl, h1⟩
    go_wp2
    go_ret
    exact Ret.mk h1
  · rw [if_pos rfl]
    go_enter Tryz.func143, Tryz.ntmps143
    go_wp2_with fail
    refine (wbOf_any w t ht).mono ?_
    rintro e w1 ⟨rfl, h1⟩
    go_wp2
    go_ret
    exact Ret.mk h1
theorem wbOther_any (s : Bool) (w : World) : Calls Tryz.prog 142 #[wsideV s] w (Ret (wsideV (!s)) w) := by
  unfold wsideV
  cases s
  · go_enter Tryz.func142, Tryz.ntmps142
    go_wp2
    go_ret
    exact Ret.mk (Ext.refl w)
  · go_enter Tryz.func142, Tryz.ntmps142
    go_wp2
    go_ret
    exact Ret.mk (Ext.refl w)
/-- a new node of a side. -/
def NewW (s : Bool) (i : Tr) (k v : Int) (o : Tr) (w : World) (e : Ending) (w' : World) : Prop :=
  ∃ b, e = .returned (.pointer (mkN s b i k v 0 o).ptr) ∧ w.heap.size ≤ b ∧ InH w' (mkN s b i k v 0 o) ∧ Ext w w'
theorem wbOtherL (w : World) : Calls Tryz.prog 142 #[.int .i64 0] w (Ret (.int .i64 1) w) := wbOther_any false w
theorem wbOtherR (w : World) : Calls Tryz.prog 142 #[.int .i64 1] w (Ret (.int .i64 0) w) := wbOther_any true w
set_option maxHeartbeats 1000000 in
theorem wbMk_any (s : Bool) (w : World) (i p o : Tr) (hi : InH w i) (hp : InH w p) (ho : InH w o) : Calls Tryz.prog 141 #[wsideV s, .pointer i.ptr, .pointer p.ptr, .pointer o.ptr] w (NewW s i p.key p.val o w) := by
  have hfn : ∀ f, Fence.wide.fn f := fun _ => trivial
  have hb := alloc_at w (.cells #[.pointer i.ptr, .pointer o.ptr] 180) _ rfl
  have hE2 := (Ext.refl w).alloc (.cells #[.pointer i.ptr, .pointer o.ptr] 180)
  cases s
  · unfold wsideV
    rw [if_neg (by simp)]
    go_enter Tryz.func141, Tryz.ntmps141
    obtain ⟨m⟩ : Nonempty Nat := ⟨0⟩
    refine (wpIn_wide (n := m)).1 ?_
    gi_wp2_with fail
    generalize w.alloc (.cells #[.pointer i.ptr, .pointer o.ptr] 180) = w1 at *
    have hc0 := cell_all (cell_of hb 0)
    have hc1 := cell_all (cell_of hb 1)
    have hx := Ext.drew w1
    refine wpIn_region_G (fun j => !(List.contains (α := Nat) [11] j)) (by kernel_rfl) ?_
    refine batchG hfn (fuel := 7) [0, 4, 6, 8, 9, 10] (by kernel_rfl) rfl ?_
    repeat (go_big_quiet_step ((fail)))
    refine wpQuiet_nil ?_
    refine wpAnyG_one (j := 1) (by kernel_rfl) rfl ?_
    gi_wp2_with fail
    refine ⟨wide_room _, (callsIn_wide.2 (wbOtherL _)).mono ?_⟩
    rintro e w2 ⟨rfl, h2⟩
    gi_wp2_with fail
    refine onePost_ext (h2) ?_
    have h12 := hx.trans h2
    refine batchG hfn (fuel := 4) [2, 3] (by kernel_rfl) rfl ?_
    repeat (go_big_quiet_step ((fail)))
    refine wpQuiet_nil ?_
    refine wpAnyG_one (j := 5) (by kernel_rfl) rfl ?_
    gi_wp2_with fail
    refine ⟨wide_room _, (callsIn_wide.2 (key_any _ p (hp.ext (hE2.trans h12)))).mono ?_⟩
    rintro e w3 ⟨rfl, h3⟩
    gi_wp2_with fail
    refine onePost_ext (h3) ?_
    have h13 := h12.trans h3
    refine wpAnyG_one (j := 7) (by kernel_rfl) rfl ?_
    gi_wp2_with fail
    refine ⟨wide_room _, (callsIn_wide.2 (val_any _ p (hp.ext (hE2.trans h13)))).mono ?_⟩
    rintro e w4 ⟨rfl, h4⟩
    gi_wp2_with fail
    refine onePost_ext (h4) ?_
    have h14 := h13.trans h4
    refine wpAnyG_one (j := 11) (by kernel_rfl) rfl ?_
    gi_wp2_with fail
    refine ⟨wide_room _, (callsIn_wide.2 (wbMake_any _ o i p.key p.val (ho.ext (hE2.trans h14)) (hi.ext (hE2.trans h14)))).mono ?_⟩
    rintro e w5 ⟨bn, rfl, hbn, hT, h5⟩
    gi_wp2_with fail
    refine onePost_any (by kernel_rfl) ?_
    refine batchG hfn (fuel := 0) [12] (by kernel_rfl) rfl ?_
    repeat (go_big_quiet_step ((fail)))
    refine wpQuiet_nil ?_
    refine wpAnyG_done (by kernel_rfl) ?_
    refine calmQ_normal ?_
    gi_wp2
    go_ret
    exact ⟨bn, rfl, Nat.le_trans (hE2.trans h14).size hbn, hT, (hE2.trans h14).trans h5⟩
  · unfold wsideV
    rw [if_pos rfl]
    go_enter Tryz.func141, Tryz.ntmps141
    obtain ⟨m⟩ : Nonempty Nat := ⟨0⟩
    refine (wpIn_wide (n := m)).1 ?_
    gi_wp2_with fail
    generalize w.alloc (.cells #[.pointer i.ptr, .pointer o.ptr] 180) = w1 at *
    have hc0 := cell_all (cell_of hb 0)
    have hc1 := cell_all (cell_of hb 1)
    have hx := Ext.drew w1
    refine wpIn_region_G (fun j => !(List.contains (α := Nat) [11] j)) (by kernel_rfl) ?_
    refine batchG hfn (fuel := 7) [0, 4, 6, 8, 9, 10] (by kernel_rfl) rfl ?_
    repeat (go_big_quiet_step ((fail)))
    refine wpQuiet_nil ?_
    refine wpAnyG_one (j := 1) (by kernel_rfl) rfl ?_
    gi_wp2_with fail
    refine ⟨wide_room _, (callsIn_wide.2 (wbOtherR _)).mono ?_⟩
    rintro e w2 ⟨rfl, h2⟩
    gi_wp2_with fail
    refine onePost_ext (h2) ?_
    have h12 := hx.trans h2
    refine batchG hfn (fuel := 4) [2, 3] (by kernel_rfl) rfl ?_
    repeat (go_big_quiet_step ((fail)))
    refine wpQuiet_nil ?_
    refine wpAnyG_one (j := 5) (by kernel_rfl) rfl ?_
    gi_wp2_with fail
    refine ⟨wide_room _, (callsIn_wide.2 (key_any _ p (hp.ext (hE2.trans h12)))).mono ?_⟩
    rintro e w3 ⟨rfl, h3⟩
    gi_wp2_with fail
    refine onePost_ext (h3) ?_
    have h13 := h12.trans h3
    refine wpAnyG_one (j := 7) (by kernel_rfl) rfl ?_
    gi_wp2_with fail
    refine ⟨wide_room _, (callsIn_wide.2 (val_any _ p (hp.ext (hE2.trans h13)))).mono ?_⟩
    rintro e w4 ⟨rfl, h4⟩
    gi_wp2_with fail
    refine onePost_ext (h4) ?_
    have h14 := h13.trans h4
    refine wpAnyG_one (j := 11) (by kernel_rfl) rfl ?_
    gi_wp2_with fail
    refine ⟨wide_room _, (callsIn_wide.2 (wbMake_any _ i o p.key p.val (hi.ext (hE2.trans h14)) (ho.ext (hE2.trans h14)))).mono ?_⟩
    rintro e w5 ⟨bn, rfl, hbn, hT, h5⟩
    gi_wp2_with fail
    refine onePost_any (by kernel_rfl) ?_
    refine batchG hfn (fuel := 0) [12] (by kernel_rfl) rfl ?_
    repeat (go_big_quiet_step ((fail)))
    refine wpQuiet_nil ?_
    refine wpAnyG_done (by kernel_rfl) ?_
    refine calmQ_normal ?_
    gi_wp2
    go_ret
    exact ⟨bn, rfl, Nat.le_trans (hE2.trans h14).size hbn, hT, (hE2.trans h14).trans h5⟩
end Go.Proofs.YtkkdobolloojjaaGreat
namespace Go.Proofs.YtkkdobolloojjaaGreat
open Go Go.RowKit

theorem out_not (s : Bool) (t : Tr) : outOf (!s) t = inOf s t := by cases s <;> rfl
theorem in_ok2 {w : World} {s : Bool} {t : Tr} (h : InH w t) : InH w (inOf s t) := by
  cases s
  · exact right_ok h
  · exact left_ok h
theorem out_ok2 {w : World} {s : Bool} {t : Tr} (h : InH w t) : InH w (outOf s t) := by
  cases s
  · exact left_ok h
  · exact right_ok h
theorem wbIn_any (s : Bool) (w : World) (t : Tr) (ht : InH w t) : Calls Tryz.prog 143 #[wsideV (!s), .pointer t.ptr] w (Ret (.pointer (inOf s t).ptr) w) := by
  have := wbAt_any (!s) w t ht
  rwa [out_not] at this
/-- what a turn hands back. -/
def OnceW (s : Bool) (i t x : Tr) (w : World) (e : Ending) (w' : World) : Prop :=
  ∃ b3 b4, e = .returned (.pointer (mkN s b4 (mkN s b3 i t.key t.val 0 (inOf s x)) x.key x.val 0 (outOf s x)).ptr) ∧ w.heap.size ≤ b3 ∧ w.heap.size ≤ b4 ∧ InH w' (mkN s b4 (mkN s b3 i t.key t.val 0 (inOf s x)) x.key x.val 0 (outOf s x)) ∧ Ext w w'
def TwiceW (s : Bool) (i t x : Tr) (w : World) (e : Ending) (w' : World) : Prop :=
  ∃ b3 b4 b5, e = .returned (.pointer (mkN s b5 (mkN s b3 i t.key t.val 0 (inOf s (inOf s x))) (inOf s x).key (inOf s x).val 0 (mkN s b4 (outOf s (inOf s x)) x.key x.val 0 (outOf s x))).ptr) ∧ w.heap.size ≤ b3 ∧ w.heap.size ≤ b4 ∧ w.heap.size ≤ b5 ∧
    InH w' (mkN s b5 (mkN s b3 i t.key t.val 0 (inOf s (inOf s x))) (inOf s x).key (inOf s x).val 0 (mkN s b4 (outOf s (inOf s x)) x.key x.val 0 (outOf s x))) ∧ Ext w w'
theorem wbOnce_any (s : Bool) (w : World) (i t x : Tr) (hi : InH w i) (ht : InH w t) (hx : InH w x) : Calls Tryz.prog 144 #[wsideV s, .pointer i.ptr, .pointer t.ptr, .pointer x.ptr] w (OnceW s i t x w) := by
  go_enter Tryz.func144, Tryz.ntmps144
  go_wp2_with fail
  refine (wbOther_any s w).mono ?_
  rintro e w1 ⟨rfl, h1⟩
  go_wp2_with fail
  refine (wbIn_any s w1 x (hx.ext h1)).mono ?_
  rintro e w2 ⟨rfl, h2⟩
  have h02 := h1.trans h2
  go_wp2_with fail
  refine (wbMk_any s w2 i t (inOf s x) (hi.ext h02) (ht.ext h02) (in_ok2 (hx.ext h02))).mono ?_
  rintro e w3 ⟨b3, rfl, hb3, hT3, h3⟩
  have h03 := h02.trans h3
  obtain ⟨T3, e3⟩ : ∃ T3, T3 = mkN s b3 i t.key t.val 0 (inOf s x) := ⟨_, rfl⟩
  rw [← e3] at hT3 ⊢
  have E3 := Lib.hid e3
  clear e3
  go_wp2_with fail
  refine (wbAt_any s w3 x (hx.ext h03)).mono ?_
  rintro e w4 ⟨rfl, h4⟩
  have h04 := h03.trans h4
  go_wp2_with fail
  refine (wbMk_any s w4 T3 x (outOf s x) (hT3.ext h4) (hx.ext h04) (out_ok2 (hx.ext h04))).mono ?_
  rintro e w5 ⟨b4, rfl, hb4, hT4, h5⟩
  go_wp2
  go_ret
  rw [E3.out] at hT4 ⊢
  exact ⟨b3, b4, rfl, Nat.le_trans h02.size hb3, Nat.le_trans h04.size hb4, hT4, h04.trans h5⟩
theorem wbTwice_any (s : Bool) (w : World) (i t x : Tr) (hi : InH w i) (ht : InH w t) (hx : InH w x) : Calls Tryz.prog 145 #[wsideV s, .pointer i.ptr, .pointer t.ptr, .pointer x.ptr] w (TwiceW s i t x w) := by
  obtain ⟨m, em⟩ : ∃ m, m = inOf s x := ⟨_, rfl⟩
  have hm : InH w m := em ▸ in_ok2 hx
  go_enter Tryz.func145, Tryz.ntmps145
  go_wp2_with fail
  refine (wbOther_any s w).mono ?_
  rintro e w1 ⟨rfl, h1⟩
  go_wp2_with fail
  refine (wbIn_any s w1 x (hx.ext h1)).mono ?_
  rw [← em]
  have EM := Lib.hid em
  clear em
  rintro e w2 ⟨rfl, h2⟩
  have h02 := h1.trans h2
  go_wp2_with fail
  refine (wbOther_any s w2).mono ?_
  rintro e w3 ⟨rfl, h3⟩
  have h03 := h02.trans h3
  go_wp2_with fail
  refine (wbIn_any s w3 m (hm.ext h03)).mono ?_
  rintro e w4 ⟨rfl, h4⟩
  have h04 := h03.trans h4
  go_wp2_with fail
  refine (wbMk_any s w4 i t (inOf s m) (hi.ext h04) (ht.ext h04) (in_ok2 (hm.ext h04))).mono ?_
  rintro e w5 ⟨b3, rfl, hb3, hT3, h5⟩
  have h05 := h04.trans h5
  obtain ⟨T3, e3⟩ : ∃ T3, T3 = mkN s b3 i t.key t.val 0 (inOf s m) := ⟨_, rfl⟩
  rw [← e3] at hT3 ⊢
  have E3 := Lib.hid e3
  clear e3
  go_wp2_with fail
  refine (wbAt_any s w5 m (hm.ext h05)).mono ?_
  rintro e w6 ⟨rfl, h6⟩
  have h06 := h05.trans h6
  go_wp2_with fail
  refine (wbAt_any s w6 x (hx.ext h06)).mono ?_
  rintro e w7 ⟨rfl, h7⟩
  have h07 := h06.trans h7
  go_wp2_with fail
  refine (wbMk_any s w7 (outOf s m) x (outOf s x) (out_ok2 (hm.ext h07)) (hx.ext h07) (out_ok2 (hx.ext h07))).mono ?_
  rintro e w8 ⟨b4, rfl, hb4, hT4, h8⟩
  have h08 := h07.trans h8
  obtain ⟨T4, e4⟩ : ∃ T4, T4 = mkN s b4 (outOf s m) x.key x.val 0 (outOf s x) := ⟨_, rfl⟩
  rw [← e4] at hT4 ⊢
  have E4 := Lib.hid e4
  clear e4
  go_wp2_with fail
  refine (wbMk_any s w8 T3 m T4 (((hT3.ext h6).ext h7).ext h8) (hm.ext h08) hT4).mono ?_
  rintro e w9 ⟨b5, rfl, hb5, hT5, h9⟩
  go_wp2
  go_ret
  rw [E3.out, E4.out] at hT5 ⊢
  have em := EM.out
  subst em
  exact ⟨b3, b4, b5, rfl, Nat.le_trans h04.size hb3, Nat.le_trans h07.size hb4, Nat.le_trans h08.size hb5, hT5, h08.trans h9⟩
end Go.Proofs.YtkkdobolloojjaaGreat
namespace Go.Proofs.YtkkdobolloojjaaGreat
open Go Go.RowKit

theorem turn_up {P : Program} (w : World) (mty kt et : TypeId) (clock : Nat) (es : Array MapEntry) (k : Bool) (val : Value) (hm : P.underlying mty = some (.map kt et)) (hk : P.underlying kt = some .bool)
    (hf : Instr.findNow .bool (.bool k) es.toList 0 = some none) (b : Nat) (hb : w.heap.size = b) :
    (Instr.mapUpdate mty (.map (some b)) (.bool k) val).run P (w.alloc (.map es clock)) = .ok () (w.alloc (.map (es.push { key := .bool k, val := val, born := clock }) (clock + 1))) := by
  subst hb
  have hb : (w.alloc (.map es clock)).heap[w.heap.size]? = some (.map es clock) := by show (w.heap.push _)[w.heap.size]? = _; simp
  have hc : (Instr.checkKey false 10000 kt (.bool k)).run P (w.alloc (.map es clock)) = .ok () (w.alloc (.map es clock)) := MapKept.run_checkKey hk (by simp [MapKept.IsKey]) false 9999
  have hk' : (Instr.findKey kt (.bool k) es.toList).run P (w.alloc (.map es clock)) = .ok none (w.alloc (.map es clock)) := MapKept.run_findKey hk hf
  have hs : ∀ (o o' : Obj), ({ (w.alloc o) with heap := (w.alloc o).heap.setIfInBounds w.heap.size o' } : World) = w.alloc o' := fun o o' => by
    simp only [World.alloc]; congr 1; apply Array.ext_getElem?; intro i; rw [Array.getElem?_setIfInBounds, Array.getElem?_push, Array.getElem?_push]; simp; grind
  simp [Instr.mapUpdate, run_underlying hm, MapKept.run_getObj_map hb, hc, hk', MapKept.run_setObj_map _ hb, Result.andThen]
  exact hs (.map es clock) _
theorem turn_look {P : Program} {w : World} {N : Nat} {mty kt et : TypeId} {es : Array MapEntry} {clock i : Nat} {k : Bool} {v : Value} (hm : P.underlying mty = some (.map kt et)) (hk : P.underlying kt = some .bool) (hb : w.heap[N]? = some (.map es clock))
    (hf : Instr.findNow .bool (.bool k) es.toList 0 = some (some (i, v))) : (Instr.lookup mty (.map (some N)) (.bool k) false).run P w = .ok v w := by
  have hc : ∀ e, (Instr.checkKey e 10000 kt (.bool k)).run P w = .ok () w := fun e => MapKept.run_checkKey hk (by simp [MapKept.IsKey]) e 9999
  have hk' : (Instr.findKey kt (.bool k) es.toList).run P w = .ok (some (i, v)) w := MapKept.run_findKey hk hf
  simp [Instr.lookup, run_underlying hm, MapKept.run_getObj_map hb, hc, hk', Result.andThen]
/-- the map of turns. -/
def turnF (c : Bool) : Nat := if c then 144 else 145
def turnsE (s : Bool) : Array MapEntry := #[{ key := .bool true, val := .func (.func 144) #[wsideV s] #[], born := 0 }, { key := .bool false, val := .func (.func 145) #[wsideV s] #[], born := 1 }]
theorem turns_once {w : World} {N : Nat} (s : Bool) (h : w.heap[N]? = some (.map (turnsE s) 2)) : (Instr.lookup 173 (.map (some N)) (.bool true) false).run Tryz.prog w = .ok (.func (.func 144) #[wsideV s] #[]) w :=
  turn_look Tryz.underlying173 Tryz.underlying4 h rfl
theorem turns_twice {w : World} {N : Nat} (s : Bool) (h : w.heap[N]? = some (.map (turnsE s) 2)) : (Instr.lookup 173 (.map (some N)) (.bool false) false).run Tryz.prog w = .ok (.func (.func 145) #[wsideV s] #[]) w :=
  turn_look Tryz.underlying173 Tryz.underlying4 h rfl
/-- what hang hands back. -/
def WHangs (n : Nat) (s : Bool) (t low : Tr) (k v : Int) (w : World) (e : Ending) (w' : World) : Prop :=
  ∃ T : Tr, e = .returned (.pointer T.ptr) ∧ WHang n s t low k v T ∧ InH w' T ∧ Ext w w'
def WHangSpec (s : Bool) (n : Nat) (P low : Tr) (t : Tr) : Prop :=
  ∀ (w : World), n ≤ w.heap.size → InH w t → InH w P → InH w low → WbH t → (lk (t.count + 1) (low.count + 1) ∨ low.count ≤ t.count) → t.count + low.count ≤ 90000 → t.news n = 0 →
    Calls Tryz.prog 122 #[wsideV s, .pointer t.ptr, .pointer P.ptr, .pointer low.ptr] w (WHangs n s t low P.key P.val w)
/-- the numbers of a level. -/
theorem wnum {W L i o : Nat} (e : W = i + o) (h : lk i o) (hno : ¬ lk W L) (hL : L ≤ W) : 71 * L < 29 * (i + o) ∧ (lk o L ∨ L ≤ o) := by
  unfold lk at *
  omega
theorem wadd {a b : Tr} (h : a.count + b.count ≤ 95000) : IntKind.i64.wrap (wt a + wt b) = wt a + wt b := by
  rw [wt_count a (by omega), wt_count b (by omega)]
  have : (2 : Int) ^ 64 = 18446744073709551616 := by decide
  have : (2 : Int) ^ 63 = 9223372036854775808 := by decide
  simp only [IntKind.wrap, IntKind.bits, IntKind.signed]
  simp
  omega
theorem wlike {a b : Tr} (h : a.count + b.count ≤ 95000) : likeB (wt a) (wt b) = true ↔ lk (a.count + 1) (b.count + 1) := by
  rw [wt_count a (by omega), wt_count b (by omega)]
  exact likeB_lk (by omega) (by omega) (by omega) (by omega)
theorem wlike2 {a b c : Tr} (h : a.count + b.count + c.count ≤ 95000) : likeB (wt a + wt b) (wt c) = true ↔ lk (a.count + 1 + (b.count + 1)) (c.count + 1) := by
  rw [wt_count a (by omega), wt_count b (by omega), wt_count c (by omega), ← likeB_lk (by omega) (by omega) (by omega) (by omega)]
  exact Iff.rfl
end Go.Proofs.YtkkdobolloojjaaGreat
namespace Go.Proofs.YtkkdobolloojjaaGreat
open Go Go.RowKit

set_option maxRecDepth 100000 in
set_option maxHeartbeats 8000000 in
theorem whang_step (s : Bool) (n : Nat) (P low : Tr) (hlow : WbH low) (nl : low.news n = 0) (t : Tr) (IH0 : t ≠ .nil → WHangSpec s n P low (outOf s t)) : WHangSpec s n P low t := by
  intro w hn ht hP hlw hA hor hc nt
  have hx := Ext.refl w
  have HMB := Lib.hid (fun W (h : Ext w W) => wbMk_any s W t P low (ht.ext h) (hP.ext h) (hlw.ext h))
  have HBASE := Lib.hid (fun bx hk (hb : n ≤ bx) => whang_base (s := s) (pk := P.key) (pv := P.val) bx hA hlow hk nt nl hb)
  by_cases ht0 : t = .nil
  · subst ht0
    have HK : Hid (lk (Tr.nil.count + 1) (low.count + 1)) := Lib.hid (by
      rcases hor with h | h
      · exact h
      · unfold lk; simp only [Tr.count, Tr.pre, List.length_nil] at h ⊢; omega)
    rw [Tr.ptr_nil] at HMB ⊢
    have hund : undef = Value.tuple #[] := rfl
    clear IH0 hor hc ht hP hlw hA hlow nt nl
    go_enter Tryz.func122, Tryz.ntmps122
    go_wp2_with fail
    refine (HMB.out w hx).mono ?_
    rintro e w1 ⟨bn, rfl, hbn, hT, h1⟩
    go_wp2
    go_ret
    exact ⟨_, rfl, HBASE.out bn HK.out (Nat.le_trans hn hbn), hT, h1⟩
  · have IH := IH0 ht0
    clear IH0
    have HWT := Lib.hid (fun W (h : Ext w W) => wbWeight_any W t (ht.ext h))
    have HWL := Lib.hid (fun W (h : Ext w W) => wbWeight_any W low (hlw.ext h))
    have HLI := Lib.hid (wlike (a := t) (b := low) (by omega))
    obtain ⟨wT, eT⟩ : ∃ x, x = wt t := ⟨_, rfl⟩
    obtain ⟨wL, eL⟩ : ∃ x, x = wt low := ⟨_, rfl⟩
    rw [← eT] at HWT HLI
    rw [← eL] at HWL HLI
    clear eT eL
    obtain ⟨bt, i, k, v, g, o, et⟩ := sides_ne s ht0
    have ET := Lib.hid et
    have ep : t.ptr = some ⟨bt, 0, none⟩ := by rw [et, mk_ptr]
    by_cases hk : lk (t.count + 1) (low.count + 1)
    · have hlk : likeB wT wL = true := HLI.out.2 hk
      have HK := Lib.hid hk
      rw [ep] at HMB HWT ⊢
      clear IH hor hc ht hP hlw hA hlow nt nl hk HLI et ep
      go_enter Tryz.func122, Tryz.ntmps122
      go_wp2_with fail
      refine (HWT.out w hx).mono ?_
      rintro e w' ⟨rfl, hS⟩
      replace hx := hx.trans hS
      clear hS
      go_wp2_with fail
      refine (HWL.out _ hx).mono ?_
      rintro e w' ⟨rfl, hS⟩
      replace hx := hx.trans hS
      clear hS
      go_wp2_with fail
      refine (wbLike_any _ wT wL).mono ?_
      rw [hlk]
      rintro e w3 ⟨rfl, hS⟩
      replace hx := hx.trans hS
      clear hS
      go_wp2_with fail
      refine (HMB.out _ hx).mono ?_
      rintro e w4 ⟨bn, rfl, hbn, hT, h4⟩
      go_wp2
      go_ret
      exact ⟨_, rfl, HBASE.out bn HK.out (Nat.le_trans hn (Nat.le_trans hx.size hbn)), hT, hx.trans h4⟩
    · have hlk : likeB wT wL = false := by
        cases h : likeB wT wL with
        | false => rfl
        | true => exact (hk (HLI.out.1 h)).elim
      clear HLI HMB HBASE
      have hor' : low.count + 1 ≤ t.count + 1 := by
        rcases hor with h | h
        · exact (hk h).elim
        · omega
      have hct : t.count + 1 = i.count + 1 + (o.count + 1) := by rw [et, mk_count]; omega
      have hA' := hA
      rw [et] at hA'
      obtain ⟨-, hi, ho, hio⟩ := mk_wb.1 hA'
      obtain ⟨hL, horo⟩ := wnum hct hio hk hor'
      have hnt := nt
      rw [et, mk_news] at hnt
      have ni : i.news n = 0 := by omega
      have no : o.news n = 0 := by omega
      clear hnt hA'
      have e1 : inOf s t = i := by rw [et, inOf_mk]
      have e2 : outOf s t = o := by rw [et, outOf_mk]
      have ek : t.key = k ∧ t.val = v := by rw [et, mk_key, mk_val]; exact ⟨rfl, rfl⟩
      rw [e2] at IH
      have hii : InH w i := e1 ▸ in_ok2 (s := s) ht
      have hoo : InH w o := e2 ▸ out_ok2 (s := s) ht
      have HAI := Lib.hid (fun W (h : Ext w W) => wbIn_any s W t (ht.ext h))
      have HAO := Lib.hid (fun W (h : Ext w W) => wbAt_any s W t (ht.ext h))
      have HIH := Lib.hid (fun W (h : Ext w W) => IH W (Nat.le_trans hn h.size) (hoo.ext h) (hP.ext h) (hlw.ext h) ho (horo.imp id (fun h => by omega)) (by omega) no)
      have HWI := Lib.hid (fun W (h : Ext w W) => wbWeight_any W i (hii.ext h))
      have HMP := Lib.hid (fun W x (h : Ext w W) (hX : InH W x) => wbMk_any s W i t x (hii.ext h) (ht.ext h) hX)
      have HON := Lib.hid (fun W x (h : Ext w W) (hX : InH W x) => wbOnce_any s W i t x (hii.ext h) (ht.ext h) hX)
      have HTW := Lib.hid (fun W x (h : Ext w W) (hX : InH W x) => wbTwice_any s W i t x (hii.ext h) (ht.ext h) hX)
      rw [e1] at HAI
      rw [e2] at HAO
      simp only [ek.1, ek.2, ep] at HMP
      rw [ep] at HWT HAI HAO HON HTW ⊢
      have HPL := Lib.hid (fun x bn (hX : WHang n s o low P.key P.val x) hlk hb => whang_plain (b := bt) (g := g) (k := k) (v := v) bn hi hio hX hL hlk ni hb)
      have HOC := Lib.hid (fun (xi xo : Tr) (xk xv xg : Int) bx b3 b4 (hX : WHang n s o low P.key P.val (mkN s bx xi xk xv xg xo)) h1 h2 h3 h4 h5 => whang_once (b := bt) (g := g) (k := k) (v := v) b3 b4 hi hio hX hL h1 h2 ni h3 h4 h5)
      have HTC := Lib.hid (fun (m1 m2 xo : Tr) (xk xv xg mk mv mg : Int) bx bm b3 b4 b5 (hX : WHang n s o low P.key P.val (mkN s bx (mkN s bm m1 mk mv mg m2) xk xv xg xo)) h1 h2 h3 h4 h5 h6 => whang_twice (b := bt) (g := g) (k := k) (v := v) b3 b4 b5 hi hio hX hL h1 h2 ni h3 h4 h5 h6)
      have HMI := Lib.hid (fun (xi xo : Tr) (xk xv xg : Int) bx (hX : WHang n s o low P.key P.val (mkN s bx xi xk xv xg xo)) h1 h2 => whang_mid hio hX hL h1 h2)
      have HCT := Lib.hid (show i.count + o.count + low.count ≤ 90000 by omega)
      have EK := Lib.hid ek
      have HW0 := Lib.hid hii
      clear IH hor hor' hct hi ho hio hL horo ni no e1 e2 ek hii hoo ht hP hlw hA hlow nt nl hk et ep hc
      go_enter Tryz.func122, Tryz.ntmps122
      go_wp2_with fail
      refine (HWT.out w hx).mono ?_
      rintro e w' ⟨rfl, hS⟩
      replace hx := hx.trans hS
      clear hS
      go_wp2_with fail
      refine (HWL.out _ hx).mono ?_
      rintro e w' ⟨rfl, hS⟩
      replace hx := hx.trans hS
      clear hS
      go_wp2_with fail
      refine (wbLike_any _ wT wL).mono ?_
      rw [hlk]
      rintro e w3 ⟨rfl, hS⟩
      replace hx := hx.trans hS
      clear hS
      go_wp2_with fail
      refine (wbOther_any s _).mono ?_
      rintro e w' ⟨rfl, hS⟩
      replace hx := hx.trans hS
      clear hS
      go_wp2_with fail
      refine (HAI.out _ hx).mono ?_
      rintro e w' ⟨rfl, hS⟩
      replace hx := hx.trans hS
      clear hS
      go_wp2_with fail
      refine (HAO.out _ hx).mono ?_
      rintro e w' ⟨rfl, hS⟩
      replace hx := hx.trans hS
      clear hS
      go_wp2_with fail
      refine (HIH.out _ hx).mono ?_
      rintro e w4 ⟨x, rfl, hok, hX, hS⟩
      have hn4 : n ≤ w4.heap.size := Nat.le_trans hn (hx.trans hS).size
      replace hx := hx.trans hS
      clear hS
      have HCX := Lib.hid hok.count
      have HOK := Lib.hid hok
      clear hok
      go_wp2_with fail
      refine (HWI.out _ hx).mono ?_
      rintro e w' ⟨rfl, hS⟩
      replace hx := hx.trans hS
      replace hX := hX.ext hS
      clear hS
      go_wp2_with fail
      refine (wbWeight_any _ x hX).mono ?_
      rintro e w' ⟨rfl, hS⟩
      replace hx := hx.trans hS
      replace hX := hX.ext hS
      clear hS
      have HLX := Lib.hid (wlike (a := i) (b := x) (by have := HCT.out; have := HCX.out; omega))
      by_cases hkx : lk (i.count + 1) (x.count + 1)
      · have hlx : likeB (wt i) (wt x) = true := HLX.out.2 hkx
        have HKX := Lib.hid hkx
        clear hkx HLX
        go_wp2_with fail
        refine (wbLike_any _ (wt i) (wt x)).mono ?_
        rw [hlx]
        rintro e w5 ⟨rfl, hS⟩
        replace hx := hx.trans hS
        replace hX := hX.ext hS
        clear hS
        go_wp2_with fail
        refine (HMP.out _ x hx hX).mono ?_
        rintro e w6 ⟨bn, rfl, hbn, hT, h6⟩
        go_wp2
        go_ret
        refine ⟨_, rfl, ?_, hT, hx.trans h6⟩
        rw [ET.out]
        exact HPL.out x bn HOK.out HKX.out (Nat.le_trans hn (Nat.le_trans hx.size hbn))
      · have hlx : likeB (wt i) (wt x) = false := by
          cases h : likeB (wt i) (wt x) with
          | false => rfl
          | true => exact (hkx (HLX.out.1 h)).elim
        have HKX := Lib.hid hkx
        clear hkx HLX
        go_wp2_with fail
        refine (wbLike_any _ (wt i) (wt x)).mono ?_
        rw [hlx]
        rintro e w5 ⟨rfl, hS⟩
        replace hx := hx.trans hS
        replace hX := hX.ext hS
        clear hS
        go_wp2_with fail
        refine (wbOther_any s _).mono ?_
        rintro e w' ⟨rfl, hS⟩
        replace hx := hx.trans hS
        replace hX := hX.ext hS
        clear hS
        go_wp2_with fail
        refine (wbIn_any s _ x hX).mono ?_
        rintro e w' ⟨rfl, hS⟩
        replace hx := hx.trans hS
        replace hX := hX.ext hS
        clear hS
        go_wp2_with fail
        refine (wbWeight_any _ (inOf s x) (in_ok2 hX)).mono ?_
        rintro e w' ⟨rfl, hS⟩
        replace hx := hx.trans hS
        replace hX := hX.ext hS
        clear hS
        go_wp2_with fail
        refine (wbAt_any s _ x hX).mono ?_
        rintro e w' ⟨rfl, hS⟩
        replace hx := hx.trans hS
        replace hX := hX.ext hS
        clear hS
        go_wp2_with fail
        refine (wbWeight_any _ (outOf s x) (out_ok2 hX)).mono ?_
        rintro e w6 ⟨rfl, hS⟩
        replace hx := hx.trans hS
        replace hX := hX.ext hS
        clear hS
        have hmm := @run_makeMap Tryz.prog
        have hup := fun (w : World) (k : Bool) (v : Value) (es : Array MapEntry) (c : Nat) (h : Instr.findNow .bool (.bool k) es.toList 0 = some none) => turn_up (P := Tryz.prog) w _ _ _ c es k v Tryz.underlying173 Tryz.underlying4 h
        have hf1 : ∀ d k i, Instr.findNow d k [] i = some none := fun _ _ _ => rfl
        have hf2 : ∀ (k a : Bool) (v : Value) (n : Nat) (es : List MapEntry) i, (a == k) = false → Instr.findNow .bool (.bool a) (⟨.bool k, v, n⟩ :: es) i = Instr.findNow .bool (.bool a) es (i + 1) := fun k a v n es i h => by
          simp [Instr.findNow, Instr.sameNow, h]
        go_wp2_with fail
        have hmap := alloc_at w6 (.map (turnsE s) 2) _ rfl
        have hx7 := Ext.alloc hx (.map (turnsE s) 2)
        have hX7 := hX.ext ((Ext.refl w6).alloc (.map (turnsE s) 2))
        clear hx hX hmm hup hf1 hf2
        unfold turnsE at hmap hx7 hX7
        generalize w6.alloc _ = w7 at *
        generalize w6.heap.size = N at *
        obtain ⟨bx, xi, xk, xv, xg, xo, ex⟩ := sides_ne s HOK.out.nn
        have EX := Lib.hid ex
        have exi : inOf s x = xi := by rw [ex, inOf_mk]
        have exo : outOf s x = xo := by rw [ex, outOf_mk]
        have hcx : x.count = xi.count + xo.count + 1 := by rw [ex, mk_count]; omega
        have hcs : i.count + xi.count + xo.count ≤ 95000 := by have := HCT.out; have := HCX.out; omega
        have HLA := Lib.hid (wlike (a := i) (b := xi) (by omega))
        have HLB := Lib.hid (wlike2 (a := i) (b := xi) (c := xo) (by omega))
        have hwr := wadd (a := i) (b := xi) (by omega)
        rw [exi, exo]
        clear ex exi exo hcx hcs
        by_cases hka : lk (i.count + 1) (xi.count + 1)
        · have hla : likeB (wt i) (wt xi) = true := HLA.out.2 hka
          have HKA := Lib.hid hka
          clear hka HLA
          refine (wbLike_any _ (wt i) (wt xi)).mono ?_
          rw [hla]
          rintro e w8 ⟨rfl, hS⟩
          replace hx7 := hx7.trans hS
          replace hX7 := hX7.ext hS
          replace hmap := (hS.block _ (lt_of hmap)).trans hmap
          clear hS
          go_wp2_with fail
          refine (wbLike_any _ (wt i + wt xi) (wt xo)).mono ?_
          by_cases hkb : lk (i.count + 1 + (xi.count + 1)) (xo.count + 1)
          · rw [HLB.out.2 hkb]
            have HKB := Lib.hid hkb
            clear hkb HLB
            rintro e w9 ⟨rfl, hS⟩
            replace hx7 := hx7.trans hS
            replace hX7 := hX7.ext hS
            replace hmap := (hS.block _ (lt_of hmap)).trans hmap
            clear hS
            have hlook := turns_once s hmap
            go_wp2_with fail
            refine (HON.out _ x hx7 hX7).mono ?_
            rintro e w10 ⟨b3, b4, rfl, hb3, hb4, hT, h10⟩
            go_wp2
            go_ret
            refine ⟨_, rfl, ?_, hT, hx7.trans h10⟩
            have hnw := Nat.le_trans hn hx7.size
            have hok := HOK.out
            have htop := hok.top
            have ex := EX.out
            rw [EK.out.1, EK.out.2, ET.out]
            rw [ex] at hok htop ⊢
            rw [inOf_mk, outOf_mk, mk_key, mk_val]
            rw [mk_blk] at htop
            exact HOC.out xi xo xk xv xg bx b3 b4 hok HKA.out HKB.out htop (Nat.le_trans hnw hb3) (Nat.le_trans hnw hb4)
          · have hlb : likeB (wt i + wt xi) (wt xo) = false := by
              cases h : likeB (wt i + wt xi) (wt xo) with
              | false => rfl
              | true => exact (hkb (HLB.out.1 h)).elim
            rw [hlb]
            have HK2 : Hid (¬ (lk (i.count + 1) (xi.count + 1) ∧ lk (i.count + 1 + (xi.count + 1)) (xo.count + 1))) := Lib.hid (fun h => hkb h.2)
            clear hkb HLB
            rintro e w9 ⟨rfl, hS⟩
            replace hx7 := hx7.trans hS
            replace hX7 := hX7.ext hS
            replace hmap := (hS.block _ (lt_of hmap)).trans hmap
            clear hS
            have hlook := turns_twice s hmap
            go_wp2_with fail
            refine (HTW.out _ x hx7 hX7).mono ?_
            rintro e w10 ⟨b3, b4, b5, rfl, hb3, hb4, hb5, hT, h10⟩
            go_wp2
            go_ret
            refine ⟨_, rfl, ?_, hT, hx7.trans h10⟩
            have hnw := Nat.le_trans hn hx7.size
            have hok := HOK.out
            have htop := hok.top
            have hkx := HKX.out
            have ex := EX.out
            rw [EK.out.1, EK.out.2, ET.out]
            rw [ex] at hok htop hkx ⊢
            obtain ⟨bm, m1, mk, mv, mg, m2, em⟩ := sides_ne s (HMI.out xi xo xk xv xg bx hok hkx HK2.out)
            have hk2 := HK2.out
            rw [em] at hok hkx hk2 ⊢
            simp only [inOf_mk, outOf_mk, mk_key, mk_val]
            rw [mk_blk] at htop
            exact HTC.out m1 m2 xo xk xv xg mk mv mg bx bm b3 b4 b5 hok hkx hk2 htop (Nat.le_trans hnw hb3) (Nat.le_trans hnw hb4) (Nat.le_trans hnw hb5)
        · have hla : likeB (wt i) (wt xi) = false := by
            cases h : likeB (wt i) (wt xi) with
            | false => rfl
            | true => exact (hka (HLA.out.1 h)).elim
          have HK2 : Hid (¬ (lk (i.count + 1) (xi.count + 1) ∧ lk (i.count + 1 + (xi.count + 1)) (xo.count + 1))) := Lib.hid (fun h => hka h.1)
          clear hka HLA HLB
          have hund : undef = Value.tuple #[] := rfl
          refine (wbLike_any _ (wt i) (wt xi)).mono ?_
          rw [hla]
          rintro e w9 ⟨rfl, hS⟩
          replace hx7 := hx7.trans hS
          replace hX7 := hX7.ext hS
          replace hmap := (hS.block _ (lt_of hmap)).trans hmap
          clear hS
          have hlook := turns_twice s hmap
          go_wp2_with fail
          refine (HTW.out _ x hx7 hX7).mono ?_
          rintro e w10 ⟨b3, b4, b5, rfl, hb3, hb4, hb5, hT, h10⟩
          go_wp2
          go_ret
          refine ⟨_, rfl, ?_, hT, hx7.trans h10⟩
          have hnw := Nat.le_trans hn hx7.size
          have hok := HOK.out
          have htop := hok.top
          have hkx := HKX.out
          have ex := EX.out
          rw [EK.out.1, EK.out.2, ET.out]
          rw [ex] at hok htop hkx ⊢
          obtain ⟨bm, m1, mk, mv, mg, m2, em⟩ := sides_ne s (HMI.out xi xo xk xv xg bx hok hkx HK2.out)
          have hk2 := HK2.out
          rw [em] at hok hkx hk2 ⊢
          simp only [inOf_mk, outOf_mk, mk_key, mk_val]
          rw [mk_blk] at htop
          exact HTC.out m1 m2 xo xk xv xg mk mv mg bx bm b3 b4 b5 hok hkx hk2 htop (Nat.le_trans hnw hb3) (Nat.le_trans hnw hb4) (Nat.le_trans hnw hb5)
/-- **hang**, at any tree that is no lighter, or alike. -/
theorem whang_any (s : Bool) (n : Nat) (P low : Tr) (hlow : WbH low) (nl : low.news n = 0) : ∀ t : Tr, WHangSpec s n P low t := by
  intro t
  induction t with
  | nil => exact whang_step s n P low hlow nl .nil (fun h => (h rfl).elim)
  | node b l k v g r ihl ihr =>
    refine whang_step s n P low hlow nl _ (fun _ => ?_)
    cases s
    · exact ihl
    · exact ihr
end Go.Proofs.YtkkdobolloojjaaGreat
namespace Go.Proofs.YtkkdobolloojjaaGreat
open Go Go.RowKit

theorem wbMakes_law (bb : Nat) (A B : Tr) (k v : Int) : wbMay (.node bb A k v 0 B) = (wbMay A && wbMay B && likeB (wt A) (wt B)) := by
  rw [wbMay_node]
  have e : wbOne (.node bb A k v 0 B) = if likeB (wt A) (wt B) then 0 else 8 := rfl
  rw [e]
  cases likeB (wt A) (wt B) <;> cases wbMay A <;> cases wbMay B <;> rfl
end Go.Proofs.YtkkdobolloojjaaGreat
namespace Go.Proofs.YtkkdobolloojjaaGreat
open Go Go.RowKit

/-- what a join hands back. -/
def WJoins (n : Nat) (l r : Tr) (k v : Int) (w : World) (e : Ending) (w' : World) : Prop :=
  ∃ T : Tr, e = .returned (.pointer T.ptr) ∧ WJoinOk n l r k v T ∧ InH w' T ∧ Ext w w'
theorem whang0 (n : Nat) (P low t : Tr) (hlow : WbH low) (nl : low.news n = 0) (w : World) (hn : n ≤ w.heap.size) (ht : InH w t) (hP : InH w P) (hl : InH w low) (hA : WbH t) (hle : low.count ≤ t.count) (hc : t.count + low.count ≤ 90000) (nt : t.news n = 0) :
    Calls Tryz.prog 122 #[.int .i64 0, .pointer t.ptr, .pointer P.ptr, .pointer low.ptr] w (WHangs n false t low P.key P.val w) := whang_any false n P low hlow nl t w hn ht hP hl hA (.inr hle) hc nt
theorem whang1 (n : Nat) (P low t : Tr) (hlow : WbH low) (nl : low.news n = 0) (w : World) (hn : n ≤ w.heap.size) (ht : InH w t) (hP : InH w P) (hl : InH w low) (hA : WbH t) (hle : low.count ≤ t.count) (hc : t.count + low.count ≤ 90000) (nt : t.news n = 0) :
    Calls Tryz.prog 122 #[.int .i64 1, .pointer t.ptr, .pointer P.ptr, .pointer low.ptr] w (WHangs n true t low P.key P.val w) := whang_any true n P low hlow nl t w hn ht hP hl hA (.inr hle) hc nt
set_option maxHeartbeats 1000000 in
theorem wbJoin_any (n : Nat) (w : World) (l r : Tr) (k v : Int) (hn : n ≤ w.heap.size) (hl : InH w l) (hr : InH w r) (al : WbH l) (ar : WbH r) (hc : l.count + r.count ≤ 80000) (nl : l.news n = 0) (nr : r.news n = 0) :
    Calls Tryz.prog 100 #[.pointer l.ptr, .int .i64 k, .int .i64 v, .pointer r.ptr] w (WJoins n l r k v w) := by
  have AL := Lib.hid al
  have AR := Lib.hid ar
  have NL := Lib.hid nl
  have NR := Lib.hid nr
  have HC := Lib.hid hc
  have hx := Ext.refl w
  obtain ⟨p, ep⟩ : ∃ p, p = l.count + 1 := ⟨_, rfl⟩
  obtain ⟨q, eq⟩ : ∃ q, q = r.count + 1 := ⟨_, rfl⟩
  have CL := Lib.hid (show wt l = (p : Int) by rw [ep]; exact wt_count l (by omega))
  have CR := Lib.hid (show wt r = (q : Int) by rw [eq]; exact wt_count r (by omega))
  have EP := Lib.hid ep
  have EQ := Lib.hid eq
  clear al ar nl nr hc ep eq
  go_enter Tryz.func100, Tryz.ntmps100
  go_wp2_with fail
  refine (wbMake_any _ .nil .nil k v trivial trivial).mono ?_
  rintro e w3 ⟨bp, rfl, _, hP, hS⟩
  replace hx := hx.trans hS
  replace hl := hl.ext hS
  replace hr := hr.ext hS
  clear hS
  obtain ⟨P, eP⟩ : ∃ P, P = Tr.node bp .nil k v 0 .nil := ⟨_, rfl⟩
  rw [← eP] at hP ⊢
  have HPK := Lib.hid (show P.key = k ∧ P.val = v by rw [eP]; exact ⟨rfl, rfl⟩)
  clear eP
  go_wp2_with fail
  refine (wbWeight_any _ l hl).mono ?_
  rw [CL.out]
  rintro e w4 ⟨rfl, hS⟩
  replace hx := hx.trans hS
  replace hl := hl.ext hS
  replace hr := hr.ext hS
  replace hP := hP.ext hS
  clear hS
  go_wp2_with fail
  refine (wbWeight_any _ r hr).mono ?_
  rw [CR.out]
  rintro e w5 ⟨rfl, hS⟩
  replace hx := hx.trans hS
  replace hl := hl.ext hS
  replace hr := hr.ext hS
  replace hP := hP.ext hS
  clear hS
  by_cases c1 : p < q
  · have c1' : (p : Int) < (q : Int) := by omega
    have HLE := Lib.hid (show l.count ≤ r.count by have := EP.out; have := EQ.out; omega)
    go_wp2_with fail
    refine (whang0 n P l r AL.out NL.out w5 (Nat.le_trans hn hx.size) hr hP hl AR.out HLE.out (by have := HC.out; omega) NR.out).mono ?_
    rw [HPK.out.1, HPK.out.2]
    rintro e w6 ⟨T, rfl, hok, hT, hS⟩
    go_wp2
    go_ret
    exact ⟨T, rfl, wjoin_left hok HLE.out, hT, hx.trans hS⟩
  · have c1' : ¬ (p : Int) < (q : Int) := by omega
    have HLE := Lib.hid (show r.count ≤ l.count by have := EP.out; have := EQ.out; omega)
    go_wp2_with fail
    refine (whang1 n P r l AR.out NR.out w5 (Nat.le_trans hn hx.size) hl hP hr AL.out HLE.out (by have := HC.out; omega) NL.out).mono ?_
    rw [HPK.out.1, HPK.out.2]
    rintro e w6 ⟨T, rfl, hok, hT, hS⟩
    go_wp2
    go_ret
    exact ⟨T, rfl, wjoin_right hok HLE.out, hT, hx.trans hS⟩
set_option maxHeartbeats 400000 in
theorem wbMost_any (w : World) (l r : Tr) (hl : InH w l) (hr : InH w r) (hc : l.count + r.count ≤ 80000) (p q : Nat) (ep : p = Nat.log2 (l.count + 1)) (eq : q = Nat.log2 (r.count + 1)) :
    Calls Tryz.prog 104 #[.pointer l.ptr, .pointer r.ptr] w (Ret (.int .i64 (6 * ((max p q : Nat) - (min p q : Nat)) + 1)) w) := by
  have H1 := Lib.hid (wbRank_any w l (l.count + 1) hl (wt_count l (by omega)) (by omega) (by omega))
  have H2 := Lib.hid (fun W h => wbRank_any W r (r.count + 1) h (wt_count r (by omega)) (by omega) (by omega))
  rw [← ep] at H1
  rw [← eq] at H2
  have b1 : p < 100 := by rw [ep]; exact Nat.lt_of_lt_of_le ((Nat.log2_lt (by omega)).2 (show l.count + 1 < 2 ^ 20 by omega)) (by omega)
  have b2 : q < 100 := by rw [eq]; exact Nat.lt_of_lt_of_le ((Nat.log2_lt (by omega)).2 (show r.count + 1 < 2 ^ 20 by omega)) (by omega)
  have hx := Ext.refl w
  obtain ⟨M, hM⟩ : ∃ M : Int, M = (6 * ((max p q : Nat) - (min p q : Nat)) + 1 : Int) := ⟨_, rfl⟩
  rw [← hM]
  have HM := Lib.hid hM
  clear hM ep eq hc
  go_enter Tryz.func104, Tryz.ntmps104
  go_wp2_with fail
  refine (H1.out).mono ?_
  rintro e w1 ⟨rfl, hS⟩
  replace hx := hx.trans hS
  replace hr := hr.ext hS
  clear hS
  go_wp2_with fail
  refine (H2.out _ hr).mono ?_
  rintro e w2 ⟨rfl, hS⟩
  replace hx := hx.trans hS
  clear hS
  rcases Nat.lt_or_ge p q with h | h
  all_goals
    go_wp2
    all_goals
      go_ret
      exact ⟨ret_int (by rw [HM.out]; omega), hx⟩
theorem fits_wbMay : ∀ {t : BT} {A B : Tr}, t.fits A → t.fits B → wbMay A = wbMay B
  | .nil, .nil, .nil, _, _ => rfl
  | .nil, .node .., _, h, _ => h.elim
  | .nil, .nil, .node .., _, h => h.elim
  | .node .., .nil, _, h, _ => h.elim
  | .node .., .node .., .nil, _, h => h.elim
  | .node k v s n g l r, .node b L kk vv gg R, .node b' L' k' v' g' R', h, h' => by
    have l1 := fits_wbMay h.2.2.2.1 h'.2.2.2.1
    have r1 := fits_wbMay h.2.2.2.2 h'.2.2.2.2
    have eh : gg = g' := h.2.2.1.symm.trans h'.2.2.1
    subst eh
    have wl : wt L = wt L' := by
      have e : L.count = L'.count := by unfold Tr.count; rw [BT.fits_len h.2.2.2.1, BT.fits_len h'.2.2.2.1]
      unfold wt; rw [Tr.size_count, Tr.size_count, e]
    have wr : wt R = wt R' := by
      have e : R.count = R'.count := by unfold Tr.count; rw [BT.fits_len h.2.2.2.2, BT.fits_len h'.2.2.2.2]
      unfold wt; rw [Tr.size_count, Tr.size_count, e]
    have e : ∀ b l k v g r, wbOne (.node b l k v g r) = if g = 0 then (if likeB (wt l) (wt r) then 0 else 8) else 140 := fun _ _ _ _ _ _ => rfl
    rw [wbMay_node, wbMay_node, l1, r1, e, e, wl, wr]
/-- a row of beads of a tree in balance, and not too long. -/
def GoodW (zs : List BeadL) (t : BT) : Prop := t.enc = zs ∧ zs.length ≤ 400 ∧ wbMay t.tr = true
/-- what is known of a tree that is made of such a row. -/
theorem goodW_tree {zs : List BeadL} {t : BT} {A : Tr} (hg : GoodW zs t) (hf : t.fits A) : WbH A ∧ A.count ≤ 400 := by
  obtain ⟨rfl, h1, h2⟩ := hg
  have hc : A.count ≤ 400 := by unfold Tr.count; rw [BT.fits_len hf]; exact h1
  exact ⟨WbH.of_may (by rw [fits_wbMay hf t.tr_fits]; exact h2) (by omega), hc⟩
theorem wjoin_count {n : Nat} {l r T : Tr} {k v : Int} (h : WJoinOk n l r k v T) : T.count = l.count + 1 + r.count := by
  rw [← Tr.kvs_count, h.kvs, ← Tr.kvs_count, ← Tr.kvs_count]; simp; omega
theorem three_key {C : Tr} (h : WbH C) (hk : C.kvs = [(1, 10), (2, 20), (3, 30)]) : C.key = 2 := by
  cases C with
  | nil => simp [Tr.kvs] at hk
  | node b l k v g r =>
    obtain ⟨-, -, -, h4⟩ := h
    rw [Tr.kvs] at hk
    rw [← Tr.kvs_count, ← Tr.kvs_count] at h4
    unfold lk at h4
    have hlen := congrArg List.length hk
    rw [List.length_append, List.length_cons] at hlen
    simp at hlen
    rcases hl : l.kvs with _ | ⟨x, _ | ⟨y, xs⟩⟩
    · rw [hl] at h4 hlen; simp at h4 hlen; omega
    · rw [hl] at hk
      simp at hk
      exact hk.2.1.1
    · rw [hl] at h4 hlen; simp at h4 hlen; omega
end Go.Proofs.YtkkdobolloojjaaGreat
namespace Go.Proofs.YtkkdobolloojjaaGreat
open Go Go.RowKit

end Go.Proofs.YtkkdobolloojjaaGreat
namespace Go.Proofs.YtkkdobolloojjaaGreat
open Go Go.RowKit Go.Shelf

/-- the entries of a set of nodes, by their blocks. -/
def setFrom : Nat → List Nat → List MapEntry
  | _, [] => []
  | i, b :: bs => { key := .pointer (some ⟨b, 0, none⟩), val := .agg #[], born := i } :: setFrom (i + 1) bs
theorem setFrom_snoc : ∀ (i : Nat) (bs : List Nat) (b : Nat), setFrom i (bs ++ [b]) = setFrom i bs ++ [{ key := .pointer (some ⟨b, 0, none⟩), val := .agg #[], born := i + bs.length }]
  | i, [], b => by simp [setFrom]
  | i, a :: bs, b => by
    rw [List.cons_append, setFrom, setFrom, setFrom_snoc (i + 1) bs b, List.length_cons, List.cons_append, show i + 1 + bs.length = i + (bs.length + 1) by omega]
theorem setFrom_len : ∀ (i : Nat) (bs : List Nat), (setFrom i bs).length = bs.length
  | _, [] => rfl
  | i, b :: bs => by rw [setFrom, List.length_cons, setFrom_len, List.length_cons]
/-- a block of cells that nobody shares. -/
def IsCells (W : World) (b : Nat) : Prop := ∃ c t, W.heap[b]? = some (.cells c t (0, 0))
/-- a set of nodes lies at R. -/
structure SetM (W : World) (R : Nat) (bs : List Nat) : Prop where
  map : W.heap[R]? = some (.map (setFrom 0 bs).toArray bs.length)
  nodes : ∀ b ∈ bs, IsCells W b
theorem node_size (W : World) : (sizeOf 104).run Tryz.prog W = .ok 7 W := by kernel_rfl
theorem node_eq (W : World) (a b : Nat) (ha : IsCells W a) (hb : IsCells W b) : (Op.equal 28 (.pointer (some ⟨a, 0, none⟩)) (.pointer (some ⟨b, 0, none⟩))).run Tryz.prog W = .ok (a == b) W := by
  obtain ⟨ca, ta, ha⟩ := ha
  obtain ⟨cb, tb, hb⟩ := hb
  have hz := node_size W
  have h : ∀ d : Nat, (Op.equalIn (d + 1) 28 (.pointer (some ⟨a, 0, none⟩)) (.pointer (some ⟨b, 0, none⟩))).run Tryz.prog W = .ok (a == b) W := fun d => by
    by_cases h : a = b
    · subst h
      simp [Op.equalIn, run_underlying Tryz.underlying28, hz, run_sameAddr_same]
    · have hne : (⟨a, 0, none⟩ : Addr) ≠ ⟨b, 0, none⟩ := fun e => h (by injection e)
      simp [Op.equalIn, run_underlying Tryz.underlying28, hz, run_sameAddr_other W hne ha hb, h]
  simp only [Op.equal, Op.maxDepth]
  exact h 9999
theorem node_eq_nil (W : World) (b : Nat) : (Op.equal 28 (.pointer none) (.pointer (some ⟨b, 0, none⟩))).run Tryz.prog W = .ok false W := by
  have h : ∀ d : Nat, (Op.equalIn (d + 1) 28 (.pointer none) (.pointer (some ⟨b, 0, none⟩))).run Tryz.prog W = .ok false W := fun d => by simp [Op.equalIn, run_underlying Tryz.underlying28]
  simp only [Op.equal, Op.maxDepth]
  exact h 9999
theorem ask_none (W : World) (a : Nat) (ha : IsCells W a) : ∀ (bs : List Nat) (i j : Nat), (∀ b ∈ bs, IsCells W b) → a ∉ bs → (Instr.findAsking 28 (.pointer (some ⟨a, 0, none⟩)) (setFrom i bs) j).run Tryz.prog W = .ok none W
  | [], _, _, _, _ => by simp [setFrom, Instr.findAsking]
  | b :: bs, i, j, hn, hm => by
    have e := node_eq W a b ha (hn b (List.mem_cons_self ..))
    have hne : (a == b) = false := by simp only [List.mem_cons, not_or] at hm; simpa using hm.1
    rw [hne] at e
    have r := ask_none W a ha bs (i + 1) (j + 1) (fun x hx => hn x (List.mem_cons_of_mem _ hx)) (fun h => hm (List.mem_cons_of_mem _ h))
    simp [setFrom, Instr.findAsking, e, r, Result.andThen]
theorem ask_nil (W : World) : ∀ (bs : List Nat) (i j : Nat), (Instr.findAsking 28 (.pointer none) (setFrom i bs) j).run Tryz.prog W = .ok none W
  | [], _, _ => by simp [setFrom, Instr.findAsking]
  | b :: bs, i, j => by
    have e := node_eq_nil W b
    have r := ask_nil W bs (i + 1) (j + 1)
    simp [setFrom, Instr.findAsking, e, r, Result.andThen]
theorem ask_some (W : World) (a : Nat) : ∀ (bs : List Nat) (i j : Nat), (∀ b ∈ bs, IsCells W b) → a ∈ bs → ∃ k, (Instr.findAsking 28 (.pointer (some ⟨a, 0, none⟩)) (setFrom i bs) j).run Tryz.prog W = .ok (some (k, .agg #[])) W
  | [], _, _, _, hm => by simp at hm
  | b :: bs, i, j, hn, hm => by
    by_cases h : a = b
    · subst h
      have e := node_eq W a a (hn a (List.mem_cons_self ..)) (hn a (List.mem_cons_self ..))
      exact ⟨j, by simp [setFrom, Instr.findAsking, e, Result.andThen]⟩
    · have hm' : a ∈ bs := by simpa [h] using hm
      have e := node_eq W a b (hn a (List.mem_cons_of_mem _ hm')) (hn b (List.mem_cons_self ..))
      have hne : (a == b) = false := by simpa using h
      rw [hne] at e
      obtain ⟨k, r⟩ := ask_some W a bs (i + 1) (j + 1) (fun x hx => hn x (List.mem_cons_of_mem _ hx)) hm'
      exact ⟨k, by simp [setFrom, Instr.findAsking, e, r, Result.andThen]⟩
theorem find_ask (W : World) (p : Option Addr) : ∀ (bs : List Nat), (Instr.findKey 28 (.pointer p) (setFrom 0 bs)).run Tryz.prog W = (Instr.findAsking 28 (.pointer p) (setFrom 0 bs)).run Tryz.prog W
  | [] => by simp [setFrom, Instr.findKey, Instr.findNow, Instr.findAsking, run_underlying Tryz.underlying28, Result.andThen]
  | b :: bs => by simp [setFrom, Instr.findKey, Instr.findNow, Instr.sameNow, run_underlying Tryz.underlying28, Result.andThen]
theorem check_node (W : World) (p : Option Addr) (e : Bool) : (Instr.checkKey e 10000 28 (.pointer p)).run Tryz.prog W = .ok () W := by
  unfold Instr.checkKey
  simp [run_underlying Tryz.underlying28, Result.andThen]
theorem set_lookup (W : World) (R : Nat) (bs : List Nat) (p : Option Addr) (f : Bool) (h : SetM W R bs) (hf : ∃ k, (Instr.findAsking 28 (.pointer p) (setFrom 0 bs)).run Tryz.prog W = .ok (if f then some (k, .agg #[]) else none) W) :
    (Instr.lookup 112 (.map (some R)) (.pointer p) true).run Tryz.prog W = .ok (.tuple #[.agg #[], .bool f]) W := by
  obtain ⟨k, hf⟩ := hf
  have hz : (zeroValue 78).run Tryz.prog W = .ok (.agg #[]) W := by kernel_rfl
  have hk := (find_ask W p bs).trans hf
  cases f <;> simp [Instr.lookup, run_underlying Tryz.underlying112, MapKept.run_getObj_map h.map, check_node, hk, hz, Result.andThen]
theorem set_add (W : World) (R : Nat) (bs : List Nat) (a : Nat) (h : SetM W R bs) (ha : IsCells W a) (hn : a ∉ bs) :
    (Instr.mapUpdate 112 (.map (some R)) (.pointer (some ⟨a, 0, none⟩)) (.agg #[])).run Tryz.prog W = .ok () (W.putObj R (.map (setFrom 0 (bs ++ [a])).toArray (bs.length + 1))) := by
  have hk := (find_ask W (some ⟨a, 0, none⟩) bs).trans (ask_none W a ha bs 0 0 h.nodes hn)
  simp [Instr.mapUpdate, run_underlying Tryz.underlying112, MapKept.run_getObj_map h.map, check_node, hk, MapKept.run_setObj_map _ h.map, Result.andThen, World.putObj, setFrom_snoc]
theorem SetM.add {W : World} {R : Nat} {bs : List Nat} {a : Nat} (h : SetM W R bs) (ha : IsCells W a) : SetM (W.putObj R (.map (setFrom 0 (bs ++ [a])).toArray (bs.length + 1))) R (bs ++ [a]) := by
  have hR := (Array.getElem?_eq_some_iff.1 h.map).1
  have hk : ∀ b, IsCells W b → IsCells (W.putObj R (.map (setFrom 0 (bs ++ [a])).toArray (bs.length + 1))) b := fun b ⟨c, t, hb⟩ => ⟨c, t, by
    rw [World.putObj_heap_other (fun e => by subst e; rw [h.map] at hb; cases hb)]; exact hb⟩
  refine ⟨by rw [List.length_append]; exact World.putObj_heap_same hR, fun b hb => ?_⟩
  rw [List.mem_append] at hb
  rcases hb with hb | hb
  · exact hk b (h.nodes b hb)
  · rw [List.mem_singleton] at hb; subst hb; exact hk b ha
end Go.Proofs.YtkkdobolloojjaaGreat
