/- The package wb. wb.May, wb.Rank; joineryref18. joineryref18: Like, Check, May, Rank, Least. joinerylaw18.alive, light; the walks of WbTells, WbLikes, WbHigh, WbMakes. Weight-balanced trees; what becomes of a tree on whose outer side a lighter one hangs (plain, no program). bound.kinds, fewer. bound.fewer, Least. joineryref34.Lean, and which trees its beads are. joineryref34.Picker: numbers that choose; avl, rb, wb, Grow: any trees that may be. bound.Least. -/
import Derived.Test.YtejknkhahjgdnaaM4
import Derived.Deep.LoopGhost
import Derived.MapKept
namespace Go.Proofs.Ytejknkhahjgdnaa
open Go Go.RowKit

/-- a tree's weight. -/
def wt (t : Tr) : Int := wrap64 (t.size + 1)
set_option maxHeartbeats 400000 in
theorem wbWeight_any (w : World) (t : Tr) (ht : InH w t) : Calls Try.prog 93 #[.pointer t.ptr] w (Ret (.int .i64 (wt t)) w) := by
  go_enter Try.func93, Try.ntmps93
  go_wp2_with fail
  refine (size_any _ t ht).mono ?_
  rintro e w1 ⟨rfl, h1⟩
  go_wp2
  go_ret
  exact Ret.mk h1
def withinB (lo hi a b : Int) : Bool := decide (lo ≤ a) && decide (a ≤ hi) && decide (lo ≤ b) && decide (b ≤ hi)
set_option maxHeartbeats 1000000 in
theorem within_any (w : World) (lo hi a b : Int) (B : Nat) (c0 : w.cell? ⟨B, 0, none⟩ = some (.int .i64 a)) (c1 : w.cell? ⟨B, 1, none⟩ = some (.int .i64 b)) : Calls Try.prog 105 #[.int .i64 lo, .int .i64 hi, .slice (some ⟨B, 0, none⟩) 2 2] w (Ret (.bool (withinB lo hi a b)) w) := by
  obtain ⟨X, hX⟩ : ∃ X, X = withinB lo hi a b := ⟨_, rfl⟩
  rw [← hX]
  have HX := Lib.hid hX
  clear hX
  by_cases h1 : a < lo
  · go_enter Try.func105, Try.ntmps105
    go_wp2
    refine wp_loop_rounds 3 ?_
    rw [rounds_succ]
    go_wp2
    go_ret
    exact ⟨ret_bool (by rw [HX.out]; simp [withinB]; omega), Ext.refl _⟩
  · by_cases h2 : hi < a
    · go_enter Try.func105, Try.ntmps105
      go_wp2
      refine wp_loop_rounds 3 ?_
      rw [rounds_succ]
      go_wp2
      go_ret
      exact ⟨ret_bool (by rw [HX.out]; simp [withinB]; omega), Ext.refl _⟩
    · by_cases h3 : b < lo
      · go_enter Try.func105, Try.ntmps105
        go_wp2
        refine wp_loop_rounds 3 ?_
        rw [rounds_succ]
        go_wp2
        rw [rounds_succ]
        go_wp2
        go_ret
        exact ⟨ret_bool (by rw [HX.out]; simp [withinB]; omega), Ext.refl _⟩
      · by_cases h4 : hi < b
        · go_enter Try.func105, Try.ntmps105
          go_wp2
          refine wp_loop_rounds 3 ?_
          rw [rounds_succ]
          go_wp2
          rw [rounds_succ]
          go_wp2
          go_ret
          exact ⟨ret_bool (by rw [HX.out]; simp [withinB]; omega), Ext.refl _⟩
        · go_enter Try.func105, Try.ntmps105
          go_wp2
          refine wp_loop_rounds 3 ?_
          rw [rounds_succ]
          go_wp2
          rw [rounds_succ]
          go_wp2
          rw [rounds_succ]
          go_wp2
          go_ret
          exact ⟨ret_bool (by rw [HX.out]; simp [withinB]; omega), Ext.refl _⟩
/-- are two weights alike? -/
def likeB (a b : Int) : Bool := withinB 1 1099511627776 a b && decide (29 * (a + b) ≤ 100 * min a b)
/-- the same, as the code has it. -/
def likeR (m a b : Int) : Bool := withinB 1 m a b && decide (wrap64 (29 * wrap64 (a + b)) ≤ wrap64 (100 * min a b))
theorem likeR_eq (a b : Int) : likeR 1099511627776 a b = likeB a b := by
  unfold likeR likeB
  cases h : withinB 1 1099511627776 a b with
  | false => rfl
  | true =>
    simp only [withinB, Bool.and_eq_true, decide_eq_true_eq] at h
    rw [Bool.true_and, Bool.true_and]
    congr 1
    rw [show wrap64 (a + b) = a + b by unfold wrap64; omega, show wrap64 (29 * (a + b)) = 29 * (a + b) by unfold wrap64; omega, show wrap64 (100 * min a b) = 100 * min a b by unfold wrap64; omega]
set_option maxHeartbeats 1000000 in
theorem wbLike_any (w : World) (a b : Int) : Calls Try.prog 92 #[.int .i64 a, .int .i64 b] w (Ret (.bool (likeB a b)) w) := by
  obtain ⟨X, hX⟩ : ∃ X, X = likeB a b := ⟨_, rfl⟩
  rw [← hX]
  rw [← likeR_eq] at hX
  have HX := Lib.hid hX
  clear hX
  have hc0 := cell_of (alloc_at w (.cells #[.int .i64 a, .int .i64 b] 3) _ rfl) 0
  have hc1 := cell_of (alloc_at w (.cells #[.int .i64 a, .int .i64 b] 3) _ rfl) 1
  have H := Lib.hid (fun m => within_any (w.alloc (.cells #[.int .i64 a, .int .i64 b] 3)) 1 m a b w.heap.size hc0 hc1)
  have hE := (Ext.refl w).alloc (.cells #[.int .i64 a, .int .i64 b] 3)
  clear hc0 hc1
  go_enter Try.func92, Try.ntmps92
  go_wp2_with fail
  obtain ⟨M, hM⟩ : ∃ M : Int, M = 1099511627776 := ⟨_, rfl⟩
  rw [← hM] at HX ⊢
  clear hM
  refine (H.out M).mono ?_
  rintro e w1 ⟨rfl, h1⟩
  have h01 := hE.trans h1
  cases hw : withinB 1 M a b with
  | false =>
    have HW := Lib.hid hw
    clear hw
    go_wp2
    go_ret
    exact ⟨ret_bool (by rw [HX.out]; simp [likeR, HW.out]), h01⟩
  | true =>
    have HW := Lib.hid hw
    clear hw
    rcases Int.lt_or_le b a with hab | hab
    all_goals
      have HAB := Lib.hid hab
      go_wp2
      go_ret
      have := HAB.out
      exact ⟨ret_bool (by rw [HX.out]; simp only [likeR, HW.out, Bool.true_and]; congr 3; omega), h01⟩
/-- what is wrong with a node. -/
def wbOne (t : Tr) : Int := if t.tag = 0 then (if likeB (wt t.left) (wt t.right) then 0 else 8) else 140
/-- the state of Check's loop. -/
def ChkSt (w : World) (T : Tr) (X : Nat × Int) (g : Nat) (at_ e v : Value) (W : World) : Prop :=
  ∃ (j : Nat) (st : List Tr), at_ = .int .i64 j ∧ e = .int .i64 0 ∧ NOwn w.heap.size W v (st.map Tr.ptr) ∧ (∀ x ∈ st, InH w x) ∧ Ext w W ∧
    X = (j + (firstOf wbOne (pend st)).1, (firstOf wbOne (pend st)).2) ∧ 2 * (pend st).length + st.length ≤ g ∧ j + (pend st).length ≤ T.pre.length ∧ st.length ≤ j + 1
set_option maxHeartbeats 4000000 in
theorem wbCheck_any (w : World) (T : Tr) (hT : InH w T) (hc : T.pre.length ≤ 4000) :
    Calls Try.prog 70 #[.pointer T.ptr] w (Ret (.tuple #[.int .i64 (firstOf wbOne T.pre).1, .int .i64 (firstOf wbOne T.pre).2]) w) := by
  obtain ⟨X, hX⟩ : ∃ X, X = firstOf wbOne T.pre := ⟨_, rfl⟩
  rw [← hX]
  have HX := Lib.hid hX
  have HT := Lib.hid hT
  clear hX hT
  go_enter Try.func70, Try.ntmps70
  go_wp2_with fail
  go_step3
  go_wp2_with fail
  go_step3
  go_wp2_with fail
  go_loopg [2, 3, 4] (2 * T.pre.length + 1) (fun g a e v W => ChkSt w T X g a e v W)
  case atStart =>
    refine ⟨0, [T], rfl, rfl, ?_, ?_, (Ext.refl w).alloc _, ?_, ?_, ?_, ?_⟩
    · exact ⟨rfl, .inr ⟨w.heap.size, 1, _, rfl, Nat.le_refl _, alloc_at _ _ _ rfl, Nat.le_refl _, by decide, rfl, rfl⟩⟩
    · intro x hx
      obtain rfl : x = T := by simpa using hx
      exact HT.out
    · rw [HX.out]; simp [pend]
    · simp [pend]
    · simp [pend]
    · simp
  case round =>
    obtain ⟨j, st, rfl, rfl, hown, hst, hE, hx, hg, hj, hl⟩ := hrel
    rcases List.eq_nil_or_concat st with rfl | ⟨st', t, rfl⟩
    · obtain ⟨a, c, rfl⟩ := hown.slice
      rw [pend_nil] at hx
      have HXX := Lib.hid hx
      clear hx hg hj hl hown hst
      rw [List.map_nil, List.length_nil]
      go_wp2
      rw [Exit.noGoto_ret]
      go_ret2
      exact ⟨ret_two (by rw [HXX.out]; simp [firstOf]) (by rw [HXX.out]; rfl), hE⟩
    · rw [List.concat_eq_append] at *
      rw [List.map_append] at hown
      obtain ⟨gb, cap, rfl, hcap, hcell, hown'⟩ := NOwn.pop (x := t.ptr) hown
      rw [pend_snoc] at hx hg hj
      rw [List.length_append] at hg hj
      rw [List.length_append, List.length_singleton] at hg hl
      have ht := hst t (by simp)
      have hst' : ∀ x ∈ st', InH w x := fun x hx => hst x (by simp [hx])
      have HST := Lib.hid hst'
      have HOWN := Lib.hid hown'
      have HXX := Lib.hid hx
      clear hst hst' hown hown' hx
      rw [List.length_map] at HOWN hcap hcell ⊢
      have HSM := Lib.hid (show (st'.map Tr.ptr).length = st'.length from List.length_map _)
      generalize hN : st'.length = n at *
      have HN := Lib.hid hN
      clear hN
      cases t with
      | nil =>
        rw [Tr.ptr_nil] at hcell
        clear ht
        go_wp2
        go_roundg (2 * (pend st').length + n)
        case measure => omega
        case rel => exact ⟨j, st', rfl, rfl, HOWN.out, HST.out, hE, HXX.out, by have := HN.out; omega, by simp [Tr.pre] at hj; exact hj, by have := HN.out; omega⟩
      | node tb tl tk tv tg tr =>
        rw [Tr.ptr_node] at hcell
        have hpl : (Tr.node tb tl tk tv tg tr).pre.length = 1 + (tl.pre.length + tr.pre.length) := by simp [Tr.pre]; omega
        rw [hpl] at hg hj
        clear hpl
        have htr := ht.ext hE
        have hone : wbOne (.node tb tl tk tv tg tr) = if tg = 0 then (if likeB (wt tl) (wt tr) then 0 else 8) else 140 := rfl
        have HXO : Hid (X = if wbOne (.node tb tl tk tv tg tr) = 0 then (j + ((firstOf wbOne (tl.pre ++ (tr.pre ++ pend st'))).1 + 1), (firstOf wbOne (tl.pre ++ (tr.pre ++ pend st'))).2) else (j + 0, wbOne (.node tb tl tk tv tg tr))) := Lib.hid (by
          have := HXX.out
          rw [Tr.pre, List.cons_append, firstOf_cons, List.append_assoc] at this
          rw [this]
          split <;> rfl)
        have HTT := Lib.hid ht
        clear ht HXX
        go_wp2_with fail
        refine (tag_any wr _ htr).mono ?_
        rw [Tr.tag_node]
        rintro e w2 ⟨rfl, h2⟩
        by_cases c0 : tg = 0
        · rw [if_pos c0] at hone
          subst c0
          cases cl : likeB (wt tl) (wt tr) with
          | false =>
            rw [cl] at hone
            have HONE := Lib.hid (show wbOne (.node tb tl tk tv 0 tr) = 8 from hone)
            have CL := Lib.hid cl
            clear hone cl
            go_wp2_with fail
            refine (left_any w2 (.node tb tl tk tv 0 tr) (htr.ext h2)).mono ?_
            rw [Tr.left_node]
            rintro e w3 ⟨rfl, h3⟩
            go_wp2_with fail
            have h23 := h2.trans h3
            refine (wbWeight_any w3 tl (left_ok (htr.ext h23))).mono ?_
            rintro e w4 ⟨rfl, h4⟩
            go_wp2_with fail
            have h24 := h23.trans h4
            refine (right_any w4 (.node tb tl tk tv 0 tr) (htr.ext h24)).mono ?_
            rw [Tr.right_node]
            rintro e w5 ⟨rfl, h5⟩
            go_wp2_with fail
            have h25 := h24.trans h5
            refine (wbWeight_any w5 tr (right_ok (htr.ext h25))).mono ?_
            rintro e w6 ⟨rfl, h6⟩
            have h26 := h25.trans h6
            clear h2 h3 h23 h4 h24 h5 h25 h6
            go_wp2_with fail
            refine (wbLike_any w6 (wt tl) (wt tr)).mono ?_
            rw [CL.out]
            rintro e w7 ⟨rfl, h7⟩
            go_wp2
            rw [Exit.noGoto_ret]
            go_ret2
            exact ⟨ret_two (by rw [HXO.out, HONE.out]; simp) (by rw [HXO.out, HONE.out]; simp), hE.trans (h26.trans h7)⟩
          | true =>
            rw [cl] at hone
            have HONE := Lib.hid (show wbOne (.node tb tl tk tv 0 tr) = 0 from hone)
            have CL := Lib.hid cl
            clear hone cl
            go_wp2_with fail
            refine (left_any w2 (.node tb tl tk tv 0 tr) (htr.ext h2)).mono ?_
            rw [Tr.left_node]
            rintro e w3 ⟨rfl, h3⟩
            go_wp2_with fail
            have h23 := h2.trans h3
            refine (wbWeight_any w3 tl (left_ok (htr.ext h23))).mono ?_
            rintro e w4 ⟨rfl, h4⟩
            go_wp2_with fail
            have h24 := h23.trans h4
            refine (right_any w4 (.node tb tl tk tv 0 tr) (htr.ext h24)).mono ?_
            rw [Tr.right_node]
            rintro e w5 ⟨rfl, h5⟩
            go_wp2_with fail
            have h25 := h24.trans h5
            refine (wbWeight_any w5 tr (right_ok (htr.ext h25))).mono ?_
            rintro e w6 ⟨rfl, h6⟩
            have h26 := h25.trans h6
            clear h2 h3 h23 h4 h24 h5 h25 h6
            go_wp2_with fail
            refine (wbLike_any w6 (wt tl) (wt tr)).mono ?_
            rw [CL.out]
            rintro e w7 ⟨rfl, h7⟩
            go_wp2_with fail
            have h27 := h26.trans h7
            refine (right_any w7 (.node tb tl tk tv 0 tr) (htr.ext h27)).mono ?_
            rw [Tr.right_node]
            rintro e w8 ⟨rfl, h8⟩
            go_wp2_with fail
            have h28 := h27.trans h8
            refine (left_any w8 (.node tb tl tk tv 0 tr) (htr.ext h28)).mono ?_
            rw [Tr.left_node]
            rintro e w9 ⟨rfl, h9⟩
            have h29 := h28.trans h9
            have hA := (Ext.refl w9).alloc (.cells #[.pointer tr.ptr, .pointer tl.ptr] 43)
            have hR : (w9.alloc (.cells #[.pointer tr.ptr, .pointer tl.ptr] 43)).rangeAt w9.heap.size 0 ([tr.ptr, tl.ptr].map Value.pointer) := fun q u hq => by
              rw [Nat.zero_add, cell_of (alloc_at w9 (.cells #[.pointer tr.ptr, .pointer tl.ptr] 43) _ rfl) q]
              simpa using hq
            have HR := Lib.hid hR
            have hE9 := hE.trans h29
            have HO := Lib.hid ((HOWN.out.ext h29).ext hA)
            have HE := Lib.hid (hE9.trans hA)
            clear h26 h7 h27 h8 h28 h9 h29 hA hR hE9
            go_wp2_with (at_builtin; refine wpList_append_nodes (B := w.heap.size) (xs := st'.map Tr.ptr) (ys := [tr.ptr, tl.ptr]) rfl (.tmp 40) (.tmp 45) rfl rfl rfl HO.out HR.out ?b1 HE.out.size ?_)
            case b1 => have := HSM.out; have := HN.out; simp; omega
            intro v10 w10 hown10 hg10
            have h010 : Ext w w10 := ngrown_ext HE.out HO.out hg10
            have HO10 := Lib.hid hown10
            have htl := htr
            clear hg10 hown10
            go_wp2
            go_roundg (2 * (pend (st' ++ [tr, tl])).length + (st' ++ [tr, tl]).length)
            case measure => rw [pend_two]; have := HN.out; simp; omega
            case rel =>
              refine ⟨j + 1, st' ++ [tr, tl], by go_num, rfl, by simpa using HO10.out, ?_, h010, ?_, Nat.le_refl _, ?_, ?_⟩
              · intro x hx
                rcases List.mem_append.1 hx with hx | hx
                · exact HST.out x hx
                · have := HTT.out
                  rcases List.mem_cons.1 hx with rfl | hx
                  · exact this.2.2
                  · obtain rfl := List.mem_singleton.1 hx
                    exact this.2.1
              · rw [HXO.out, HONE.out, pend_two, if_pos rfl]
                congr 1
                omega
              · rw [pend_two]; simp; omega
              · have := HN.out; simp; omega
        · rw [if_neg c0] at hone
          have HONE := Lib.hid hone
          have c1 : (tg != 0) = true := by simpa using c0
          clear hone c0
          go_wp2
          rw [Exit.noGoto_ret]
          go_ret2
          exact ⟨ret_two (by rw [HXO.out, HONE.out]; simp) (by rw [HXO.out, HONE.out]; simp), hE.trans h2⟩
end Go.Proofs.Ytejknkhahjgdnaa
namespace Go.Proofs.Ytejknkhahjgdnaa
open Go Go.RowKit

def wbMay (T : Tr) : Bool := mayOf wbOne T
set_option maxHeartbeats 400000 in
theorem wbMay_any (w : World) (T : Tr) (hT : InH w T) (hc : T.pre.length ≤ 4000) : Calls Try.prog 48 #[.pointer T.ptr] w (Ret (.bool (wbMay T)) w) := by
  go_enter Try.func48, Try.ntmps48
  go_wp2_with fail
  refine (wbCheck_any _ T hT hc).mono ?_
  rintro e w1 ⟨rfl, h1⟩
  go_wp2
  go_ret
  exact ⟨rfl, h1⟩
theorem pow_log (n k : Nat) (hn : n ≠ 0) : k ≤ Nat.log2 n ↔ (0 : Int) < (n : Int) / 2 ^ k := by
  rw [Nat.le_log2 hn]
  have e : ((2 : Int) ^ k) = ((2 ^ k : Nat) : Int) := by simp
  rw [e]
  have hp : 0 < 2 ^ k := Nat.two_pow_pos k
  constructor
  · intro h
    have := (Nat.le_div_iff_mul_le hp).2 (by omega : 1 * 2 ^ k ≤ n)
    omega
  · intro h
    have h2 : 0 < n / 2 ^ k := by
      have : ((n / 2 ^ k : Nat) : Int) = (n : Int) / ((2 ^ k : Nat) : Int) := Int.natCast_ediv n (2 ^ k)
      omega
    have := (Nat.le_div_iff_mul_le hp).1 h2
    omega
end Go.Proofs.Ytejknkhahjgdnaa
namespace Go.Proofs.Ytejknkhahjgdnaa
open Go Go.RowKit

/-- the same, as the document's code has it. -/
def likeD (m a b : Int) : Bool := withinB 1 m a b && (decide (wrap64 (29 * wrap64 (a + b)) ≤ wrap64 (100 * a)) && decide (wrap64 (29 * wrap64 (a + b)) ≤ wrap64 (100 * b)))
theorem likeD_eq (a b : Int) : likeD 1099511627776 a b = likeB a b := by
  unfold likeD likeB
  cases h : withinB 1 1099511627776 a b with
  | false => rfl
  | true =>
    simp only [withinB, Bool.and_eq_true, decide_eq_true_eq] at h
    rw [Bool.true_and, Bool.true_and]
    rw [show wrap64 (a + b) = a + b by unfold wrap64; omega, show wrap64 (29 * (a + b)) = 29 * (a + b) by unfold wrap64; omega, show wrap64 (100 * a) = 100 * a by unfold wrap64; omega, show wrap64 (100 * b) = 100 * b by unfold wrap64; omega]
    rw [Bool.eq_iff_iff]
    simp only [Bool.and_eq_true, decide_eq_true_eq]
    omega
theorem fits_wt {t : BT} {T : Tr} (h : t.fits T) (hl : t.enc.length ≤ 100000) : wt T = t.enc.length + 1 := by
  unfold wt
  rw [(fits_sum h).2]
  unfold wrap64
  omega
def wLeast : Nat → Nat
  | 0 => 1
  | h + 1 => (100 * wLeast h + 70) / 71
theorem wLeast_step (h : Nat) : wLeast h ≤ wLeast (h + 1) := by rw [wLeast]; omega
theorem wLeast_mono {a b : Nat} (h : a ≤ b) : wLeast a ≤ wLeast b := by
  induction b with
  | zero => obtain rfl : a = 0 := by omega
            exact Nat.le_refl _
  | succ b ih =>
    rcases Nat.lt_or_ge a (b + 1) with h1 | h1
    · exact Nat.le_trans (ih (by omega)) (wLeast_step b)
    · obtain rfl : a = b + 1 := by omega
      exact Nat.le_refl _
theorem least_div (x : Nat) (h : x ≤ 4000000000) : wrap64 ((100 * (x : Int) + 70).tdiv 71) = ((100 * x + 70) / 71 : Nat) := by
  rw [Int.tdiv_eq_ediv_of_nonneg (by omega)]
  have e : (((100 * x + 70) / 71 : Nat) : Int) = (100 * (x : Int) + 70) / 71 := by omega
  rw [← e]
  have h2 : (100 * x + 70) / 71 ≤ 6000000000 := by omega
  generalize (100 * x + 70) / 71 = y at *
  unfold wrap64
  omega
end Go.Proofs.Ytejknkhahjgdnaa
namespace Go.Proofs.Ytejknkhahjgdnaa
open Go Go.RowKit

theorem like_sym (a b : Int) : likeB a b = likeB b a := by
  unfold likeB withinB
  rw [Int.add_comm b a, Int.min_comm b a]
  congr 1
  rw [Bool.eq_iff_iff]
  simp only [Bool.and_eq_true, decide_eq_true_eq]
  constructor <;> rintro ⟨⟨⟨h1, h2⟩, h3⟩, h4⟩ <;> exact ⟨⟨⟨h3, h4⟩, h1⟩, h2⟩
theorem like_self (a : Int) : likeB a a = (decide (1 ≤ a) && decide (a ≤ 1099511627776)) := by
  unfold likeB withinB
  rw [Bool.eq_iff_iff]
  simp only [Bool.and_eq_true, decide_eq_true_eq]
  omega
/-- the arithmetic of what may be by weights. -/
theorem wbMay_node (b : Nat) (l : Tr) (k v g : Int) (r : Tr) : wbMay (.node b l k v g r) = (wbOne (.node b l k v g r) == 0 && wbMay l && wbMay r) := mayOf_node b l k v g r
theorem wt_count (T : Tr) (h : T.count ≤ 100000) : wt T = ((T.count + 1 : Nat) : Int) := by
  unfold wt
  rw [Tr.size_count]
  unfold wrap64
  omega
theorem wb_sides {b : Nat} {l r : Tr} {k v g : Int} (h : wbMay (.node b l k v g r) = true) : g = 0 ∧ likeB (wt l) (wt r) = true ∧ wbMay l = true ∧ wbMay r = true := by
  rw [wbMay_node] at h
  simp only [Bool.and_eq_true, beq_iff_eq] at h
  obtain ⟨⟨h1, h2⟩, h3⟩ := h
  have e : wbOne (.node b l k v g r) = if g = 0 then (if likeB (wt l) (wt r) then 0 else 8) else 140 := rfl
  rw [e] at h1
  split at h1
  · rename_i hg
    split at h1
    · rename_i hl; exact ⟨hg, hl, h2, h3⟩
    · cases h1
  · cases h1
theorem like_arith {a b : Nat} (h : likeB (a : Int) (b : Int) = true) : 29 * (a + b) ≤ 100 * a ∧ 29 * (a + b) ≤ 100 * b := by
  unfold likeB at h
  simp only [Bool.and_eq_true, decide_eq_true_eq] at h
  omega
theorem wb_least : ∀ T : Tr, wbMay T = true → T.count ≤ 100000 → wLeast T.ht ≤ T.count + 1
  | .nil, _, _ => by simp [Tr.ht, wLeast]
  | .node b l k v g r, h, hc => by
    obtain ⟨-, h1, h2, h3⟩ := wb_sides h
    rw [Tr.count_node] at hc ⊢
    rw [wt_count l (by omega), wt_count r (by omega)] at h1
    have h4 := like_arith h1
    have l1 := wb_least l h2 (by omega)
    have r1 := wb_least r h3 (by omega)
    rw [Tr.ht, Nat.add_comm 1, wLeast]
    rcases Nat.le_total l.ht r.ht with hh | hh
    · rw [Nat.max_eq_right hh]; omega
    · rw [Nat.max_eq_left hh]; omega
theorem ret_ib {a c : Int} {b : Bool} (h : a = c) : Ending.returned (.tuple #[.int .i64 a, .bool b]) = .returned (.tuple #[.int .i64 c, .bool b]) := by rw [h]
end Go.Proofs.Ytejknkhahjgdnaa
namespace Go.Proofs.Ytejknkhahjgdnaa
open Go Go.RowKit

/-- two weights are alike. -/
def lk (a b : Nat) : Prop := 29 * (a + b) ≤ 100 * a ∧ 29 * (a + b) ≤ 100 * b
theorem likeB_lk {a b : Nat} (ha : 1 ≤ a) (hb : 1 ≤ b) (ha' : a ≤ 1000000) (hb' : b ≤ 1000000) : likeB (a : Int) (b : Int) = true ↔ lk a b := by
  unfold likeB withinB lk
  simp only [Bool.and_eq_true, decide_eq_true_eq]
  omega
theorem likeB_not {a b : Nat} (ha : 1 ≤ a) (hb : 1 ≤ b) (ha' : a ≤ 1000000) (hb' : b ≤ 1000000) (h : ¬ lk a b) : likeB (a : Int) (b : Int) = false := by
  cases hl : likeB (a : Int) (b : Int) with
  | false => rfl
  | true => exact (h ((likeB_lk ha hb ha' hb').1 hl)).elim
/-- a tree in balance by weights. -/
def WbH : Tr → Prop
  | .nil => True
  | .node _ l _ _ g r => g = 0 ∧ WbH l ∧ WbH r ∧ lk (l.count + 1) (r.count + 1)
theorem WbH.may : ∀ {T : Tr}, WbH T → T.count ≤ 100000 → wbMay T = true
  | .nil, _, _ => rfl
  | .node b l k v g r, ⟨hg, hl, hr, hk⟩, hc => by
    rw [Tr.count_node] at hc
    rw [wbMay_node, WbH.may hl (by omega), WbH.may hr (by omega)]
    have e : wbOne (.node b l k v g r) = if g = 0 then (if likeB (wt l) (wt r) then 0 else 8) else 140 := rfl
    rw [e, if_pos hg, wt_count l (by omega), wt_count r (by omega), if_pos ((likeB_lk (by omega) (by omega) (by omega) (by omega)).2 hk)]
    rfl
theorem WbH.of_may : ∀ {T : Tr}, wbMay T = true → T.count ≤ 100000 → WbH T
  | .nil, _, _ => trivial
  | .node b l k v g r, hm, hc => by
    obtain ⟨h0, h1, h2, h3⟩ := wb_sides hm
    rw [Tr.count_node] at hc
    rw [wt_count l (by omega), wt_count r (by omega)] at h1
    exact ⟨h0, WbH.of_may h2 (by omega), WbH.of_may h3 (by omega), (likeB_lk (by omega) (by omega) (by omega) (by omega)).1 h1⟩
theorem lk_comm {a b : Nat} (h : lk a b) : lk b a := ⟨by have := h.2; omega, by have := h.1; omega⟩
section
variable {s : Bool} {b : Nat} {i o : Tr} {k v g : Int}
theorem mk_wb : WbH (mkN s b i k v g o) ↔ g = 0 ∧ WbH i ∧ WbH o ∧ lk (i.count + 1) (o.count + 1) := by
  cases s
  · exact ⟨fun ⟨h0, h1, h2, h3⟩ => ⟨h0, h2, h1, lk_comm h3⟩, fun ⟨h0, h1, h2, h3⟩ => ⟨h0, h2, h1, lk_comm h3⟩⟩
  · exact Iff.rfl
end
/-- so many levels down. -/
def Lev (k L W : Nat) : Prop := k = 0 ∨ 71 * (L * 100 ^ (k - 1)) < 29 * (W * 71 ^ (k - 1))
theorem lev_up {k L W o : Nat} (h : Lev k L o) (ho : 100 * o ≤ 71 * W) (hL : 71 * L < 29 * W) : Lev (k + 1) L W := by
  right
  rw [Nat.add_sub_cancel]
  rcases h with rfl | h
  · simpa using hL
  · rcases Nat.eq_zero_or_pos k with rfl | hk
    · simpa using hL
    · obtain ⟨j, rfl⟩ : ∃ j, k = j + 1 := ⟨k - 1, by omega⟩
      rw [Nat.add_sub_cancel] at h
      have h1 : 100 * (o * 71 ^ j) ≤ 71 * (W * 71 ^ j) := by
        rw [← Nat.mul_assoc, ← Nat.mul_assoc]; exact Nat.mul_le_mul_right _ ho
      have e1 : L * 100 ^ (j + 1) = 100 * (L * 100 ^ j) := by rw [Nat.pow_succ, ← Nat.mul_assoc, Nat.mul_comm]
      have e2 : W * 71 ^ (j + 1) = 71 * (W * 71 ^ j) := by rw [Nat.pow_succ, ← Nat.mul_assoc, Nat.mul_comm]
      rw [e1, e2]
      omega
/-- what becomes of a tree t, if a pair and a lighter one hang on its outer side. -/
structure WHang (n : Nat) (s : Bool) (t low : Tr) (k v : Int) (T : Tr) : Prop where
  wb : WbH T
  news : ∃ d, T.news n ≤ 2 * d + 1 ∧ Lev d (low.count + 1) (t.count + 1)
  kvs : T.kvs = both s t.kvs [(k, v)] low.kvs
  old : ∀ x ∈ T.pre, x.blk < n → x ∈ t.pre ∨ x ∈ low.pre
  top : n ≤ T.blk
  nn : T ≠ .nil
theorem WHang.count {n : Nat} {s : Bool} {t low T : Tr} {k v : Int} (h : WHang n s t low k v T) : T.count = t.count + low.count + 1 := by
  rw [← Tr.kvs_count, h.kvs, ← Tr.kvs_count, ← Tr.kvs_count]
  cases s <;> simp [both] <;> omega
section
variable {n : Nat} {s : Bool} {b : Nat} {i o low : Tr} {k v g pk pv : Int}
theorem whang_base {t : Tr} (bx : Nat) (ht : WbH t) (hl : WbH low) (hk : lk (t.count + 1) (low.count + 1)) (nt : t.news n = 0) (nl : low.news n = 0) (hb : n ≤ bx) : WHang n s t low pk pv (mkN s bx t pk pv 0 low) := by
  refine ⟨mk_wb.2 ⟨rfl, ht, hl, hk⟩, ⟨0, ?_, .inl rfl⟩, mk_kvs, fun x hx hn => ?_, by rw [mk_blk]; exact hb, mk_nn⟩
  · rw [mk_news, nt, nl, if_pos hb]; omega
  · rcases (mk_pre x).1 hx with rfl | h | h
    · rw [mk_blk] at hn; omega
    · exact .inl h
    · exact .inr h
theorem side_lev {x : Tr} (hio : lk (i.count + 1) (o.count + 1)) (hx : WHang n s o low pk pv x) (hL : 71 * (low.count + 1) < 29 * (i.count + 1 + (o.count + 1))) : ∃ d, x.news n ≤ 2 * d + 1 ∧ Lev (d + 1) (low.count + 1) ((mkN s b i k v g o).count + 1) := by
  obtain ⟨d, h1, h2⟩ := hx.news
  refine ⟨d, h1, lev_up h2 ?_ ?_⟩
  · rw [mk_count]; have := hio.1; omega
  · rw [mk_count]; omega
theorem whang_plain {x : Tr} (bt : Nat) (hi : WbH i) (hio : lk (i.count + 1) (o.count + 1)) (hx : WHang n s o low pk pv x) (hL : 71 * (low.count + 1) < 29 * (i.count + 1 + (o.count + 1))) (hlk : lk (i.count + 1) (x.count + 1)) (ni : i.news n = 0) (hb : n ≤ bt) :
    WHang n s (mkN s b i k v g o) low pk pv (mkN s bt i k v 0 x) := by
  obtain ⟨d, h1, h2⟩ := side_lev (b := b) (k := k) (v := v) (g := g) hio hx hL
  refine ⟨mk_wb.2 ⟨rfl, hi, hx.wb, hlk⟩, ⟨d + 1, ?_, h2⟩, ?_, fun y hy hyn => ?_, by rw [mk_blk]; exact hb, mk_nn⟩
  · rw [mk_news, ni, if_pos hb]; omega
  · rw [mk_kvs, mk_kvs, hx.kvs, both_out]
  · rcases (mk_pre y).1 hy with rfl | h | h
    · rw [mk_blk] at hyn; omega
    · exact .inl ((mk_pre y).2 (.inr (.inl h)))
    · rcases hx.old y h hyn with h | h
      · exact .inl ((mk_pre y).2 (.inr (.inr h)))
      · exact .inr h
theorem whang_once {xi xo : Tr} {xk xv xg : Int} {bx : Nat} (b3 b4 : Nat) (hi : WbH i) (hio : lk (i.count + 1) (o.count + 1)) (hx : WHang n s o low pk pv (mkN s bx xi xk xv xg xo)) (hL : 71 * (low.count + 1) < 29 * (i.count + 1 + (o.count + 1)))
    (h1 : lk (i.count + 1) (xi.count + 1)) (h2 : lk (i.count + 1 + (xi.count + 1)) (xo.count + 1)) (ni : i.news n = 0) (hbx : n ≤ bx) (hb3 : n ≤ b3) (hb4 : n ≤ b4) :
    WHang n s (mkN s b i k v g o) low pk pv (mkN s b4 (mkN s b3 i k v 0 xi) xk xv 0 xo) := by
  obtain ⟨d, d1, d2⟩ := side_lev (b := b) (k := k) (v := v) (g := g) hio hx hL
  obtain ⟨-, x1, x2, -⟩ := mk_wb.1 hx.wb
  rw [mk_news, if_pos hbx] at d1
  refine ⟨mk_wb.2 ⟨rfl, mk_wb.2 ⟨rfl, hi, x1, h1⟩, x2, by rw [mk_count, show i.count + 1 + xi.count + 1 = i.count + 1 + (xi.count + 1) by omega]; exact h2⟩, ⟨d + 1, ?_, d2⟩, ?_, fun y hy hyn => ?_, by rw [mk_blk]; exact hb4, mk_nn⟩
  · rw [mk_news, mk_news, ni, if_pos hb3, if_pos hb4]; omega
  · have hk := hx.kvs
    simp only [mk_kvs] at hk ⊢
    rw [← both_out, hk, both_out]
  · have hin : ∀ z, z ∈ xi.pre ∨ z ∈ xo.pre → z.blk < n → z ∈ (mkN s b i k v g o).pre ∨ z ∈ low.pre := fun z hz hzn => by
      rcases hx.old z ((mk_pre z).2 (.inr hz)) hzn with h | h
      · exact .inl ((mk_pre z).2 (.inr (.inr h)))
      · exact .inr h
    rcases (mk_pre y).1 hy with rfl | h | h
    · rw [mk_blk] at hyn; omega
    · rcases (mk_pre y).1 h with rfl | h | h
      · rw [mk_blk] at hyn; omega
      · exact .inl ((mk_pre y).2 (.inr (.inl h)))
      · exact hin y (.inl h) hyn
    · exact hin y (.inr h) hyn
theorem wb_two (w o L a1 a2 b : Nat) (h1 : 29 * (w + o) ≤ 100 * w) (h2 : 29 * (w + o) ≤ 100 * o) (hL : 71 * L < 29 * (w + o)) (h4 : 29 * (w + (o + L)) > 100 * w ∨ 29 * (w + (o + L)) > 100 * (o + L)) (e : a1 + a2 + b = o + L)
    (h5 : 29 * (a1 + a2 + b) ≤ 100 * (a1 + a2)) (h6 : 29 * (a1 + a2 + b) ≤ 100 * b) (h7 : 29 * (a1 + a2) ≤ 100 * a1) (h8 : 29 * (a1 + a2) ≤ 100 * a2) (p1 : 1 ≤ w) (p2 : 1 ≤ o) (p3 : 1 ≤ L) (p4 : 1 ≤ a1) (p6 : 1 ≤ b)
    (h9 : 29 * (w + (a1 + a2)) > 100 * w ∨ 29 * (w + (a1 + a2)) > 100 * (a1 + a2) ∨ 29 * (w + (a1 + a2) + b) > 100 * (w + (a1 + a2)) ∨ 29 * (w + (a1 + a2) + b) > 100 * b) :
    29 * (w + a1) ≤ 100 * w ∧ 29 * (w + a1) ≤ 100 * a1 ∧ 29 * (a2 + b) ≤ 100 * a2 ∧ 29 * (a2 + b) ≤ 100 * b ∧ 29 * (w + a1 + (a2 + b)) ≤ 100 * (w + a1) ∧ 29 * (w + a1 + (a2 + b)) ≤ 100 * (a2 + b) := by
  refine ⟨?_, ?_, ?_, ?_, ?_, ?_⟩ <;> rcases h4 with h4 | h4 <;> rcases h9 with h9 | h9 | h9 | h9 <;> omega
theorem not_lk {a b : Nat} (h : ¬ lk a b) : 29 * (a + b) > 100 * a ∨ 29 * (a + b) > 100 * b := by unfold lk at h; omega
theorem wb_wide (w o L a b : Nat) (h1 : 29 * (w + o) ≤ 100 * w) (h2 : 29 * (w + o) ≤ 100 * o) (hL : 71 * L < 29 * (w + o)) (h4 : 29 * (w + (o + L)) > 100 * w ∨ 29 * (w + (o + L)) > 100 * (o + L)) (e : a + b = o + L)
    (h5 : 29 * (a + b) ≤ 100 * a) (p1 : 1 ≤ w) (p3 : 1 ≤ L) (h9 : 29 * (w + a) > 100 * w ∨ 29 * (w + a) > 100 * a ∨ 29 * (w + a + b) > 100 * (w + a) ∨ 29 * (w + a + b) > 100 * b) : 2 ≤ a := by
  rcases h4 with h4 | h4 <;> rcases h9 with h9 | h9 | h9 | h9 <;> omega
theorem four {a c w : Nat} (h : ¬ (lk w a ∧ lk (w + a) c)) : 29 * (w + a) > 100 * w ∨ 29 * (w + a) > 100 * a ∨ 29 * (w + a + c) > 100 * (w + a) ∨ 29 * (w + a + c) > 100 * c := by unfold lk at h; omega
/-- the inner side of what came up is a node, if one turn does not do. -/
theorem whang_mid {xi xo : Tr} {xk xv xg : Int} {bx : Nat} (hio : lk (i.count + 1) (o.count + 1)) (hx : WHang n s o low pk pv (mkN s bx xi xk xv xg xo)) (hL : 71 * (low.count + 1) < 29 * (i.count + 1 + (o.count + 1))) (hno : ¬ lk (i.count + 1) ((mkN s bx xi xk xv xg xo).count + 1))
    (h9 : ¬ (lk (i.count + 1) (xi.count + 1) ∧ lk (i.count + 1 + (xi.count + 1)) (xo.count + 1))) : xi ≠ .nil := fun h => by
  have hc := hx.count
  rw [mk_count] at hc
  rw [mk_count] at hno
  obtain ⟨-, x1, x2, x3⟩ := mk_wb.1 hx.wb
  have := wb_wide (i.count + 1) (o.count + 1) (low.count + 1) (xi.count + 1) (xo.count + 1) hio.1 hio.2 hL (by have := not_lk hno; rw [show o.count + 1 + (low.count + 1) = xi.count + 1 + xo.count + 1 by omega]; exact this) (by omega) x3.1 (by omega) (by omega) (four h9)
  rw [h] at this
  simp [Tr.count, Tr.pre] at this
theorem whang_twice {m1 m2 xo : Tr} {xk xv xg mk_ mv mg : Int} {bx bm : Nat} (b3 b4 b5 : Nat) (hi : WbH i) (hio : lk (i.count + 1) (o.count + 1)) (hx : WHang n s o low pk pv (mkN s bx (mkN s bm m1 mk_ mv mg m2) xk xv xg xo)) (hL : 71 * (low.count + 1) < 29 * (i.count + 1 + (o.count + 1)))
    (hno : ¬ lk (i.count + 1) ((mkN s bx (mkN s bm m1 mk_ mv mg m2) xk xv xg xo).count + 1)) (h9 : ¬ (lk (i.count + 1) ((mkN s bm m1 mk_ mv mg m2).count + 1) ∧ lk (i.count + 1 + ((mkN s bm m1 mk_ mv mg m2).count + 1)) (xo.count + 1)))
    (ni : i.news n = 0) (hbx : n ≤ bx) (hb3 : n ≤ b3) (hb4 : n ≤ b4) (hb5 : n ≤ b5) :
    WHang n s (mkN s b i k v g o) low pk pv (mkN s b5 (mkN s b3 i k v 0 m1) mk_ mv 0 (mkN s b4 m2 xk xv 0 xo)) := by
  obtain ⟨d, d1, d2⟩ := side_lev (b := b) (k := k) (v := v) (g := g) hio hx hL
  have hc := hx.count
  obtain ⟨-, x1, x2, x3⟩ := mk_wb.1 hx.wb
  obtain ⟨-, y1, y2, y3⟩ := mk_wb.1 x1
  rw [mk_count, mk_count] at hc hno
  rw [mk_count] at x3 h9
  rw [mk_news, if_pos hbx, mk_news] at d1
  have hno' := not_lk hno
  have h9' := four h9
  unfold lk at x3 y3 hio
  have key := wb_two (i.count + 1) (o.count + 1) (low.count + 1) (m1.count + 1) (m2.count + 1) (xo.count + 1) hio.1 hio.2 hL (by rw [show o.count + 1 + (low.count + 1) = m1.count + 1 + m2.count + 1 + xo.count + 1 by omega]; exact hno') (by omega)
    (by omega) (by omega) y3.1 y3.2 (by omega) (by omega) (by omega) (by omega) (by omega) (by rw [show m1.count + 1 + (m2.count + 1) = m1.count + 1 + m2.count + 1 by omega]; exact h9')
  obtain ⟨k1, k2, k3, k4, k5, k6⟩ := key
  refine ⟨mk_wb.2 ⟨rfl, mk_wb.2 ⟨rfl, hi, y1, k1, k2⟩, mk_wb.2 ⟨rfl, y2, x2, k3, k4⟩, ?_⟩, ⟨d + 1, ?_, d2⟩, ?_, fun y hy hyn => ?_, by rw [mk_blk]; exact hb5, mk_nn⟩
  · rw [mk_count, mk_count]; unfold lk; omega
  · rw [mk_news, mk_news, mk_news, ni, if_pos hb3, if_pos hb4, if_pos hb5]; split at d1 <;> omega
  · have hk := hx.kvs
    simp only [mk_kvs] at hk ⊢
    rw [← both_out s i.kvs [(k, v)] m1.kvs, ← both_out s i.kvs [(k, v)] o.kvs, ← hk, both_out s m1.kvs]
  · have hin : ∀ z, z ∈ m1.pre ∨ z ∈ m2.pre ∨ z ∈ xo.pre → z.blk < n → z ∈ (mkN s b i k v g o).pre ∨ z ∈ low.pre := fun z hz hzn => by
      have hz' : z ∈ (mkN s bx (mkN s bm m1 mk_ mv mg m2) xk xv xg xo).pre := (mk_pre z).2 (.inr (by
        rcases hz with h | h | h
        · exact .inl ((mk_pre z).2 (.inr (.inl h)))
        · exact .inl ((mk_pre z).2 (.inr (.inr h)))
        · exact .inr h))
      rcases hx.old z hz' hzn with h | h
      · exact .inl ((mk_pre z).2 (.inr (.inr h)))
      · exact .inr h
    rcases (mk_pre y).1 hy with rfl | h | h
    · rw [mk_blk] at hyn; omega
    · rcases (mk_pre y).1 h with rfl | h | h
      · rw [mk_blk] at hyn; omega
      · exact .inl ((mk_pre y).2 (.inr (.inl h)))
      · exact hin y (.inl h) hyn
    · rcases (mk_pre y).1 h with rfl | h | h
      · rw [mk_blk] at hyn; omega
      · exact hin y (.inr (.inl h)) hyn
      · exact hin y (.inr (.inr h)) hyn
end
/-- what a join of two trees is. -/
structure WJoinOk (n : Nat) (l r : Tr) (k v : Int) (T : Tr) : Prop where
  wb : WbH T
  news : ∃ d, T.news n ≤ 2 * d + 1 ∧ Lev d (min l.count r.count + 1) (max l.count r.count + 1)
  kvs : T.kvs = l.kvs ++ (k, v) :: r.kvs
  old : ∀ x ∈ T.pre, x.blk < n → x ∈ l.pre ∨ x ∈ r.pre
  top : n ≤ T.blk
  nn : T ≠ .nil
theorem wjoin_right {n : Nat} {l r : Tr} {k v : Int} {T : Tr} (h : WHang n true l r k v T) (hle : r.count ≤ l.count) : WJoinOk n l r k v T := by
  obtain ⟨h1, h2, h4, h5, h6, h7⟩ := h
  exact ⟨h1, by rw [Nat.min_eq_right hle, Nat.max_eq_left hle]; exact h2, by rw [h4]; simp [both], h5, h6, h7⟩
theorem wjoin_left {n : Nat} {l r : Tr} {k v : Int} {T : Tr} (h : WHang n false r l k v T) (hle : l.count ≤ r.count) : WJoinOk n l r k v T := by
  obtain ⟨h1, h2, h4, h5, h6, h7⟩ := h
  exact ⟨h1, by rw [Nat.min_eq_left hle, Nat.max_eq_right hle]; exact h2, by rw [h4]; simp [both], fun y hy hn => (h5 y hy hn).symm, h6, h7⟩
end Go.Proofs.Ytejknkhahjgdnaa
namespace Go.Proofs.Ytejknkhahjgdnaa
open Go Go.RowKit

theorem put_u8 {P : Program} (w : World) (mty kt et : TypeId) (clock : Nat) (es : Array MapEntry) (k : Int) (val : Value) (hm : P.underlying mty = some (.map kt et)) (hk : P.underlying kt = some (.int .u8))
    (hf : Instr.findNow (.int .u8) (.int .u8 k) es.toList 0 = some none) (b : Nat) (hb : w.heap.size = b) :
    (Instr.mapUpdate mty (.map (some b)) (.int .u8 k) val).run P (w.alloc (.map es clock)) = .ok () (w.alloc (.map (es.push { key := .int .u8 k, val := val, born := clock }) (clock + 1))) := by
  subst hb
  have hb : (w.alloc (.map es clock)).heap[w.heap.size]? = some (.map es clock) := by show (w.heap.push _)[w.heap.size]? = _; simp
  have hc : (Instr.checkKey false 10000 kt (.int .u8 k)).run P (w.alloc (.map es clock)) = .ok () (w.alloc (.map es clock)) := MapKept.run_checkKey hk (by simp [MapKept.IsKey]) false 9999
  have hk' : (Instr.findKey kt (.int .u8 k) es.toList).run P (w.alloc (.map es clock)) = .ok none (w.alloc (.map es clock)) := MapKept.run_findKey hk hf
  have hs : ∀ (o o' : Obj), ({ (w.alloc o) with heap := (w.alloc o).heap.setIfInBounds w.heap.size o' } : World) = w.alloc o' := fun o o' => by
    simp only [World.alloc]; congr 1; apply Array.ext_getElem?; intro i; rw [Array.getElem?_setIfInBounds, Array.getElem?_push, Array.getElem?_push]; simp; grind
  simp [Instr.mapUpdate, run_underlying hm, MapKept.run_getObj_map hb, hc, hk', MapKept.run_setObj_map _ hb, Result.andThen]
  exact hs (.map es clock) _
theorem look_u8 {P : Program} {w : World} {N : Nat} {mty kt et : TypeId} {es : Array MapEntry} {clock i : Nat} {k : Int} {v : Value} (hm : P.underlying mty = some (.map kt et)) (hk : P.underlying kt = some (.int .u8)) (hb : w.heap[N]? = some (.map es clock))
    (hf : Instr.findNow (.int .u8) (.int .u8 k) es.toList 0 = some (some (i, v))) : (Instr.lookup mty (.map (some N)) (.int .u8 k) true).run P w = .ok (.tuple #[v, .bool true]) w := by
  have hc : ∀ e, (Instr.checkKey e 10000 kt (.int .u8 k)).run P w = .ok () w := fun e => MapKept.run_checkKey hk (by simp [MapKept.IsKey]) e 9999
  have hk' : (Instr.findKey kt (.int .u8 k) es.toList).run P w = .ok (some (i, v)) w := MapKept.run_findKey hk hf
  simp [Instr.lookup, run_underlying hm, MapKept.run_getObj_map hb, hc, hk', Result.andThen]
theorem miss_u8 {P : Program} {w : World} {N : Nat} {mty kt et : TypeId} {es : Array MapEntry} {clock : Nat} {k : Int} {z : Value} (hm : P.underlying mty = some (.map kt et)) (hk : P.underlying kt = some (.int .u8)) (hb : w.heap[N]? = some (.map es clock))
    (hz : (zeroValue et).run P w = .ok z w) (hf : Instr.findNow (.int .u8) (.int .u8 k) es.toList 0 = some none) : (Instr.lookup mty (.map (some N)) (.int .u8 k) true).run P w = .ok (.tuple #[z, .bool false]) w := by
  have hc : ∀ e, (Instr.checkKey e 10000 kt (.int .u8 k)).run P w = .ok () w := fun e => MapKept.run_checkKey hk (by simp [MapKept.IsKey]) e 9999
  have hk' : (Instr.findKey kt (.int .u8 k) es.toList).run P w = .ok none w := MapKept.run_findKey hk hf
  simp [Instr.lookup, run_underlying hm, MapKept.run_getObj_map hb, hc, hk', hz, Result.andThen]
/-- the map of kinds. -/
def bkindV (m : Int) (f : Value) : Value := .agg #[.int .i64 m, f]
def kindsE (M : Int) : Array MapEntry := #[{ key := .int .u8 1, val := .agg #[.int .i64 100, .nilFunc], born := 0 }, { key := .int .u8 2, val := .agg #[.int .i64 100, .func (.func 52) #[] #[]], born := 1 },
  { key := .int .u8 3, val := .agg #[.int .i64 100, .func (.func 53) #[] #[]], born := 2 }, { key := .int .u8 4, val := .agg #[.int .i64 M, .func (.func 55) #[] #[]], born := 3 }]
set_option maxHeartbeats 1000000 in
theorem bkinds_any (w : World) (M : Int) (hM : M = 1099511627776) : Calls Try.prog 24 #[] w fun e w' => e = .returned (.map (some w.heap.size)) ∧ w' = w.alloc (.map (kindsE M) 4) := by
  have hmm := @run_makeMap Try.prog
  have hup := fun (w : World) (k : Int) (v : Value) (es : Array MapEntry) (c : Nat) (h : Instr.findNow (.int .u8) (.int .u8 k) es.toList 0 = some none) => put_u8 (P := Try.prog) w _ _ _ c es k v Try.underlying55 Try.underlying5 h
  have hf1 : ∀ d k i, Instr.findNow d k [] i = some none := fun _ _ _ => rfl
  have hf2 : ∀ (k a : Int) (v : Value) (n : Nat) (es : List MapEntry) i, (a == k) = false → Instr.findNow (.int .u8) (.int .u8 a) (⟨.int .u8 k, v, n⟩ :: es) i = Instr.findNow (.int .u8) (.int .u8 a) es (i + 1) := fun k a v n es i h => by
    simp [Instr.findNow, Instr.sameNow, h]
  go_enter Try.func24, Try.ntmps24
  rw [← hM]
  clear hM
  go_wp2_with fail
  go_ret
  trace_state
  exact ⟨rfl, rfl⟩
end Go.Proofs.Ytejknkhahjgdnaa
namespace Go.Proofs.Ytejknkhahjgdnaa
open Go Go.RowKit

/-- the least of a height. -/
def lstS (s h : Nat) : Nat := if s = 1 then fibN (h + 2) - 1 else if s = 2 then (if h % 2 = 1 then 3 * 2 ^ ((h + 1) / 2 - 1) - 2 else 2 * 2 ^ ((h + 1) / 2) - 2) else if s = 3 then wrow h - 1 else h
theorem fibN_pos : ∀ n, 1 ≤ fibN (n + 1)
  | 0 => Nat.le_refl 1
  | n + 1 => by
    show 1 ≤ fibN n + fibN (n + 1)
    have := fibN_pos n
    omega
theorem wrap_u64n {n : Nat} (h : n < 18446744073709551616) : IntKind.u64.wrap (n : Int) = (n : Int) := by
  have : (2 : Int) ^ 64 = 18446744073709551616 := by decide
  simp only [IntKind.wrap, IntKind.bits, IntKind.signed]
  simp
  omega
theorem u64_pow {a d : Nat} (ha3 : a ≤ 3) (hd : d ≤ 51) (h2 : 2 ≤ a * 2 ^ d) : IntKind.u64.wrap (IntKind.u64.wrap ((a : Int) * 2 ^ d) - 2) = ((a * 2 ^ d - 2 : Nat) : Int) := by
  have h1 : 2 ^ d ≤ 2 ^ 51 := Nat.pow_le_pow_right (by decide) hd
  have h3 : a * 2 ^ d ≤ 3 * 2 ^ 51 := Nat.mul_le_mul ha3 h1
  have e : ((a : Int) * 2 ^ d) = ((a * 2 ^ d : Nat) : Int) := by simp
  rw [e]
  generalize a * 2 ^ d = P at *
  have h4 : P < 18446744073709551616 := Nat.lt_of_le_of_lt h3 (by decide)
  rw [wrap_u64n h4, show (P : Int) - 2 = ((P - 2 : Nat) : Int) by omega, wrap_u64n (by omega)]
set_option maxHeartbeats 1000000 in
theorem least2_any (w : World) (h : Nat) (hh : h ≤ 101) : Calls Try.prog 52 #[.int .i64 (h : Nat)] w (Ret (.int .u64 (lstS 2 h : Nat)) w) := by
  obtain ⟨c, hc⟩ : ∃ c, c = (h + 1) / 2 := ⟨_, rfl⟩
  have hcl : c ≤ 51 := by omega
  have hcq : ((h : Int) + 1) / 2 = (c : Int) := by omega
  by_cases hp : h % 2 = 1
  · have hr : (h : Int) % 2 = 1 := by omega
    obtain ⟨d, rfl⟩ : ∃ d, c = d + 1 := ⟨c - 1, by omega⟩
    have e : lstS 2 h = 3 * 2 ^ d - 2 := by unfold lstS; simp [hp, ← hc]
    rw [e]
    have HU := Lib.hid (u64_pow (a := 3) (d := d) (by omega) (by omega) (by have := Nat.pow_pos (n := d) (show 0 < 2 by decide); omega))
    clear e hp hc
    go_enter Try.func52, Try.ntmps52
    go_wp2
    go_ret
    exact ⟨by rw [← HU.out]; rfl, Ext.refl _⟩
  · have hr : (h : Int) % 2 = 0 := by omega
    have e : lstS 2 h = 2 * 2 ^ c - 2 := by unfold lstS; simp [hp, ← hc]
    rw [e]
    have HU := Lib.hid (u64_pow (a := 2) (d := c) (by omega) (by omega) (by have := Nat.pow_pos (n := c) (show 0 < 2 by decide); omega))
    clear e hp hc
    go_enter Try.func52, Try.ntmps52
    go_wp2
    go_ret
    exact ⟨by rw [← HU.out]; rfl, Ext.refl _⟩
set_option maxHeartbeats 1000000 in
theorem least3_any (w : World) (h : Nat) (hh : h ≤ 101) : Calls Try.prog 53 #[.int .i64 (h : Nat)] w (Ret (.int .u64 (lstS 3 h : Nat)) w) := by
  have HW := Lib.hid (weight_any w h hh)
  have e : lstS 3 h = wrow h - 1 := rfl
  rw [e]
  have h1 := wrow_pos h
  have h2 := wrow_lt (k := h) (by omega)
  generalize wrow h = x at *
  have HU := Lib.hid (show (x : Int) - 1 = ((x - 1 : Nat) : Int) by omega)
  clear e
  go_enter Try.func53, Try.ntmps53
  go_wp2_with fail
  refine HW.out.mono ?_
  rintro e w1 ⟨rfl, hE⟩
  go_wp2
  go_ret
  exact ⟨by rw [← HU.out]; rfl, hE⟩
theorem least4_any (w : World) (h : Nat) (hh : h ≤ 4611686018427387904) : Calls Try.prog 55 #[.int .i64 (h : Nat)] w (Ret (.int .u64 (lstS 4 h : Nat)) w) := by
  have e : lstS 4 h = h := rfl
  rw [e]
  have h2 : (h : Int) ≤ 4611686018427387904 := by omega
  have HU := Lib.hid (wrap_u64n (n := h) (by omega))
  clear e hh
  go_enter Try.func55, Try.ntmps55
  go_wp2
  go_ret
  exact ⟨by first | rfl | (rw [HU.out]), Ext.refl _⟩
set_option maxHeartbeats 2000000 in
theorem fewer_any (w : World) (h : Nat) (hh : h ≤ 101) : Calls Try.prog 25 #[.int .i64 ((h : Int) + 2)] w (Num (lstS 1 h) w) := by
  have e : lstS 1 h = fibN (h + 2) - 1 := rfl
  rw [e]
  clear e
  go_enter Try.func25, Try.ntmps25
  go_wp2_with fail
  go_loopw [2, 3] (fun v i W => ∃ k : Nat, i = .int .i64 ((k : Int) + 1) ∧ Hid (k ≤ h ∧ NumIs W v (fibN (k + 2) - 1) ∧ Ext w W)) (fun _ i _ => h + 1 - (intOf i).toNat)
  case atStart => exact ⟨0, rfl, Lib.hid ⟨Nat.zero_le _, num_nil _ _ _, Ext.refl _⟩⟩
  case round =>
    obtain ⟨k, rfl, HH⟩ := hrel
    by_cases hk : k < h
    · have HK := Lib.hid hk
      have HF := Lib.hid (natFib_any wr ((k + 1 : Nat) : Int))
      have e1 : FibE ((k + 1 : Nat) : Int) = 0 := if_pos (by omega)
      have e2 : FibV ((k + 1 : Nat) : Int) = fibN (k + 1) := by unfold FibV; rw [if_pos (by omega)]; rfl
      unfold Fibs at HF
      rw [e1, e2] at HF
      have hle : (k : Int) + 1 ≤ h := by omega
      rw [show ((k : Int) + 1) = ((k + 1 : Nat) : Int) by rfl] at *
      clear e1 e2
      go_wp2_with fail
      refine HF.out.mono ?_
      rintro e w1 ⟨f, rfl, n1, h1⟩
      have hp := fibN_pos (k + 1)
      have HA := Lib.hid (natAdd_num w1 u2 f (fibN (k + 2) - 1) (fibN (k + 1)) (HH.out.2.1.ext h1) n1 (Nat.lt_of_le_of_lt (Nat.sub_le _ _) (Nat.lt_of_lt_of_le (fibN_lt (by omega)) (Nat.pow_le_pow_right beta_pos (by decide)))) (Nat.lt_of_lt_of_le (fibN_lt (by omega)) (Nat.pow_le_pow_right beta_pos (by decide))))
      have hs : fibN (k + 2) - 1 + fibN (k + 1) = fibN (k + 1 + 2) - 1 := by
        have h1 : fibN (k + 1 + 2) = fibN (k + 1) + fibN (k + 2) := rfl
        have h2 : 1 ≤ fibN (k + 2) := hp
        omega
      have hlt : fibN (k + 1 + 2) - 1 < beta ^ 128 := Nat.lt_of_le_of_lt (Nat.sub_le _ _) (Nat.lt_of_lt_of_le (fibN_lt (by omega)) (Nat.pow_le_pow_right beta_pos (by decide)))
      rw [hs] at HA
      unfold Fits at HA
      rw [(fit_of hlt).1, (fit_of hlt).2] at HA
      have HX := Lib.hid (HH.out.2.2.trans h1)
      clear n1 h1 hp hs hlt
      go_wp2_with fail
      refine HA.out.mono ?_
      rintro e w2 ⟨s, rfl, n2, h2⟩
      have HN := Lib.hid (And.intro n2 h2)
      clear n2 h2
      go_wp2
      go_roundw
      case rel => exact ⟨k + 1, by go_num, Lib.hid ⟨HK.out, HN.out.1, HX.out.trans HN.out.2⟩⟩
      case measure => simp [intOf]; have := HK.out; omega
    · obtain rfl : k = h := Nat.le_antisymm HH.out.1 (Nat.le_of_not_lt hk)
      have hle : ¬ (k : Int) + 1 ≤ k := by omega
      go_wp2
      go_ret
      exact ⟨_, rfl, HH.out.2.1, HH.out.2.2⟩
end Go.Proofs.Ytejknkhahjgdnaa
namespace Go.Proofs.Ytejknkhahjgdnaa
open Go Go.RowKit

def leanF (s : Nat) : Nat → Nat → BT
  | 0, _ => .nil
  | f + 1, h => if h < 1 then .nil else
    if s = 1 then bn (leanF s f (h - 1)) (h : Int) (leanF s f (h - 2))
    else if s = 2 then spineF 10 h
    else bn (leanF s f (h - 1)) 0 (evenF 1000 (wrow h - wrow (h - 1)))
theorem leanF_len : ∀ s, s < 4 → ∀ f, f < 11 → ∀ h, h < 11 → (leanF s f h).enc.length ≤ 200 := by decide +kernel
theorem wrow_up10 : ∀ h, h < 11 → 1 ≤ wrow (h - 1) ∧ wrow (h - 1) ≤ wrow h ∧ wrow h ≤ 200 := by decide +kernel
set_option maxHeartbeats 1000000 in
theorem lean_any (s : Nat) (hs1 : 1 ≤ s) (hs3 : s ≤ 3) (f : Nat) : ∀ (h : Int) (n : Nat) (w : World), h.toNat = n → n ≤ f → f < 11 → -20 ≤ h → Calls Try.prog 23 #[.int .u8 s, .int .i64 h] w (GivesRow (leanF s f n).enc w) := by
  induction f with
  | zero =>
    intro h n w hn hf h1 h0
    obtain rfl : n = 0 := by omega
    have h2 : h < 1 := by omega
    go_enter Try.func23, Try.ntmps23
    go_wp2
    go_ret
    exact ⟨_, rfl, Own.nil _ _, Ext.refl _⟩
  | succ f ih =>
    intro h n w hn hf h1 h0
    unfold leanF
    by_cases hn0 : n < 1
    · rw [if_pos hn0]
      clear ih
      have h2 : h < 1 := by omega
      go_enter Try.func23, Try.ntmps23
      go_wp2
      go_ret
      exact ⟨_, rfl, Own.nil _ _, Ext.refl _⟩
    · rw [if_neg hn0]
      have h2 : 1 ≤ h := by omega
      have h3 : h ≤ 20 := by omega
      have IH := Lib.hid ih
      have L := Lib.hid (leanF_len s (by omega) f (by omega))
      have NH := Lib.hid (And.intro hn hf)
      have F := Lib.hid h1
      have hs : s = 1 ∨ s = 2 ∨ s = 3 := by omega
      clear ih hn0 hn hf hs1 hs3
      rcases hs with hs | hs | hs
      · subst hs
        rw [if_pos rfl]
        obtain ⟨G, hG⟩ : ∃ G : Int, (n : Int) = G := ⟨_, rfl⟩
        rw [hG]
        obtain rfl : G = h := by have := NH.out; omega
        clear hG
        generalize leanF 1 f = S at *
        go_enter Try.func23, Try.ntmps23
        go_wp2_with fail
        refine (IH.out (G - 1) (n - 1) w (by have := NH.out; omega) (by have := NH.out; omega) (by have := F.out; omega) (by omega)).mono ?_
        rintro e w1 ⟨v1, rfl, o1, h1⟩
        have HA := Lib.hid (And.intro o1 h1)
        clear o1 h1
        go_wp2_with fail
        refine (IH.out (G - 2) (n - 2) w1 (by have := NH.out; omega) (by have := NH.out; omega) (by have := F.out; omega) (by omega)).mono ?_
        rintro e w2 ⟨v2, rfl, o2, h2⟩
        have HB := Lib.hid (And.intro o2 h2)
        clear o2 h2
        go_wp2_with fail
        refine (node34_any w2 v1 v2 _ _ _ (HA.out.1.beads.ext HB.out.2) HB.out.1.beads (by have := NH.out; have := F.out; have := L.out (n - 1) (by omega); have := L.out (n - 2) (by omega); omega)).mono ?_
        rintro e w3 ⟨v3, rfl, o3, h3⟩
        have HC := Lib.hid (And.intro o3 h3)
        clear o3 h3
        go_wp2
        go_ret
        exact ⟨_, rfl, HC.out.1.mono (HA.out.2.trans HB.out.2).size, (HA.out.2.trans HB.out.2).trans HC.out.2⟩
      · subst hs
        rw [if_neg (by decide), if_pos rfl]
        have E1 := Lib.hid (show (h + 1) / 2 = ((n : Int) + 1) / 2 by have := NH.out; omega)
        clear IH
        go_enter Try.func23, Try.ntmps23
        go_wp2_with fail
        refine (spine_any 10 ((h + 1) / 2) h n w (by have := NH.out; omega) E1.out (by have := NH.out; have := F.out; omega) (by omega)).mono ?_
        rintro e w1 ⟨v1, rfl, o1, h1⟩
        have HA := Lib.hid (And.intro o1 h1)
        clear o1 h1
        go_wp2
        go_ret
        exact ⟨_, rfl, HA.out⟩
      · subst hs
        rw [if_neg (by decide), if_neg (by decide)]
        have hw := wrow_up10 n (by have := NH.out; have := F.out; omega)
        have W1 := Lib.hid (show ∀ w, Calls Try.prog 32 #[.int .i64 h] w (Ret (.int .u64 (wrow n : Nat)) w) from fun w => by
          have := weight34_any w n (by have := NH.out; have := F.out; omega)
          rwa [show (n : Int) = h by have := NH.out; omega] at this)
        have W2 := Lib.hid (show ∀ w, Calls Try.prog 32 #[.int .i64 (h - 1)] w (Ret (.int .u64 (wrow (n - 1) : Nat)) w) from fun w => by
          have := weight34_any w (n - 1) (by have := NH.out; have := F.out; omega)
          rwa [show ((n - 1 : Nat) : Int) = h - 1 by have := NH.out; omega] at this)
        have EV := Lib.hid (evenF_len 1000 (wrow n - wrow (n - 1)) (by omega))
        have EA := Lib.hid (show ∀ w, Calls Try.prog 51 #[.int .i64 ((wrow n : Int) - wrow (n - 1))] w (GivesRow (evenF 1000 (wrow n - wrow (n - 1))).enc w) from fun w => by
          have := even_any 1000 (wrow n - wrow (n - 1)) w (by omega) (by omega)
          rwa [show ((wrow n - wrow (n - 1) : Nat) : Int) = (wrow n : Int) - wrow (n - 1) by omega] at this)
        generalize evenF 1000 (wrow n - wrow (n - 1)) = E at *
        obtain ⟨hw0, hw1, hw2⟩ := hw
        generalize wrow n = A at *
        generalize wrow (n - 1) = B at *
        generalize leanF 3 f = S at *
        go_enter Try.func23, Try.ntmps23
        go_wp2_with fail
        refine (IH.out (h - 1) (n - 1) w (by have := NH.out; omega) (by have := NH.out; omega) (by have := F.out; omega) (by omega)).mono ?_
        rintro e w1 ⟨v1, rfl, o1, h1⟩
        have HA := Lib.hid (And.intro o1 h1)
        clear o1 h1
        go_wp2_with fail
        refine (W1.out w1).mono ?_
        rintro e w2 ⟨rfl, h2⟩
        go_wp2_with fail
        refine (W2.out w2).mono ?_
        rintro e w3 ⟨rfl, h3⟩
        have H13 := Lib.hid (h2.trans h3)
        clear h2 h3
        go_wp2_with fail
        refine (EA.out w3).mono ?_
        rintro e w4 ⟨v4, rfl, o4, h4⟩
        have H4 := Lib.hid (And.intro o4 h4)
        clear o4 h4
        go_wp2_with fail
        refine (node34_any w4 v1 v4 _ _ _ ((HA.out.1.beads.ext H13.out).ext H4.out.2) H4.out.1.beads (by have := NH.out; have := F.out; have := EV.out; have := L.out (n - 1) (by omega); omega)).mono ?_
        rintro e w5 ⟨v5, rfl, o5, h5⟩
        have HC := Lib.hid (And.intro o5 h5)
        clear o5 h5
        go_wp2
        go_ret
        have h04 := (HA.out.2.trans H13.out).trans H4.out.2
        exact ⟨_, rfl, HC.out.1.mono h04.size, h04.trans HC.out.2⟩
/-- beads with their sizes are a tree's just as those without. -/
theorem BT.fits_of : ∀ {t : BT} {T : Tr}, t.of.fits T → t.fits T
  | .nil, .nil, _ => trivial
  | .nil, .node .., h => h.elim
  | .node .., .nil, h => h.elim
  | .node .., .node .., h => ⟨h.1, h.2.1, h.2.2.1, BT.fits_of h.2.2.2.1, BT.fits_of h.2.2.2.2⟩
theorem bn_fits {l r : BT} {g : Int} : ∀ {T : Tr}, (bn l g r).fits T → ∃ b L R, T = .node b L 0 0 g R ∧ l.fits L ∧ r.fits R
  | .nil, h => (BT.fits_of (t := .node 0 0 0 0 g l r) h).elim
  | .node b L k v g' R, h => by
    obtain ⟨h1, h2, h3, h4, h5⟩ := BT.fits_of (t := .node 0 0 0 0 g l r) h
    subst h1 h2 h3
    exact ⟨b, L, R, rfl, h4, h5⟩
theorem nil_fits : ∀ {T : Tr}, BT.nil.fits T → T = .nil
  | .nil, _ => rfl
  | .node .., h => h.elim
theorem fits_count {t : BT} {T : Tr} (h : t.fits T) : T.count = t.enc.length := BT.fits_len h
theorem leanF_avl : ∀ (f h : Nat) (T : Tr), h ≤ f → (leanF 1 f h).fits T → AvlH T h
  | 0, h, T, hh, ht => by
    obtain rfl : h = 0 := by omega
    rw [nil_fits ht]; rfl
  | f + 1, h, T, hh, ht => by
    unfold leanF at ht
    split at ht
    · rw [nil_fits ht]; show h = 0; omega
    · obtain ⟨b, L, R, rfl, hl, hr⟩ := bn_fits ht
      exact ⟨h - 1, h - 2, leanF_avl f _ L (by omega) hl, leanF_avl f _ R (by omega) hr, by omega, rfl, by omega, by omega⟩
theorem fullT_rb : ∀ (b : Nat) (T : Tr), (fullT b).fits T → RbH T b false
  | 0, T, ht => by rw [nil_fits ht]; exact ⟨rfl, rfl⟩
  | b + 1, T, ht => by
    obtain ⟨_, L, R, rfl, hl, hr⟩ := bn_fits ht
    exact ⟨b, false, false, rfl, fullT_rb b L hl, fullT_rb b R hr, by omega⟩
theorem spineF_rb : ∀ (f h : Nat) (T : Tr), h ≤ f → (spineF f h).fits T → RbH T ((h + 1) / 2) false
  | 0, h, T, hh, ht => by
    obtain rfl : h = 0 := by omega
    rw [nil_fits ht]; exact ⟨rfl, rfl⟩
  | f + 1, h, T, hh, ht => by
    unfold spineF at ht
    split at ht
    · rw [nil_fits ht]; exact ⟨by omega, rfl⟩
    · split at ht
      · obtain ⟨b, L, R, rfl, hl, hr⟩ := bn_fits ht
        have h1 := spineF_rb f _ L (by omega) hl
        have h2 := fullT_rb _ R hr
        rw [show (h - 1 + 1) / 2 = (h + 1) / 2 - 1 by omega] at h1
        exact ⟨(h + 1) / 2 - 1, false, false, by omega, h1, h2, by omega⟩
      · obtain ⟨b, L, R, rfl, hl, hr⟩ := bn_fits ht
        obtain ⟨b2, L2, R2, rfl, hl2, hr2⟩ := bn_fits hl
        have h1 := spineF_rb f _ L2 (by omega) hl2
        have h2 := fullT_rb _ R hr
        have h3 := fullT_rb _ R2 hr2
        rw [show (h - 2 + 1) / 2 = (h + 1) / 2 - 1 by omega] at h1
        exact ⟨(h + 1) / 2 - 1, true, false, by omega, ⟨h1, h3, by omega⟩, h2, by omega⟩
theorem leanF_rb (f h : Nat) (T : Tr) (hh : h ≤ f) (h10 : h ≤ 10) (ht : (leanF 2 f h).fits T) : RbH T ((h + 1) / 2) false := by
  cases f with
  | zero =>
    obtain rfl : h = 0 := by omega
    rw [nil_fits ht]; exact ⟨rfl, rfl⟩
  | succ f =>
    unfold leanF at ht
    split at ht
    · rw [nil_fits ht]; exact ⟨by omega, rfl⟩
    · exact spineF_rb 10 h T h10 ht
theorem evenF_wb : ∀ (f n : Nat) (T : Tr), n ≤ f → (evenF f n).fits T → WbH T
  | 0, h, T, hh, ht => by rw [nil_fits ht]; trivial
  | f + 1, h, T, hh, ht => by
    unfold evenF at ht
    split at ht
    · rw [nil_fits ht]; trivial
    · obtain ⟨b, L, R, rfl, hl, hr⟩ := bn_fits ht
      have c1 := fits_count hl
      have c2 := fits_count hr
      rw [evenF_len f _ (by omega)] at c1 c2
      exact ⟨rfl, evenF_wb f _ L (by omega) hl, evenF_wb f _ R (by omega) hr, by unfold lk; omega⟩
theorem leanF_wlen : ∀ (f h : Nat), h ≤ f → h < 11 → (leanF 3 f h).enc.length + 1 = wrow h
  | 0, h, hh, _ => by
    obtain rfl : h = 0 := by omega
    rfl
  | f + 1, h, hh, h11 => by
    unfold leanF
    split
    · obtain rfl : h = 0 := by omega
      rfl
    · have hw := wrow_up10 h h11
      have ih := leanF_wlen f (h - 1) (by omega) (by omega)
      rw [if_neg (by decide), if_neg (by decide), bn_len, evenF_len _ _ (by omega)]
      have : wrow (h - 1) < wrow h := by
        obtain ⟨k, rfl⟩ : ∃ k, h = k + 1 := ⟨h - 1, by omega⟩
        rw [wrow, Nat.add_sub_cancel]; have := wrow_pos k; omega
      omega
theorem leanF_wb : ∀ (f h : Nat) (T : Tr), h ≤ f → h < 11 → (leanF 3 f h).fits T → WbH T
  | 0, h, T, hh, _, ht => by rw [nil_fits ht]; trivial
  | f + 1, h, T, hh, h11, ht => by
    unfold leanF at ht
    split at ht
    · rw [nil_fits ht]; trivial
    · rw [if_neg (by decide), if_neg (by decide)] at ht
      obtain ⟨b, L, R, rfl, hl, hr⟩ := bn_fits ht
      have hw := wrow_up10 h h11
      have c1 := fits_count hl
      have c2 := fits_count hr
      have c3 := leanF_wlen f (h - 1) (by omega) (by omega)
      rw [evenF_len _ _ (by omega)] at c2
      refine ⟨rfl, leanF_wb f _ L (by omega) (by omega) hl, evenF_wb _ _ R (by omega) hr, ?_⟩
      obtain ⟨k, rfl⟩ : ∃ k, h = k + 1 := ⟨h - 1, by omega⟩
      rw [Nat.add_sub_cancel] at *
      have e := wrow_alt k
      unfold lk
      omega
end Go.Proofs.Ytejknkhahjgdnaa
namespace Go.Proofs.Ytejknkhahjgdnaa
open Go Go.RowKit

/-- nothing that was there has turned, but one block. -/
structure But (P : Nat) (w w' : World) : Prop where
  os : w'.os = w.os
  tape : w'.tape = w.tape
  output : w'.output = w.output
  size : w.heap.size ≤ w'.heap.size
  block : ∀ k, k < w.heap.size → k ≠ P → w'.heap[k]? = w.heap[k]?
theorem But.refl (P : Nat) (w : World) : But P w w := ⟨rfl, rfl, rfl, Nat.le_refl _, fun _ _ _ => rfl⟩
theorem But.trans {P : Nat} {a b c : World} (h : But P a b) (k : But P b c) : But P a c :=
  ⟨k.os.trans h.os, k.tape.trans h.tape, k.output.trans h.output, Nat.le_trans h.size k.size, fun i hi hp => (k.block i (Nat.lt_of_lt_of_le hi h.size) hp).trans (h.block i hi hp)⟩
theorem But.ext {P : Nat} {a b : World} (h : Ext a b) : But P a b := ⟨h.os, h.tape, h.output, Below.size h, fun i hi _ => Below.block h i hi⟩
theorem But.set {P : Nat} (W : World) (v : Value) : But P W (W.setCell ⟨P, 0, none⟩ v) :=
  ⟨rfl, rfl, rfl, (KeepsWalks.setCell W _ v).size, fun _ _ hi => Below.heap_setCell _ _ _ _ hi⟩
theorem But.out {P : Nat} {a b c : World} (h : Ext a b) (hP : a.heap.size ≤ P) (k : But P b c) : Ext a c :=
  ⟨k.os.trans h.os, k.tape.trans h.tape, k.output.trans h.output, Nat.le_trans h.size k.size, fun i hi => (k.block i (Nat.lt_of_lt_of_le hi h.size) (by omega)).trans (Below.block h i hi)⟩
theorem Own.but {B P : Nat} {w w' : World} {v : Value} {zs : List BeadL} (h : Own B w v zs) (e : But P w w') (hP : P < B) : Own B w' v zs := by
  obtain ⟨h1, h | ⟨g, cap, cur, hv, hb, hg, hc⟩⟩ := h
  · exact ⟨h1, .inl h⟩
  · exact ⟨h1, .inr ⟨g, cap, cur, hv, hb, (e.block g (lt_of hg) (by omega)).trans hg, hc⟩⟩
/-- a row of bytes, off a block. -/
def PRow (P : Nat) (w : World) (a : Option Addr) (len cap : Nat) : Prop :=
  len = 0 ∨ ∃ b o, a = some ⟨b, o, none⟩ ∧ b ≠ P ∧ len ≤ cap ∧ ∀ i, i < len → ∃ z : Nat, z < 256 ∧ w.cell? ⟨b, o + i, none⟩ = some (.int .u8 (z : Nat))
theorem PRow.but {P : Nat} {w w' : World} {a : Option Addr} {len cap : Nat} (h : PRow P w a len cap) (e : But P w w') : PRow P w' a len cap := by
  rcases h with h | ⟨b, o, h1, h2, h3, h4⟩
  · exact .inl h
  · refine .inr ⟨b, o, h1, h2, h3, fun i hi => ?_⟩
    obtain ⟨z, hz, hc⟩ := h4 i hi
    refine ⟨z, hz, ?_⟩
    rw [World.cell?_of_block (w := w) (e.block b (cell_lt hc) h2)]
    exact hc
/-- a picker in memory. -/
def PkOk (P : Nat) (w : World) : Prop := ∃ a len cap, Boxed w P 42 (.slice a len cap) ∧ len ≤ 600 ∧ PRow P w a len cap
theorem PkOk.ext {P : Nat} {w w' : World} (h : PkOk P w) (e : Ext w w') : PkOk P w' := by
  obtain ⟨a, len, cap, h1, h2, h3⟩ := h
  exact ⟨a, len, cap, e.get h1, h2, h3.but (But.ext e)⟩
theorem PkOk.lt {P : Nat} {w : World} (h : PkOk P w) : P < w.heap.size := by
  obtain ⟨a, len, cap, h1, h2, h3⟩ := h
  exact h1.lt
def Picks (P n : Nat) (w : World) (e : Ending) (w' : World) : Prop := ∃ x : Nat, x < n ∧ e = .returned (.int .i64 (x : Nat)) ∧ But P w w' ∧ PkOk P w'
theorem pick_end {P n z b o len cap c2 : Nat} {w : World} {A : Option Addr} (hb : Boxed w P 42 (.slice (some ⟨b, o, none⟩) len cap)) (hl : len ≤ 600) (h2 : b ≠ P) (_h3 : len ≤ cap) (_h0 : 0 < len)
    (hr : ∀ i, i < len → ∃ z : Nat, z < 256 ∧ w.cell? ⟨b, o + i, none⟩ = some (.int .u8 (z : Nat))) (hn : 1 ≤ n) (hcap : len - 1 ≤ c2) (hA : 1 < len → A = some ⟨b, o + 1, none⟩) :
    Picks P n w (.returned (.int .i64 ((z : Int) % (n : Int)))) (w.setCell ⟨P, 0, none⟩ (.slice A (len - 1) c2)) := by
  refine ⟨z % n, Nat.mod_lt _ hn, by congr 1, But.set _ _, A, len - 1, c2, hb.set _, by omega, ?_⟩
  by_cases h1 : len = 1
  · left; omega
  · refine .inr ⟨b, o + 1, hA (by omega), h2, by omega, fun i hi => ?_⟩
    obtain ⟨z, hz, hc⟩ := hr (i + 1) (by omega)
    refine ⟨z, hz, ?_⟩
    rw [show o + 1 + i = o + (i + 1) by omega, World.cell?_of_block (w := w) (Below.heap_setCell _ _ _ _ h2)]
    exact hc
set_option maxHeartbeats 1000000 in
theorem pkNext_any (P n : Nat) (w : World) (h : PkOk P w) (hn : 1 ≤ n) (hn2 : n ≤ 1000) : Calls Try.prog 65 #[.pointer (some ⟨P, 0, none⟩), .int .i64 (n : Nat)] w (Picks P n w) := by
  have H := Lib.hid h
  obtain ⟨a, len, cap, hb, hl, hr⟩ := h
  have hc := hb.cell
  have hf := hb.frozen
  rcases Nat.eq_zero_or_pos len with h0 | h0
  · subst h0
    clear hr
    go_enter Try.func65, Try.ntmps65
    go_wp2
    go_ret
    exact ⟨0, by omega, rfl, But.refl _ _, H.out⟩
  · rcases hr with hr | ⟨b, o, rfl, h2, h3, h4⟩
    · omega
    · obtain ⟨z, hz, hc0⟩ := h4 0 h0
      rw [Nat.add_zero] at hc0
      have HR := Lib.hid h4
      have HB := Lib.hid hb
      have HN := Lib.hid hn
      have hn0 : (n : Int) ≠ 0 := by omega
      clear h4 hb
      go_enter Try.func65, Try.ntmps65
      go_wp2
      all_goals
        go_ret
        refine pick_end (z := z) HB.out hl h2 h3 h0 HR.out hn ?_ ?_
        · omega
        · intro k
          first | rfl | omega
/-- beads that a picker has grown. -/
def Grown (Q : BT → Prop) (P : Nat) (w : World) (e : Ending) (w' : World) : Prop := ∃ v t, e = .returned v ∧ Own w.heap.size w' v t.enc ∧ Q t ∧ But P w w' ∧ PkOk P w'
def AvlB (h : Nat) (t : BT) : Prop := (∀ T, t.fits T → AvlH T h) ∧ t.enc.length + 1 ≤ 2 ^ h
theorem AvlB.nil : AvlB 0 .nil := ⟨fun T h => by rw [nil_fits h]; rfl, by decide⟩
theorem AvlB.node {p q h : Nat} {l r : BT} {g : Int} (hl : AvlB p l) (hr : AvlB q r) (h1 : p ≤ q + 1) (h2 : q ≤ p + 1) (hh : h = 1 + max p q) (hg : g = h) : AvlB h (bn l g r) := by
  refine ⟨fun T hT => ?_, ?_⟩
  · obtain ⟨b, L, R, rfl, fl, fr⟩ := bn_fits hT
    exact ⟨p, q, hl.1 L fl, hr.1 R fr, hh, hg, h1, h2⟩
  · have a1 := hl.2
    have a2 := hr.2
    have e1 : 2 ^ p ≤ 2 ^ max p q := Nat.pow_le_pow_right (by decide) (by omega)
    have e2 : 2 ^ q ≤ 2 ^ max p q := Nat.pow_le_pow_right (by decide) (by omega)
    rw [bn_len, hh, Nat.add_comm 1 (max p q), Nat.pow_succ]
    omega
theorem pow_le {h k m : Nat} (hk : h ≤ k) (hm : 2 ^ k = m) : 2 ^ h ≤ m := by rw [← hm]; exact Nat.pow_le_pow_right (by decide) hk
set_option maxHeartbeats 1000000 in
theorem pkAvl_any (P f : Nat) : ∀ (h : Int) (w : World), h.toNat ≤ f → -5 ≤ h → h ≤ 7 → PkOk P w → Calls Try.prog 40 #[.pointer (some ⟨P, 0, none⟩), .int .i64 h] w (Grown (AvlB h.toNat) P w) := by
  induction f with
  | zero =>
    intro h w hf h0 h7 hP
    have h1 : h < 1 := by omega
    have HP := Lib.hid hP
    have E := Lib.hid (show h.toNat = 0 by omega)
    clear hP
    go_enter Try.func40, Try.ntmps40
    go_wp2
    go_ret
    rw [E.out]
    exact ⟨_, .nil, rfl, Own.nil _ _, AvlB.nil, But.refl _ _, HP.out⟩
  | succ f ih =>
    intro h w hf h0 h7 hP
    have HP := Lib.hid hP
    by_cases h1 : h < 1
    · have E := Lib.hid (show h.toNat = 0 by omega)
      clear hP ih hf
      go_enter Try.func40, Try.ntmps40
      go_wp2
      go_ret
      rw [E.out]
      exact ⟨_, .nil, rfl, Own.nil _ _, AvlB.nil, But.refl _ _, HP.out⟩
    · have IH := Lib.hid ih
      have HF := Lib.hid hf
      obtain ⟨N, hN⟩ : ∃ N, h.toNat = N := ⟨_, rfl⟩
      have E := Lib.hid hN
      rw [hN]
      clear hP ih hf hN
      have hk1 : 1 ≤ h := by omega
      clear h1
      go_enter Try.func40, Try.ntmps40
      go_wp2_with fail
      refine (pkNext_any P 3 w HP.out (by omega) (by omega)).mono ?_
      rintro e w0 ⟨x, hx, rfl, b0, p0⟩
      have H0 := Lib.hid (And.intro b0 p0)
      have HPP := Lib.hid (Nat.lt_of_lt_of_le HP.out.lt b0.size)
      clear b0 p0
      by_cases hh : 1 < h
      · by_cases x1 : x = 1
        · subst x1
          go_wp2_with fail
          refine (IH.out (h - 1) w0 (by have := HF.out; omega) (by omega) (by omega) H0.out.2).mono ?_
          rintro e w1 ⟨v1, t1, rfl, o1, q1, b1, p1⟩
          have HA := Lib.hid (And.intro o1 (And.intro b1 p1))
          have Q1 := Lib.hid q1
          clear o1 b1 p1 q1
          go_wp2_with fail
          refine (IH.out (h - 2) w1 (by have := HF.out; omega) (by omega) (by omega) HA.out.2.2).mono ?_
          rintro e w2 ⟨v2, t2, rfl, o2, q2, b2, p2⟩
          have HB := Lib.hid (And.intro o2 (And.intro b2 p2))
          have Q2 := Lib.hid q2
          clear o2 b2 p2 q2
          go_wp2_with fail
          refine (node34_any w2 v1 v2 t1 t2 _ (HA.out.1.but HB.out.2.1 HPP.out).beads HB.out.1.beads (by have a1 := Q1.out.2; have a2 := Q2.out.2; have e1 := pow_le (h := (h - 1).toNat) (k := 7) (m := 128) (by omega) rfl; have e2 := pow_le (h := (h - 2).toNat) (k := 7) (m := 128) (by omega) rfl; omega)).mono ?_
          rintro e w3 ⟨v3, rfl, o3, h3⟩
          have HC := Lib.hid (And.intro o3 h3)
          clear o3 h3
          go_wp2
          go_ret
          have hb := HA.out.2.1.trans HB.out.2.1
          exact ⟨v3, _, rfl, HC.out.1.mono (H0.out.1.trans hb).size, AvlB.node Q1.out Q2.out (by omega) (by omega) (by have := E.out; omega) (by have := E.out; omega), (H0.out.1.trans hb).trans (But.ext HC.out.2), HB.out.2.2.ext HC.out.2⟩
        · by_cases x2 : x = 2
          · subst x2
            go_wp2_with fail
            refine (IH.out (h - 2) w0 (by have := HF.out; omega) (by omega) (by omega) H0.out.2).mono ?_
            rintro e w1 ⟨v1, t1, rfl, o1, q1, b1, p1⟩
            have HA := Lib.hid (And.intro o1 (And.intro b1 p1))
            have Q1 := Lib.hid q1
            clear o1 b1 p1 q1
            go_wp2_with fail
            refine (IH.out (h - 1) w1 (by have := HF.out; omega) (by omega) (by omega) HA.out.2.2).mono ?_
            rintro e w2 ⟨v2, t2, rfl, o2, q2, b2, p2⟩
            have HB := Lib.hid (And.intro o2 (And.intro b2 p2))
            have Q2 := Lib.hid q2
            clear o2 b2 p2 q2
            go_wp2_with fail
            refine (node34_any w2 v1 v2 t1 t2 _ (HA.out.1.but HB.out.2.1 HPP.out).beads HB.out.1.beads (by have a1 := Q1.out.2; have a2 := Q2.out.2; have e1 := pow_le (h := (h - 1).toNat) (k := 7) (m := 128) (by omega) rfl; have e2 := pow_le (h := (h - 2).toNat) (k := 7) (m := 128) (by omega) rfl; omega)).mono ?_
            rintro e w3 ⟨v3, rfl, o3, h3⟩
            have HC := Lib.hid (And.intro o3 h3)
            clear o3 h3
            go_wp2
            go_ret
            have hb := HA.out.2.1.trans HB.out.2.1
            exact ⟨v3, _, rfl, HC.out.1.mono (H0.out.1.trans hb).size, AvlB.node Q1.out Q2.out (by omega) (by omega) (by have := E.out; omega) (by have := E.out; omega), (H0.out.1.trans hb).trans (But.ext HC.out.2), HB.out.2.2.ext HC.out.2⟩
          · obtain rfl : x = 0 := by omega
            go_wp2_with fail
            refine (IH.out (h - 1) w0 (by have := HF.out; omega) (by omega) (by omega) H0.out.2).mono ?_
            rintro e w1 ⟨v1, t1, rfl, o1, q1, b1, p1⟩
            have HA := Lib.hid (And.intro o1 (And.intro b1 p1))
            have Q1 := Lib.hid q1
            clear o1 b1 p1 q1
            go_wp2_with fail
            refine (IH.out (h - 1) w1 (by have := HF.out; omega) (by omega) (by omega) HA.out.2.2).mono ?_
            rintro e w2 ⟨v2, t2, rfl, o2, q2, b2, p2⟩
            have HB := Lib.hid (And.intro o2 (And.intro b2 p2))
            have Q2 := Lib.hid q2
            clear o2 b2 p2 q2
            go_wp2_with fail
            refine (node34_any w2 v1 v2 t1 t2 _ (HA.out.1.but HB.out.2.1 HPP.out).beads HB.out.1.beads (by have a1 := Q1.out.2; have a2 := Q2.out.2; have e1 := pow_le (h := (h - 1).toNat) (k := 7) (m := 128) (by omega) rfl; omega)).mono ?_
            rintro e w3 ⟨v3, rfl, o3, h3⟩
            have HC := Lib.hid (And.intro o3 h3)
            clear o3 h3
            go_wp2
            go_ret
            have hb := HA.out.2.1.trans HB.out.2.1
            exact ⟨v3, _, rfl, HC.out.1.mono (H0.out.1.trans hb).size, AvlB.node Q1.out Q2.out (by omega) (by omega) (by have := E.out; omega) (by have := E.out; omega), (H0.out.1.trans hb).trans (But.ext HC.out.2), HB.out.2.2.ext HC.out.2⟩
      · go_wp2_with fail
        refine (IH.out (h - 1) w0 (by have := HF.out; omega) (by omega) (by omega) H0.out.2).mono ?_
        rintro e w1 ⟨v1, t1, rfl, o1, q1, b1, p1⟩
        have HA := Lib.hid (And.intro o1 (And.intro b1 p1))
        have Q1 := Lib.hid q1
        clear o1 b1 p1 q1
        go_wp2_with fail
        refine (IH.out (h - 1) w1 (by have := HF.out; omega) (by omega) (by omega) HA.out.2.2).mono ?_
        rintro e w2 ⟨v2, t2, rfl, o2, q2, b2, p2⟩
        have HB := Lib.hid (And.intro o2 (And.intro b2 p2))
        have Q2 := Lib.hid q2
        clear o2 b2 p2 q2
        go_wp2_with fail
        refine (node34_any w2 v1 v2 t1 t2 _ (HA.out.1.but HB.out.2.1 HPP.out).beads HB.out.1.beads (by have a1 := Q1.out.2; have a2 := Q2.out.2; have e1 := pow_le (h := (h - 1).toNat) (k := 7) (m := 128) (by omega) rfl; omega)).mono ?_
        rintro e w3 ⟨v3, rfl, o3, h3⟩
        have HC := Lib.hid (And.intro o3 h3)
        clear o3 h3
        go_wp2
        go_ret
        have hb := HA.out.2.1.trans HB.out.2.1
        exact ⟨v3, _, rfl, HC.out.1.mono (H0.out.1.trans hb).size, AvlB.node Q1.out Q2.out (by omega) (by omega) (by have := E.out; omega) (by have := E.out; omega), (H0.out.1.trans hb).trans (But.ext HC.out.2), HB.out.2.2.ext HC.out.2⟩
def RbB (b : Nat) (red : Bool) (t : BT) : Prop := ∃ c, (∀ T, t.fits T → RbH T b c) ∧ (c = true → red = true) ∧ t.enc.length + 1 ≤ 2 ^ (2 * b + red.toNat)
theorem RbB.nil (red : Bool) : RbB 0 red .nil := ⟨false, fun T h => by rw [nil_fits h]; exact ⟨rfl, rfl⟩, fun h => by (cases h), Nat.pow_pos (by decide)⟩
theorem RbB.black {b : Nat} {l r : BT} {g : Int} {red : Bool} (hl : RbB b true l) (hr : RbB b true r) (hg : g = 2 * ((b + 1 : Nat) : Int)) : RbB (b + 1) red (bn l g r) := by
  obtain ⟨c, l1, -, l3⟩ := hl
  obtain ⟨d, r1, -, r3⟩ := hr
  refine ⟨false, fun T hT => ?_, fun h => by (cases h), ?_⟩
  · obtain ⟨b', L, R, rfl, fl, fr⟩ := bn_fits hT
    exact ⟨b, c, d, rfl, l1 L fl, r1 R fr, hg⟩
  · have e1 : 2 ^ (2 * (b + 1)) ≤ 2 ^ (2 * (b + 1) + red.toNat) := Nat.pow_le_pow_right (by decide) (by omega)
    rw [show 2 * (b + 1) = (2 * b + 1) + 1 by omega, Nat.pow_succ] at e1
    rw [show Bool.toNat true = 1 from rfl] at l3 r3
    rw [bn_len, show 2 * (b + 1) = 2 * b + 1 + 1 by omega]
    omega
theorem RbB.red {b : Nat} {l r : BT} {g : Int} (hl : RbB b false l) (hr : RbB b false r) (hg : g = 2 * (b : Int) + 1) : RbB b true (bn l g r) := by
  obtain ⟨c, l1, l2, l3⟩ := hl
  obtain ⟨d, r1, r2, r3⟩ := hr
  obtain rfl : c = false := by cases c; rfl; exact absurd (l2 rfl) (by decide)
  obtain rfl : d = false := by cases d; rfl; exact absurd (r2 rfl) (by decide)
  refine ⟨true, fun T hT => ?_, fun _ => rfl, ?_⟩
  · obtain ⟨b', L, R, rfl, fl, fr⟩ := bn_fits hT
    exact ⟨l1 L fl, r1 R fr, hg⟩
  · rw [show 2 * b + Bool.toNat false = 2 * b from rfl] at l3 r3
    rw [bn_len, show Bool.toNat true = 1 from rfl, Nat.pow_succ]
    omega
theorem RbB.le {b : Nat} {red : Bool} {t : BT} (h : RbB b red t) (hb : b ≤ 3) : t.enc.length ≤ 127 := by
  obtain ⟨c, -, -, h3⟩ := h
  have e := pow_le (h := 2 * b + red.toNat) (k := 7) (m := 128) (by cases red <;> simp <;> omega) rfl
  omega
set_option maxHeartbeats 1000000 in
theorem pkRb_any (P f : Nat) : ∀ (b : Int) (red : Bool) (w : World), 2 * b.toNat + red.toNat < f → 0 ≤ b → b ≤ 3 → PkOk P w → Calls Try.prog 41 #[.pointer (some ⟨P, 0, none⟩), .int .i64 b, .bool red] w (Grown (RbB b.toNat red) P w) := by
  induction f with
  | zero => intro b red w hf; omega
  | succ f ih =>
    intro b red w hf h0 h7 hP
    have HP := Lib.hid hP
    have IH := Lib.hid ih
    have HF := Lib.hid hf
    clear hP ih hf
    cases red with
    | false =>
      obtain ⟨w0, hw0, H0, HPP⟩ : ∃ w0, w0 = w ∧ Hid (But P w w0 ∧ PkOk P w0) ∧ Hid (P < w0.heap.size) := ⟨w, rfl, Lib.hid ⟨But.refl P w, HP.out⟩, Lib.hid HP.out.lt⟩
      suffices hs : Calls Try.prog 41 #[.pointer (some ⟨P, 0, none⟩), .int .i64 b, .bool false] w0 (Grown (RbB b.toNat false) P w) by rwa [hw0] at hs
      clear hw0
      go_enter Try.func41, Try.ntmps41
      by_cases h1 : b < 1
      · have E := Lib.hid (show b.toNat = 0 by omega)
        clear IH HF
        go_wp2
        go_ret
        rw [E.out]
        exact ⟨_, .nil, rfl, Own.nil _ _, RbB.nil _, H0.out.1, H0.out.2⟩
      · have hb1 : 1 ≤ b := by omega
        obtain ⟨N, hN⟩ : ∃ N, b.toNat = N + 1 := ⟨b.toNat - 1, by omega⟩
        have E := Lib.hid hN
        have E2 := Lib.hid (show (b - 1).toNat = N by omega)
        clear h1 hN
        go_wp2_with fail
        refine (IH.out (b - 1) true w0 (by have := HF.out; (rw [show Bool.toNat false = 0 from rfl] at this); simp; omega) (by omega) (by omega) H0.out.2).mono ?_
        rintro e w1 ⟨v1, t1, rfl, o1, q1, b1, p1⟩
        have HA := Lib.hid (And.intro o1 (And.intro b1 p1))
        have Q1 := Lib.hid q1
        clear o1 b1 p1 q1
        go_wp2_with fail
        refine (IH.out (b - 1) true w1 (by have := HF.out; (rw [show Bool.toNat false = 0 from rfl] at this); simp; omega) (by omega) (by omega) HA.out.2.2).mono ?_
        rintro e w2 ⟨v2, t2, rfl, o2, q2, b2, p2⟩
        have HB := Lib.hid (And.intro o2 (And.intro b2 p2))
        have Q2 := Lib.hid q2
        clear o2 b2 p2 q2
        go_wp2_with fail
        refine (node34_any w2 v1 v2 t1 t2 _ (HA.out.1.but HB.out.2.1 HPP.out).beads HB.out.1.beads (by have a1 := Q1.out.le (by omega); have a2 := Q2.out.le (by omega); omega)).mono ?_
        rintro e w3 ⟨v3, rfl, o3, h3⟩
        have HC := Lib.hid (And.intro o3 h3)
        clear o3 h3
        go_wp2
        go_ret
        have hb := HA.out.2.1.trans HB.out.2.1
        exact ⟨v3, _, rfl, HC.out.1.mono (H0.out.1.trans hb).size, (by rw [E.out]; exact RbB.black (b := N) (by have := Q1.out; rwa [E2.out] at this) (by have := Q2.out; rwa [E2.out] at this) (by have := E.out; omega)), (H0.out.1.trans hb).trans (But.ext HC.out.2), HB.out.2.2.ext HC.out.2⟩
    | true =>
      go_enter Try.func41, Try.ntmps41
      go_wp2_with fail
      refine (pkNext_any P 2 w HP.out (by omega) (by omega)).mono ?_
      rintro e w0 ⟨x, hx, rfl, b0, p0⟩
      have H0 := Lib.hid (And.intro b0 p0)
      have HPP := Lib.hid (Nat.lt_of_lt_of_le HP.out.lt b0.size)
      clear b0 p0
      by_cases x1 : x = 1
      · subst x1
        go_wp2_with fail
        refine (IH.out b false w0 (by have := HF.out; rw [show Bool.toNat true = 1 from rfl] at this; simp; omega) (by omega) (by omega) H0.out.2).mono ?_
        rintro e w1 ⟨v1, t1, rfl, o1, q1, b1, p1⟩
        have HA := Lib.hid (And.intro o1 (And.intro b1 p1))
        have Q1 := Lib.hid q1
        clear o1 b1 p1 q1
        go_wp2_with fail
        refine (IH.out b false w1 (by have := HF.out; rw [show Bool.toNat true = 1 from rfl] at this; simp; omega) (by omega) (by omega) HA.out.2.2).mono ?_
        rintro e w2 ⟨v2, t2, rfl, o2, q2, b2, p2⟩
        have HB := Lib.hid (And.intro o2 (And.intro b2 p2))
        have Q2 := Lib.hid q2
        clear o2 b2 p2 q2
        go_wp2_with fail
        refine (node34_any w2 v1 v2 t1 t2 _ (HA.out.1.but HB.out.2.1 HPP.out).beads HB.out.1.beads (by have a1 := Q1.out.le (by omega); have a2 := Q2.out.le (by omega); omega)).mono ?_
        rintro e w3 ⟨v3, rfl, o3, h3⟩
        have HC := Lib.hid (And.intro o3 h3)
        clear o3 h3
        go_wp2
        go_ret
        have hb := HA.out.2.1.trans HB.out.2.1
        exact ⟨v3, _, rfl, HC.out.1.mono (H0.out.1.trans hb).size, RbB.red Q1.out Q2.out (by omega), (H0.out.1.trans hb).trans (But.ext HC.out.2), HB.out.2.2.ext HC.out.2⟩
      · obtain rfl : x = 0 := by omega
        by_cases h1 : b < 1
        · have E := Lib.hid (show b.toNat = 0 by omega)
          clear IH HF
          go_wp2
          go_ret
          rw [E.out]
          exact ⟨_, .nil, rfl, Own.nil _ _, RbB.nil _, H0.out.1, H0.out.2⟩
        · have hb1 : 1 ≤ b := by omega
          obtain ⟨N, hN⟩ : ∃ N, b.toNat = N + 1 := ⟨b.toNat - 1, by omega⟩
          have E := Lib.hid hN
          have E2 := Lib.hid (show (b - 1).toNat = N by omega)
          clear h1 hN
          go_wp2_with fail
          refine (IH.out (b - 1) true w0 (by have := HF.out; (rw [show Bool.toNat true = 1 from rfl] at this); simp; omega) (by omega) (by omega) H0.out.2).mono ?_
          rintro e w1 ⟨v1, t1, rfl, o1, q1, b1, p1⟩
          have HA := Lib.hid (And.intro o1 (And.intro b1 p1))
          have Q1 := Lib.hid q1
          clear o1 b1 p1 q1
          go_wp2_with fail
          refine (IH.out (b - 1) true w1 (by have := HF.out; (rw [show Bool.toNat true = 1 from rfl] at this); simp; omega) (by omega) (by omega) HA.out.2.2).mono ?_
          rintro e w2 ⟨v2, t2, rfl, o2, q2, b2, p2⟩
          have HB := Lib.hid (And.intro o2 (And.intro b2 p2))
          have Q2 := Lib.hid q2
          clear o2 b2 p2 q2
          go_wp2_with fail
          refine (node34_any w2 v1 v2 t1 t2 _ (HA.out.1.but HB.out.2.1 HPP.out).beads HB.out.1.beads (by have a1 := Q1.out.le (by omega); have a2 := Q2.out.le (by omega); omega)).mono ?_
          rintro e w3 ⟨v3, rfl, o3, h3⟩
          have HC := Lib.hid (And.intro o3 h3)
          clear o3 h3
          go_wp2
          go_ret
          have hb := HA.out.2.1.trans HB.out.2.1
          exact ⟨v3, _, rfl, HC.out.1.mono (H0.out.1.trans hb).size, (by rw [E.out]; exact RbB.black (b := N) (by have := Q1.out; rwa [E2.out] at this) (by have := Q2.out; rwa [E2.out] at this) (by have := E.out; omega)), (H0.out.1.trans hb).trans (But.ext HC.out.2), HB.out.2.2.ext HC.out.2⟩
def WbB (n : Nat) (t : BT) : Prop := (∀ T, t.fits T → WbH T) ∧ t.enc.length + 1 = n
theorem WbB.node {a b n : Nat} {l r : BT} (hl : WbB a l) (hr : WbB b r) (hn : n = a + b) (h1 : 29 * n ≤ 100 * a) (h2 : 29 * n ≤ 100 * b) : WbB n (bn l 0 r) := by
  refine ⟨fun T hT => ?_, ?_⟩
  · obtain ⟨b', L, R, rfl, fl, fr⟩ := bn_fits hT
    have c1 := fits_count fl
    have c2 := fits_count fr
    have a1 := hl.2
    have a2 := hr.2
    exact ⟨rfl, hl.1 L fl, hr.1 R fr, by unfold lk; omega⟩
  · have a1 := hl.2
    have a2 := hr.2
    rw [bn_len]; omega
set_option maxHeartbeats 1000000 in
theorem pkWb_any (P f : Nat) : ∀ (n : Nat) (w : World), n ≤ f → 1 ≤ n → n ≤ 99 → PkOk P w → Calls Try.prog 42 #[.pointer (some ⟨P, 0, none⟩), .int .i64 (n : Nat)] w (Grown (WbB n) P w) := by
  induction f with
  | zero => intro n w hf h0; omega
  | succ f ih =>
    intro n w hf h0 h9 hP
    have HP := Lib.hid hP
    have IH := Lib.hid ih
    have HF := Lib.hid hf
    clear hP ih hf
    by_cases h1 : n = 1
    · subst h1
      clear IH HF
      go_enter Try.func42, Try.ntmps42
      go_wp2
      go_ret
      exact ⟨_, .nil, rfl, Own.nil _ _, ⟨fun T h => by rw [nil_fits h]; trivial, rfl⟩, But.refl _ _, HP.out⟩
    · have h2 : 2 ≤ n := by omega
      obtain ⟨L, hL⟩ : ∃ L, (29 * n + 99) / 100 = L := ⟨_, rfl⟩
      have E := Lib.hid (show (29 * (n : Int) + 99) / 100 = (L : Int) by omega)
      have hL1 : 2 * L ≤ n := by
        rcases Nat.lt_or_ge n 3 with k | k
        · obtain rfl : n = 2 := by omega
          omega
        · omega
      have HL := Lib.hid (show 1 ≤ L ∧ 29 * n ≤ 100 * L by omega)
      clear h1 hL
      go_enter Try.func42, Try.ntmps42
      go_wp2_with fail
      rw [E.out, show (n : Int) - 2 * (L : Int) + 1 = ((n - 2 * L + 1 : Nat) : Int) by omega]
      refine (pkNext_any P (n - 2 * L + 1) w HP.out (by omega) (by omega)).mono ?_
      rintro e w0 ⟨x, hx, rfl, b0, p0⟩
      have H0 := Lib.hid (And.intro b0 p0)
      have HPP := Lib.hid (Nat.lt_of_lt_of_le HP.out.lt b0.size)
      obtain ⟨A, hA⟩ : ∃ A, L + x = A := ⟨_, rfl⟩
      have EA := Lib.hid (show (L : Int) + (x : Int) = (A : Int) by omega)
      have EB := Lib.hid (show (n : Int) - (A : Int) = ((n - A : Nat) : Int) by omega)
      have hx2 := hx
      have HAB := Lib.hid (show 1 ≤ A ∧ 1 ≤ n - A ∧ A ≤ n ∧ L ≤ A ∧ L ≤ n - A by have := HL.out; omega)
      clear b0 p0 hA
      go_wp2_with fail
      rw [EA.out]
      have hAn := HAB.out.2.2.1
      refine (IH.out A w0 (by have := HF.out; have := HAB.out; omega) (by have := HAB.out; omega) (by have := HAB.out; omega) H0.out.2).mono ?_
      rintro e w1 ⟨v1, t1, rfl, o1, q1, b1, p1⟩
      have HA := Lib.hid (And.intro o1 (And.intro b1 p1))
      have Q1 := Lib.hid q1
      clear o1 b1 p1 q1
      go_wp2_with fail
      refine ((show Calls Try.prog 42 #[.pointer (some ⟨P, 0, none⟩), .int .i64 ((n : Int) - (A : Int))] w1 (Grown (WbB (n - A)) P w1) by rw [EB.out]; exact IH.out (n - A) w1 (by have := HF.out; have := HAB.out; omega) (by have := HAB.out; omega) (by have := HAB.out; omega) HA.out.2.2)).mono ?_
      rintro e w2 ⟨v2, t2, rfl, o2, q2, b2, p2⟩
      have HB := Lib.hid (And.intro o2 (And.intro b2 p2))
      have Q2 := Lib.hid q2
      clear o2 b2 p2 q2
      go_wp2_with fail
      refine (node34_any w2 v1 v2 t1 t2 _ (HA.out.1.but HB.out.2.1 HPP.out).beads HB.out.1.beads (by have a1 := Q1.out.2; have a2 := Q2.out.2; have := HAB.out; omega)).mono ?_
      rintro e w3 ⟨v3, rfl, o3, h3⟩
      have HC := Lib.hid (And.intro o3 h3)
      clear o3 h3
      go_wp2
      go_ret
      have hb := HA.out.2.1.trans HB.out.2.1
      exact ⟨v3, _, rfl, HC.out.1.mono (H0.out.1.trans hb).size, WbB.node Q1.out Q2.out (by have := HAB.out; omega) (by have := HAB.out; have := HL.out; omega) (by have := HAB.out; have := HL.out; omega), (H0.out.1.trans hb).trans (But.ext HC.out.2), HB.out.2.2.ext HC.out.2⟩
end Go.Proofs.Ytejknkhahjgdnaa
namespace Go.Proofs.Ytejknkhahjgdnaa
open Go Go.RowKit

/-- is there that height, in a scheme? -/
def okH (s h : Int) : Bool := decide (0 ≤ h) && (if s = 4 then decide (h ≤ 1099511627776) else decide (1 ≤ s) && decide (s ≤ 3) && decide (h ≤ 100))
def LstE (s h : Int) : Int := if okH s h then 0 else 2
def LstN (s h : Int) : Nat := if okH s h then lstS s.toNat h.toNat else 0
def Lst (s h : Int) (w : World) (r : Ending) (w' : World) : Prop := ∃ v, r = .returned (.tuple #[v, .int .i64 (LstE s h)]) ∧ NumIs w' v (LstN s h) ∧ Ext w w'
theorem lst_not {s h : Int} (k : okH s h = false) : LstE s h = 2 ∧ LstN s h = 0 := by unfold LstE LstN; rw [k]; exact ⟨rfl, rfl⟩
theorem lst_ok {s h : Int} (k : okH s h = true) : LstE s h = 0 ∧ LstN s h = lstS s.toNat h.toNat := by unfold LstE LstN; rw [k]; exact ⟨rfl, rfl⟩
theorem kinds_zero (w : World) : (zeroValue 53).run Try.prog w = .ok (.agg #[.int .i64 0, .nilFunc]) w := by kernel_rfl
theorem look1 {w : World} {N : Nat} {M : Int} (h : w.heap[N]? = some (.map (kindsE M) 4)) : (Instr.lookup 55 (.map (some N)) (.int .u8 1) true).run Try.prog w = .ok (.tuple #[.agg #[.int .i64 100, .nilFunc], .bool true]) w :=
  look_u8 Try.underlying55 Try.underlying5 h rfl
theorem look2 {w : World} {N : Nat} {M : Int} (h : w.heap[N]? = some (.map (kindsE M) 4)) : (Instr.lookup 55 (.map (some N)) (.int .u8 2) true).run Try.prog w = .ok (.tuple #[.agg #[.int .i64 100, .func (.func 52) #[] #[]], .bool true]) w :=
  look_u8 Try.underlying55 Try.underlying5 h rfl
theorem look3 {w : World} {N : Nat} {M : Int} (h : w.heap[N]? = some (.map (kindsE M) 4)) : (Instr.lookup 55 (.map (some N)) (.int .u8 3) true).run Try.prog w = .ok (.tuple #[.agg #[.int .i64 100, .func (.func 53) #[] #[]], .bool true]) w :=
  look_u8 Try.underlying55 Try.underlying5 h rfl
theorem look4 {w : World} {N : Nat} {M : Int} (h : w.heap[N]? = some (.map (kindsE M) 4)) : (Instr.lookup 55 (.map (some N)) (.int .u8 4) true).run Try.prog w = .ok (.tuple #[.agg #[.int .i64 M, .func (.func 55) #[] #[]], .bool true]) w :=
  look_u8 Try.underlying55 Try.underlying5 h rfl
theorem lookM {w : World} {N : Nat} {M s : Int} (h : w.heap[N]? = some (.map (kindsE M) 4)) (hs : s ≠ 1 ∧ s ≠ 2 ∧ s ≠ 3 ∧ s ≠ 4) : (Instr.lookup 55 (.map (some N)) (.int .u8 s) true).run Try.prog w = .ok (.tuple #[.agg #[.int .i64 0, .nilFunc], .bool false]) w :=
  miss_u8 Try.underlying55 Try.underlying5 h (kinds_zero w) (by
    obtain ⟨h1, h2, h3, h4⟩ := hs
    have e1 : (s == 1) = false := by simpa using h1
    have e2 : (s == 2) = false := by simpa using h2
    have e3 : (s == 3) = false := by simpa using h3
    have e4 : (s == 4) = false := by simpa using h4
    simp [Instr.findNow, Instr.sameNow, kindsE, e1, e2, e3, e4])
theorem nil_nil (w : World) : (binOp .eql 51 .nilFunc .nilFunc).run Try.prog w = .ok (.bool true) w := by kernel_rfl
theorem kind_nil2 (w : World) : (binOp .eql 51 (.func (.func 52) #[] #[]) .nilFunc).run Try.prog w = .ok (.bool false) w := by kernel_rfl
theorem kind_nil3 (w : World) : (binOp .eql 51 (.func (.func 53) #[] #[]) .nilFunc).run Try.prog w = .ok (.bool false) w := by kernel_rfl
theorem kind_nil4 (w : World) : (binOp .eql 51 (.func (.func 55) #[] #[]) .nilFunc).run Try.prog w = .ok (.bool false) w := by kernel_rfl
set_option maxRecDepth 100000 in
set_option maxHeartbeats 2000000 in
theorem least_1 (w : World) (h M : Int) (hM : M = 1099511627776) : Calls Try.prog 7 #[.int .u8 1, .int .i64 h] w (Lst 1 h w) := by
  have HK := Lib.hid (bkinds_any w M hM)
  have hE := (Ext.refl w).alloc (.map (kindsE M) 4)
  have hl := look1 (alloc_at w (.map (kindsE M) 4) _ rfl)
  have HE := Lib.hid hE
  clear hE hM
  by_cases h0 : h < 0
  · have HN := Lib.hid (lst_not (s := 1) (h := h) (by unfold okH; rw [decide_eq_false (by omega)]; rfl))
    go_enter Try.func7, Try.ntmps7
    go_wp2_with fail
    refine HK.out.mono ?_
    rintro e w1 ⟨rfl, rfl⟩
    go_wp2
    go_ret2
    unfold Lst
    rw [HN.out.1, HN.out.2]
    exact ⟨_, rfl, num_nil _ _ _, HE.out.alloc _⟩
  · by_cases h1 : 100 < h
    · have HN := Lib.hid (lst_not (s := 1) (h := h) (by unfold okH; rw [if_neg (by decide), decide_eq_false (p := h ≤ 100) (by omega)]; simp))
      go_enter Try.func7, Try.ntmps7
      go_wp2_with fail
      refine HK.out.mono ?_
      rintro e w1 ⟨rfl, rfl⟩
      go_wp2
      go_ret2
      unfold Lst
      rw [HN.out.1, HN.out.2]
      exact ⟨_, rfl, num_nil _ _ _, HE.out.alloc _⟩
    · obtain ⟨k, rfl⟩ := Int.eq_ofNat_of_zero_le (Int.not_lt.1 h0)
      have HN := Lib.hid (lst_ok (s := 1) (h := k) (by unfold okH; simp; omega))
      have hk : (k : Int) ≤ 100 := by omega
      have HF := Lib.hid (fun w => fewer_any w k (by omega))
      have hq := nil_nil
      clear h1 h0
      go_enter Try.func7, Try.ntmps7
      go_wp2_with fail
      refine HK.out.mono ?_
      rintro e w1 ⟨rfl, rfl⟩
      go_wp2_with fail
      refine (HF.out _).mono ?_
      rintro e w3 ⟨v, rfl, n3, h3⟩
      have H3 := Lib.hid (And.intro n3 ((HE.out.alloc _).trans h3))
      clear n3 h3 hl
      go_wp2
      go_ret2
      unfold Lst
      rw [HN.out.1, HN.out.2]
      exact ⟨_, rfl, H3.out.1, H3.out.2⟩
theorem lstS_lt2 {h : Nat} (hh : h ≤ 101) : lstS 2 h < 18446744073709551616 := by
  have h1 : 2 ^ ((h + 1) / 2) ≤ 2 ^ 51 := Nat.pow_le_pow_right (by decide) (by omega)
  have h2 : 2 ^ ((h + 1) / 2 - 1) ≤ 2 ^ 51 := Nat.pow_le_pow_right (by decide) (by omega)
  have h3 : 2 ^ 51 = 2251799813685248 := by decide
  show (if h % 2 = 1 then 3 * 2 ^ ((h + 1) / 2 - 1) - 2 else 2 * 2 ^ ((h + 1) / 2) - 2) < _
  split <;> omega
theorem lstS_lt3 {h : Nat} (hh : h ≤ 101) : lstS 3 h < 18446744073709551616 := by
  have h2 := wrow_lt (k := h) (by omega)
  show wrow h - 1 < _
  omega
set_option maxRecDepth 100000 in
set_option maxHeartbeats 2000000 in
theorem least_2 (w : World) (h M : Int) (hM : M = 1099511627776) : Calls Try.prog 7 #[.int .u8 2, .int .i64 h] w (Lst 2 h w) := by
  have HK := Lib.hid (bkinds_any w M hM)
  have hE := (Ext.refl w).alloc (.map (kindsE M) 4)
  have hl := look2 (alloc_at w (.map (kindsE M) 4) _ rfl)
  have HE := Lib.hid hE
  clear hE hM
  by_cases h0 : h < 0
  · have HN := Lib.hid (lst_not (s := 2) (h := h) (by unfold okH; rw [decide_eq_false (by omega)]; rfl))
    go_enter Try.func7, Try.ntmps7
    go_wp2_with fail
    refine HK.out.mono ?_
    rintro e w1 ⟨rfl, rfl⟩
    go_wp2
    go_ret2
    unfold Lst
    rw [HN.out.1, HN.out.2]
    exact ⟨_, rfl, num_nil _ _ _, HE.out.alloc _⟩
  · by_cases h1 : 100 < h
    · have HN := Lib.hid (lst_not (s := 2) (h := h) (by unfold okH; rw [if_neg (by decide), decide_eq_false (p := h ≤ 100) (by omega)]; simp))
      go_enter Try.func7, Try.ntmps7
      go_wp2_with fail
      refine HK.out.mono ?_
      rintro e w1 ⟨rfl, rfl⟩
      go_wp2
      go_ret2
      unfold Lst
      rw [HN.out.1, HN.out.2]
      exact ⟨_, rfl, num_nil _ _ _, HE.out.alloc _⟩
    · obtain ⟨k, rfl⟩ := Int.eq_ofNat_of_zero_le (Int.not_lt.1 h0)
      have HN := Lib.hid (lst_ok (s := 2) (h := k) (by unfold okH; simp; omega))
      have HB := Lib.hid (lstS_lt2 (h := k) (by omega))
      have hk : (k : Int) ≤ 100 := by omega
      have hq := kind_nil2
      have HC := Lib.hid (fun w => least2_any w k (by omega))
      clear h1 h0
      go_enter Try.func7, Try.ntmps7
      go_wp2_with fail
      refine HK.out.mono ?_
      rintro e w1 ⟨rfl, rfl⟩
      go_wp2_with fail
      refine (HC.out _).mono ?_
      rintro e w2 ⟨rfl, h2⟩
      have HE2 := Lib.hid ((HE.out.alloc _).trans h2)
      clear h2 hl
      go_wp2_with fail
      refine (from_any w2 _ HB.out).mono ?_
      rintro e w3 ⟨v, rfl, n3, h3⟩
      have H3 := Lib.hid (And.intro n3 (HE2.out.trans h3))
      clear n3 h3
      go_wp2
      go_ret2
      unfold Lst
      rw [HN.out.1, HN.out.2]
      exact ⟨_, rfl, H3.out.1, H3.out.2⟩
set_option maxRecDepth 100000 in
set_option maxHeartbeats 2000000 in
theorem least_3 (w : World) (h M : Int) (hM : M = 1099511627776) : Calls Try.prog 7 #[.int .u8 3, .int .i64 h] w (Lst 3 h w) := by
  have HK := Lib.hid (bkinds_any w M hM)
  have hE := (Ext.refl w).alloc (.map (kindsE M) 4)
  have hl := look3 (alloc_at w (.map (kindsE M) 4) _ rfl)
  have HE := Lib.hid hE
  clear hE hM
  by_cases h0 : h < 0
  · have HN := Lib.hid (lst_not (s := 3) (h := h) (by unfold okH; rw [decide_eq_false (by omega)]; rfl))
    go_enter Try.func7, Try.ntmps7
    go_wp2_with fail
    refine HK.out.mono ?_
    rintro e w1 ⟨rfl, rfl⟩
    go_wp2
    go_ret2
    unfold Lst
    rw [HN.out.1, HN.out.2]
    exact ⟨_, rfl, num_nil _ _ _, HE.out.alloc _⟩
  · by_cases h1 : 100 < h
    · have HN := Lib.hid (lst_not (s := 3) (h := h) (by unfold okH; rw [if_neg (by decide), decide_eq_false (p := h ≤ 100) (by omega)]; simp))
      go_enter Try.func7, Try.ntmps7
      go_wp2_with fail
      refine HK.out.mono ?_
      rintro e w1 ⟨rfl, rfl⟩
      go_wp2
      go_ret2
      unfold Lst
      rw [HN.out.1, HN.out.2]
      exact ⟨_, rfl, num_nil _ _ _, HE.out.alloc _⟩
    · obtain ⟨k, rfl⟩ := Int.eq_ofNat_of_zero_le (Int.not_lt.1 h0)
      have HN := Lib.hid (lst_ok (s := 3) (h := k) (by unfold okH; simp; omega))
      have HB := Lib.hid (lstS_lt3 (h := k) (by omega))
      have hk : (k : Int) ≤ 100 := by omega
      have hq := kind_nil3
      have HC := Lib.hid (fun w => least3_any w k (by omega))
      clear h1 h0
      go_enter Try.func7, Try.ntmps7
      go_wp2_with fail
      refine HK.out.mono ?_
      rintro e w1 ⟨rfl, rfl⟩
      go_wp2_with fail
      refine (HC.out _).mono ?_
      rintro e w2 ⟨rfl, h2⟩
      have HE2 := Lib.hid ((HE.out.alloc _).trans h2)
      clear h2 hl
      go_wp2_with fail
      refine (from_any w2 _ HB.out).mono ?_
      rintro e w3 ⟨v, rfl, n3, h3⟩
      have H3 := Lib.hid (And.intro n3 (HE2.out.trans h3))
      clear n3 h3
      go_wp2
      go_ret2
      unfold Lst
      rw [HN.out.1, HN.out.2]
      exact ⟨_, rfl, H3.out.1, H3.out.2⟩
set_option maxRecDepth 100000 in
set_option maxHeartbeats 2000000 in
theorem least_4 (w : World) (h M : Int) (hM : M = 1099511627776) : Calls Try.prog 7 #[.int .u8 4, .int .i64 h] w (Lst 4 h w) := by
  have HK := Lib.hid (bkinds_any w M hM)
  have hE := (Ext.refl w).alloc (.map (kindsE M) 4)
  have hl := look4 (alloc_at w (.map (kindsE M) 4) _ rfl)
  have HE := Lib.hid hE
  clear hE
  by_cases h0 : h < 0
  · have HN := Lib.hid (lst_not (s := 4) (h := h) (by unfold okH; rw [decide_eq_false (by omega)]; rfl))
    clear hM
    go_enter Try.func7, Try.ntmps7
    go_wp2_with fail
    refine HK.out.mono ?_
    rintro e w1 ⟨rfl, rfl⟩
    go_wp2
    go_ret2
    unfold Lst
    rw [HN.out.1, HN.out.2]
    exact ⟨_, rfl, num_nil _ _ _, HE.out.alloc _⟩
  · by_cases h1 : M < h
    · have HN := Lib.hid (lst_not (s := 4) (h := h) (by unfold okH; rw [if_pos rfl, decide_eq_false (p := h ≤ 1099511627776) (by omega)]; simp))
      clear hM
      go_enter Try.func7, Try.ntmps7
      go_wp2_with fail
      refine HK.out.mono ?_
      rintro e w1 ⟨rfl, rfl⟩
      go_wp2
      go_ret2
      unfold Lst
      rw [HN.out.1, HN.out.2]
      exact ⟨_, rfl, num_nil _ _ _, HE.out.alloc _⟩
    · obtain ⟨k, rfl⟩ := Int.eq_ofNat_of_zero_le (Int.not_lt.1 h0)
      have HN := Lib.hid (lst_ok (s := 4) (h := k) (by unfold okH; simp; omega))
      have HB := Lib.hid (show lstS 4 k < 18446744073709551616 by show k < _; omega)
      have hq := kind_nil4
      have HC := Lib.hid (fun w => least4_any w k (by omega))
      clear h0 hM
      go_enter Try.func7, Try.ntmps7
      go_wp2_with fail
      refine HK.out.mono ?_
      rintro e w1 ⟨rfl, rfl⟩
      go_wp2_with fail
      refine (HC.out _).mono ?_
      rintro e w2 ⟨rfl, h2⟩
      have HE2 := Lib.hid ((HE.out.alloc _).trans h2)
      clear h2 hl
      go_wp2_with fail
      refine (from_any w2 _ HB.out).mono ?_
      rintro e w3 ⟨v, rfl, n3, h3⟩
      have H3 := Lib.hid (And.intro n3 (HE2.out.trans h3))
      clear n3 h3
      go_wp2
      go_ret2
      unfold Lst
      rw [HN.out.1, HN.out.2]
      exact ⟨_, rfl, H3.out.1, H3.out.2⟩
set_option maxRecDepth 100000 in
set_option maxHeartbeats 2000000 in
theorem least_m (w : World) (s h M : Int) (hM : M = 1099511627776) (hs : s ≠ 1 ∧ s ≠ 2 ∧ s ≠ 3 ∧ s ≠ 4) : Calls Try.prog 7 #[.int .u8 s, .int .i64 h] w (Lst s h w) := by
  have HK := Lib.hid (bkinds_any w M hM)
  have hE := (Ext.refl w).alloc (.map (kindsE M) 4)
  have hl := lookM (alloc_at w (.map (kindsE M) 4) _ rfl) hs
  have HE := Lib.hid hE
  have HN := Lib.hid (lst_not (s := s) (h := h) (by
    unfold okH
    rw [if_neg hs.2.2.2]
    rcases Int.lt_or_le s 1 with h | h
    · rw [decide_eq_false (p := 1 ≤ s) (by omega)]; simp
    · rw [decide_eq_false (p := s ≤ 3) (by omega)]; simp))
  clear hE hM hs
  go_enter Try.func7, Try.ntmps7
  go_wp2_with fail
  refine HK.out.mono ?_
  rintro e w1 ⟨rfl, rfl⟩
  go_wp2
  go_ret2
  unfold Lst
  rw [HN.out.1, HN.out.2]
  exact ⟨_, rfl, num_nil _ _ _, HE.out.alloc _⟩
/-- **bound.Least**, of any scheme and height. -/
theorem bleast_any (w : World) (s h : Int) : Calls Try.prog 7 #[.int .u8 s, .int .i64 h] w (Lst s h w) := by
  by_cases h1 : s = 1
  · subst h1; exact least_1 w h _ rfl
  by_cases h2 : s = 2
  · subst h2; exact least_2 w h _ rfl
  by_cases h3 : s = 3
  · subst h3; exact least_3 w h _ rfl
  by_cases h4 : s = 4
  · subst h4; exact least_4 w h _ rfl
  exact least_m w s h _ rfl ⟨h1, h2, h3, h4⟩
end Go.Proofs.Ytejknkhahjgdnaa
