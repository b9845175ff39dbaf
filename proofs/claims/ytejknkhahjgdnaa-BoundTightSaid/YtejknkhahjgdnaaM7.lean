/- The package wb. wb.May, wb.Rank; joineryref18. joineryref18: Like, Check, May, Rank, Least. joinerylaw18.alive, light; the walks of WbTells, WbLikes, WbHigh, WbMakes. Weight-balanced trees; what becomes of a tree on whose outer side a lighter one hangs (plain, no program). joineryref34.Lean, and which trees its beads are. look.goes: the going over a tree, from left to right, or from right to left. look.goes, as what goes over a tree; look.nodes, Count, Height. joinerylaw34: sound; heights and counts as the program tells them; when a tree may be. joinerylaw34.BoundTight. -/
import Derived.Test.YtejknkhahjgdnaaM6
import Derived.Deep.LoopGhost
import Derived.BigQuiet
namespace Go.Proofs.Ytejknkhahjgdnaa
open Go Go.RowKit

/-- a tree's weight. -/
def wt (t : Tr) : Int := wrap64 (t.size + 1)
set_option maxHeartbeats 400000 in
theorem wbWeight_any (w : World) (t : Tr) (ht : InH w t) : Calls Try.prog 93 #[.pointer t.ptr] w (Ret (.int .i64 (wt t)) w) := by
  go_enter Try.func93, Try.ntmps93
  go_wp2_with fail
  refine (size_any _ t ht).mono ?_
  rintro e w1 ⟨rfl, h1⟩
  go_wp2
  go_ret
  exact Ret.mk h1
def withinB (lo hi a b : Int) : Bool := decide (lo ≤ a) && decide (a ≤ hi) && decide (lo ≤ b) && decide (b ≤ hi)
set_option maxHeartbeats 1000000 in
theorem within_any (w : World) (lo hi a b : Int) (B : Nat) (c0 : w.cell? ⟨B, 0, none⟩ = some (.int .i64 a)) (c1 : w.cell? ⟨B, 1, none⟩ = some (.int .i64 b)) : Calls Try.prog 105 #[.int .i64 lo, .int .i64 hi, .slice (some ⟨B, 0, none⟩) 2 2] w (Ret (.bool (withinB lo hi a b)) w) := by
  obtain ⟨X, hX⟩ : ∃ X, X = withinB lo hi a b := ⟨_, rfl⟩
  rw [← hX]
  have HX := Lib.hid hX
  clear hX
  by_cases h1 : a < lo
  · go_enter Try.func105, Try.ntmps105
    go_wp2
    refine wp_loop_rounds 3 ?_
    rw [rounds_succ]
    go_wp2
    go_ret
    exact ⟨ret_bool (by rw [HX.out]; simp [withinB]; omega), Ext.refl _⟩
  · by_cases h2 : hi < a
    · go_enter Try.func105, Try.ntmps105
      go_wp2
      refine wp_loop_rounds 3 ?_
      rw [rounds_succ]
      go_wp2
      go_ret
      exact ⟨ret_bool (by rw [HX.out]; simp [withinB]; omega), Ext.refl _⟩
    · by_cases h3 : b < lo
      · go_enter Try.func105, Try.ntmps105
        go_wp2
        refine wp_loop_rounds 3 ?_
        rw [rounds_succ]
        go_wp2
        rw [rounds_succ]
        go_wp2
        go_ret
        exact ⟨ret_bool (by rw [HX.out]; simp [withinB]; omega), Ext.refl _⟩
      · by_cases h4 : hi < b
        · go_enter Try.func105, Try.ntmps105
          go_wp2
          refine wp_loop_rounds 3 ?_
          rw [rounds_succ]
          go_wp2
          rw [rounds_succ]
          go_wp2
          go_ret
          exact ⟨ret_bool (by rw [HX.out]; simp [withinB]; omega), Ext.refl _⟩
        · go_enter Try.func105, Try.ntmps105
          go_wp2
          refine wp_loop_rounds 3 ?_
          rw [rounds_succ]
          go_wp2
          rw [rounds_succ]
          go_wp2
          rw [rounds_succ]
          go_wp2
          go_ret
          exact ⟨ret_bool (by rw [HX.out]; simp [withinB]; omega), Ext.refl _⟩
/-- are two weights alike? -/
def likeB (a b : Int) : Bool := withinB 1 1099511627776 a b && decide (29 * (a + b) ≤ 100 * min a b)
/-- the same, as the code has it. -/
def likeR (m a b : Int) : Bool := withinB 1 m a b && decide (wrap64 (29 * wrap64 (a + b)) ≤ wrap64 (100 * min a b))
theorem likeR_eq (a b : Int) : likeR 1099511627776 a b = likeB a b := by
  unfold likeR likeB
  cases h : withinB 1 1099511627776 a b with
  | false => rfl
  | true =>
    simp only [withinB, Bool.and_eq_true, decide_eq_true_eq] at h
    rw [Bool.true_and, Bool.true_and]
    congr 1
    rw [show wrap64 (a + b) = a + b by unfold wrap64; omega, show wrap64 (29 * (a + b)) = 29 * (a + b) by unfold wrap64; omega, show wrap64 (100 * min a b) = 100 * min a b by unfold wrap64; omega]
set_option maxHeartbeats 1000000 in
theorem wbLike_any (w : World) (a b : Int) : Calls Try.prog 92 #[.int .i64 a, .int .i64 b] w (Ret (.bool (likeB a b)) w) := by
  obtain ⟨X, hX⟩ : ∃ X, X = likeB a b := ⟨_, rfl⟩
  rw [← hX]
  rw [← likeR_eq] at hX
  have HX := Lib.hid hX
  clear hX
  have hc0 := cell_of (alloc_at w (.cells #[.int .i64 a, .int .i64 b] 3) _ rfl) 0
  have hc1 := cell_of (alloc_at w (.cells #[.int .i64 a, .int .i64 b] 3) _ rfl) 1
  have H := Lib.hid (fun m => within_any (w.alloc (.cells #[.int .i64 a, .int .i64 b] 3)) 1 m a b w.heap.size hc0 hc1)
  have hE := (Ext.refl w).alloc (.cells #[.int .i64 a, .int .i64 b] 3)
  clear hc0 hc1
  go_enter Try.func92, Try.ntmps92
  go_wp2_with fail
  obtain ⟨M, hM⟩ : ∃ M : Int, M = 1099511627776 := ⟨_, rfl⟩
  rw [← hM] at HX ⊢
  clear hM
  refine (H.out M).mono ?_
  rintro e w1 ⟨rfl, h1⟩
  have h01 := hE.trans h1
  cases hw : withinB 1 M a b with
  | false =>
    have HW := Lib.hid hw
    clear hw
    go_wp2
    go_ret
    exact ⟨ret_bool (by rw [HX.out]; simp [likeR, HW.out]), h01⟩
  | true =>
    have HW := Lib.hid hw
    clear hw
    rcases Int.lt_or_le b a with hab | hab
    all_goals
      have HAB := Lib.hid hab
      go_wp2
      go_ret
      have := HAB.out
      exact ⟨ret_bool (by rw [HX.out]; simp only [likeR, HW.out, Bool.true_and]; congr 3; omega), h01⟩
/-- what is wrong with a node. -/
def wbOne (t : Tr) : Int := if t.tag = 0 then (if likeB (wt t.left) (wt t.right) then 0 else 8) else 140
/-- the state of Check's loop. -/
def ChkSt (w : World) (T : Tr) (X : Nat × Int) (g : Nat) (at_ e v : Value) (W : World) : Prop :=
  ∃ (j : Nat) (st : List Tr), at_ = .int .i64 j ∧ e = .int .i64 0 ∧ NOwn w.heap.size W v (st.map Tr.ptr) ∧ (∀ x ∈ st, InH w x) ∧ Ext w W ∧
    X = (j + (firstOf wbOne (pend st)).1, (firstOf wbOne (pend st)).2) ∧ 2 * (pend st).length + st.length ≤ g ∧ j + (pend st).length ≤ T.pre.length ∧ st.length ≤ j + 1
set_option maxHeartbeats 4000000 in
theorem wbCheck_any (w : World) (T : Tr) (hT : InH w T) (hc : T.pre.length ≤ 4000) :
    Calls Try.prog 70 #[.pointer T.ptr] w (Ret (.tuple #[.int .i64 (firstOf wbOne T.pre).1, .int .i64 (firstOf wbOne T.pre).2]) w) := by
  obtain ⟨X, hX⟩ : ∃ X, X = firstOf wbOne T.pre := ⟨_, rfl⟩
  rw [← hX]
  have HX := Lib.hid hX
  have HT := Lib.hid hT
  clear hX hT
  go_enter Try.func70, Try.ntmps70
  go_wp2_with fail
  go_step3
  go_wp2_with fail
  go_step3
  go_wp2_with fail
  go_loopg [2, 3, 4] (2 * T.pre.length + 1) (fun g a e v W => ChkSt w T X g a e v W)
  case atStart =>
    refine ⟨0, [T], rfl, rfl, ?_, ?_, (Ext.refl w).alloc _, ?_, ?_, ?_, ?_⟩
    · exact ⟨rfl, .inr ⟨w.heap.size, 1, _, rfl, Nat.le_refl _, alloc_at _ _ _ rfl, Nat.le_refl _, by decide, rfl, rfl⟩⟩
    · intro x hx
      obtain rfl : x = T := by simpa using hx
      exact HT.out
    · rw [HX.out]; simp [pend]
    · simp [pend]
    · simp [pend]
    · simp
  case round =>
    obtain ⟨j, st, rfl, rfl, hown, hst, hE, hx, hg, hj, hl⟩ := hrel
    rcases List.eq_nil_or_concat st with rfl | ⟨st', t, rfl⟩
    · obtain ⟨a, c, rfl⟩ := hown.slice
      rw [pend_nil] at hx
      have HXX := Lib.hid hx
      clear hx hg hj hl hown hst
      rw [List.map_nil, List.length_nil]
      go_wp2
      rw [Exit.noGoto_ret]
      go_ret2
      exact ⟨ret_two (by rw [HXX.out]; simp [firstOf]) (by rw [HXX.out]; rfl), hE⟩
    · rw [List.concat_eq_append] at *
      rw [List.map_append] at hown
      obtain ⟨gb, cap, rfl, hcap, hcell, hown'⟩ := NOwn.pop (x := t.ptr) hown
      rw [pend_snoc] at hx hg hj
      rw [List.length_append] at hg hj
      rw [List.length_append, List.length_singleton] at hg hl
      have ht := hst t (by simp)
      have hst' : ∀ x ∈ st', InH w x := fun x hx => hst x (by simp [hx])
      have HST := Lib.hid hst'
      have HOWN := Lib.hid hown'
      have HXX := Lib.hid hx
      clear hst hst' hown hown' hx
      rw [List.length_map] at HOWN hcap hcell ⊢
      have HSM := Lib.hid (show (st'.map Tr.ptr).length = st'.length from List.length_map _)
      generalize hN : st'.length = n at *
      have HN := Lib.hid hN
      clear hN
      cases t with
      | nil =>
        rw [Tr.ptr_nil] at hcell
        clear ht
        go_wp2
        go_roundg (2 * (pend st').length + n)
        case measure => omega
        case rel => exact ⟨j, st', rfl, rfl, HOWN.out, HST.out, hE, HXX.out, by have := HN.out; omega, by simp [Tr.pre] at hj; exact hj, by have := HN.out; omega⟩
      | node tb tl tk tv tg tr =>
        rw [Tr.ptr_node] at hcell
        have hpl : (Tr.node tb tl tk tv tg tr).pre.length = 1 + (tl.pre.length + tr.pre.length) := by simp [Tr.pre]; omega
        rw [hpl] at hg hj
        clear hpl
        have htr := ht.ext hE
        have hone : wbOne (.node tb tl tk tv tg tr) = if tg = 0 then (if likeB (wt tl) (wt tr) then 0 else 8) else 140 := rfl
        have HXO : Hid (X = if wbOne (.node tb tl tk tv tg tr) = 0 then (j + ((firstOf wbOne (tl.pre ++ (tr.pre ++ pend st'))).1 + 1), (firstOf wbOne (tl.pre ++ (tr.pre ++ pend st'))).2) else (j + 0, wbOne (.node tb tl tk tv tg tr))) := Lib.hid (by
          have := HXX.out
          rw [Tr.pre, List.cons_append, firstOf_cons, List.append_assoc] at this
          rw [this]
          split <;> rfl)
        have HTT := Lib.hid ht
        clear ht HXX
        go_wp2_with fail
        refine (tag_any wr _ htr).mono ?_
        rw [Tr.tag_node]
        rintro e w2 ⟨rfl, h2⟩
        by_cases c0 : tg = 0
        · rw [if_pos c0] at hone
          subst c0
          cases cl : likeB (wt tl) (wt tr) with
          | false =>
            rw [cl] at hone
            have HONE := Lib.hid (show wbOne (.node tb tl tk tv 0 tr) = 8 from hone)
            have CL := Lib.hid cl
            clear hone cl
            go_wp2_with fail
            refine (left_any w2 (.node tb tl tk tv 0 tr) (htr.ext h2)).mono ?_
            rw [Tr.left_node]
            rintro e w3 ⟨rfl, h3⟩
            go_wp2_with fail
            have h23 := h2.trans h3
            refine (wbWeight_any w3 tl (left_ok (htr.ext h23))).mono ?_
            rintro e w4 ⟨rfl, h4⟩
            go_wp2_with fail
            have h24 := h23.trans h4
            refine (right_any w4 (.node tb tl tk tv 0 tr) (htr.ext h24)).mono ?_
            rw [Tr.right_node]
            rintro e w5 ⟨rfl, h5⟩
            go_wp2_with fail
            have h25 := h24.trans h5
            refine (wbWeight_any w5 tr (right_ok (htr.ext h25))).mono ?_
            rintro e w6 ⟨rfl, h6⟩
            have h26 := h25.trans h6
            clear h2 h3 h23 h4 h24 h5 h25 h6
            go_wp2_with fail
            refine (wbLike_any w6 (wt tl) (wt tr)).mono ?_
            rw [CL.out]
            rintro e w7 ⟨rfl, h7⟩
            go_wp2
            rw [Exit.noGoto_ret]
            go_ret2
            exact ⟨ret_two (by rw [HXO.out, HONE.out]; simp) (by rw [HXO.out, HONE.out]; simp), hE.trans (h26.trans h7)⟩
          | true =>
            rw [cl] at hone
            have HONE := Lib.hid (show wbOne (.node tb tl tk tv 0 tr) = 0 from hone)
            have CL := Lib.hid cl
            clear hone cl
            go_wp2_with fail
            refine (left_any w2 (.node tb tl tk tv 0 tr) (htr.ext h2)).mono ?_
            rw [Tr.left_node]
            rintro e w3 ⟨rfl, h3⟩
            go_wp2_with fail
            have h23 := h2.trans h3
            refine (wbWeight_any w3 tl (left_ok (htr.ext h23))).mono ?_
            rintro e w4 ⟨rfl, h4⟩
            go_wp2_with fail
            have h24 := h23.trans h4
            refine (right_any w4 (.node tb tl tk tv 0 tr) (htr.ext h24)).mono ?_
            rw [Tr.right_node]
            rintro e w5 ⟨rfl, h5⟩
            go_wp2_with fail
            have h25 := h24.trans h5
            refine (wbWeight_any w5 tr (right_ok (htr.ext h25))).mono ?_
            rintro e w6 ⟨rfl, h6⟩
            have h26 := h25.trans h6
            clear h2 h3 h23 h4 h24 h5 h25 h6
            go_wp2_with fail
            refine (wbLike_any w6 (wt tl) (wt tr)).mono ?_
            rw [CL.out]
            rintro e w7 ⟨rfl, h7⟩
            go_wp2_with fail
            have h27 := h26.trans h7
            refine (right_any w7 (.node tb tl tk tv 0 tr) (htr.ext h27)).mono ?_
            rw [Tr.right_node]
            rintro e w8 ⟨rfl, h8⟩
            go_wp2_with fail
            have h28 := h27.trans h8
            refine (left_any w8 (.node tb tl tk tv 0 tr) (htr.ext h28)).mono ?_
            rw [Tr.left_node]
            rintro e w9 ⟨rfl, h9⟩
            have h29 := h28.trans h9
            have hA := (Ext.refl w9).alloc (.cells #[.pointer tr.ptr, .pointer tl.ptr] 43)
            have hR : (w9.alloc (.cells #[.pointer tr.ptr, .pointer tl.ptr] 43)).rangeAt w9.heap.size 0 ([tr.ptr, tl.ptr].map Value.pointer) := fun q u hq => by
              rw [Nat.zero_add, cell_of (alloc_at w9 (.cells #[.pointer tr.ptr, .pointer tl.ptr] 43) _ rfl) q]
              simpa using hq
            have HR := Lib.hid hR
            have hE9 := hE.trans h29
            have HO := Lib.hid ((HOWN.out.ext h29).ext hA)
            have HE := Lib.hid (hE9.trans hA)
            clear h26 h7 h27 h8 h28 h9 h29 hA hR hE9
            go_wp2_with (at_builtin; refine wpList_append_nodes (B := w.heap.size) (xs := st'.map Tr.ptr) (ys := [tr.ptr, tl.ptr]) rfl (.tmp 40) (.tmp 45) rfl rfl rfl HO.out HR.out ?b1 HE.out.size ?_)
            case b1 => have := HSM.out; have := HN.out; simp; omega
            intro v10 w10 hown10 hg10
            have h010 : Ext w w10 := ngrown_ext HE.out HO.out hg10
            have HO10 := Lib.hid hown10
            have htl := htr
            clear hg10 hown10
            go_wp2
            go_roundg (2 * (pend (st' ++ [tr, tl])).length + (st' ++ [tr, tl]).length)
            case measure => rw [pend_two]; have := HN.out; simp; omega
            case rel =>
              refine ⟨j + 1, st' ++ [tr, tl], by go_num, rfl, by simpa using HO10.out, ?_, h010, ?_, Nat.le_refl _, ?_, ?_⟩
              · intro x hx
                rcases List.mem_append.1 hx with hx | hx
                · exact HST.out x hx
                · have := HTT.out
                  rcases List.mem_cons.1 hx with rfl | hx
                  · exact this.2.2
                  · obtain rfl := List.mem_singleton.1 hx
                    exact this.2.1
              · rw [HXO.out, HONE.out, pend_two, if_pos rfl]
                congr 1
                omega
              · rw [pend_two]; simp; omega
              · have := HN.out; simp; omega
        · rw [if_neg c0] at hone
          have HONE := Lib.hid hone
          have c1 : (tg != 0) = true := by simpa using c0
          clear hone c0
          go_wp2
          rw [Exit.noGoto_ret]
          go_ret2
          exact ⟨ret_two (by rw [HXO.out, HONE.out]; simp) (by rw [HXO.out, HONE.out]; simp), hE.trans h2⟩
end Go.Proofs.Ytejknkhahjgdnaa
namespace Go.Proofs.Ytejknkhahjgdnaa
open Go Go.RowKit

def wbMay (T : Tr) : Bool := mayOf wbOne T
set_option maxHeartbeats 400000 in
theorem wbMay_any (w : World) (T : Tr) (hT : InH w T) (hc : T.pre.length ≤ 4000) : Calls Try.prog 48 #[.pointer T.ptr] w (Ret (.bool (wbMay T)) w) := by
  go_enter Try.func48, Try.ntmps48
  go_wp2_with fail
  refine (wbCheck_any _ T hT hc).mono ?_
  rintro e w1 ⟨rfl, h1⟩
  go_wp2
  go_ret
  exact ⟨rfl, h1⟩
theorem pow_log (n k : Nat) (hn : n ≠ 0) : k ≤ Nat.log2 n ↔ (0 : Int) < (n : Int) / 2 ^ k := by
  rw [Nat.le_log2 hn]
  have e : ((2 : Int) ^ k) = ((2 ^ k : Nat) : Int) := by simp
  rw [e]
  have hp : 0 < 2 ^ k := Nat.two_pow_pos k
  constructor
  · intro h
    have := (Nat.le_div_iff_mul_le hp).2 (by omega : 1 * 2 ^ k ≤ n)
    omega
  · intro h
    have h2 : 0 < n / 2 ^ k := by
      have : ((n / 2 ^ k : Nat) : Int) = (n : Int) / ((2 ^ k : Nat) : Int) := Int.natCast_ediv n (2 ^ k)
      omega
    have := (Nat.le_div_iff_mul_le hp).1 h2
    omega
end Go.Proofs.Ytejknkhahjgdnaa
namespace Go.Proofs.Ytejknkhahjgdnaa
open Go Go.RowKit

/-- the same, as the document's code has it. -/
def likeD (m a b : Int) : Bool := withinB 1 m a b && (decide (wrap64 (29 * wrap64 (a + b)) ≤ wrap64 (100 * a)) && decide (wrap64 (29 * wrap64 (a + b)) ≤ wrap64 (100 * b)))
theorem likeD_eq (a b : Int) : likeD 1099511627776 a b = likeB a b := by
  unfold likeD likeB
  cases h : withinB 1 1099511627776 a b with
  | false => rfl
  | true =>
    simp only [withinB, Bool.and_eq_true, decide_eq_true_eq] at h
    rw [Bool.true_and, Bool.true_and]
    rw [show wrap64 (a + b) = a + b by unfold wrap64; omega, show wrap64 (29 * (a + b)) = 29 * (a + b) by unfold wrap64; omega, show wrap64 (100 * a) = 100 * a by unfold wrap64; omega, show wrap64 (100 * b) = 100 * b by unfold wrap64; omega]
    rw [Bool.eq_iff_iff]
    simp only [Bool.and_eq_true, decide_eq_true_eq]
    omega
theorem fits_wt {t : BT} {T : Tr} (h : t.fits T) (hl : t.enc.length ≤ 100000) : wt T = t.enc.length + 1 := by
  unfold wt
  rw [(fits_sum h).2]
  unfold wrap64
  omega
def wLeast : Nat → Nat
  | 0 => 1
  | h + 1 => (100 * wLeast h + 70) / 71
theorem wLeast_step (h : Nat) : wLeast h ≤ wLeast (h + 1) := by rw [wLeast]; omega
theorem wLeast_mono {a b : Nat} (h : a ≤ b) : wLeast a ≤ wLeast b := by
  induction b with
  | zero => obtain rfl : a = 0 := by omega
            exact Nat.le_refl _
  | succ b ih =>
    rcases Nat.lt_or_ge a (b + 1) with h1 | h1
    · exact Nat.le_trans (ih (by omega)) (wLeast_step b)
    · obtain rfl : a = b + 1 := by omega
      exact Nat.le_refl _
theorem least_div (x : Nat) (h : x ≤ 4000000000) : wrap64 ((100 * (x : Int) + 70).tdiv 71) = ((100 * x + 70) / 71 : Nat) := by
  rw [Int.tdiv_eq_ediv_of_nonneg (by omega)]
  have e : (((100 * x + 70) / 71 : Nat) : Int) = (100 * (x : Int) + 70) / 71 := by omega
  rw [← e]
  have h2 : (100 * x + 70) / 71 ≤ 6000000000 := by omega
  generalize (100 * x + 70) / 71 = y at *
  unfold wrap64
  omega
end Go.Proofs.Ytejknkhahjgdnaa
namespace Go.Proofs.Ytejknkhahjgdnaa
open Go Go.RowKit

theorem like_sym (a b : Int) : likeB a b = likeB b a := by
  unfold likeB withinB
  rw [Int.add_comm b a, Int.min_comm b a]
  congr 1
  rw [Bool.eq_iff_iff]
  simp only [Bool.and_eq_true, decide_eq_true_eq]
  constructor <;> rintro ⟨⟨⟨h1, h2⟩, h3⟩, h4⟩ <;> exact ⟨⟨⟨h3, h4⟩, h1⟩, h2⟩
theorem like_self (a : Int) : likeB a a = (decide (1 ≤ a) && decide (a ≤ 1099511627776)) := by
  unfold likeB withinB
  rw [Bool.eq_iff_iff]
  simp only [Bool.and_eq_true, decide_eq_true_eq]
  omega
/-- the arithmetic of what may be by weights. -/
theorem wbMay_node (b : Nat) (l : Tr) (k v g : Int) (r : Tr) : wbMay (.node b l k v g r) = (wbOne (.node b l k v g r) == 0 && wbMay l && wbMay r) := mayOf_node b l k v g r
theorem wt_count (T : Tr) (h : T.count ≤ 100000) : wt T = ((T.count + 1 : Nat) : Int) := by
  unfold wt
  rw [Tr.size_count]
  unfold wrap64
  omega
theorem wb_sides {b : Nat} {l r : Tr} {k v g : Int} (h : wbMay (.node b l k v g r) = true) : g = 0 ∧ likeB (wt l) (wt r) = true ∧ wbMay l = true ∧ wbMay r = true := by
  rw [wbMay_node] at h
  simp only [Bool.and_eq_true, beq_iff_eq] at h
  obtain ⟨⟨h1, h2⟩, h3⟩ := h
  have e : wbOne (.node b l k v g r) = if g = 0 then (if likeB (wt l) (wt r) then 0 else 8) else 140 := rfl
  rw [e] at h1
  split at h1
  · rename_i hg
    split at h1
    · rename_i hl; exact ⟨hg, hl, h2, h3⟩
    · cases h1
  · cases h1
theorem like_arith {a b : Nat} (h : likeB (a : Int) (b : Int) = true) : 29 * (a + b) ≤ 100 * a ∧ 29 * (a + b) ≤ 100 * b := by
  unfold likeB at h
  simp only [Bool.and_eq_true, decide_eq_true_eq] at h
  omega
theorem wb_least : ∀ T : Tr, wbMay T = true → T.count ≤ 100000 → wLeast T.ht ≤ T.count + 1
  | .nil, _, _ => by simp [Tr.ht, wLeast]
  | .node b l k v g r, h, hc => by
    obtain ⟨-, h1, h2, h3⟩ := wb_sides h
    rw [Tr.count_node] at hc ⊢
    rw [wt_count l (by omega), wt_count r (by omega)] at h1
    have h4 := like_arith h1
    have l1 := wb_least l h2 (by omega)
    have r1 := wb_least r h3 (by omega)
    rw [Tr.ht, Nat.add_comm 1, wLeast]
    rcases Nat.le_total l.ht r.ht with hh | hh
    · rw [Nat.max_eq_right hh]; omega
    · rw [Nat.max_eq_left hh]; omega
theorem ret_ib {a c : Int} {b : Bool} (h : a = c) : Ending.returned (.tuple #[.int .i64 a, .bool b]) = .returned (.tuple #[.int .i64 c, .bool b]) := by rw [h]
end Go.Proofs.Ytejknkhahjgdnaa
namespace Go.Proofs.Ytejknkhahjgdnaa
open Go Go.RowKit

/-- two weights are alike. -/
def lk (a b : Nat) : Prop := 29 * (a + b) ≤ 100 * a ∧ 29 * (a + b) ≤ 100 * b
theorem likeB_lk {a b : Nat} (ha : 1 ≤ a) (hb : 1 ≤ b) (ha' : a ≤ 1000000) (hb' : b ≤ 1000000) : likeB (a : Int) (b : Int) = true ↔ lk a b := by
  unfold likeB withinB lk
  simp only [Bool.and_eq_true, decide_eq_true_eq]
  omega
theorem likeB_not {a b : Nat} (ha : 1 ≤ a) (hb : 1 ≤ b) (ha' : a ≤ 1000000) (hb' : b ≤ 1000000) (h : ¬ lk a b) : likeB (a : Int) (b : Int) = false := by
  cases hl : likeB (a : Int) (b : Int) with
  | false => rfl
  | true => exact (h ((likeB_lk ha hb ha' hb').1 hl)).elim
/-- a tree in balance by weights. -/
def WbH : Tr → Prop
  | .nil => True
  | .node _ l _ _ g r => g = 0 ∧ WbH l ∧ WbH r ∧ lk (l.count + 1) (r.count + 1)
theorem WbH.may : ∀ {T : Tr}, WbH T → T.count ≤ 100000 → wbMay T = true
  | .nil, _, _ => rfl
  | .node b l k v g r, ⟨hg, hl, hr, hk⟩, hc => by
    rw [Tr.count_node] at hc
    rw [wbMay_node, WbH.may hl (by omega), WbH.may hr (by omega)]
    have e : wbOne (.node b l k v g r) = if g = 0 then (if likeB (wt l) (wt r) then 0 else 8) else 140 := rfl
    rw [e, if_pos hg, wt_count l (by omega), wt_count r (by omega), if_pos ((likeB_lk (by omega) (by omega) (by omega) (by omega)).2 hk)]
    rfl
theorem WbH.of_may : ∀ {T : Tr}, wbMay T = true → T.count ≤ 100000 → WbH T
  | .nil, _, _ => trivial
  | .node b l k v g r, hm, hc => by
    obtain ⟨h0, h1, h2, h3⟩ := wb_sides hm
    rw [Tr.count_node] at hc
    rw [wt_count l (by omega), wt_count r (by omega)] at h1
    exact ⟨h0, WbH.of_may h2 (by omega), WbH.of_may h3 (by omega), (likeB_lk (by omega) (by omega) (by omega) (by omega)).1 h1⟩
theorem lk_comm {a b : Nat} (h : lk a b) : lk b a := ⟨by have := h.2; omega, by have := h.1; omega⟩
section
variable {s : Bool} {b : Nat} {i o : Tr} {k v g : Int}
theorem mk_wb : WbH (mkN s b i k v g o) ↔ g = 0 ∧ WbH i ∧ WbH o ∧ lk (i.count + 1) (o.count + 1) := by
  cases s
  · exact ⟨fun ⟨h0, h1, h2, h3⟩ => ⟨h0, h2, h1, lk_comm h3⟩, fun ⟨h0, h1, h2, h3⟩ => ⟨h0, h2, h1, lk_comm h3⟩⟩
  · exact Iff.rfl
end
/-- so many levels down. -/
def Lev (k L W : Nat) : Prop := k = 0 ∨ 71 * (L * 100 ^ (k - 1)) < 29 * (W * 71 ^ (k - 1))
theorem lev_up {k L W o : Nat} (h : Lev k L o) (ho : 100 * o ≤ 71 * W) (hL : 71 * L < 29 * W) : Lev (k + 1) L W := by
  right
  rw [Nat.add_sub_cancel]
  rcases h with rfl | h
  · simpa using hL
  · rcases Nat.eq_zero_or_pos k with rfl | hk
    · simpa using hL
    · obtain ⟨j, rfl⟩ : ∃ j, k = j + 1 := ⟨k - 1, by omega⟩
      rw [Nat.add_sub_cancel] at h
      have h1 : 100 * (o * 71 ^ j) ≤ 71 * (W * 71 ^ j) := by
        rw [← Nat.mul_assoc, ← Nat.mul_assoc]; exact Nat.mul_le_mul_right _ ho
      have e1 : L * 100 ^ (j + 1) = 100 * (L * 100 ^ j) := by rw [Nat.pow_succ, ← Nat.mul_assoc, Nat.mul_comm]
      have e2 : W * 71 ^ (j + 1) = 71 * (W * 71 ^ j) := by rw [Nat.pow_succ, ← Nat.mul_assoc, Nat.mul_comm]
      rw [e1, e2]
      omega
/-- what becomes of a tree t, if a pair and a lighter one hang on its outer side. -/
structure WHang (n : Nat) (s : Bool) (t low : Tr) (k v : Int) (T : Tr) : Prop where
  wb : WbH T
  news : ∃ d, T.news n ≤ 2 * d + 1 ∧ Lev d (low.count + 1) (t.count + 1)
  kvs : T.kvs = both s t.kvs [(k, v)] low.kvs
  old : ∀ x ∈ T.pre, x.blk < n → x ∈ t.pre ∨ x ∈ low.pre
  top : n ≤ T.blk
  nn : T ≠ .nil
theorem WHang.count {n : Nat} {s : Bool} {t low T : Tr} {k v : Int} (h : WHang n s t low k v T) : T.count = t.count + low.count + 1 := by
  rw [← Tr.kvs_count, h.kvs, ← Tr.kvs_count, ← Tr.kvs_count]
  cases s <;> simp [both] <;> omega
section
variable {n : Nat} {s : Bool} {b : Nat} {i o low : Tr} {k v g pk pv : Int}
theorem whang_base {t : Tr} (bx : Nat) (ht : WbH t) (hl : WbH low) (hk : lk (t.count + 1) (low.count + 1)) (nt : t.news n = 0) (nl : low.news n = 0) (hb : n ≤ bx) : WHang n s t low pk pv (mkN s bx t pk pv 0 low) := by
  refine ⟨mk_wb.2 ⟨rfl, ht, hl, hk⟩, ⟨0, ?_, .inl rfl⟩, mk_kvs, fun x hx hn => ?_, by rw [mk_blk]; exact hb, mk_nn⟩
  · rw [mk_news, nt, nl, if_pos hb]; omega
  · rcases (mk_pre x).1 hx with rfl | h | h
    · rw [mk_blk] at hn; omega
    · exact .inl h
    · exact .inr h
theorem side_lev {x : Tr} (hio : lk (i.count + 1) (o.count + 1)) (hx : WHang n s o low pk pv x) (hL : 71 * (low.count + 1) < 29 * (i.count + 1 + (o.count + 1))) : ∃ d, x.news n ≤ 2 * d + 1 ∧ Lev (d + 1) (low.count + 1) ((mkN s b i k v g o).count + 1) := by
  obtain ⟨d, h1, h2⟩ := hx.news
  refine ⟨d, h1, lev_up h2 ?_ ?_⟩
  · rw [mk_count]; have := hio.1; omega
  · rw [mk_count]; omega
theorem whang_plain {x : Tr} (bt : Nat) (hi : WbH i) (hio : lk (i.count + 1) (o.count + 1)) (hx : WHang n s o low pk pv x) (hL : 71 * (low.count + 1) < 29 * (i.count + 1 + (o.count + 1))) (hlk : lk (i.count + 1) (x.count + 1)) (ni : i.news n = 0) (hb : n ≤ bt) :
    WHang n s (mkN s b i k v g o) low pk pv (mkN s bt i k v 0 x) := by
  obtain ⟨d, h1, h2⟩ := side_lev (b := b) (k := k) (v := v) (g := g) hio hx hL
  refine ⟨mk_wb.2 ⟨rfl, hi, hx.wb, hlk⟩, ⟨d + 1, ?_, h2⟩, ?_, fun y hy hyn => ?_, by rw [mk_blk]; exact hb, mk_nn⟩
  · rw [mk_news, ni, if_pos hb]; omega
  · rw [mk_kvs, mk_kvs, hx.kvs, both_out]
  · rcases (mk_pre y).1 hy with rfl | h | h
    · rw [mk_blk] at hyn; omega
    · exact .inl ((mk_pre y).2 (.inr (.inl h)))
    · rcases hx.old y h hyn with h | h
      · exact .inl ((mk_pre y).2 (.inr (.inr h)))
      · exact .inr h
theorem whang_once {xi xo : Tr} {xk xv xg : Int} {bx : Nat} (b3 b4 : Nat) (hi : WbH i) (hio : lk (i.count + 1) (o.count + 1)) (hx : WHang n s o low pk pv (mkN s bx xi xk xv xg xo)) (hL : 71 * (low.count + 1) < 29 * (i.count + 1 + (o.count + 1)))
    (h1 : lk (i.count + 1) (xi.count + 1)) (h2 : lk (i.count + 1 + (xi.count + 1)) (xo.count + 1)) (ni : i.news n = 0) (hbx : n ≤ bx) (hb3 : n ≤ b3) (hb4 : n ≤ b4) :
    WHang n s (mkN s b i k v g o) low pk pv (mkN s b4 (mkN s b3 i k v 0 xi) xk xv 0 xo) := by
  obtain ⟨d, d1, d2⟩ := side_lev (b := b) (k := k) (v := v) (g := g) hio hx hL
  obtain ⟨-, x1, x2, -⟩ := mk_wb.1 hx.wb
  rw [mk_news, if_pos hbx] at d1
  refine ⟨mk_wb.2 ⟨rfl, mk_wb.2 ⟨rfl, hi, x1, h1⟩, x2, by rw [mk_count, show i.count + 1 + xi.count + 1 = i.count + 1 + (xi.count + 1) by omega]; exact h2⟩, ⟨d + 1, ?_, d2⟩, ?_, fun y hy hyn => ?_, by rw [mk_blk]; exact hb4, mk_nn⟩
  · rw [mk_news, mk_news, ni, if_pos hb3, if_pos hb4]; omega
  · have hk := hx.kvs
    simp only [mk_kvs] at hk ⊢
    rw [← both_out, hk, both_out]
  · have hin : ∀ z, z ∈ xi.pre ∨ z ∈ xo.pre → z.blk < n → z ∈ (mkN s b i k v g o).pre ∨ z ∈ low.pre := fun z hz hzn => by
      rcases hx.old z ((mk_pre z).2 (.inr hz)) hzn with h | h
      · exact .inl ((mk_pre z).2 (.inr (.inr h)))
      · exact .inr h
    rcases (mk_pre y).1 hy with rfl | h | h
    · rw [mk_blk] at hyn; omega
    · rcases (mk_pre y).1 h with rfl | h | h
      · rw [mk_blk] at hyn; omega
      · exact .inl ((mk_pre y).2 (.inr (.inl h)))
      · exact hin y (.inl h) hyn
    · exact hin y (.inr h) hyn
theorem wb_two (w o L a1 a2 b : Nat) (h1 : 29 * (w + o) ≤ 100 * w) (h2 : 29 * (w + o) ≤ 100 * o) (hL : 71 * L < 29 * (w + o)) (h4 : 29 * (w + (o + L)) > 100 * w ∨ 29 * (w + (o + L)) > 100 * (o + L)) (e : a1 + a2 + b = o + L)
    (h5 : 29 * (a1 + a2 + b) ≤ 100 * (a1 + a2)) (h6 : 29 * (a1 + a2 + b) ≤ 100 * b) (h7 : 29 * (a1 + a2) ≤ 100 * a1) (h8 : 29 * (a1 + a2) ≤ 100 * a2) (p1 : 1 ≤ w) (p2 : 1 ≤ o) (p3 : 1 ≤ L) (p4 : 1 ≤ a1) (p6 : 1 ≤ b)
    (h9 : 29 * (w + (a1 + a2)) > 100 * w ∨ 29 * (w + (a1 + a2)) > 100 * (a1 + a2) ∨ 29 * (w + (a1 + a2) + b) > 100 * (w + (a1 + a2)) ∨ 29 * (w + (a1 + a2) + b) > 100 * b) :
    29 * (w + a1) ≤ 100 * w ∧ 29 * (w + a1) ≤ 100 * a1 ∧ 29 * (a2 + b) ≤ 100 * a2 ∧ 29 * (a2 + b) ≤ 100 * b ∧ 29 * (w + a1 + (a2 + b)) ≤ 100 * (w + a1) ∧ 29 * (w + a1 + (a2 + b)) ≤ 100 * (a2 + b) := by
  refine ⟨?_, ?_, ?_, ?_, ?_, ?_⟩ <;> rcases h4 with h4 | h4 <;> rcases h9 with h9 | h9 | h9 | h9 <;> omega
theorem not_lk {a b : Nat} (h : ¬ lk a b) : 29 * (a + b) > 100 * a ∨ 29 * (a + b) > 100 * b := by unfold lk at h; omega
theorem wb_wide (w o L a b : Nat) (h1 : 29 * (w + o) ≤ 100 * w) (h2 : 29 * (w + o) ≤ 100 * o) (hL : 71 * L < 29 * (w + o)) (h4 : 29 * (w + (o + L)) > 100 * w ∨ 29 * (w + (o + L)) > 100 * (o + L)) (e : a + b = o + L)
    (h5 : 29 * (a + b) ≤ 100 * a) (p1 : 1 ≤ w) (p3 : 1 ≤ L) (h9 : 29 * (w + a) > 100 * w ∨ 29 * (w + a) > 100 * a ∨ 29 * (w + a + b) > 100 * (w + a) ∨ 29 * (w + a + b) > 100 * b) : 2 ≤ a := by
  rcases h4 with h4 | h4 <;> rcases h9 with h9 | h9 | h9 | h9 <;> omega
theorem four {a c w : Nat} (h : ¬ (lk w a ∧ lk (w + a) c)) : 29 * (w + a) > 100 * w ∨ 29 * (w + a) > 100 * a ∨ 29 * (w + a + c) > 100 * (w + a) ∨ 29 * (w + a + c) > 100 * c := by unfold lk at h; omega
/-- the inner side of what came up is a node, if one turn does not do. -/
theorem whang_mid {xi xo : Tr} {xk xv xg : Int} {bx : Nat} (hio : lk (i.count + 1) (o.count + 1)) (hx : WHang n s o low pk pv (mkN s bx xi xk xv xg xo)) (hL : 71 * (low.count + 1) < 29 * (i.count + 1 + (o.count + 1))) (hno : ¬ lk (i.count + 1) ((mkN s bx xi xk xv xg xo).count + 1))
    (h9 : ¬ (lk (i.count + 1) (xi.count + 1) ∧ lk (i.count + 1 + (xi.count + 1)) (xo.count + 1))) : xi ≠ .nil := fun h => by
  have hc := hx.count
  rw [mk_count] at hc
  rw [mk_count] at hno
  obtain ⟨-, x1, x2, x3⟩ := mk_wb.1 hx.wb
  have := wb_wide (i.count + 1) (o.count + 1) (low.count + 1) (xi.count + 1) (xo.count + 1) hio.1 hio.2 hL (by have := not_lk hno; rw [show o.count + 1 + (low.count + 1) = xi.count + 1 + xo.count + 1 by omega]; exact this) (by omega) x3.1 (by omega) (by omega) (four h9)
  rw [h] at this
  simp [Tr.count, Tr.pre] at this
theorem whang_twice {m1 m2 xo : Tr} {xk xv xg mk_ mv mg : Int} {bx bm : Nat} (b3 b4 b5 : Nat) (hi : WbH i) (hio : lk (i.count + 1) (o.count + 1)) (hx : WHang n s o low pk pv (mkN s bx (mkN s bm m1 mk_ mv mg m2) xk xv xg xo)) (hL : 71 * (low.count + 1) < 29 * (i.count + 1 + (o.count + 1)))
    (hno : ¬ lk (i.count + 1) ((mkN s bx (mkN s bm m1 mk_ mv mg m2) xk xv xg xo).count + 1)) (h9 : ¬ (lk (i.count + 1) ((mkN s bm m1 mk_ mv mg m2).count + 1) ∧ lk (i.count + 1 + ((mkN s bm m1 mk_ mv mg m2).count + 1)) (xo.count + 1)))
    (ni : i.news n = 0) (hbx : n ≤ bx) (hb3 : n ≤ b3) (hb4 : n ≤ b4) (hb5 : n ≤ b5) :
    WHang n s (mkN s b i k v g o) low pk pv (mkN s b5 (mkN s b3 i k v 0 m1) mk_ mv 0 (mkN s b4 m2 xk xv 0 xo)) := by
  obtain ⟨d, d1, d2⟩ := side_lev (b := b) (k := k) (v := v) (g := g) hio hx hL
  have hc := hx.count
  obtain ⟨-, x1, x2, x3⟩ := mk_wb.1 hx.wb
  obtain ⟨-, y1, y2, y3⟩ := mk_wb.1 x1
  rw [mk_count, mk_count] at hc hno
  rw [mk_count] at x3 h9
  rw [mk_news, if_pos hbx, mk_news] at d1
  have hno' := not_lk hno
  have h9' := four h9
  unfold lk at x3 y3 hio
  have key := wb_two (i.count + 1) (o.count + 1) (low.count + 1) (m1.count + 1) (m2.count + 1) (xo.count + 1) hio.1 hio.2 hL (by rw [show o.count + 1 + (low.count + 1) = m1.count + 1 + m2.count + 1 + xo.count + 1 by omega]; exact hno') (by omega)
    (by omega) (by omega) y3.1 y3.2 (by omega) (by omega) (by omega) (by omega) (by omega) (by rw [show m1.count + 1 + (m2.count + 1) = m1.count + 1 + m2.count + 1 by omega]; exact h9')
  obtain ⟨k1, k2, k3, k4, k5, k6⟩ := key
  refine ⟨mk_wb.2 ⟨rfl, mk_wb.2 ⟨rfl, hi, y1, k1, k2⟩, mk_wb.2 ⟨rfl, y2, x2, k3, k4⟩, ?_⟩, ⟨d + 1, ?_, d2⟩, ?_, fun y hy hyn => ?_, by rw [mk_blk]; exact hb5, mk_nn⟩
  · rw [mk_count, mk_count]; unfold lk; omega
  · rw [mk_news, mk_news, mk_news, ni, if_pos hb3, if_pos hb4, if_pos hb5]; split at d1 <;> omega
  · have hk := hx.kvs
    simp only [mk_kvs] at hk ⊢
    rw [← both_out s i.kvs [(k, v)] m1.kvs, ← both_out s i.kvs [(k, v)] o.kvs, ← hk, both_out s m1.kvs]
  · have hin : ∀ z, z ∈ m1.pre ∨ z ∈ m2.pre ∨ z ∈ xo.pre → z.blk < n → z ∈ (mkN s b i k v g o).pre ∨ z ∈ low.pre := fun z hz hzn => by
      have hz' : z ∈ (mkN s bx (mkN s bm m1 mk_ mv mg m2) xk xv xg xo).pre := (mk_pre z).2 (.inr (by
        rcases hz with h | h | h
        · exact .inl ((mk_pre z).2 (.inr (.inl h)))
        · exact .inl ((mk_pre z).2 (.inr (.inr h)))
        · exact .inr h))
      rcases hx.old z hz' hzn with h | h
      · exact .inl ((mk_pre z).2 (.inr (.inr h)))
      · exact .inr h
    rcases (mk_pre y).1 hy with rfl | h | h
    · rw [mk_blk] at hyn; omega
    · rcases (mk_pre y).1 h with rfl | h | h
      · rw [mk_blk] at hyn; omega
      · exact .inl ((mk_pre y).2 (.inr (.inl h)))
      · exact hin y (.inl h) hyn
    · rcases (mk_pre y).1 h with rfl | h | h
      · rw [mk_blk] at hyn; omega
      · exact hin y (.inr (.inl h)) hyn
      · exact hin y (.inr (.inr h)) hyn
end
/-- what a join of two trees is. -/
structure WJoinOk (n : Nat) (l r : Tr) (k v : Int) (T : Tr) : Prop where
  wb : WbH T
  news : ∃ d, T.news n ≤ 2 * d + 1 ∧ Lev d (min l.count r.count + 1) (max l.count r.count + 1)
  kvs : T.kvs = l.kvs ++ (k, v) :: r.kvs
  old : ∀ x ∈ T.pre, x.blk < n → x ∈ l.pre ∨ x ∈ r.pre
  top : n ≤ T.blk
  nn : T ≠ .nil
theorem wjoin_right {n : Nat} {l r : Tr} {k v : Int} {T : Tr} (h : WHang n true l r k v T) (hle : r.count ≤ l.count) : WJoinOk n l r k v T := by
  obtain ⟨h1, h2, h4, h5, h6, h7⟩ := h
  exact ⟨h1, by rw [Nat.min_eq_right hle, Nat.max_eq_left hle]; exact h2, by rw [h4]; simp [both], h5, h6, h7⟩
theorem wjoin_left {n : Nat} {l r : Tr} {k v : Int} {T : Tr} (h : WHang n false r l k v T) (hle : l.count ≤ r.count) : WJoinOk n l r k v T := by
  obtain ⟨h1, h2, h4, h5, h6, h7⟩ := h
  exact ⟨h1, by rw [Nat.min_eq_left hle, Nat.max_eq_right hle]; exact h2, by rw [h4]; simp [both], fun y hy hn => (h5 y hy hn).symm, h6, h7⟩
end Go.Proofs.Ytejknkhahjgdnaa
namespace Go.Proofs.Ytejknkhahjgdnaa
open Go Go.RowKit

def leanF (s : Nat) : Nat → Nat → BT
  | 0, _ => .nil
  | f + 1, h => if h < 1 then .nil else
    if s = 1 then bn (leanF s f (h - 1)) (h : Int) (leanF s f (h - 2))
    else if s = 2 then spineF 10 h
    else bn (leanF s f (h - 1)) 0 (evenF 1000 (wrow h - wrow (h - 1)))
theorem leanF_len : ∀ s, s < 4 → ∀ f, f < 11 → ∀ h, h < 11 → (leanF s f h).enc.length ≤ 200 := by decide +kernel
theorem wrow_up10 : ∀ h, h < 11 → 1 ≤ wrow (h - 1) ∧ wrow (h - 1) ≤ wrow h ∧ wrow h ≤ 200 := by decide +kernel
set_option maxHeartbeats 1000000 in
theorem lean_any (s : Nat) (hs1 : 1 ≤ s) (hs3 : s ≤ 3) (f : Nat) : ∀ (h : Int) (n : Nat) (w : World), h.toNat = n → n ≤ f → f < 11 → -20 ≤ h → Calls Try.prog 23 #[.int .u8 s, .int .i64 h] w (GivesRow (leanF s f n).enc w) := by
  induction f with
  | zero =>
    intro h n w hn hf h1 h0
    obtain rfl : n = 0 := by omega
    have h2 : h < 1 := by omega
    go_enter Try.func23, Try.ntmps23
    go_wp2
    go_ret
    exact ⟨_, rfl, Own.nil _ _, Ext.refl _⟩
  | succ f ih =>
    intro h n w hn hf h1 h0
    unfold leanF
    by_cases hn0 : n < 1
    · rw [if_pos hn0]
      clear ih
      have h2 : h < 1 := by omega
      go_enter Try.func23, Try.ntmps23
      go_wp2
      go_ret
      exact ⟨_, rfl, Own.nil _ _, Ext.refl _⟩
    · rw [if_neg hn0]
      have h2 : 1 ≤ h := by omega
      have h3 : h ≤ 20 := by omega
      have IH := Lib.hid ih
      have L := Lib.hid (leanF_len s (by omega) f (by omega))
      have NH := Lib.hid (And.intro hn hf)
      have F := Lib.hid h1
      have hs : s = 1 ∨ s = 2 ∨ s = 3 := by omega
      clear ih hn0 hn hf hs1 hs3
      rcases hs with hs | hs | hs
      · subst hs
        rw [if_pos rfl]
        obtain ⟨G, hG⟩ : ∃ G : Int, (n : Int) = G := ⟨_, rfl⟩
        rw [hG]
        obtain rfl : G = h := by have := NH.out; omega
        clear hG
        generalize leanF 1 f = S at *
        go_enter Try.func23, Try.ntmps23
        go_wp2_with fail
        refine (IH.out (G - 1) (n - 1) w (by have := NH.out; omega) (by have := NH.out; omega) (by have := F.out; omega) (by omega)).mono ?_
        rintro e w1 ⟨v1, rfl, o1, h1⟩
        have HA := Lib.hid (And.intro o1 h1)
        clear o1 h1
        go_wp2_with fail
        refine (IH.out (G - 2) (n - 2) w1 (by have := NH.out; omega) (by have := NH.out; omega) (by have := F.out; omega) (by omega)).mono ?_
        rintro e w2 ⟨v2, rfl, o2, h2⟩
        have HB := Lib.hid (And.intro o2 h2)
        clear o2 h2
        go_wp2_with fail
        refine (node34_any w2 v1 v2 _ _ _ (HA.out.1.beads.ext HB.out.2) HB.out.1.beads (by have := NH.out; have := F.out; have := L.out (n - 1) (by omega); have := L.out (n - 2) (by omega); omega)).mono ?_
        rintro e w3 ⟨v3, rfl, o3, h3⟩
        have HC := Lib.hid (And.intro o3 h3)
        clear o3 h3
        go_wp2
        go_ret
        exact ⟨_, rfl, HC.out.1.mono (HA.out.2.trans HB.out.2).size, (HA.out.2.trans HB.out.2).trans HC.out.2⟩
      · subst hs
        rw [if_neg (by decide), if_pos rfl]
        have E1 := Lib.hid (show (h + 1) / 2 = ((n : Int) + 1) / 2 by have := NH.out; omega)
        clear IH
        go_enter Try.func23, Try.ntmps23
        go_wp2_with fail
        refine (spine_any 10 ((h + 1) / 2) h n w (by have := NH.out; omega) E1.out (by have := NH.out; have := F.out; omega) (by omega)).mono ?_
        rintro e w1 ⟨v1, rfl, o1, h1⟩
        have HA := Lib.hid (And.intro o1 h1)
        clear o1 h1
        go_wp2
        go_ret
        exact ⟨_, rfl, HA.out⟩
      · subst hs
        rw [if_neg (by decide), if_neg (by decide)]
        have hw := wrow_up10 n (by have := NH.out; have := F.out; omega)
        have W1 := Lib.hid (show ∀ w, Calls Try.prog 32 #[.int .i64 h] w (Ret (.int .u64 (wrow n : Nat)) w) from fun w => by
          have := weight34_any w n (by have := NH.out; have := F.out; omega)
          rwa [show (n : Int) = h by have := NH.out; omega] at this)
        have W2 := Lib.hid (show ∀ w, Calls Try.prog 32 #[.int .i64 (h - 1)] w (Ret (.int .u64 (wrow (n - 1) : Nat)) w) from fun w => by
          have := weight34_any w (n - 1) (by have := NH.out; have := F.out; omega)
          rwa [show ((n - 1 : Nat) : Int) = h - 1 by have := NH.out; omega] at this)
        have EV := Lib.hid (evenF_len 1000 (wrow n - wrow (n - 1)) (by omega))
        have EA := Lib.hid (show ∀ w, Calls Try.prog 51 #[.int .i64 ((wrow n : Int) - wrow (n - 1))] w (GivesRow (evenF 1000 (wrow n - wrow (n - 1))).enc w) from fun w => by
          have := even_any 1000 (wrow n - wrow (n - 1)) w (by omega) (by omega)
          rwa [show ((wrow n - wrow (n - 1) : Nat) : Int) = (wrow n : Int) - wrow (n - 1) by omega] at this)
        generalize evenF 1000 (wrow n - wrow (n - 1)) = E at *
        obtain ⟨hw0, hw1, hw2⟩ := hw
        generalize wrow n = A at *
        generalize wrow (n - 1) = B at *
        generalize leanF 3 f = S at *
        go_enter Try.func23, Try.ntmps23
        go_wp2_with fail
        refine (IH.out (h - 1) (n - 1) w (by have := NH.out; omega) (by have := NH.out; omega) (by have := F.out; omega) (by omega)).mono ?_
        rintro e w1 ⟨v1, rfl, o1, h1⟩
        have HA := Lib.hid (And.intro o1 h1)
        clear o1 h1
        go_wp2_with fail
        refine (W1.out w1).mono ?_
        rintro e w2 ⟨rfl, h2⟩
        go_wp2_with fail
        refine (W2.out w2).mono ?_
        rintro e w3 ⟨rfl, h3⟩
        have H13 := Lib.hid (h2.trans h3)
        clear h2 h3
        go_wp2_with fail
        refine (EA.out w3).mono ?_
        rintro e w4 ⟨v4, rfl, o4, h4⟩
        have H4 := Lib.hid (And.intro o4 h4)
        clear o4 h4
        go_wp2_with fail
        refine (node34_any w4 v1 v4 _ _ _ ((HA.out.1.beads.ext H13.out).ext H4.out.2) H4.out.1.beads (by have := NH.out; have := F.out; have := EV.out; have := L.out (n - 1) (by omega); omega)).mono ?_
        rintro e w5 ⟨v5, rfl, o5, h5⟩
        have HC := Lib.hid (And.intro o5 h5)
        clear o5 h5
        go_wp2
        go_ret
        have h04 := (HA.out.2.trans H13.out).trans H4.out.2
        exact ⟨_, rfl, HC.out.1.mono h04.size, h04.trans HC.out.2⟩
/-- beads with their sizes are a tree's just as those without. -/
theorem BT.fits_of : ∀ {t : BT} {T : Tr}, t.of.fits T → t.fits T
  | .nil, .nil, _ => trivial
  | .nil, .node .., h => h.elim
  | .node .., .nil, h => h.elim
  | .node .., .node .., h => ⟨h.1, h.2.1, h.2.2.1, BT.fits_of h.2.2.2.1, BT.fits_of h.2.2.2.2⟩
theorem bn_fits {l r : BT} {g : Int} : ∀ {T : Tr}, (bn l g r).fits T → ∃ b L R, T = .node b L 0 0 g R ∧ l.fits L ∧ r.fits R
  | .nil, h => (BT.fits_of (t := .node 0 0 0 0 g l r) h).elim
  | .node b L k v g' R, h => by
    obtain ⟨h1, h2, h3, h4, h5⟩ := BT.fits_of (t := .node 0 0 0 0 g l r) h
    subst h1 h2 h3
    exact ⟨b, L, R, rfl, h4, h5⟩
theorem nil_fits : ∀ {T : Tr}, BT.nil.fits T → T = .nil
  | .nil, _ => rfl
  | .node .., h => h.elim
theorem fits_count {t : BT} {T : Tr} (h : t.fits T) : T.count = t.enc.length := BT.fits_len h
theorem leanF_avl : ∀ (f h : Nat) (T : Tr), h ≤ f → (leanF 1 f h).fits T → AvlH T h
  | 0, h, T, hh, ht => by
    obtain rfl : h = 0 := by omega
    rw [nil_fits ht]; rfl
  | f + 1, h, T, hh, ht => by
    unfold leanF at ht
    split at ht
    · rw [nil_fits ht]; show h = 0; omega
    · obtain ⟨b, L, R, rfl, hl, hr⟩ := bn_fits ht
      exact ⟨h - 1, h - 2, leanF_avl f _ L (by omega) hl, leanF_avl f _ R (by omega) hr, by omega, rfl, by omega, by omega⟩
theorem fullT_rb : ∀ (b : Nat) (T : Tr), (fullT b).fits T → RbH T b false
  | 0, T, ht => by rw [nil_fits ht]; exact ⟨rfl, rfl⟩
  | b + 1, T, ht => by
    obtain ⟨_, L, R, rfl, hl, hr⟩ := bn_fits ht
    exact ⟨b, false, false, rfl, fullT_rb b L hl, fullT_rb b R hr, by omega⟩
theorem spineF_rb : ∀ (f h : Nat) (T : Tr), h ≤ f → (spineF f h).fits T → RbH T ((h + 1) / 2) false
  | 0, h, T, hh, ht => by
    obtain rfl : h = 0 := by omega
    rw [nil_fits ht]; exact ⟨rfl, rfl⟩
  | f + 1, h, T, hh, ht => by
    unfold spineF at ht
    split at ht
    · rw [nil_fits ht]; exact ⟨by omega, rfl⟩
    · split at ht
      · obtain ⟨b, L, R, rfl, hl, hr⟩ := bn_fits ht
        have h1 := spineF_rb f _ L (by omega) hl
        have h2 := fullT_rb _ R hr
        rw [show (h - 1 + 1) / 2 = (h + 1) / 2 - 1 by omega] at h1
        exact ⟨(h + 1) / 2 - 1, false, false, by omega, h1, h2, by omega⟩
      · obtain ⟨b, L, R, rfl, hl, hr⟩ := bn_fits ht
        obtain ⟨b2, L2, R2, rfl, hl2, hr2⟩ := bn_fits hl
        have h1 := spineF_rb f _ L2 (by omega) hl2
        have h2 := fullT_rb _ R hr
        have h3 := fullT_rb _ R2 hr2
        rw [show (h - 2 + 1) / 2 = (h + 1) / 2 - 1 by omega] at h1
        exact ⟨(h + 1) / 2 - 1, true, false, by omega, ⟨h1, h3, by omega⟩, h2, by omega⟩
theorem leanF_rb (f h : Nat) (T : Tr) (hh : h ≤ f) (h10 : h ≤ 10) (ht : (leanF 2 f h).fits T) : RbH T ((h + 1) / 2) false := by
  cases f with
  | zero =>
    obtain rfl : h = 0 := by omega
    rw [nil_fits ht]; exact ⟨rfl, rfl⟩
  | succ f =>
    unfold leanF at ht
    split at ht
    · rw [nil_fits ht]; exact ⟨by omega, rfl⟩
    · exact spineF_rb 10 h T h10 ht
theorem evenF_wb : ∀ (f n : Nat) (T : Tr), n ≤ f → (evenF f n).fits T → WbH T
  | 0, h, T, hh, ht => by rw [nil_fits ht]; trivial
  | f + 1, h, T, hh, ht => by
    unfold evenF at ht
    split at ht
    · rw [nil_fits ht]; trivial
    · obtain ⟨b, L, R, rfl, hl, hr⟩ := bn_fits ht
      have c1 := fits_count hl
      have c2 := fits_count hr
      rw [evenF_len f _ (by omega)] at c1 c2
      exact ⟨rfl, evenF_wb f _ L (by omega) hl, evenF_wb f _ R (by omega) hr, by unfold lk; omega⟩
theorem leanF_wlen : ∀ (f h : Nat), h ≤ f → h < 11 → (leanF 3 f h).enc.length + 1 = wrow h
  | 0, h, hh, _ => by
    obtain rfl : h = 0 := by omega
    rfl
  | f + 1, h, hh, h11 => by
    unfold leanF
    split
    · obtain rfl : h = 0 := by omega
      rfl
    · have hw := wrow_up10 h h11
      have ih := leanF_wlen f (h - 1) (by omega) (by omega)
      rw [if_neg (by decide), if_neg (by decide), bn_len, evenF_len _ _ (by omega)]
      have : wrow (h - 1) < wrow h := by
        obtain ⟨k, rfl⟩ : ∃ k, h = k + 1 := ⟨h - 1, by omega⟩
        rw [wrow, Nat.add_sub_cancel]; have := wrow_pos k; omega
      omega
theorem leanF_wb : ∀ (f h : Nat) (T : Tr), h ≤ f → h < 11 → (leanF 3 f h).fits T → WbH T
  | 0, h, T, hh, _, ht => by rw [nil_fits ht]; trivial
  | f + 1, h, T, hh, h11, ht => by
    unfold leanF at ht
    split at ht
    · rw [nil_fits ht]; trivial
    · rw [if_neg (by decide), if_neg (by decide)] at ht
      obtain ⟨b, L, R, rfl, hl, hr⟩ := bn_fits ht
      have hw := wrow_up10 h h11
      have c1 := fits_count hl
      have c2 := fits_count hr
      have c3 := leanF_wlen f (h - 1) (by omega) (by omega)
      rw [evenF_len _ _ (by omega)] at c2
      refine ⟨rfl, leanF_wb f _ L (by omega) (by omega) hl, evenF_wb _ _ R (by omega) hr, ?_⟩
      obtain ⟨k, rfl⟩ : ∃ k, h = k + 1 := ⟨h - 1, by omega⟩
      rw [Nat.add_sub_cancel] at *
      have e := wrow_alt k
      unfold lk
      omega
end Go.Proofs.Ytejknkhahjgdnaa
namespace Go.Proofs.Ytejknkhahjgdnaa
open Go Go.RowKit Go.Shelf
attribute [local go_sem] Oper.semAt_some

/-- a tree's nodes, from left to right. -/
def Tr.inl : Tr → List Tr
  | .nil => []
  | .node b l k v g r => l.inl ++ .node b l k v g r :: r.inl
/-- from right to left. -/
def Tr.inr : Tr → List Tr
  | .nil => []
  | .node b l k v g r => r.inr ++ .node b l k v g r :: l.inr
theorem inr_rev : ∀ t : Tr, t.inr = t.inl.reverse
  | .nil => rfl
  | .node b l k v g r => by simp [Tr.inl, Tr.inr, inr_rev l, inr_rev r]
set_option maxRecDepth 100000 in
set_option maxHeartbeats 4000000 in
theorem lookOnL_in
  (M : Nat → Prop) (Px : Tr → Prop) (l N by_ bo ba bb : Nat) (J Jx : List Tr → World → Prop) (hy0 : ¬ M by_) (ho0 : ¬ M bo) (ha0 : ¬ M ba) (hb0 : ¬ M bb)
    (hY : ∀ m pre x W, Px x → J pre W → pre.length < N → YieldAt Fence.wide m Try.prog l #[.pointer x.ptr] W fun e W' =>
      (e = .returned (.bool true) ∧ J (pre ++ [x]) W' ∧ Keep M W W') ∨ (e = .returned (.bool false) ∧ Jx (pre ++ [x]) W'))
    (hJE : ∀ pre W W', J pre W → Ext W W' → J pre W')
    (T : Tr) :
    ∀ (n : Nat) (pre : List Tr) (W : World), InH W T → Off M T → (∀ x ∈ T.inl, Px x) → J pre W → pre.length + (T.inl).length ≤ N →
      Boxed W by_ 76 (.func (.yield l) #[] #[]) → Boxed W bo 76 (.func (.func 86) #[] #[.pointer (some ⟨bo, 0, none⟩), .pointer (some ⟨ba, 0, none⟩), .pointer (some ⟨by_, 0, none⟩), .pointer (some ⟨bb, 0, none⟩)]) →
      Boxed W ba 92 (.func (.func 43) #[] #[]) → Boxed W bb 92 (.func (.func 44) #[] #[]) →
      CallsIn Fence.wide n Try.prog 86 #[.pointer T.ptr, .pointer (some ⟨bo, 0, none⟩), .pointer (some ⟨ba, 0, none⟩), .pointer (some ⟨by_, 0, none⟩), .pointer (some ⟨bb, 0, none⟩)] W fun e W' =>
        (e = .returned (.bool true) ∧ J (pre ++ T.inl) W' ∧ Keep M W W') ∨ (e = .returned (.bool false) ∧ ∃ q, q <+: T.inl ∧ Jx (pre ++ q) W') := by
  have hfn : ∀ f, Fence.wide.fn f := fun _ => trivial
  induction T with
  | nil =>
    intro n pre W _ _ _ hJ _ _ _ _ _
    rw [Tr.ptr_nil]
    refine callsIn_of_wp Try.func86 rfl trivial ?_ rfl
    simp only [Try.ntmps86, List.size_toArray, List.length_cons, List.length_nil, Nat.reduceAdd, Nat.reduceSub, Array.replicate_succ, Array.replicate_zero, List.push_toArray, List.append_toArray, List.nil_append, List.cons_append]
    gi_wp2_with fail
    refine wpIn_region_G (fun j => !(List.contains (α := Nat) [7, 11, 18] j)) (by kernel_rfl) ?_
    refine batchG hfn (fuel := 16) [0, 1, 2, 3, 4, 5] (by kernel_rfl) rfl ?_
    repeat (go_big_quiet_step ((fail)))
    refine wpQuiet_nil ?_
    refine wpAnyG_skip hfn (j := 6) (by kernel_rfl) rfl rfl ?_
    simp only [Act.put, List.setIfInBounds_toArray, List.set_cons_zero, List.set_cons_succ]
    refine wpAnyG_skip hfn (j := 7) (by kernel_rfl) rfl rfl ?_
    simp only [Act.put, List.setIfInBounds_toArray, List.set_cons_zero, List.set_cons_succ]
    refine batchG hfn (fuel := 11) [8, 9, 10] (by kernel_rfl) rfl ?_
    repeat (go_big_quiet_step ((fail)))
    refine wpQuiet_nil ?_
    refine wpAnyG_skip hfn (j := 11) (by kernel_rfl) rfl rfl ?_
    simp only [Act.put, List.setIfInBounds_toArray, List.set_cons_zero, List.set_cons_succ]
    refine batchG hfn (fuel := 5) [12, 13, 14, 15, 16] (by kernel_rfl) rfl ?_
    repeat (go_big_quiet_step ((fail)))
    refine wpQuiet_nil ?_
    refine wpAnyG_skip hfn (j := 17) (by kernel_rfl) rfl rfl ?_
    simp only [Act.put, List.setIfInBounds_toArray, List.set_cons_zero, List.set_cons_succ]
    refine wpAnyG_skip hfn (j := 18) (by kernel_rfl) rfl rfl ?_
    simp only [Act.put, List.setIfInBounds_toArray, List.set_cons_zero, List.set_cons_succ]
    refine batchG hfn (fuel := 0) [19, 20, 21] (by kernel_rfl) rfl ?_
    repeat (go_big_quiet_step ((fail)))
    refine wpQuiet_nil ?_
    refine wpAnyG_done (by kernel_rfl) ?_
    refine calmQ_normal ?_
    gi_wp2
    go_ret
    exact .inl ⟨rfl, by simpa [Tr.inl] using hJE _ _ _ hJ (Ext.drew W), Keep.drew W⟩
  | node b tl k v g tr ihl ihr =>
    intro n pre W ht ho hP hJ hN hy hbo hba hbb
    simp only [Tr.inl, List.length_cons, List.length_append] at hN
    have Hl := Lib.hid ihl
    have Hr := Lib.hid ihr
    have HY := Lib.hid hY
    clear ihl ihr hY
    have HP := Lib.hid hP
    clear hP
    have hco := cell_all hbo.cell
    have hca := cell_all hba.cell
    have hx0 := Ext.drew W
    rw [Tr.ptr_node]
    refine callsIn_of_wp Try.func86 rfl trivial ?_ rfl
    simp only [Try.ntmps86, List.size_toArray, List.length_cons, List.length_nil, Nat.reduceAdd, Nat.reduceSub, Array.replicate_succ, Array.replicate_zero, List.push_toArray, List.append_toArray, List.nil_append, List.cons_append]
    gi_wp2_with fail
    refine wpIn_region_G (fun j => !(List.contains (α := Nat) [7, 11, 18] j)) (by kernel_rfl) ?_
    refine batchG hfn (fuel := 16) [0, 1, 2, 3, 4, 5] (by kernel_rfl) rfl ?_
    repeat (go_big_quiet_step ((fail)))
    refine wpQuiet_nil ?_
    clear hco hca hx0
    refine wpAnyG_one (j := 6) (by kernel_rfl) rfl ?_
    gi_wp2_with fail
    rw [← Tr.ptr_node b tl k v g tr]
    have ht0 := ht.ext (Ext.drew W)
    refine ⟨wide_room _, (callsIn_wide.2 (left_any _ _ ht0)).mono ?_⟩
    rintro e W1 ⟨rfl, h1⟩
    have hk1 : Keep M W W1 := (Keep.drew W).trans (Keep.ext h1)
    have ht1 := ht0.ext h1
    have hJ1 := hJE _ _ _ (hJE _ _ _ hJ (Ext.drew W)) h1
    have hy1 := hk1.boxed hy0 hy
    have hbo1 := hk1.boxed ho0 hbo
    have hba1 := hk1.boxed ha0 hba
    have hbb1 := hk1.boxed hb0 hbb
    clear ht ht0 hJ hy hbo hba hbb
    gi_wp2_with fail
    refine onePost_ext (h1) ?_
    refine wpAnyG_one (j := 7) (by kernel_rfl) rfl ?_
    gi_wp2_with fail
    simp only [Tr.left_node]
    refine ⟨wide_room _, (Hl.out (n - 1) _ W1 ht1.2.1 ho.2.1 (fun x hx => HP.out x (List.mem_append_left _ hx)) hJ1 (by omega) hy1 hbo1 hba1 hbb1).mono ?_⟩
    rintro e W2 (⟨rfl, hJ2, hk2⟩ | ⟨rfl, q, hq, hJx2⟩)
    · have hk02 := hk1.trans hk2
      have ht2 := InH.keep hk2 ho ht1
      have hy2 := hk2.boxed hy0 hy1
      have hbo2 := hk2.boxed ho0 hbo1
      have hba2 := hk2.boxed ha0 hba1
      have hbb2 := hk2.boxed hb0 hbb1
      clear ht1 hJ1 hy1 hbo1 hba1 hbb1 hk1 hk2
      have hcy := cell_all hy2.cell
      have hx2 := Ext.refl W2
      obtain ⟨fn, tmps, assign, body, hy3, hR⟩ := HY.out n (pre ++ tl.inl) (.node b tl k v g tr) W2 (HP.out _ (List.mem_append_right _ (List.mem_cons_self ..))) hJ2 (by rw [List.length_append]; omega)
      have HR := Lib.hid hR
      clear hR
      rw [Tr.ptr_node] at hy3
      gi_wp2_with fail
      refine onePost_any (by kernel_rfl) ?_
      refine batchG hfn (fuel := 11) [8, 9, 10] (by kernel_rfl) rfl ?_
      repeat (go_big_quiet_step ((fail)))
      refine wpQuiet_nil ?_
      rw [Tr.ptr_node]
      refine wpAnyG_one (j := 11) (by kernel_rfl) rfl ?_
      gi_wp2_with fail
      clear hcy hx2 hy3
      refine ⟨wide_room _, (RoundIn.any HR.out).mono ?_⟩
      rintro e W3 (⟨rfl, hJ3, hk3⟩ | ⟨rfl, hJx3⟩)
      · have hk03 := hk02.trans hk3
        have ht3 := InH.keep hk3 ho ht2
        have hy3 := hk3.boxed hy0 hy2
        have hbo3 := hk3.boxed ho0 hbo2
        have hba3 := hk3.boxed ha0 hba2
        have hbb3 := hk3.boxed hb0 hbb2
        clear ht2 hJ2 hy2 hbo2 hba2 hbb2 hk02 hk3
        have hco := cell_all hbo3.cell
        have hcb := cell_all hbb3.cell
        have hx3 := Ext.refl W3
        gi_wp2_with fail
        refine onePost_any (by kernel_rfl) ?_
        refine batchG hfn (fuel := 5) [12, 13, 14, 15, 16] (by kernel_rfl) rfl ?_
        repeat (go_big_quiet_step ((fail)))
        refine wpQuiet_nil ?_
        clear hco hcb hx3
        refine wpAnyG_one (j := 17) (by kernel_rfl) rfl ?_
        gi_wp2_with fail
        rw [← Tr.ptr_node b tl k v g tr]
        refine ⟨wide_room _, (callsIn_wide.2 (right_any _ _ ht3)).mono ?_⟩
        rintro e W4 ⟨rfl, h4⟩
        have hk4 : Keep M W3 W4 := Keep.ext h4
        have hk04 := hk03.trans hk4
        have ht4 := ht3.ext h4
        have hJ4 := hJE _ _ _ hJ3 h4
        have hy4 := hk4.boxed hy0 hy3
        have hbo4 := hk4.boxed ho0 hbo3
        have hba4 := hk4.boxed ha0 hba3
        have hbb4 := hk4.boxed hb0 hbb3
        clear ht3 hJ3 hy3 hbo3 hba3 hbb3 hk03 hk4
        gi_wp2_with fail
        refine onePost_ext (h4) ?_
        refine wpAnyG_one (j := 18) (by kernel_rfl) rfl ?_
        gi_wp2_with fail
        simp only [Tr.right_node]
        refine ⟨wide_room _, (Hr.out (n - 1) _ W4 ht4.2.2 ho.2.2 (fun x hx => HP.out x (List.mem_append_right _ (List.mem_cons_of_mem _ hx))) hJ4 (by simp only [List.length_append, List.length_cons, List.length_nil]; omega) hy4 hbo4 hba4 hbb4).mono ?_⟩
        rintro e W5 (⟨rfl, hJ5, hk5⟩ | ⟨rfl, q, hq, hJx5⟩)
        · gi_wp2_with fail
          refine onePost_any (by kernel_rfl) ?_
          refine batchG hfn (fuel := 0) [19, 20, 21] (by kernel_rfl) rfl ?_
          repeat (go_big_quiet_step ((fail)))
          refine wpQuiet_nil ?_
          refine wpAnyG_done (by kernel_rfl) ?_
          refine calmQ_normal ?_
          gi_wp2
          go_ret
          exact .inl ⟨rfl, by simpa [Tr.inl, List.append_assoc] using hJ5, hk04.trans hk5⟩
        · gi_wp2_with fail
          refine onePost_any (by kernel_rfl) ?_
          refine batchG hfn (fuel := 0) [19, 20, 21] (by kernel_rfl) rfl ?_
          repeat (go_big_quiet_step ((fail)))
          refine wpQuiet_nil ?_
          refine wpAnyG_done (by kernel_rfl) ?_
          refine calmQ_normal ?_
          gi_wp2
          go_ret
          obtain ⟨r', hr'⟩ := hq
          exact .inr ⟨rfl, tl.inl ++ .node b tl k v g tr :: q, ⟨r', by simp [Tr.inl, ← hr']⟩, by simpa [List.append_assoc] using hJx5⟩
      · gi_wp2_with fail
        refine onePost_any (by kernel_rfl) ?_
        refine batchG hfn (fuel := 5) [12, 13, 14, 15, 16] (by kernel_rfl) rfl ?_
        repeat (go_big_quiet_step ((fail)))
        refine wpQuiet_nil ?_
        refine wpAnyG_skip hfn (j := 17) (by kernel_rfl) rfl rfl ?_
        simp only [Act.put, List.setIfInBounds_toArray, List.set_cons_zero, List.set_cons_succ]
        refine wpAnyG_skip hfn (j := 18) (by kernel_rfl) rfl rfl ?_
        simp only [Act.put, List.setIfInBounds_toArray, List.set_cons_zero, List.set_cons_succ]
        refine batchG hfn (fuel := 0) [19, 20, 21] (by kernel_rfl) rfl ?_
        repeat (go_big_quiet_step ((fail)))
        refine wpQuiet_nil ?_
        refine wpAnyG_done (by kernel_rfl) ?_
        refine calmQ_normal ?_
        gi_wp2
        go_ret
        exact .inr ⟨rfl, tl.inl ++ [.node b tl k v g tr], ⟨tr.inl, by simp [Tr.inl]⟩, by simpa [List.append_assoc] using hJx3⟩
    · gi_wp2_with fail
      refine onePost_any (by kernel_rfl) ?_
      refine batchG hfn (fuel := 11) [8, 9, 10] (by kernel_rfl) rfl ?_
      repeat (go_big_quiet_step ((fail)))
      refine wpQuiet_nil ?_
      refine wpAnyG_skip hfn (j := 11) (by kernel_rfl) rfl rfl ?_
      simp only [Act.put, List.setIfInBounds_toArray, List.set_cons_zero, List.set_cons_succ]
      refine batchG hfn (fuel := 5) [12, 13, 14, 15, 16] (by kernel_rfl) rfl ?_
      repeat (go_big_quiet_step ((fail)))
      refine wpQuiet_nil ?_
      refine wpAnyG_skip hfn (j := 17) (by kernel_rfl) rfl rfl ?_
      simp only [Act.put, List.setIfInBounds_toArray, List.set_cons_zero, List.set_cons_succ]
      refine wpAnyG_skip hfn (j := 18) (by kernel_rfl) rfl rfl ?_
      simp only [Act.put, List.setIfInBounds_toArray, List.set_cons_zero, List.set_cons_succ]
      refine batchG hfn (fuel := 0) [19, 20, 21] (by kernel_rfl) rfl ?_
      repeat (go_big_quiet_step ((fail)))
      refine wpQuiet_nil ?_
      refine wpAnyG_done (by kernel_rfl) ?_
      refine calmQ_normal ?_
      gi_wp2
      go_ret
      obtain ⟨r', hr'⟩ := hq
      exact .inr ⟨rfl, q, ⟨r' ++ .node b tl k v g tr :: tr.inl, by simp [Tr.inl, ← hr']⟩, hJx2⟩
set_option maxRecDepth 100000 in
set_option maxHeartbeats 4000000 in
theorem lookOnR_in
  (M : Nat → Prop) (Px : Tr → Prop) (l N by_ bo ba bb : Nat) (J Jx : List Tr → World → Prop) (hy0 : ¬ M by_) (ho0 : ¬ M bo) (ha0 : ¬ M ba) (hb0 : ¬ M bb)
    (hY : ∀ m pre x W, Px x → J pre W → pre.length < N → YieldAt Fence.wide m Try.prog l #[.pointer x.ptr] W fun e W' =>
      (e = .returned (.bool true) ∧ J (pre ++ [x]) W' ∧ Keep M W W') ∨ (e = .returned (.bool false) ∧ Jx (pre ++ [x]) W'))
    (hJE : ∀ pre W W', J pre W → Ext W W' → J pre W')
    (T : Tr) :
    ∀ (n : Nat) (pre : List Tr) (W : World), InH W T → Off M T → (∀ x ∈ T.inr, Px x) → J pre W → pre.length + (T.inr).length ≤ N →
      Boxed W by_ 76 (.func (.yield l) #[] #[]) → Boxed W bo 76 (.func (.func 86) #[] #[.pointer (some ⟨bo, 0, none⟩), .pointer (some ⟨ba, 0, none⟩), .pointer (some ⟨by_, 0, none⟩), .pointer (some ⟨bb, 0, none⟩)]) →
      Boxed W ba 92 (.func (.func 44) #[] #[]) → Boxed W bb 92 (.func (.func 43) #[] #[]) →
      CallsIn Fence.wide n Try.prog 86 #[.pointer T.ptr, .pointer (some ⟨bo, 0, none⟩), .pointer (some ⟨ba, 0, none⟩), .pointer (some ⟨by_, 0, none⟩), .pointer (some ⟨bb, 0, none⟩)] W fun e W' =>
        (e = .returned (.bool true) ∧ J (pre ++ T.inr) W' ∧ Keep M W W') ∨ (e = .returned (.bool false) ∧ ∃ q, q <+: T.inr ∧ Jx (pre ++ q) W') := by
  have hfn : ∀ f, Fence.wide.fn f := fun _ => trivial
  induction T with
  | nil =>
    intro n pre W _ _ _ hJ _ _ _ _ _
    rw [Tr.ptr_nil]
    refine callsIn_of_wp Try.func86 rfl trivial ?_ rfl
    simp only [Try.ntmps86, List.size_toArray, List.length_cons, List.length_nil, Nat.reduceAdd, Nat.reduceSub, Array.replicate_succ, Array.replicate_zero, List.push_toArray, List.append_toArray, List.nil_append, List.cons_append]
    gi_wp2_with fail
    refine wpIn_region_G (fun j => !(List.contains (α := Nat) [7, 11, 18] j)) (by kernel_rfl) ?_
    refine batchG hfn (fuel := 16) [0, 1, 2, 3, 4, 5] (by kernel_rfl) rfl ?_
    repeat (go_big_quiet_step ((fail)))
    refine wpQuiet_nil ?_
    refine wpAnyG_skip hfn (j := 6) (by kernel_rfl) rfl rfl ?_
    simp only [Act.put, List.setIfInBounds_toArray, List.set_cons_zero, List.set_cons_succ]
    refine wpAnyG_skip hfn (j := 7) (by kernel_rfl) rfl rfl ?_
    simp only [Act.put, List.setIfInBounds_toArray, List.set_cons_zero, List.set_cons_succ]
    refine batchG hfn (fuel := 11) [8, 9, 10] (by kernel_rfl) rfl ?_
    repeat (go_big_quiet_step ((fail)))
    refine wpQuiet_nil ?_
    refine wpAnyG_skip hfn (j := 11) (by kernel_rfl) rfl rfl ?_
    simp only [Act.put, List.setIfInBounds_toArray, List.set_cons_zero, List.set_cons_succ]
    refine batchG hfn (fuel := 5) [12, 13, 14, 15, 16] (by kernel_rfl) rfl ?_
    repeat (go_big_quiet_step ((fail)))
    refine wpQuiet_nil ?_
    refine wpAnyG_skip hfn (j := 17) (by kernel_rfl) rfl rfl ?_
    simp only [Act.put, List.setIfInBounds_toArray, List.set_cons_zero, List.set_cons_succ]
    refine wpAnyG_skip hfn (j := 18) (by kernel_rfl) rfl rfl ?_
    simp only [Act.put, List.setIfInBounds_toArray, List.set_cons_zero, List.set_cons_succ]
    refine batchG hfn (fuel := 0) [19, 20, 21] (by kernel_rfl) rfl ?_
    repeat (go_big_quiet_step ((fail)))
    refine wpQuiet_nil ?_
    refine wpAnyG_done (by kernel_rfl) ?_
    refine calmQ_normal ?_
    gi_wp2
    go_ret
    exact .inl ⟨rfl, by simpa [Tr.inr] using hJE _ _ _ hJ (Ext.drew W), Keep.drew W⟩
  | node b tl k v g tr ihl ihr =>
    intro n pre W ht ho hP hJ hN hy hbo hba hbb
    simp only [Tr.inr, List.length_cons, List.length_append] at hN
    have Hl := Lib.hid ihl
    have Hr := Lib.hid ihr
    have HY := Lib.hid hY
    clear ihl ihr hY
    have HP := Lib.hid hP
    clear hP
    have hco := cell_all hbo.cell
    have hca := cell_all hba.cell
    have hx0 := Ext.drew W
    rw [Tr.ptr_node]
    refine callsIn_of_wp Try.func86 rfl trivial ?_ rfl
    simp only [Try.ntmps86, List.size_toArray, List.length_cons, List.length_nil, Nat.reduceAdd, Nat.reduceSub, Array.replicate_succ, Array.replicate_zero, List.push_toArray, List.append_toArray, List.nil_append, List.cons_append]
    gi_wp2_with fail
    refine wpIn_region_G (fun j => !(List.contains (α := Nat) [7, 11, 18] j)) (by kernel_rfl) ?_
    refine batchG hfn (fuel := 16) [0, 1, 2, 3, 4, 5] (by kernel_rfl) rfl ?_
    repeat (go_big_quiet_step ((fail)))
    refine wpQuiet_nil ?_
    clear hco hca hx0
    refine wpAnyG_one (j := 6) (by kernel_rfl) rfl ?_
    gi_wp2_with fail
    rw [← Tr.ptr_node b tl k v g tr]
    have ht0 := ht.ext (Ext.drew W)
    refine ⟨wide_room _, (callsIn_wide.2 (right_any _ _ ht0)).mono ?_⟩
    rintro e W1 ⟨rfl, h1⟩
    have hk1 : Keep M W W1 := (Keep.drew W).trans (Keep.ext h1)
    have ht1 := ht0.ext h1
    have hJ1 := hJE _ _ _ (hJE _ _ _ hJ (Ext.drew W)) h1
    have hy1 := hk1.boxed hy0 hy
    have hbo1 := hk1.boxed ho0 hbo
    have hba1 := hk1.boxed ha0 hba
    have hbb1 := hk1.boxed hb0 hbb
    clear ht ht0 hJ hy hbo hba hbb
    gi_wp2_with fail
    refine onePost_ext (h1) ?_
    refine wpAnyG_one (j := 7) (by kernel_rfl) rfl ?_
    gi_wp2_with fail
    simp only [Tr.right_node]
    refine ⟨wide_room _, (Hr.out (n - 1) _ W1 ht1.2.2 ho.2.2 (fun x hx => HP.out x (List.mem_append_left _ hx)) hJ1 (by omega) hy1 hbo1 hba1 hbb1).mono ?_⟩
    rintro e W2 (⟨rfl, hJ2, hk2⟩ | ⟨rfl, q, hq, hJx2⟩)
    · have hk02 := hk1.trans hk2
      have ht2 := InH.keep hk2 ho ht1
      have hy2 := hk2.boxed hy0 hy1
      have hbo2 := hk2.boxed ho0 hbo1
      have hba2 := hk2.boxed ha0 hba1
      have hbb2 := hk2.boxed hb0 hbb1
      clear ht1 hJ1 hy1 hbo1 hba1 hbb1 hk1 hk2
      have hcy := cell_all hy2.cell
      have hx2 := Ext.refl W2
      obtain ⟨fn, tmps, assign, body, hy3, hR⟩ := HY.out n (pre ++ tr.inr) (.node b tl k v g tr) W2 (HP.out _ (List.mem_append_right _ (List.mem_cons_self ..))) hJ2 (by rw [List.length_append]; omega)
      have HR := Lib.hid hR
      clear hR
      rw [Tr.ptr_node] at hy3
      gi_wp2_with fail
      refine onePost_any (by kernel_rfl) ?_
      refine batchG hfn (fuel := 11) [8, 9, 10] (by kernel_rfl) rfl ?_
      repeat (go_big_quiet_step ((fail)))
      refine wpQuiet_nil ?_
      rw [Tr.ptr_node]
      refine wpAnyG_one (j := 11) (by kernel_rfl) rfl ?_
      gi_wp2_with fail
      clear hcy hx2 hy3
      refine ⟨wide_room _, (RoundIn.any HR.out).mono ?_⟩
      rintro e W3 (⟨rfl, hJ3, hk3⟩ | ⟨rfl, hJx3⟩)
      · have hk03 := hk02.trans hk3
        have ht3 := InH.keep hk3 ho ht2
        have hy3 := hk3.boxed hy0 hy2
        have hbo3 := hk3.boxed ho0 hbo2
        have hba3 := hk3.boxed ha0 hba2
        have hbb3 := hk3.boxed hb0 hbb2
        clear ht2 hJ2 hy2 hbo2 hba2 hbb2 hk02 hk3
        have hco := cell_all hbo3.cell
        have hcb := cell_all hbb3.cell
        have hx3 := Ext.refl W3
        gi_wp2_with fail
        refine onePost_any (by kernel_rfl) ?_
        refine batchG hfn (fuel := 5) [12, 13, 14, 15, 16] (by kernel_rfl) rfl ?_
        repeat (go_big_quiet_step ((fail)))
        refine wpQuiet_nil ?_
        clear hco hcb hx3
        refine wpAnyG_one (j := 17) (by kernel_rfl) rfl ?_
        gi_wp2_with fail
        rw [← Tr.ptr_node b tl k v g tr]
        refine ⟨wide_room _, (callsIn_wide.2 (left_any _ _ ht3)).mono ?_⟩
        rintro e W4 ⟨rfl, h4⟩
        have hk4 : Keep M W3 W4 := Keep.ext h4
        have hk04 := hk03.trans hk4
        have ht4 := ht3.ext h4
        have hJ4 := hJE _ _ _ hJ3 h4
        have hy4 := hk4.boxed hy0 hy3
        have hbo4 := hk4.boxed ho0 hbo3
        have hba4 := hk4.boxed ha0 hba3
        have hbb4 := hk4.boxed hb0 hbb3
        clear ht3 hJ3 hy3 hbo3 hba3 hbb3 hk03 hk4
        gi_wp2_with fail
        refine onePost_ext (h4) ?_
        refine wpAnyG_one (j := 18) (by kernel_rfl) rfl ?_
        gi_wp2_with fail
        simp only [Tr.left_node]
        refine ⟨wide_room _, (Hl.out (n - 1) _ W4 ht4.2.1 ho.2.1 (fun x hx => HP.out x (List.mem_append_right _ (List.mem_cons_of_mem _ hx))) hJ4 (by simp only [List.length_append, List.length_cons, List.length_nil]; omega) hy4 hbo4 hba4 hbb4).mono ?_⟩
        rintro e W5 (⟨rfl, hJ5, hk5⟩ | ⟨rfl, q, hq, hJx5⟩)
        · gi_wp2_with fail
          refine onePost_any (by kernel_rfl) ?_
          refine batchG hfn (fuel := 0) [19, 20, 21] (by kernel_rfl) rfl ?_
          repeat (go_big_quiet_step ((fail)))
          refine wpQuiet_nil ?_
          refine wpAnyG_done (by kernel_rfl) ?_
          refine calmQ_normal ?_
          gi_wp2
          go_ret
          exact .inl ⟨rfl, by simpa [Tr.inr, List.append_assoc] using hJ5, hk04.trans hk5⟩
        · gi_wp2_with fail
          refine onePost_any (by kernel_rfl) ?_
          refine batchG hfn (fuel := 0) [19, 20, 21] (by kernel_rfl) rfl ?_
          repeat (go_big_quiet_step ((fail)))
          refine wpQuiet_nil ?_
          refine wpAnyG_done (by kernel_rfl) ?_
          refine calmQ_normal ?_
          gi_wp2
          go_ret
          obtain ⟨r', hr'⟩ := hq
          exact .inr ⟨rfl, tr.inr ++ .node b tl k v g tr :: q, ⟨r', by simp [Tr.inr, ← hr']⟩, by simpa [List.append_assoc] using hJx5⟩
      · gi_wp2_with fail
        refine onePost_any (by kernel_rfl) ?_
        refine batchG hfn (fuel := 5) [12, 13, 14, 15, 16] (by kernel_rfl) rfl ?_
        repeat (go_big_quiet_step ((fail)))
        refine wpQuiet_nil ?_
        refine wpAnyG_skip hfn (j := 17) (by kernel_rfl) rfl rfl ?_
        simp only [Act.put, List.setIfInBounds_toArray, List.set_cons_zero, List.set_cons_succ]
        refine wpAnyG_skip hfn (j := 18) (by kernel_rfl) rfl rfl ?_
        simp only [Act.put, List.setIfInBounds_toArray, List.set_cons_zero, List.set_cons_succ]
        refine batchG hfn (fuel := 0) [19, 20, 21] (by kernel_rfl) rfl ?_
        repeat (go_big_quiet_step ((fail)))
        refine wpQuiet_nil ?_
        refine wpAnyG_done (by kernel_rfl) ?_
        refine calmQ_normal ?_
        gi_wp2
        go_ret
        exact .inr ⟨rfl, tr.inr ++ [.node b tl k v g tr], ⟨tl.inr, by simp [Tr.inr]⟩, by simpa [List.append_assoc] using hJx3⟩
    · gi_wp2_with fail
      refine onePost_any (by kernel_rfl) ?_
      refine batchG hfn (fuel := 11) [8, 9, 10] (by kernel_rfl) rfl ?_
      repeat (go_big_quiet_step ((fail)))
      refine wpQuiet_nil ?_
      refine wpAnyG_skip hfn (j := 11) (by kernel_rfl) rfl rfl ?_
      simp only [Act.put, List.setIfInBounds_toArray, List.set_cons_zero, List.set_cons_succ]
      refine batchG hfn (fuel := 5) [12, 13, 14, 15, 16] (by kernel_rfl) rfl ?_
      repeat (go_big_quiet_step ((fail)))
      refine wpQuiet_nil ?_
      refine wpAnyG_skip hfn (j := 17) (by kernel_rfl) rfl rfl ?_
      simp only [Act.put, List.setIfInBounds_toArray, List.set_cons_zero, List.set_cons_succ]
      refine wpAnyG_skip hfn (j := 18) (by kernel_rfl) rfl rfl ?_
      simp only [Act.put, List.setIfInBounds_toArray, List.set_cons_zero, List.set_cons_succ]
      refine batchG hfn (fuel := 0) [19, 20, 21] (by kernel_rfl) rfl ?_
      repeat (go_big_quiet_step ((fail)))
      refine wpQuiet_nil ?_
      refine wpAnyG_done (by kernel_rfl) ?_
      refine calmQ_normal ?_
      gi_wp2
      go_ret
      obtain ⟨r', hr'⟩ := hq
      exact .inr ⟨rfl, q, ⟨r' ++ .node b tl k v g tr :: tl.inr, by simp [Tr.inr, ← hr']⟩, hJx2⟩
end Go.Proofs.Ytejknkhahjgdnaa
namespace Go.Proofs.Ytejknkhahjgdnaa
open Go Go.RowKit Go.Shelf
attribute [local go_sem] Oper.semAt_some

theorem ext_abides {β : Type} {B : Nat} {J : β → World → Prop} (hJ : AbidesFrom B J) {s : β} {W W' : World} (h : J s W) (hE : Ext W W') : J s W' :=
  hJ s W W' none h ⟨hE.os, hE.tape, hE.output, Below.size hE, fun k hk _ => Below.block hE k hk⟩ (fun r e => by cases e)
/-- lists of what has a property, as lists. -/
def UnderP {Px : Tr → Prop} (J : List { x : Tr // Px x } → World → Prop) (l : List Tr) (W : World) : Prop := ∃ l' : List { x : Tr // Px x }, l'.map (·.1) = l ∧ J l' W
set_option maxHeartbeats 1000000 in
/-- what look.nodes hands back goes over a tree's nodes, from left to right. -/
theorem goesL_stops
 (M : Nat → Prop) (Px : Tr → Prop) (n ba bb bt : Nat) (T : Tr) (w : World) (hM : ∀ i, M i → i < w.heap.size) (hba : Boxed w ba 92 (.func (.func 43) #[] #[])) (hbb : Boxed w bb 92 (.func (.func 44) #[] #[])) (hbt : Boxed w bt 43 (.pointer T.ptr))
    (ha0 : ¬ M ba) (hb0 : ¬ M bb) (hT : InH w T) (ho : Off M T) (hP : ∀ x ∈ T.inl, Px x) :
    SeqStopsK Fence.wide n Try.prog 85 #[.pointer (some ⟨ba, 0, none⟩), .pointer (some ⟨bb, 0, none⟩), .pointer (some ⟨bt, 0, none⟩)] (fun x : { x : Tr // Px x } => #[Value.pointer x.1.ptr]) (Keep M) (fun ys => ys.map (·.1) = T.inl) (fun q => q.map (·.1) <+: T.inl) (T.inl).length w := by
  intro l J Jx W hW hJ hJx hY h0
  have hE : Ext w W := hW
  have hsz : w.heap.size ≤ W.heap.size := hW.size
  have hW2 : Ext W ((W.alloc (.cells #[.func (.yield l) #[] #[]] 76)).alloc (.cells #[.func (.func 86) #[] #[.pointer (some ⟨W.heap.size + 1, 0, none⟩), .pointer (some ⟨ba, 0, none⟩), .pointer (some ⟨W.heap.size, 0, none⟩), .pointer (some ⟨bb, 0, none⟩)]] 76)) := ((Ext.refl W).alloc _).alloc _
  have hon := (lookOnL_in M Px l (T.inl).length W.heap.size (W.heap.size + 1) ba bb (UnderP J) (UnderP Jx) (fun h => by have := hM _ h; omega) (fun h => by have := hM _ h; omega) ha0 hb0
    (fun m pre x W hx ⟨l', hl', hj⟩ hl => YieldAt.any m (YieldAt.mono (hY l' ⟨x, hx⟩ W hj (by rw [← hl'] at hl; simpa using hl)) fun e W' h => h.elim
      (fun ⟨he, h1, h2⟩ => .inl ⟨he, ⟨l' ++ [⟨x, hx⟩], by simp [hl'], h1⟩, h2⟩) (fun ⟨he, h1⟩ => .inr ⟨he, ⟨l' ++ [⟨x, hx⟩], by simp [hl'], h1⟩⟩)))
    (fun pre W W' ⟨l', hl', h⟩ hE => ⟨l', hl', ext_abides hJ h hE⟩) T (n - 1) [] _ ((hT.ext hE).ext hW2) ho hP ⟨[], rfl, ext_abides hJ h0 hW2⟩ (by simp)
    ((Boxed.new W _ _).alloc _) (by have := Boxed.new (W.alloc (.cells #[.func (.yield l) #[] #[]] 76)) 76 (.func (.func 86) #[] #[.pointer (some ⟨W.heap.size + 1, 0, none⟩), .pointer (some ⟨ba, 0, none⟩), .pointer (some ⟨W.heap.size, 0, none⟩), .pointer (some ⟨bb, 0, none⟩)]); simpa using this) ((hE.trans hW2).get hba) ((hE.trans hW2).get hbb))
  have Hon := Lib.hid hon
  clear hon hY hP
  have hcb := (show Boxed W bt _ _ from hE.get hbt).cell
  have hlb := (show Boxed W bt _ _ from hE.get hbt).lt
  have hfn : ∀ f, Fence.wide.fn f := fun _ => trivial
  refine callsIn_of_wp Try.func85 rfl trivial ?_ rfl
  simp only [Try.ntmps85, List.size_toArray, List.length_cons, List.length_nil, Nat.reduceAdd, Nat.reduceSub, Array.replicate_succ, Array.replicate_zero, List.push_toArray, List.append_toArray, List.nil_append, List.cons_append]
  gi_wp2_with fail
  refine ⟨wide_room _, Hon.out.mono ?_⟩
  rintro e W1 (⟨rfl, ⟨l', hl', hJ1⟩, -⟩ | ⟨rfl, q, hq, l', hl', hJ1⟩)
  · gi_wp2
    go_end0
    exact ⟨⟨_, rfl⟩, .inl ⟨_, by simpa using hl', hJ1⟩⟩
  · gi_wp2
    go_end0
    exact ⟨⟨_, rfl⟩, .inr ⟨l', by rw [hl']; simpa using hq, hJ1⟩⟩
set_option maxHeartbeats 1000000 in
theorem goesR_stops
 (M : Nat → Prop) (Px : Tr → Prop) (n ba bb bt : Nat) (T : Tr) (w : World) (hM : ∀ i, M i → i < w.heap.size) (hba : Boxed w ba 92 (.func (.func 44) #[] #[])) (hbb : Boxed w bb 92 (.func (.func 43) #[] #[])) (hbt : Boxed w bt 43 (.pointer T.ptr))
    (ha0 : ¬ M ba) (hb0 : ¬ M bb) (hT : InH w T) (ho : Off M T) (hP : ∀ x ∈ T.inr, Px x) :
    SeqStopsK Fence.wide n Try.prog 85 #[.pointer (some ⟨ba, 0, none⟩), .pointer (some ⟨bb, 0, none⟩), .pointer (some ⟨bt, 0, none⟩)] (fun x : { x : Tr // Px x } => #[Value.pointer x.1.ptr]) (Keep M) (fun ys => ys.map (·.1) = T.inr) (fun q => q.map (·.1) <+: T.inr) (T.inr).length w := by
  intro l J Jx W hW hJ hJx hY h0
  have hE : Ext w W := hW
  have hsz : w.heap.size ≤ W.heap.size := hW.size
  have hW2 : Ext W ((W.alloc (.cells #[.func (.yield l) #[] #[]] 76)).alloc (.cells #[.func (.func 86) #[] #[.pointer (some ⟨W.heap.size + 1, 0, none⟩), .pointer (some ⟨ba, 0, none⟩), .pointer (some ⟨W.heap.size, 0, none⟩), .pointer (some ⟨bb, 0, none⟩)]] 76)) := ((Ext.refl W).alloc _).alloc _
  have hon := (lookOnR_in M Px l (T.inr).length W.heap.size (W.heap.size + 1) ba bb (UnderP J) (UnderP Jx) (fun h => by have := hM _ h; omega) (fun h => by have := hM _ h; omega) ha0 hb0
    (fun m pre x W hx ⟨l', hl', hj⟩ hl => YieldAt.any m (YieldAt.mono (hY l' ⟨x, hx⟩ W hj (by rw [← hl'] at hl; simpa using hl)) fun e W' h => h.elim
      (fun ⟨he, h1, h2⟩ => .inl ⟨he, ⟨l' ++ [⟨x, hx⟩], by simp [hl'], h1⟩, h2⟩) (fun ⟨he, h1⟩ => .inr ⟨he, ⟨l' ++ [⟨x, hx⟩], by simp [hl'], h1⟩⟩)))
    (fun pre W W' ⟨l', hl', h⟩ hE => ⟨l', hl', ext_abides hJ h hE⟩) T (n - 1) [] _ ((hT.ext hE).ext hW2) ho hP ⟨[], rfl, ext_abides hJ h0 hW2⟩ (by simp)
    ((Boxed.new W _ _).alloc _) (by have := Boxed.new (W.alloc (.cells #[.func (.yield l) #[] #[]] 76)) 76 (.func (.func 86) #[] #[.pointer (some ⟨W.heap.size + 1, 0, none⟩), .pointer (some ⟨ba, 0, none⟩), .pointer (some ⟨W.heap.size, 0, none⟩), .pointer (some ⟨bb, 0, none⟩)]); simpa using this) ((hE.trans hW2).get hba) ((hE.trans hW2).get hbb))
  have Hon := Lib.hid hon
  clear hon hY hP
  have hcb := (show Boxed W bt _ _ from hE.get hbt).cell
  have hlb := (show Boxed W bt _ _ from hE.get hbt).lt
  have hfn : ∀ f, Fence.wide.fn f := fun _ => trivial
  refine callsIn_of_wp Try.func85 rfl trivial ?_ rfl
  simp only [Try.ntmps85, List.size_toArray, List.length_cons, List.length_nil, Nat.reduceAdd, Nat.reduceSub, Array.replicate_succ, Array.replicate_zero, List.push_toArray, List.append_toArray, List.nil_append, List.cons_append]
  gi_wp2_with fail
  refine ⟨wide_room _, Hon.out.mono ?_⟩
  rintro e W1 (⟨rfl, ⟨l', hl', hJ1⟩, -⟩ | ⟨rfl, q, hq, l', hl', hJ1⟩)
  · gi_wp2
    go_end0
    exact ⟨⟨_, rfl⟩, .inl ⟨_, by simpa using hl', hJ1⟩⟩
  · gi_wp2
    go_end0
    exact ⟨⟨_, rfl⟩, .inr ⟨l', by rw [hl']; simpa using hq, hJ1⟩⟩
/-- what look.goes lays into memory. -/
def goesW (w : World) (p : Option Addr) (fa fb : Value) : World := ((w.alloc (.cells #[.pointer p] 43)).alloc (.cells #[fa] 92)).alloc (.cells #[fb] 92)
def goesV (N : Nat) : Value := .func (.func 85) #[] #[.pointer (some ⟨N + 1, 0, none⟩), .pointer (some ⟨N + 1 + 1, 0, none⟩), .pointer (some ⟨N, 0, none⟩)]
theorem goesW_all (w : World) (p : Option Addr) (fa fb : Value) : Ext w (goesW w p fa fb) ∧ (goesW w p fa fb).heap.size = w.heap.size + 3 ∧ Boxed (goesW w p fa fb) w.heap.size 43 (.pointer p) ∧ Boxed (goesW w p fa fb) (w.heap.size + 1) 92 fa ∧ Boxed (goesW w p fa fb) (w.heap.size + 1 + 1) 92 fb := by
  refine ⟨(((Ext.refl w).alloc _).alloc _).alloc _, by simp [goesW], ?_, ?_, ?_⟩ <;> unfold goesW <;> (try unfold Boxed) <;> (repeat (first | exact alloc_at _ _ _ (by simp) | rw [alloc_lt _ _ _ (by simp <;> omega)]))
theorem goes_any (w : World) (p : Option Addr) (f g : Nat) : Calls Try.prog 66 #[.pointer p, .func (.func f) #[] #[], .func (.func g) #[] #[]] w fun e w' => e = .returned (goesV w.heap.size) ∧ w' = goesW w p (.func (.func f) #[] #[]) (.func (.func g) #[] #[]) := by
  go_enter Try.func66, Try.ntmps66
  go_wp2
  go_ret
  exact ⟨rfl, rfl⟩
theorem nodes_any (w : World) (p : Option Addr) : Calls Try.prog 45 #[.pointer p] w fun e w' => e = .returned (goesV w.heap.size) ∧ w' = goesW w p (.func (.func 43) #[] #[]) (.func (.func 44) #[] #[]) := by
  have HG := Lib.hid (goes_any w p 43 44)
  go_enter Try.func45, Try.ntmps45
  go_wp2_with fail
  refine HG.out.mono ?_
  rintro e w1 ⟨rfl, rfl⟩
  go_wp2
  go_ret
  exact ⟨rfl, rfl⟩
/-- how high a tree is. -/
def hgt : Tr → Int
  | .nil => 0
  | .node _ l _ _ _ r => wrap64 (1 + max (hgt l) (hgt r))
set_option maxHeartbeats 1000000 in
theorem lookHeight_any (t : Tr) : ∀ (w : World), InH w t → Calls Try.prog 20 #[.pointer t.ptr] w (Ret (.int .i64 (hgt t)) w) := by
  induction t with
  | nil =>
    intro w _
    rw [Tr.ptr_nil]
    go_enter Try.func20, Try.ntmps20
    go_wp2
    go_ret
    exact Ret.mk (Ext.refl _)
  | node b l k v g r ihl ihr =>
    intro w ht
    have Hl := Lib.hid ihl
    have Hr := Lib.hid ihr
    clear ihl ihr
    have HT := Lib.hid ht
    have e : hgt (.node b l k v g r) = wrap64 (1 + max (hgt l) (hgt r)) := rfl
    rw [e, Tr.ptr_node]
    clear e ht
    rcases Int.lt_or_le (hgt l) (hgt r) with c | c
    · have hm : max (hgt l) (hgt r) = hgt r := by omega
      have HM := Lib.hid hm
      clear hm
      go_enter Try.func20, Try.ntmps20
      go_wp2_with fail
      rw [← Tr.ptr_node b l k v g r]
      refine (left_any w (.node b l k v g r) HT.out).mono ?_
      rintro e w1 ⟨rfl, h1⟩
      rw [Tr.left_node, Tr.ptr_node]
      go_wp2_with fail
      refine (Hl.out w1 (HT.out.ext h1).2.1).mono ?_
      rintro e w2 ⟨rfl, h2⟩
      have h12 := h1.trans h2
      clear h1 h2
      go_wp2_with fail
      rw [← Tr.ptr_node b l k v g r]
      refine (right_any w2 (.node b l k v g r) (HT.out.ext h12)).mono ?_
      rintro e w3 ⟨rfl, h3⟩
      rw [Tr.right_node, Tr.ptr_node]
      have h13 := h12.trans h3
      clear h12 h3
      go_wp2_with fail
      refine (Hr.out w3 (HT.out.ext h13).2.2).mono ?_
      rintro e w4 ⟨rfl, h4⟩
      go_wp2
      go_ret
      exact ⟨by rw [HM.out]; rfl, h13.trans h4⟩
    · have hm : max (hgt l) (hgt r) = hgt l := by omega
      have HM := Lib.hid hm
      clear hm
      go_enter Try.func20, Try.ntmps20
      go_wp2_with fail
      rw [← Tr.ptr_node b l k v g r]
      refine (left_any w (.node b l k v g r) HT.out).mono ?_
      rintro e w1 ⟨rfl, h1⟩
      rw [Tr.left_node, Tr.ptr_node]
      go_wp2_with fail
      refine (Hl.out w1 (HT.out.ext h1).2.1).mono ?_
      rintro e w2 ⟨rfl, h2⟩
      have h12 := h1.trans h2
      clear h1 h2
      go_wp2_with fail
      rw [← Tr.ptr_node b l k v g r]
      refine (right_any w2 (.node b l k v g r) (HT.out.ext h12)).mono ?_
      rintro e w3 ⟨rfl, h3⟩
      rw [Tr.right_node, Tr.ptr_node]
      have h13 := h12.trans h3
      clear h12 h3
      go_wp2_with fail
      refine (Hr.out w3 (HT.out.ext h13).2.2).mono ?_
      rintro e w4 ⟨rfl, h4⟩
      go_wp2
      go_ret
      exact ⟨by rw [HM.out]; rfl, h13.trans h4⟩
theorem wrap64_up (a : Int) : wrap64 (wrap64 a + 1) = wrap64 (a + 1) := by unfold wrap64; omega
theorem results_box {fn : Func} {t : Tmp} {A : TypeId} (h : fn.results = #[.cell t A]) (tmps : Array Value) (w : World) {a : Value} {p : Addr} (ht : tmps.getD t undef = .pointer (some p))
    (hA : ∀ w : World, (isAgg A).run Try.prog w = .ok false w) (hp : w.cell? p = some a) :
    (results fn tmps).run Try.prog w = .ok a w := by
  simp only [Array.getD_eq_getD_getElem?] at ht
  simp [results, h, ht, loadVar, hA, asAddr, hp]
/-- a function's end, whose one result lies in a box of its own that has been written once more, behind a range over a function. -/
theorem one_end {w W0 W : World} {N D : Nat} {t : TypeId} {a : Value} (hN : w.heap.size = N) (hE : Ext w W0) (hb : Below N W0 W) (hD : W0.heap.size ≤ D) (hK : W.heap[D]? = some (.deferred (some []))) (h1 : Boxed W N t a) (hs : N + 1 ≤ W0.heap.size) :
    (W.setCell ⟨N, 0, none⟩ a).heap[D]? = some (.deferred (some [])) ∧ ((W.setCell ⟨N, 0, none⟩ a).putObj D (.deferred none)).cell? ⟨N, 0, none⟩ = some a ∧ Ext w ((W.setCell ⟨N, 0, none⟩ a).putObj D (.deferred none)) := by
  have hk : (W.setCell ⟨N, 0, none⟩ a).heap[D]? = some (.deferred (some [])) := (KeepsOthers.setCell _ _ _).same D _ hK rfl
  refine ⟨hk, (Boxed.kept (h1.set a) (grownBy_putObj' _ D _) (by simp; omega)).cell, ?_⟩
  have hB : Below N w W0 := by have := hE; unfold Ext at this; rwa [hN] at this
  have hB2 := (hB.trans hb).setCell (p := ⟨N, 0, none⟩) (Nat.le_refl N) a
  have := hB2.trans (belowK_b (w := W0) (n₀ := N) (by omega) _ D _ (.deferred none) hD hk rfl rfl)
  unfold Ext
  rwa [hN]
/-- the world ahead of Count's loop. -/
def cntW (w : World) (p : Option Addr) : World := goesW (w.alloc (.cells #[.int .i64 0] 3)) p (.func (.func 43) #[] #[]) (.func (.func 44) #[] #[])
theorem cntW_all (w : World) (p : Option Addr) : Ext w (cntW w p) ∧ (cntW w p).heap.size = w.heap.size + 4 ∧ Boxed (cntW w p) w.heap.size 3 (.int .i64 0) ∧ Boxed (cntW w p) (w.heap.size + 1) 43 (.pointer p) ∧
    Boxed (cntW w p) (w.heap.size + 1 + 1) 92 (.func (.func 43) #[] #[]) ∧ Boxed (cntW w p) (w.heap.size + 1 + 1 + 1) 92 (.func (.func 44) #[] #[]) := by
  refine ⟨((((Ext.refl w).alloc _).alloc _).alloc _).alloc _, by simp [cntW, goesW], ?_, ?_, ?_, ?_⟩ <;> unfold cntW goesW <;> (try unfold Boxed) <;> (repeat (first | exact alloc_at _ _ _ (by simp) | rw [alloc_lt _ _ _ (by simp <;> omega)]))
set_option maxRecDepth 100000 in
set_option maxHeartbeats 2000000 in
theorem lookCount_in (n : Nat) (hn : Hid (1 ≤ n)) (T : Tr) (w : World) (hT : InH w T) : CallsIn Fence.wide n Try.prog 21 #[.pointer T.ptr] w (Ret (.int .i64 (wrap64 T.inl.length)) w) := by
  have hfn : ∀ f, Fence.wide.fn f := fun _ => trivial
  refine callsIn_of_wp_marks Try.func21 rfl trivial ?_ rfl
  simp only [Try.ntmps21, List.size_toArray, List.length_cons, List.length_nil, Nat.reduceAdd, Nat.reduceSub, Array.replicate_succ, Array.replicate_zero, List.push_toArray, List.append_toArray, List.nil_append, List.cons_append]
  gi_wp2_with fail
  gi_wp2_with fail
  refine ⟨wide_room _, (callsIn_wide.2 (nodes_any _ _)).mono ?_⟩
  rintro e w1 ⟨rfl, rfl⟩
  gi_wp2_with fail
  change Code.wpIn _ _ _ _ _ _ (cntW w T.ptr)
  obtain ⟨hE, hsz, hat, htb, hba, hbb⟩ := cntW_all w T.ptr
  generalize cntW w T.ptr = W0 at *
  unfold goesV
  generalize hN : w.heap.size = N at *
  have HN := Lib.hid hN
  clear hN
  refine wpIn_rangeFunc_ownG rfl (n := n) (w := W0) hn.out (gf := 85) (lb := #[.pointer (some ⟨N + 1 + 1, 0, none⟩), .pointer (some ⟨N + 1 + 1 + 1, 0, none⟩), .pointer (some ⟨N + 1, 0, none⟩)]) rfl trivial (enters_of Try.func85 (by kernel_rfl) rfl)
    (goesL_stops (fun i => i = N) (fun _ => True) (n - 1) _ _ _ T W0 (by omega) hba hbb htb (by omega) (by omega) (hT.ext hE) (InH.off (fun i h => by rw [HN.out]; omega) hT) (fun _ _ => trivial))
    (fun h k => Keep.trans h k) (fun W l o o' _ h ho _ => Keep.putObj W l o o' h ho) (RowKit.Below.refl _ _) (fun _ => rfl)
    (fun pre W => Boxed W N 3 (.int .i64 (wrap64 pre.length)) ∧ Below N W0 W)
    (fun c pre W => False)
    ?own ?ownx ⟨(by simpa [wrap64] using hat), Below.refl _ _⟩ (fun x => { tmps := #[Value.pointer T.ptr, undef, Value.pointer (some ⟨N, 0, none⟩), Value.pointer T.ptr, Value.func (Fn.func 85) #[] #[.pointer (some ⟨N + 1 + 1, 0, none⟩), .pointer (some ⟨N + 1 + 1 + 1, 0, none⟩), .pointer (some ⟨N + 1, 0, none⟩)], Value.pointer x.1.ptr, undef, undef, undef], defers := [] }) ?assign ?body ?done ?stop
  case own =>
    rintro s A A' row ⟨h1, h5⟩ hg hr
    exact ⟨boxed_grown h1 hg hr, below_grown (by omega) (by omega) h5 hg hr⟩
  case ownx =>
    rintro c s A A' row h hg hr
    exact h
  case assign =>
    intro l x W K hK
    gi_wp2
    simpa using hK
  case body =>
    rintro l pre x W ⟨hat, hb⟩ _
    have HB := Lib.hid (And.intro hat hb)
    have hce := hat.cell
    have hfe := hat.frozen
    clear hat hb hsz htb hba hbb
    gi_wp2
    refine ⟨keepsFrom_set _ _ _, Keep.setCell _ _ _ rfl, ?_, HB.out.2.setCell (p := ⟨N, 0, none⟩) (Nat.le_refl N) _⟩
    have := HB.out.1.set (.int .i64 (wrap64 (wrap64 pre.length + 1)))
    rw [wrap64_up] at this ⊢
    rw [List.length_append]
    exact this
  case done =>
    rintro D ys W hD hys ⟨hat, hb⟩ hK
    have HB := Lib.hid (And.intro hat hb)
    have HD := Lib.hid (And.intro hD hK)
    have hce := hat.cell
    have hfe := hat.frozen
    clear hat hb htb hba hbb hD hK
    gi_wp2
    obtain ⟨f1, f2, f4⟩ := one_end HN.out hE HB.out.2 HD.out.1 HD.out.2 HB.out.1 (by omega)
    refine ⟨by simp, .inl ⟨_, _, rfl, run_takeDeferred f1, ?_⟩⟩
    refine ⟨_, results_box rfl _ _ rfl (fun _ => by kernel_rfl) f2, ?_, f4⟩
    have e : ys.length = T.inl.length := by rw [← hys, List.length_map]
    rw [e]
  case stop =>
    rintro D c q W hD hq h hK
    exact h.elim
/-- **look.Count**, of any tree. -/
theorem lookCount_any (w : World) (T : Tr) (hT : InH w T) : Calls Try.prog 21 #[.pointer T.ptr] w (Ret (.int .i64 (wrap64 T.inl.length)) w) :=
  callsIn_wide.1 (lookCount_in 9 (Lib.hid (by omega)) T w hT)
end Go.Proofs.Ytejknkhahjgdnaa
namespace Go.Proofs.Ytejknkhahjgdnaa
open Go Go.RowKit

def soundB (s : Int) (T : Tr) : Bool := if s = 1 then avlMay T else if s = 2 then rbMay T else wbMay T
set_option maxHeartbeats 1000000 in
theorem sound34_any (w : World) (s : Int) (T : Tr) (hT : InH w T) (ho : TagsOk T) (hc : T.count ≤ 4000) : Calls Try.prog 22 #[.int .u8 s, .pointer T.ptr] w (Ret (.bool (soundB s T)) w) := by
  have H := Lib.hid (And.intro hT (And.intro ho hc))
  obtain ⟨B, hB⟩ : ∃ B, soundB s T = B := ⟨_, rfl⟩
  rw [hB]
  unfold soundB at hB
  have HB := Lib.hid hB
  clear hT ho hc hB
  by_cases h1 : s = 1
  · subst h1
    go_enter Try.func22, Try.ntmps22
    go_wp2_with fail
    refine (avlMay_any w T H.out.1).mono ?_
    rintro e w1 ⟨rfl, h1⟩
    go_wp2
    go_ret
    exact ⟨by rw [← HB.out]; rfl, h1⟩
  · by_cases h2 : s = 2
    · subst h2
      go_enter Try.func22, Try.ntmps22
      go_wp2_with fail
      refine (rbMay_any w T H.out.1 H.out.2.1).mono ?_
      rintro e w1 ⟨rfl, h1⟩
      go_wp2
      go_ret
      exact ⟨by rw [← HB.out]; rfl, h1⟩
    · have k1 : (s == 1) = false := by simpa using h1
      have k2 : (s == 2) = false := by simpa using h2
      have E := Lib.hid (show (if s = 1 then avlMay T else if s = 2 then rbMay T else wbMay T) = wbMay T by rw [if_neg h1, if_neg h2])
      go_enter Try.func22, Try.ntmps22
      go_wp2_with fail
      refine (wbMay_any w T H.out.1 H.out.2.2).mono ?_
      rintro e w1 ⟨rfl, h1⟩
      go_wp2
      go_ret
      exact ⟨by rw [← HB.out, E.out]; rfl, h1⟩
theorem hgt_ht : ∀ T : Tr, T.ht < 4611686018427387904 → hgt T = T.ht
  | .nil, _ => rfl
  | .node b l k v g r, h => by
    rw [Tr.ht] at h ⊢
    rw [hgt, hgt_ht l (by omega), hgt_ht r (by omega)]
    unfold wrap64; omega
theorem inl_count : ∀ T : Tr, T.inl.length = T.count
  | .nil => rfl
  | .node b l k v g r => by
    rw [Tr.count_node, Tr.inl, List.length_append, List.length_cons, inl_count l, inl_count r]; omega
/-- look.Height and look.Count, of a tree that is not too large. -/
theorem height_small (w : World) (T : Tr) (hT : InH w T) (hc : T.count ≤ 100000) : Calls Try.prog 20 #[.pointer T.ptr] w (Ret (.int .i64 T.ht) w) := by
  have := lookHeight_any T w hT
  rwa [hgt_ht T (by have := Tr.ht_count T; omega)] at this
theorem count_small (w : World) (T : Tr) (hT : InH w T) (hc : T.count ≤ 100000) : Calls Try.prog 21 #[.pointer T.ptr] w (Ret (.int .i64 T.count) w) := by
  have := lookCount_any w T hT
  rwa [inl_count, show wrap64 (T.count : Nat) = T.count by unfold wrap64; omega] at this
/-- how high beads are. -/
def BT.ht : BT → Nat
  | .nil => 0
  | .node _ _ _ _ _ l r => 1 + max l.ht r.ht
theorem fits_ht : ∀ {t : BT} {T : Tr}, t.fits T → T.ht = t.ht
  | .nil, .nil, _ => rfl
  | .nil, .node .., h => h.elim
  | .node .., .nil, h => h.elim
  | .node .., .node .., h => by rw [Tr.ht, BT.ht, fits_ht h.2.2.2.1, fits_ht h.2.2.2.2]
theorem lean_all0 : ∀ s, s < 3 → ∀ h, h < 10 → (leanF (s + 1) 10 h).enc.length = lstS (s + 1) h ∧ (leanF (s + 1) 10 h).ht = h ∧ lstS (s + 1) h ≤ 100 ∧ lstS (s + 1) h < lstS (s + 1) (h + 1) ∧ (h = 0 ∨ (lstS (s + 1) (h - 1) < lstS (s + 1) h ∧ 1 ≤ lstS (s + 1) h)) := by decide +kernel
theorem lean_all (s : Nat) (hs : s < 4) (h1 : 1 ≤ s) (h : Nat) (hh : h < 10) : (leanF s 10 h).enc.length = lstS s h ∧ (leanF s 10 h).ht = h ∧ lstS s h ≤ 100 ∧ lstS s h < lstS s (h + 1) ∧ (h = 0 ∨ (lstS s (h - 1) < lstS s h ∧ 1 ≤ lstS s h)) := by
  obtain ⟨k, rfl⟩ : ∃ k, s = k + 1 := ⟨s - 1, by omega⟩
  exact lean_all0 k (by omega) h hh
theorem wb_tags : ∀ {T : Tr}, WbH T → TagsOk T
  | .nil, _ => trivial
  | .node _ l _ _ g r, ⟨h1, h2, h3, _⟩ => ⟨by omega, by omega, wb_tags h2, wb_tags h3⟩
/-- the leanest trees may be. -/
theorem lean_law {s h : Nat} {T : Tr} (hs1 : 1 ≤ s) (hs3 : s ≤ 3) (hh : h < 10) (ht : (leanF s 10 h).fits T) : soundB s T = true ∧ T.ht = h ∧ T.count = lstS s h ∧ TagsOk T := by
  obtain ⟨a1, a2, a3, -⟩ := lean_all s (by omega) hs1 h hh
  have hc := fits_count ht
  rw [a1] at hc
  refine ⟨?_, by rw [fits_ht ht, a2], hc, ?_⟩
  · have : s = 1 ∨ s = 2 ∨ s = 3 := by omega
    rcases this with rfl | rfl | rfl
    · exact ((leanF_avl 10 h T (by omega) ht).may (by omega)).1
    · exact (leanF_rb 10 h T (by omega) (by omega) ht).may (by omega)
    · exact (leanF_wb 10 h T (by omega) (by omega) ht).may (by omega)
  · have : s = 1 ∨ s = 2 ∨ s = 3 := by omega
    rcases this with rfl | rfl | rfl
    · exact ((leanF_avl 10 h T (by omega) ht).may (by omega)).2
    · exact (leanF_rb 10 h T (by omega) (by omega) ht).tags (by omega)
    · exact wb_tags (leanF_wb 10 h T (by omega) (by omega) ht)
end Go.Proofs.Ytejknkhahjgdnaa
namespace Go.Proofs.Ytejknkhahjgdnaa
open Go Go.RowKit

/-- just the least: the height itself is the greatest. -/
theorem most_tight {s h : Nat} (hs : 1 ≤ s ∧ s ≤ 3) (hh : h < 10) : IsMost s (lstS s h) h :=
  ⟨by omega, fun j _ hj => lstS_mono ⟨hs.1, by omega⟩ hj, .inr (lstS_up ⟨hs.1, by omega⟩)⟩
theorem most_below {s h : Nat} (hs : 1 ≤ s ∧ s ≤ 3) (hh : h < 10) : IsMost s (lstS s (h + 1) - 1) h := by
  have hu := lstS_up (s := s) (h := h) ⟨hs.1, by omega⟩
  refine ⟨by omega, fun j _ hj => ?_, .inr (by omega)⟩
  have := lstS_mono (s := s) ⟨hs.1, by omega⟩ hj
  omega
theorem may_below {s h : Nat} (hs : 1 ≤ s ∧ s ≤ 3) : bmayB s ((h + 1 : Nat) : Int) ((lstS s (h + 1) - 1 : Nat) : Int) = false := by
  have hu := lstS_up (s := s) (h := h) ⟨hs.1, by omega⟩
  have e : bwithinB s ((h + 1 : Nat) : Int) (lstS s (h + 1) - 1) = false := by
    unfold bwithinB
    cases k : okH s ((h + 1 : Nat) : Int) with
    | false => rfl
    | true => rw [(lst_ok k).2, Int.toNat_natCast, Int.toNat_natCast]; simp; omega
  unfold bmayB
  rw [Int.toNat_natCast, e]; simp
set_option maxRecDepth 100000 in
set_option maxHeartbeats 1500000 in
theorem boundTight_nat (x g : Nat) (w : World) (hx : x < 256) (hg : g < 256) :
    Calls Try.prog 6 #[.int .u8 (x : Nat), .int .u8 (g : Nat)] w (Ret (.bool true) w) := by
  obtain ⟨S, hS⟩ : ∃ S, S = 1 + x % 3 := ⟨_, rfl⟩
  obtain ⟨K, hK⟩ : ∃ K, K = g % 10 := ⟨_, rfl⟩
  have HS := Lib.hid (show 1 ≤ S ∧ S ≤ 3 by omega)
  have hS2 : 1 + (x : Int) % 3 = (S : Int) := by omega
  have hK2 : (g : Int) % 10 = (K : Int) := by omega
  have hK3 : K < 10 := by omega
  have hS3 : S ≤ 3 := HS.out.2
  have HK := Lib.hid hK3
  have HL := Lib.hid (lean_all S (by omega) HS.out.1 K hK3)
  have HOK := Lib.hid (okH_small (s := S) (h := K) ⟨HS.out.1, by omega⟩ (by omega))
  have HM1 := Lib.hid (most_tight HS.out hK3)
  have HN := Lib.hid (show K = 0 → lstS S K = 0 from fun h => by
    subst h
    have : ∀ s, s < 4 → lstS s 0 = 0 := by decide +kernel
    exact this S (by omega))
  have HM2 := Lib.hid (show 1 ≤ K → IsMost S (lstS S K - 1) (K - 1) ∧ bmayB S (K : Int) ((lstS S K - 1 : Nat) : Int) = false from fun h => by
    obtain ⟨k, rfl⟩ : ∃ k, K = k + 1 := ⟨K - 1, by omega⟩
    exact ⟨most_below HS.out (by omega), may_below HS.out⟩)
  have HQ := Lib.hid (show 1 ≤ K → 1 ≤ lstS S K from fun h => by rcases HL.out.2.2.2.2 with k | k <;> omega)
  have HLE := Lib.hid (fun w => lean_any S HS.out.1 HS.out.2 10 (K : Int) K w (by omega) (by omega) (by omega) (by omega))
  have HLL := Lib.hid (show (leanF S 10 K).enc.length ≤ 100 by rw [HL.out.1]; exact HL.out.2.2.1)
  have HLW := Lib.hid (fun T hF => lean_law (T := T) HS.out.1 HS.out.2 HK.out hF)
  replace HL := Lib.hid HL.out.2.2.1
  generalize leanF S 10 K = t at *
  clear hS hK
  go_enter Try.func6, Try.ntmps6
  go_wp2_with fail
  refine (HLE.out w).mono ?_
  rintro r w1 ⟨v1, rfl, o1, h1⟩
  have HB := Lib.hid o1.beads
  have HX := Lib.hid h1
  clear o1 h1
  go_wp2_with fail
  refine (beadsMake_any _ w1 v1 HB.out (by have := HLL.out; omega)).mono ?_
  rintro r w2 ⟨T, rfl, hT, hF, h2⟩
  replace HX := Lib.hid (HX.out.trans h2)
  obtain ⟨t1, t2, t3, t4⟩ := HLW.out T hF
  have HT := Lib.hid hT
  have HO := Lib.hid t4
  have HC := Lib.hid (show T.count ≤ 4000 by have := HL.out; omega)
  have HSO := Lib.hid t1
  have H2 := Lib.hid (And.intro t2 t3)
  clear hT hF h2 t1 t2 t3 t4 HB
  go_wp2_with fail
  refine (count_small w2 T HT.out (by have := HC.out; omega)).mono ?_
  rw [H2.out.2]
  rintro r w3 ⟨rfl, h3⟩
  replace HX := Lib.hid (HX.out.trans h3)
  replace HT := Lib.hid (HT.out.ext h3)
  clear h3
  have hn100 := HL.out
  have hnn := HN.out
  generalize hNN : lstS S K = n at *
  have HNN := Lib.hid hNN
  clear hNN
  go_wp2_with fail
  refine (least_ok w3 S K HOK.out).mono ?_
  rintro r w4 ⟨a, rfl, n4, h4⟩
  replace HX := Lib.hid (HX.out.trans h4)
  replace HT := Lib.hid (HT.out.ext h4)
  have HA := Lib.hid n4
  clear n4 h4
  go_wp2_with fail
  refine ((most_any w4 S n).mono fun _ _ k => mosts_is HS.out (by omega) k HM1.out).mono ?_
  rintro r w5 ⟨rfl, h5⟩
  replace HX := Lib.hid (HX.out.trans h5)
  replace HT := Lib.hid (HT.out.ext h5)
  replace HA := Lib.hid (HA.out.ext h5)
  clear h5
  go_wp2_with fail
  refine (sound34_any w5 S T HT.out HO.out HC.out).mono ?_
  rw [HSO.out]
  rintro r w6 ⟨rfl, h6⟩
  replace HX := Lib.hid (HX.out.trans h6)
  replace HT := Lib.hid (HT.out.ext h6)
  replace HA := Lib.hid (HA.out.ext h6)
  clear h6
  go_wp2_with fail
  refine (height_small w6 T HT.out (by have := HC.out; omega)).mono ?_
  rw [H2.out.1]
  rintro r w7 ⟨rfl, h7⟩
  replace HX := Lib.hid (HX.out.trans h7)
  replace HA := Lib.hid (HA.out.ext h7)
  clear h7
  go_wp2_with fail
  refine (from_any w7 n (by omega)).mono ?_
  rintro r w8 ⟨u, rfl, n8, h8⟩
  replace HX := Lib.hid (HX.out.trans h8)
  replace HA := Lib.hid (And.intro (HA.out.ext h8) n8)
  clear n8 h8
  go_wp2_with fail
  refine (sameN_num w8 a u n (by have := HA.out.1; rwa [HNN.out] at this) HA.out.2 (Nat.lt_of_le_of_lt hn100 (by decide +kernel))).mono ?_
  rintro r w9 ⟨rfl, h9⟩
  replace HX := Lib.hid (HX.out.trans h9)
  clear h9
  by_cases hk0 : K = 0
  · obtain rfl : n = 0 := hnn hk0
    go_wp2_with fail
    refine (alive34_any _).mono ?_
    rintro r w11 ⟨rfl, h11⟩
    go_wp2
    go_ret
    exact Ret.mk (HX.out.trans h11)
  · have hk1 : 1 ≤ K := by omega
    have hn1 := HQ.out hk1
    obtain ⟨m1, m2⟩ := HM2.out hk1
    have HM3 := Lib.hid m1
    have HM4 := Lib.hid m2
    clear m1 m2 hnn
    rw [show ((n - 1 : Nat) : Int) = (n : Int) - 1 by omega] at HM4
    go_wp2_with fail
    rw [show (n : Int) - 1 = ((n - 1 : Nat) : Int) by omega]
    refine ((most_any w9 S (n - 1 : Nat)).mono fun _ _ k => mosts_is HS.out (by omega) k HM3.out).mono ?_
    rw [show ((K - 1 : Nat) : Int) = (K : Int) - 1 by omega]
    rintro r w10 ⟨rfl, h10⟩
    replace HX := Lib.hid (HX.out.trans h10)
    clear h10
    go_wp2_with fail
    refine (mayN_any34 w10 S K ((n : Int) - 1) _ rfl).mono ?_
    rw [HM4.out]
    rintro r w11 ⟨rfl, h11⟩
    replace HX := Lib.hid (HX.out.trans h11)
    clear h11
    go_wp2_with fail
    refine (alive34_any _).mono ?_
    rintro r w12 ⟨rfl, h12⟩
    go_wp2
    go_ret
    exact Ret.mk (HX.out.trans h12)
theorem boundTight_walk (x g : Int) (w : World) (hx : (Lit.int .u8 x).wf = true) (hg : (Lit.int .u8 g).wf = true) :
    Calls Try.prog 6 #[.int .u8 x, .int .u8 g] w (Ret (.bool true) w) := by
  obtain ⟨x, rfl, x1⟩ := nat_of_u hx (m := 255) rfl rfl
  obtain ⟨g, rfl, g1⟩ := nat_of_u hg (m := 255) rfl rfl
  exact boundTight_nat x g w (by omega) (by omega)
end Go.Proofs.Ytejknkhahjgdnaa
