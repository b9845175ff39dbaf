/- joinerylaw14.height, and the walk of joinerylaw14.AvlHigh. -/
import Derived.Test.YtcdnakolpdinoaaAvlTells
namespace Go.Proofs.Ytcdnakolpdinoaa
open Go Go.RowKit

/-- a tree's height, while it is no higher than a bound; -1 else. -/
def heightN : Nat → Tr → Int
  | _, .nil => 0
  | 0, .node .. => -1
  | k + 1, .node _ l _ _ _ r => if heightN k l < 0 ∨ heightN k r < 0 then -1 else 1 + max (heightN k l) (heightN k r)
theorem heightN_le : ∀ (k : Nat) (t : Tr), -1 ≤ heightN k t ∧ heightN k t ≤ k
  | k, .nil => by unfold heightN; omega
  | 0, .node .. => by unfold heightN; omega
  | k + 1, .node b l _ _ _ r => by
    have h1 := heightN_le k l
    have h2 := heightN_le k r
    unfold heightN
    split <;> omega
set_option maxHeartbeats 1000000 in
theorem height_any (k : Nat) : ∀ (t : Tr) (w : World), InH w t → k ≤ 500 → Calls Try.prog 18 #[.pointer t.ptr, .int .i64 k] w (Ret (.int .i64 (heightN k t)) w) := by
  induction k with
  | zero =>
    intro t w ht hk
    cases t with
    | nil =>
      rw [show heightN 0 .nil = 0 from rfl, Tr.ptr_nil]
      go_enter Try.func18, Try.ntmps18
      go_wp2
      go_ret
      exact Ret.mk (Ext.refl _)
    | node b l ky v g r =>
      rw [show heightN 0 (.node b l ky v g r) = -1 from rfl, Tr.ptr_node]
      go_enter Try.func18, Try.ntmps18
      go_wp2
      go_ret
      exact Ret.mk (Ext.refl _)
  | succ k ih =>
    intro t w ht hk
    cases t with
    | nil =>
      rw [show heightN (k + 1) .nil = 0 from rfl, Tr.ptr_nil]
      clear ih
      go_enter Try.func18, Try.ntmps18
      go_wp2
      go_ret
      exact Ret.mk (Ext.refl _)
    | node b l ky v g r =>
      obtain ⟨H, hH⟩ : ∃ H, H = heightN (k + 1) (.node b l ky v g r) := ⟨_, rfl⟩
      rw [← hH]
      unfold heightN at hH
      have hl1 := heightN_le k l
      have hr1 := heightN_le k r
      have hla := left_any w _ ht
      have hra := fun w h => right_any w (.node b l ky v g r) h
      rw [Tr.left_node, Tr.ptr_node] at hla
      simp only [Tr.right_node, Tr.ptr_node] at hra
      rw [Tr.ptr_node]
      have IHl := Lib.hid (ih l)
      have IHr := Lib.hid (ih r)
      have HLA := Lib.hid hla
      have HRA := Lib.hid hra
      have HT := Lib.hid ht
      have HLL := Lib.hid ht.2.1
      have HRR := Lib.hid ht.2.2
      generalize heightN k l = x at *
      generalize heightN k r = y at *
      have HH := Lib.hid hH
      clear hH ih hla hra ht
      rw [show (((k + 1 : Nat) : Nat) : Int) = (k : Int) + 1 by omega]
      go_enter Try.func18, Try.ntmps18
      go_wp2_with fail
      refine HLA.out.mono ?_
      rintro e w1 ⟨rfl, h1⟩
      go_wp2_with fail
      refine (IHl.out w1 (HLL.out.ext h1) (by omega)).mono ?_
      rintro e w2 ⟨rfl, h2⟩
      have h12 := h1.trans h2
      go_wp2_with fail
      refine (HRA.out w2 (HT.out.ext h12)).mono ?_
      rintro e w3 ⟨rfl, h3⟩
      have h13 := h12.trans h3
      go_wp2_with fail
      refine (IHr.out w3 (HRR.out.ext h13) (by omega)).mono ?_
      rintro e w4 ⟨rfl, h4⟩
      have h14 := h13.trans h4
      clear h1 h2 h12 h3 h13 h4
      by_cases c1 : x < 0
      · go_wp2
        all_goals
          go_ret
          exact ⟨ret_int (by rw [HH.out, if_pos (.inl c1)]), h14⟩
      · by_cases c2 : y < 0
        · go_wp2
          all_goals
            go_ret
            exact ⟨ret_int (by rw [HH.out, if_pos (.inr c2)]), h14⟩
        · have HN := Lib.hid (show ¬ (x < 0 ∨ y < 0) by omega)
          go_wp2
          all_goals
            go_ret
            exact ⟨ret_int (by rw [HH.out, if_neg HN.out]; omega), h14⟩
/-- every tag fits uint64. -/
def TagsOk : Tr → Prop
  | .nil => True
  | .node _ l _ _ g r => 0 ≤ g ∧ g < 18446744073709551616 ∧ TagsOk l ∧ TagsOk r
theorem fits_tagsOk : ∀ (t : BT) (T : Tr), t.fits T → (∀ z ∈ t.enc, z.wf) → TagsOk T
  | .nil, .nil, _, _ => trivial
  | .nil, .node .., h, _ => h.elim
  | .node .., .nil, h, _ => h.elim
  | .node k v s n g l r, .node b L k' v' g' R, h, hz => by
    have h0 := hz _ (List.mem_cons_self ..)
    have h1 := h0.2.2.2.2
    simp [Lit.wf, IntKind.min, IntKind.max, IntKind.signed, IntKind.bits] at h1
    rw [h.2.2.1] at h1
    exact ⟨by omega, by omega, fits_tagsOk l L h.2.2.2.1 (fun z hz' => hz z (by simp [BT.enc, hz'])), fits_tagsOk r R h.2.2.2.2 (fun z hz' => hz z (by simp [BT.enc, hz']))⟩
/-- the height of a tree. -/
def Tr.ht : Tr → Nat
  | .nil => 0
  | .node _ l _ _ _ r => 1 + max l.ht r.ht
theorem Tr.ht_count : ∀ t : Tr, t.ht ≤ t.count
  | .nil => by simp [Tr.ht, Tr.count, Tr.pre]
  | .node b l k v g r => by
    have h1 := Tr.ht_count l
    have h2 := Tr.ht_count r
    rw [Tr.ht, Tr.count_node]
    omega
theorem heightN_ht : ∀ (k : Nat) (t : Tr), t.ht ≤ k → heightN k t = t.ht
  | k, .nil, _ => by unfold heightN; rfl
  | 0, .node .., h => by simp [Tr.ht] at h
  | k + 1, .node b l _ _ _ r, h => by
    rw [Tr.ht] at h
    have h1 := heightN_ht k l (by omega)
    have h2 := heightN_ht k r (by omega)
    unfold heightN
    rw [h1, h2, if_neg (by omega), Tr.ht]
    omega
theorem leastN_step : ∀ k : Nat, leastN k ≤ leastN (k + 1)
  | 0 => by decide
  | k + 1 => by rw [leastN]; omega
theorem leastN_mono {a b : Nat} (h : a ≤ b) : leastN a ≤ leastN b := by
  induction b with
  | zero => obtain rfl : a = 0 := by omega
            exact Nat.le_refl _
  | succ b ih =>
    rcases Nat.lt_or_ge a (b + 1) with h1 | h1
    · exact Nat.le_trans (ih (by omega)) (leastN_step b)
    · obtain rfl : a = b + 1 := by omega
      exact Nat.le_refl _
theorem may_ht : ∀ t : Tr, avlMay t = true → TagsOk t → t.count < 1000000 → t.tag = t.ht ∧ leastN t.ht ≤ t.count ∧ (t ≠ .nil → max t.left.ht t.right.ht ≤ min t.left.ht t.right.ht + 1)
  | .nil, _, _, _ => ⟨rfl, Nat.le_refl _, fun h => (h rfl).elim⟩
  | .node b l k v g r, hm, ho, hc => by
    rw [avlMay_node] at hm
    simp only [Bool.and_eq_true, Bool.not_eq_true'] at hm
    obtain ⟨⟨⟨m1, m2⟩, m3⟩, m4⟩ := hm
    obtain ⟨o1, o2, o3, o4⟩ := ho
    rw [Tr.count_node] at hc
    obtain ⟨l1, l2, -⟩ := may_ht l m3 o3 (by omega)
    obtain ⟨r1, r2, -⟩ := may_ht r m4 o4 (by omega)
    have hl := Tr.ht_count l
    have hr := Tr.ht_count r
    simp only [avlBadTag, Tr.tag_node, Tr.left_node, Tr.right_node, l1, r1, Bool.or_eq_false_iff, beq_eq_false_iff_ne, bne_eq_false_iff_eq] at m1
    simp only [avlBadTree, Tr.left_node, Tr.right_node, l1, r1, decide_eq_false_iff_not] at m2
    have e1 := u64_small (a := g - 1) (by omega) (by omega)
    rw [e1] at m1
    have e2 := u64_small (a := max (l.ht : Int) (r.ht : Int) - min (l.ht : Int) (r.ht : Int)) (by omega) (by omega)
    rw [e2] at m2
    rw [Tr.tag_node, Tr.ht, Tr.count_node, Tr.left_node, Tr.right_node]
    refine ⟨by omega, ?_, fun _ => by omega⟩
    rcases Nat.le_total l.ht r.ht with h | h
    · rw [Nat.max_eq_right h]
      rcases Nat.eq_zero_or_pos r.ht with h0 | h0
      · rw [h0]; show 1 ≤ _; omega
      · obtain ⟨q, hq⟩ : ∃ q, r.ht = q + 1 := ⟨r.ht - 1, by omega⟩
        have := leastN_mono (a := q) (b := l.ht) (by omega)
        rw [hq] at r2 ⊢
        rw [show 1 + (q + 1) = q + 2 by omega, leastN]
        omega
    · rw [Nat.max_eq_left h]
      rcases Nat.eq_zero_or_pos l.ht with h0 | h0
      · rw [h0]; show 1 ≤ _; omega
      · obtain ⟨q, hq⟩ : ∃ q, l.ht = q + 1 := ⟨l.ht - 1, by omega⟩
        have := leastN_mono (a := q) (b := r.ht) (by omega)
        rw [hq] at l2 ⊢
        rw [show 1 + (q + 1) = q + 2 by omega, leastN]
        omega
theorem avlMay_sides : ∀ {t : Tr}, avlMay t = true → avlMay t.left = true ∧ avlMay t.right = true
  | .nil, _ => ⟨rfl, rfl⟩
  | .node b l k v g r, hm => by
    rw [avlMay_node] at hm
    simp only [Bool.and_eq_true] at hm
    exact ⟨hm.1.2, hm.2⟩
theorem avlHigh_law (T : Tr) (hm : avlMay T = true) (ho : TagsOk T) (hc : T.count ≤ 400) :
    ∃ h : Nat, heightN 500 T = h ∧ wrap64 T.tag = h ∧ h ≤ 12 ∧ (leastN h : Int) ≤ T.size ∧ avlMay T.left = true ∧ avlMay T.right = true ∧ -1 ≤ avlLean T ∧ avlLean T ≤ 1 := by
  obtain ⟨h1, h2, h3⟩ := may_ht T hm ho (by omega)
  have h4 := Tr.ht_count T
  have hs : T.size = T.count := by rw [Tr.size_count]; unfold wrap64; omega
  refine ⟨T.ht, heightN_ht 500 T (by omega), ?_, ?_, ?_, (avlMay_sides hm).1, (avlMay_sides hm).2, ?_⟩
  · rw [h1]; unfold wrap64; omega
  · rcases Nat.lt_or_ge 12 T.ht with h | h
    · have := leastN_mono (a := 13) (b := T.ht) h
      have e : leastN 13 = 609 := by decide
      omega
    · exact h
  · rw [hs]; omega
  · cases T with
    | nil => rw [avlLean_nil]; omega
    | node b l k v g r =>
      have h5 := h3 (by simp)
      rw [avlMay_node] at hm
      simp only [Bool.and_eq_true] at hm
      obtain ⟨⟨⟨m1, m2⟩, m3⟩, m4⟩ := hm
      obtain ⟨o1, o2, o3, o4⟩ := ho
      rw [Tr.count_node] at hc
      obtain ⟨l1, -, -⟩ := may_ht l m3 o3 (by omega)
      obtain ⟨r1, -, -⟩ := may_ht r m4 o4 (by omega)
      have hl := Tr.ht_count l
      have hr := Tr.ht_count r
      simp only [Tr.left_node, Tr.right_node] at h5
      have e : ∀ a : Int, -1 ≤ a → a ≤ 1 → -1 ≤ wrap64 (IntKind.u64.wrap a) ∧ wrap64 (IntKind.u64.wrap a) ≤ 1 := by
        intro a ha hb
        have : a = -1 ∨ a = 0 ∨ a = 1 := by omega
        rcases this with rfl | rfl | rfl <;> decide +kernel
      unfold avlLean
      rw [Tr.left_node, Tr.right_node, l1, r1]
      exact e _ (by omega) (by omega)
set_option maxHeartbeats 1000000 in
theorem avlHigh_walk (a : Option Addr) (len cap : Nat) (zs : List BeadL) (w : World) (hb0 : IsBeads w (.slice a len cap) zs) :
    Calls Try.prog 4 #[.slice a len cap] w (Ret (.bool true) w) := by
  obtain ⟨hb, hwf⟩ := hb0
  have H := Lib.hid (beadsLong_any w _ zs hb)
  have HB := Lib.hid hb
  cases hl : (decide (400 < zs.length) || !mayB zs) with
  | true =>
    have HL := Lib.hid hl
    clear hb hl hwf
    go_enter Try.func4, Try.ntmps4
    go_wp2_with fail
    refine H.out.mono ?_
    rw [HL.out]
    rintro e w1 ⟨rfl, h1⟩
    go_wp2_with fail
    refine (alive14_any _).mono ?_
    rintro e w2 ⟨rfl, h2⟩
    go_wp2
    go_ret
    exact Ret.mk (h1.trans h2)
  | false =>
    obtain ⟨hl4, t, ht⟩ := long_tree hl
    subst ht
    have HL := Lib.hid hl
    have h4 := Lib.hid hl4
    have HW := Lib.hid hwf
    clear hb hl hl4 hwf
    go_enter Try.func4, Try.ntmps4
    go_wp2_with fail
    refine H.out.mono ?_
    rw [HL.out]
    rintro e w1 ⟨rfl, h1⟩
    go_wp2_with fail
    refine (beadsMake_any t w1 _ (HB.out.ext h1) h4.out).mono ?_
    rintro e w2 ⟨T, rfl, hT, hf, h2⟩
    have h02 := h1.trans h2
    have HOK := Lib.hid (fits_tagsOk t T hf HW.out)
    have HC := Lib.hid (show T.count ≤ 400 by unfold Tr.count; rw [BT.fits_len hf]; exact h4.out)
    clear h1 h2 hf
    go_wp2_with fail
    refine (avlMay_any w2 T hT).mono ?_
    cases hm : avlMay T with
    | false =>
      clear hm
      rintro e w3 ⟨rfl, h3⟩
      go_wp2_with fail
      refine (alive14_any _).mono ?_
      rintro e w4 ⟨rfl, h4⟩
      go_wp2
      go_ret
      exact Ret.mk ((h02.trans h3).trans h4)
    | true =>
      rintro e w3 ⟨rfl, h3⟩
      obtain ⟨h, l1, l2, l3, l4, l5, l6, l7, l8⟩ := avlHigh_law T hm HOK.out HC.out
      have L1 := Lib.hid l1
      have L2 := Lib.hid l2
      have L5 := Lib.hid l5
      have L6 := Lib.hid l6
      have h03 := h02.trans h3
      have hT3 := hT.ext h3
      clear hm l1 l2 l5 l6 h02 h3 hT
      have hh := height_any 500 T w3 hT3 (Nat.le_refl _)
      rw [L1.out] at hh
      have HH := Lib.hid hh
      clear hh
      go_wp2_with fail
      refine HH.out.mono ?_
      rintro e w4 ⟨rfl, h4⟩
      go_wp2_with fail
      refine (avlRank_any w4 T (hT3.ext h4)).mono ?_
      rw [L2.out]
      rintro e w5 ⟨rfl, h5⟩
      have h45 := h4.trans h5
      go_wp2_with fail
      refine (size_any w5 T (hT3.ext h45)).mono ?_
      rintro e w6 ⟨rfl, h6⟩
      have h46 := h45.trans h6
      go_wp2_with fail
      refine (refLeast_any h w6 (by omega)).mono ?_
      rintro e w7 ⟨rfl, h7⟩
      have h47 := h46.trans h7
      go_wp2_with fail
      refine (left_any _ T (hT3.ext h47)).mono ?_
      rintro e w8 ⟨rfl, h8⟩
      have h48 := h47.trans h8
      go_wp2_with fail
      refine (avlMay_any w8 T.left (left_ok (hT3.ext h48))).mono ?_
      rw [L5.out]
      rintro e w9 ⟨rfl, h9⟩
      have h49 := h48.trans h9
      go_wp2_with fail
      refine (right_any _ T (hT3.ext h49)).mono ?_
      rintro e w10 ⟨rfl, h10⟩
      have h410 := h49.trans h10
      go_wp2_with fail
      refine (avlMay_any w10 T.right (right_ok (hT3.ext h410))).mono ?_
      rw [L6.out]
      rintro e w11 ⟨rfl, h11⟩
      have h411 := h410.trans h11
      go_wp2_with fail
      refine (avlLean_any _ T (hT3.ext h411)).mono ?_
      rintro e w12 ⟨rfl, h12⟩
      go_wp2_with fail
      refine (alive14_any _).mono ?_
      rintro e w13 ⟨rfl, h13⟩
      go_wp2
      go_ret
      exact Ret.mk (((h03.trans h411).trans h12).trans h13)
end Go.Proofs.Ytcdnakolpdinoaa
