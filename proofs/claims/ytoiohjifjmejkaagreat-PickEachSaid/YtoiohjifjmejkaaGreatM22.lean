/- joineryref18: Like, Check, May, Rank, Least. joinerylaw18.alive, light; the walks of WbTells, WbLikes, WbHigh, WbMakes. -/
import Derived.Test.YtoiohjifjmejkaaGreatM8
import Derived.Test.YtoiohjifjmejkaaGreatM9
import Derived.Test.YtoiohjifjmejkaaGreatM21
namespace Go.Proofs.YtoiohjifjmejkaaGreat
open Go Go.RowKit

/-- the same, as the document's code has it. -/
def likeD (m a b : Int) : Bool := withinB 1 m a b && (decide (wrap64 (29 * wrap64 (a + b)) ≤ wrap64 (100 * a)) && decide (wrap64 (29 * wrap64 (a + b)) ≤ wrap64 (100 * b)))
theorem likeD_eq (a b : Int) : likeD 1099511627776 a b = likeB a b := by
  unfold likeD likeB
  cases h : withinB 1 1099511627776 a b with
  | false => rfl
  | true =>
    simp only [withinB, Bool.and_eq_true, decide_eq_true_eq] at h
    rw [Bool.true_and, Bool.true_and]
    rw [show wrap64 (a + b) = a + b by unfold wrap64; omega, show wrap64 (29 * (a + b)) = 29 * (a + b) by unfold wrap64; omega, show wrap64 (100 * a) = 100 * a by unfold wrap64; omega, show wrap64 (100 * b) = 100 * b by unfold wrap64; omega]
    rw [Bool.eq_iff_iff]
    simp only [Bool.and_eq_true, decide_eq_true_eq]
    omega
set_option maxHeartbeats 1000000 in
theorem like18_any (w : World) (a b : Int) : Calls Tryz.prog 154 #[.int .i64 a, .int .i64 b] w (Ret (.bool (likeB a b)) w) := by
  obtain ⟨X, hX⟩ : ∃ X, X = likeB a b := ⟨_, rfl⟩
  rw [← hX]
  rw [← likeD_eq] at hX
  obtain ⟨M, hM⟩ : ∃ M : Int, M = 1099511627776 := ⟨_, rfl⟩
  rw [← hM] at hX
  have HX := Lib.hid hX
  clear hX
  by_cases h1 : a < 1
  · go_enter Tryz.func154, Tryz.ntmps154
    rw [← hM]
    clear hM
    go_wp2
    all_goals
      go_ret
      exact ⟨ret_bool (by rw [HX.out]; simp [likeD, withinB] <;> omega), Ext.refl _⟩
  · by_cases h2 : b < 1
    · go_enter Tryz.func154, Tryz.ntmps154
      rw [← hM]
      clear hM
      go_wp2
      all_goals
        go_ret
        exact ⟨ret_bool (by rw [HX.out]; simp [likeD, withinB] <;> omega), Ext.refl _⟩
    · by_cases h3 : M < a
      · go_enter Tryz.func154, Tryz.ntmps154
        rw [← hM]
        clear hM
        go_wp2
        all_goals
          go_ret
          exact ⟨ret_bool (by rw [HX.out]; simp [likeD, withinB] <;> omega), Ext.refl _⟩
      · by_cases h4 : M < b
        · go_enter Tryz.func154, Tryz.ntmps154
          rw [← hM]
          clear hM
          go_wp2
          all_goals
            go_ret
            exact ⟨ret_bool (by rw [HX.out]; simp [likeD, withinB] <;> omega), Ext.refl _⟩
        · by_cases h5 : wrap64 (29 * wrap64 (a + b)) ≤ wrap64 (100 * a)
          · have H := Lib.hid (And.intro (show withinB 1 M a b = true by simp [withinB]; omega) h5)
            go_enter Tryz.func154, Tryz.ntmps154
            rw [← hM]
            clear hM
            go_wp2
            all_goals
              go_ret
              exact ⟨ret_bool (by rw [HX.out]; simp only [likeD, H.out.1, H.out.2, decide_true, Bool.true_and]), Ext.refl _⟩
          · have H := Lib.hid (And.intro (show withinB 1 M a b = true by simp [withinB]; omega) h5)
            go_enter Tryz.func154, Tryz.ntmps154
            rw [← hM]
            clear hM
            go_wp2
            all_goals
              go_ret
              exact ⟨ret_bool (by rw [HX.out]; have q := H.out.2; simp only [likeD, H.out.1, Bool.true_and]; rw [decide_eq_false (p := wrap64 (29 * wrap64 (a + b)) ≤ wrap64 (100 * a)) (by omega)]; rfl), Ext.refl _⟩
theorem fits_wt {t : BT} {T : Tr} (h : t.fits T) (hl : t.enc.length ≤ 100000) : wt T = t.enc.length + 1 := by
  unfold wt
  rw [(fits_sum h).2]
  unfold wrap64
  omega
set_option maxHeartbeats 1000000 in
theorem check18_any (t : BT) : ∀ (T : Tr) (w : World) (p : Value), t.fits T → Beads w p t.enc → t.enc.length ≤ 2000 →
    Calls Tryz.prog 125 #[p] w (Ret (.tuple #[.int .i64 (firstOf wbOne T.pre).1, .int .i64 (firstOf wbOne T.pre).2]) w) := by
  induction t with
  | nil =>
    intro T w p hf hb hl
    obtain ⟨a, c, rfl⟩ := beads_slice hb
    have e : T = .nil := by cases T with | nil => rfl | node => exact hf.elim
    subst e
    rw [show BT.nil.enc.length = 0 from rfl, show firstOf wbOne Tr.nil.pre = (0, 0) from rfl]
    clear hb hl hf
    go_enter Tryz.func125, Tryz.ntmps125
    go_wp2
    go_ret2
    exact ⟨rfl, Ext.refl _⟩
  | node k v s n g l r ihl ihr =>
    intro T w p hf hb hl
    cases T with
    | nil => exact hf.elim
    | node tb tl tk tv tg tr =>
    obtain ⟨-, -, hg, hfl, hfr⟩ := hf
    subst hg
    have hp := fun (w : World) (hb : Beads w p _) => parts_any w p k v s n g l r hb hl
    have hlen : (BT.node k v s n g l r).enc.length = 1 + l.enc.length + r.enc.length := by simp [BT.enc]; omega
    have hll : l.enc.length ≤ 2000 := by omega
    have hlr : r.enc.length ≤ 2000 := by omega
    have hwl := fits_wt hfl (by omega)
    have hwr := fits_wt hfr (by omega)
    have hcl : (firstOf wbOne tl.pre).1 ≤ l.enc.length := by rw [← BT.fits_len hfl]; exact firstOf_le _
    have hcr : (firstOf wbOne tr.pre).1 ≤ r.enc.length := by rw [← BT.fits_len hfr]; exact firstOf_le _
    have hA : firstOf wbOne (Tr.node tb tl tk tv g tr).pre = if wbOne (Tr.node tb tl tk tv g tr) = 0 then (if (firstOf wbOne tl.pre).2 = 0 then (tl.pre.length + (firstOf wbOne tr.pre).1 + 1, (firstOf wbOne tr.pre).2) else ((firstOf wbOne tl.pre).1 + 1, (firstOf wbOne tl.pre).2)) else (0, wbOne (Tr.node tb tl tk tv g tr)) := by
      rw [Tr.pre, firstOf_cons, firstOf_append]
      split
      · split <;> rfl
      · rfl
    have hone : wbOne (.node tb tl tk tv g tr) = if g = 0 then (if likeB (l.enc.length + 1) (r.enc.length + 1) then 0 else 8) else 140 := by
      rw [← hwl, ← hwr]; rfl
    have hnone : (firstOf wbOne tl.pre).2 = 0 → (firstOf wbOne tl.pre).1 = tl.pre.length := fun h => (firstOf_none h).1
    have HP := Lib.hid (hp w hb)
    obtain ⟨a, c, rfl⟩ := beads_slice hb
    have IHl := Lib.hid (fun W v (hv : Beads W v l.enc) => ihl tl W v hfl hv hll)
    have IHr := Lib.hid (fun W v (hv : Beads W v r.enc) => ihr tr W v hfr hv hlr)
    have h1 : 1 ≤ (BT.node k v s n g l r).enc.length := by omega
    obtain ⟨A, eA⟩ : ∃ A, A = firstOf wbOne (Tr.node tb tl tk tv g tr).pre := ⟨_, rfl⟩
    rw [← eA] at hA ⊢
    generalize wbOne (Tr.node tb tl tk tv g tr) = ONE at *
    generalize firstOf wbOne tl.pre = L at *
    generalize firstOf wbOne tr.pre = R at *
    obtain ⟨Ln, Le⟩ := L
    obtain ⟨Rn, Re⟩ := R
    simp only at hnone hcl hcr hA
    have hLn : Ln ≤ 2000 := by omega
    have hRn : Rn ≤ 2000 := by omega
    have HA := Lib.hid hA
    have HNONE := Lib.hid hnone
    clear hA hnone eA hp ihl ihr hb hl hwl hwr hcl hcr hlen hfl hfr
    generalize (BT.node k v s n g l r).enc.length = LL at *
    by_cases hg0 : g = 0
    · rw [if_pos hg0] at hone
      subst hg0
      cases cl : likeB (l.enc.length + 1) (r.enc.length + 1) with
      | false =>
        rw [cl] at hone
        have HONE := Lib.hid (show ONE = 8 from hone)
        have CL := Lib.hid cl
        clear hone cl
        go_enter Tryz.func125, Tryz.ntmps125
        go_wp2_with fail
        refine (HP.out).mono ?_
        rintro e w1 ⟨v1, v2, rfl, hv1, hv2, hS⟩
        have h01 := hS.trans ((Ext.refl w1).alloc (.cells #[.int .i64 k, .int .i64 v, .int .i64 s, .int .i64 n, .int .u64 0, .bool (!l.isNil), .bool (!r.isNil)] 68))
        obtain ⟨a1, c1, rfl⟩ := beads_slice hv1
        obtain ⟨a2, c2, rfl⟩ := beads_slice hv2
        clear hv1 hv2 hS
        go_wp2_with fail
        refine (like18_any _ _ _).mono ?_
        rw [CL.out]
        rintro e w2 ⟨rfl, hS⟩
        go_wp2
        go_ret2
        exact ⟨ret_two (by rw [HA.out, HONE.out]; rfl) (by rw [HA.out, HONE.out]; rfl), h01.trans hS⟩
      | true =>
        rw [cl] at hone
        have HONE := Lib.hid (show ONE = 0 from hone)
        have CL := Lib.hid cl
        clear hone cl
        go_enter Tryz.func125, Tryz.ntmps125
        go_wp2_with fail
        refine (HP.out).mono ?_
        rintro e w1 ⟨v1, v2, rfl, hv1, hv2, hS⟩
        have hE2 := (Ext.refl w1).alloc (.cells #[.int .i64 k, .int .i64 v, .int .i64 s, .int .i64 n, .int .u64 0, .bool (!l.isNil), .bool (!r.isNil)] 68)
        have hx := hS.trans hE2
        replace hv1 := hv1.ext hE2
        replace hv2 := hv2.ext hE2
        clear hS hE2
        have s1 := beads_slice hv1
        have s2 := beads_slice hv2
        have HV1 := Lib.hid hv1
        have HV2 := Lib.hid hv2
        clear hv1 hv2
        obtain ⟨a1, c1, rfl⟩ := s1
        obtain ⟨a2, c2, rfl⟩ := s2
        go_wp2_with fail
        refine (like18_any _ _ _).mono ?_
        rw [CL.out]
        rintro e w2 ⟨rfl, h2⟩
        go_wp2_with fail
        refine (IHl.out w2 _ (HV1.out.ext h2)).mono ?_
        rintro e w3 ⟨rfl, h3⟩
        have h23 := h2.trans h3
        by_cases c3 : Le = 0
        · subst c3
          go_wp2_with fail
          refine (IHr.out w3 _ (HV2.out.ext h23)).mono ?_
          rintro e w4 ⟨rfl, h4⟩
          have hEE := hx.trans (h23.trans h4)
          clear hx h2 h3 h23 h4
          go_wp2
          go_ret2
          exact ⟨ret_two (by rw [HA.out, HONE.out]; have h9 := HNONE.out trivial; simp; omega) (by rw [HA.out, HONE.out]; rfl), hEE⟩
        · have c3' := bne_iff_ne.2 c3
          have hEE := hx.trans h23
          clear hx h2 h3 h23
          go_wp2
          go_ret2
          exact ⟨ret_two (by rw [HA.out, HONE.out]; simp [c3]; omega) (by rw [HA.out, HONE.out]; simp [c3]), hEE⟩
    · rw [if_neg hg0] at hone
      have HONE := Lib.hid hone
      have hg1 : (g != 0) = true := by simpa using hg0
      clear hone hg0
      go_enter Tryz.func125, Tryz.ntmps125
      go_wp2_with fail
      refine (HP.out).mono ?_
      rintro e w1 ⟨v1, v2, rfl, hv1, hv2, hS⟩
      have hEE := hS.trans ((Ext.refl w1).alloc (.cells #[.int .i64 k, .int .i64 v, .int .i64 s, .int .i64 n, .int .u64 g, .bool (!l.isNil), .bool (!r.isNil)] 68))
      clear hv1 hv2 hS
      go_wp2
      go_ret2
      exact ⟨ret_two (by rw [HA.out, HONE.out]; rfl) (by rw [HA.out, HONE.out]; rfl), hEE⟩
def wLeast : Nat → Nat
  | 0 => 1
  | h + 1 => (100 * wLeast h + 70) / 71
theorem wLeast_step (h : Nat) : wLeast h ≤ wLeast (h + 1) := by rw [wLeast]; omega
theorem wLeast_mono {a b : Nat} (h : a ≤ b) : wLeast a ≤ wLeast b := by
  induction b with
  | zero => obtain rfl : a = 0 := by omega
            exact Nat.le_refl _
  | succ b ih =>
    rcases Nat.lt_or_ge a (b + 1) with h1 | h1
    · exact Nat.le_trans (ih (by omega)) (wLeast_step b)
    · obtain rfl : a = b + 1 := by omega
      exact Nat.le_refl _
theorem least_div (x : Nat) (h : x ≤ 4000000000) : wrap64 ((100 * (x : Int) + 70).tdiv 71) = ((100 * x + 70) / 71 : Nat) := by
  rw [Int.tdiv_eq_ediv_of_nonneg (by omega)]
  have e : (((100 * x + 70) / 71 : Nat) : Int) = (100 * (x : Int) + 70) / 71 := by omega
  rw [← e]
  have h2 : (100 * x + 70) / 71 ≤ 6000000000 := by omega
  generalize (100 * x + 70) / 71 = y at *
  unfold wrap64
  omega
end Go.Proofs.YtoiohjifjmejkaaGreat
namespace Go.Proofs.YtoiohjifjmejkaaGreat
open Go Go.RowKit

theorem like_sym (a b : Int) : likeB a b = likeB b a := by
  unfold likeB withinB
  rw [Int.add_comm b a, Int.min_comm b a]
  congr 1
  rw [Bool.eq_iff_iff]
  simp only [Bool.and_eq_true, decide_eq_true_eq]
  constructor <;> rintro ⟨⟨⟨h1, h2⟩, h3⟩, h4⟩ <;> exact ⟨⟨⟨h3, h4⟩, h1⟩, h2⟩
theorem like_self (a : Int) : likeB a a = (decide (1 ≤ a) && decide (a ≤ 1099511627776)) := by
  unfold likeB withinB
  rw [Bool.eq_iff_iff]
  simp only [Bool.and_eq_true, decide_eq_true_eq]
  omega
/-- the arithmetic of what may be by weights. -/
theorem wbMay_node (b : Nat) (l : Tr) (k v g : Int) (r : Tr) : wbMay (.node b l k v g r) = (wbOne (.node b l k v g r) == 0 && wbMay l && wbMay r) := mayOf_node b l k v g r
theorem wt_count (T : Tr) (h : T.count ≤ 100000) : wt T = ((T.count + 1 : Nat) : Int) := by
  unfold wt
  rw [Tr.size_count]
  unfold wrap64
  omega
theorem wb_sides {b : Nat} {l r : Tr} {k v g : Int} (h : wbMay (.node b l k v g r) = true) : g = 0 ∧ likeB (wt l) (wt r) = true ∧ wbMay l = true ∧ wbMay r = true := by
  rw [wbMay_node] at h
  simp only [Bool.and_eq_true, beq_iff_eq] at h
  obtain ⟨⟨h1, h2⟩, h3⟩ := h
  have e : wbOne (.node b l k v g r) = if g = 0 then (if likeB (wt l) (wt r) then 0 else 8) else 140 := rfl
  rw [e] at h1
  split at h1
  · rename_i hg
    split at h1
    · rename_i hl; exact ⟨hg, hl, h2, h3⟩
    · cases h1
  · cases h1
theorem like_arith {a b : Nat} (h : likeB (a : Int) (b : Int) = true) : 29 * (a + b) ≤ 100 * a ∧ 29 * (a + b) ≤ 100 * b := by
  unfold likeB at h
  simp only [Bool.and_eq_true, decide_eq_true_eq] at h
  omega
theorem wb_least : ∀ T : Tr, wbMay T = true → T.count ≤ 100000 → wLeast T.ht ≤ T.count + 1
  | .nil, _, _ => by simp [Tr.ht, wLeast]
  | .node b l k v g r, h, hc => by
    obtain ⟨-, h1, h2, h3⟩ := wb_sides h
    rw [Tr.count_node] at hc ⊢
    rw [wt_count l (by omega), wt_count r (by omega)] at h1
    have h4 := like_arith h1
    have l1 := wb_least l h2 (by omega)
    have r1 := wb_least r h3 (by omega)
    rw [Tr.ht, Nat.add_comm 1, wLeast]
    rcases Nat.le_total l.ht r.ht with hh | hh
    · rw [Nat.max_eq_right hh]; omega
    · rw [Nat.max_eq_left hh]; omega
theorem ret_ib {a c : Int} {b : Bool} (h : a = c) : Ending.returned (.tuple #[.int .i64 a, .bool b]) = .returned (.tuple #[.int .i64 c, .bool b]) := by rw [h]
end Go.Proofs.YtoiohjifjmejkaaGreat
