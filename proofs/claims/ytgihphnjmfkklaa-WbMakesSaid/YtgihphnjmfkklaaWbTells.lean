/- joinerylaw18.alive, light; the walks of WbTells, WbLikes, WbHigh, WbMakes. -/
import Derived.Test.YtgihphnjmfkklaaRef18
namespace Go.Proofs.Ytgihphnjmfkklaa
open Go Go.RowKit

set_option maxHeartbeats 1000000 in
theorem alive18_any (w : World) : Calls Try.prog 8 #[] w (Ret (.bool true) w) := by
  have hx := Ext.refl w
  go_enter Try.func8, Try.ntmps8
  go_wp2_with fail
  refine (wbMake_any _ .nil .nil 1 0 trivial trivial).mono ?_
  rintro e w1 ⟨b1, rfl, _, hA, hS⟩
  replace hx := hx.trans hS
  clear hS
  go_wp2_with fail
  refine (wbMake_any _ .nil .nil 3 0 trivial trivial).mono ?_
  rintro e w2 ⟨b2, rfl, _, hC, hS⟩
  replace hx := hx.trans hS
  replace hA := hA.ext hS
  clear hS
  go_wp2_with fail
  refine (wbMake_any _ _ _ 2 0 hA hC).mono ?_
  rintro e w3 ⟨b3, rfl, _, hB, hS⟩
  replace hx := hx.trans hS
  replace hA := hA.ext hS
  clear hS
  clear hC
  have e1 : (Tr.node b3 (.node b1 .nil 1 0 0 .nil) 2 0 0 (.node b2 .nil 3 0 0 .nil)).pre.length ≤ 4000 := by simp [Tr.pre]
  have e2 : wt (Tr.node b3 (.node b1 .nil 1 0 0 .nil) 2 0 0 (.node b2 .nil 3 0 0 .nil)) = (4 : Nat) := by kernel_rfl
  have e3 : wbMay (Tr.node b3 (.node b1 .nil 1 0 0 .nil) 2 0 0 (.node b2 .nil 3 0 0 .nil)) = true := by kernel_rfl
  have e4 : ∀ b, wt (Tr.node b (Tr.node b3 (.node b1 .nil 1 0 0 .nil) 2 0 0 (.node b2 .nil 3 0 0 .nil)) 4 0 0 (.node b1 .nil 1 0 0 .nil)) = (6 : Nat) := fun _ => by kernel_rfl
  have e5 : ∀ b, wt (Tr.node b (Tr.node b3 (.node b1 .nil 1 0 0 .nil) 2 0 0 (.node b2 .nil 3 0 0 .nil)) 4 0 0 (Tr.node b3 (.node b1 .nil 1 0 0 .nil) 2 0 0 (.node b2 .nil 3 0 0 .nil))) = (8 : Nat) := fun _ => by kernel_rfl
  have E := Lib.hid (And.intro e1 (And.intro e2 (And.intro e3 (And.intro e4 e5))))
  clear e1 e2 e3 e4 e5
  generalize (Tr.node b3 (.node b1 .nil 1 0 0 .nil) 2 0 0 (.node b2 .nil 3 0 0 .nil)) = B at *
  generalize (Tr.node b1 .nil 1 0 0 .nil) = A at *
  go_wp2_with fail
  refine (wbLike_any _ 1 2).mono ?_
  rw [show likeB 1 2 = true by decide +kernel]
  rintro e w4 ⟨rfl, hS⟩
  replace hx := hx.trans hS
  replace hA := hA.ext hS
  replace hB := hB.ext hS
  clear hS
  go_wp2_with fail
  refine (wbLike_any _ 1 3).mono ?_
  rw [show likeB 1 3 = false by decide +kernel]
  rintro e w5 ⟨rfl, hS⟩
  replace hx := hx.trans hS
  replace hA := hA.ext hS
  replace hB := hB.ext hS
  clear hS
  go_wp2_with fail
  refine (wbLike_any _ 0 0).mono ?_
  rw [show likeB 0 0 = false by decide +kernel]
  rintro e w6 ⟨rfl, hS⟩
  replace hx := hx.trans hS
  replace hA := hA.ext hS
  replace hB := hB.ext hS
  clear hS
  go_wp2_with fail
  refine (wbWeight_any _ .nil trivial).mono ?_
  rw [show wt .nil = 1 by kernel_rfl]
  rintro e w7 ⟨rfl, hS⟩
  replace hx := hx.trans hS
  replace hA := hA.ext hS
  replace hB := hB.ext hS
  clear hS
  go_wp2_with fail
  refine (wbWeight_any _ B hB).mono ?_
  rw [E.out.2.1]
  rintro e w8 ⟨rfl, hS⟩
  replace hx := hx.trans hS
  replace hA := hA.ext hS
  replace hB := hB.ext hS
  clear hS
  go_wp2_with fail
  refine (wbRank_any _ B 4 hB E.out.2.1 (by omega) (by omega)).mono ?_
  rw [show Nat.log2 4 = 2 by decide +kernel]
  rintro e w9 ⟨rfl, hS⟩
  replace hx := hx.trans hS
  replace hA := hA.ext hS
  replace hB := hB.ext hS
  clear hS
  go_wp2_with fail
  refine (wbRank_any _ .nil 1 trivial (by kernel_rfl) (by omega) (by omega)).mono ?_
  rw [show Nat.log2 1 = 0 by decide +kernel]
  rintro e w10 ⟨rfl, hS⟩
  replace hx := hx.trans hS
  replace hA := hA.ext hS
  replace hB := hB.ext hS
  clear hS
  go_wp2_with fail
  refine (wbMake_any _ B A 4 0 hB hA).mono ?_
  rintro e w11 ⟨b4, rfl, _, hD, hS⟩
  replace hx := hx.trans hS
  replace hA := hA.ext hS
  replace hB := hB.ext hS
  clear hS
  go_wp2_with fail
  refine (wbRank_any _ _ 6 hD (E.out.2.2.2.1 b4) (by omega) (by omega)).mono ?_
  rw [show Nat.log2 6 = 2 by decide +kernel]
  rintro e w12 ⟨rfl, hS⟩
  replace hx := hx.trans hS
  replace hA := hA.ext hS
  replace hB := hB.ext hS
  clear hS
  go_wp2_with fail
  refine (wbMake_any _ B B 4 0 hB hB).mono ?_
  rintro e w13 ⟨b5, rfl, _, hF, hS⟩
  replace hx := hx.trans hS
  replace hA := hA.ext hS
  replace hB := hB.ext hS
  clear hS
  go_wp2_with fail
  refine (wbRank_any _ _ 8 hF (E.out.2.2.2.2 b5) (by omega) (by omega)).mono ?_
  rw [show Nat.log2 8 = 3 by decide +kernel]
  rintro e w14 ⟨rfl, hS⟩
  replace hx := hx.trans hS
  replace hA := hA.ext hS
  replace hB := hB.ext hS
  clear hS
  go_wp2_with fail
  refine (wbMay_any _ B hB E.out.1).mono ?_
  rw [E.out.2.2.1]
  rintro e w15 ⟨rfl, hS⟩
  replace hx := hx.trans hS
  replace hA := hA.ext hS
  replace hB := hB.ext hS
  clear hS
  go_wp2
  go_ret
  exact Ret.mk hx
theorem like_sym (a b : Int) : likeB a b = likeB b a := by
  unfold likeB withinB
  rw [Int.add_comm b a, Int.min_comm b a]
  congr 1
  rw [Bool.eq_iff_iff]
  simp only [Bool.and_eq_true, decide_eq_true_eq]
  constructor <;> rintro ⟨⟨⟨h1, h2⟩, h3⟩, h4⟩ <;> exact ⟨⟨⟨h3, h4⟩, h1⟩, h2⟩
theorem like_self (a : Int) : likeB a a = (decide (1 ≤ a) && decide (a ≤ 1099511627776)) := by
  unfold likeB withinB
  rw [Bool.eq_iff_iff]
  simp only [Bool.and_eq_true, decide_eq_true_eq]
  omega
set_option maxHeartbeats 1000000 in
theorem wbLikes_walk (a b : Int) (w : World) (_w0 : (Lit.int .i64 a).wf = true) (_w1 : (Lit.int .i64 b).wf = true) :
    Calls Try.prog 4 #[.int .i64 a, .int .i64 b] w (Ret (.bool true) w) := by
  clear _w0 _w1
  have hx := Ext.refl w
  have HL := Lib.hid (fun W => wbLike_any W b a)
  have HS := Lib.hid (like_self a)
  rw [show likeB b a = likeB a b from like_sym b a] at HL
  obtain ⟨M, hM⟩ : ∃ M : Int, M = 1099511627776 := ⟨_, rfl⟩
  rw [← hM] at HS
  have HM := Lib.hid hM
  clear hM
  by_cases h1 : 1 ≤ a
  · by_cases h2 : a ≤ M
    · have HA := Lib.hid (show likeB a a = true by rw [HS.out]; simp [h1, h2])
      go_enter Try.func4, Try.ntmps4
      rw [← HM.out]
      go_wp2_with fail
      refine (wbLike_any _ a b).mono ?_
      rintro e w1 ⟨rfl, hS⟩
      replace hx := hx.trans hS
      clear hS
      go_wp2_with fail
      refine (like18_any _ a b).mono ?_
      rintro e w2 ⟨rfl, hS⟩
      replace hx := hx.trans hS
      clear hS
      cases hl : likeB a b
      all_goals
        rw [hl] at HL
        have HAB := Lib.hid hl
        clear hl
        go_wp2_with fail
        refine (wbLike_any _ a b).mono ?_
        rw [HAB.out]
        rintro e w3 ⟨rfl, hS⟩
        replace hx := hx.trans hS
        clear hS
        go_wp2_with fail
        refine (HL.out _).mono ?_
        rintro e w4 ⟨rfl, hS⟩
        replace hx := hx.trans hS
        clear hS
        go_wp2_with fail
        refine (wbLike_any _ a a).mono ?_
        rw [HA.out]
        rintro e w5 ⟨rfl, hS⟩
        replace hx := hx.trans hS
        clear hS
        go_wp2_with fail
        refine (alive18_any _).mono ?_
        rintro e w6 ⟨rfl, hS⟩
        replace hx := hx.trans hS
        clear hS
        go_wp2
        go_ret
        exact Ret.mk hx
    · have HA := Lib.hid (show likeB a a = false by rw [HS.out]; simp [h1]; omega)
      go_enter Try.func4, Try.ntmps4
      rw [← HM.out]
      go_wp2_with fail
      refine (wbLike_any _ a b).mono ?_
      rintro e w1 ⟨rfl, hS⟩
      replace hx := hx.trans hS
      clear hS
      go_wp2_with fail
      refine (like18_any _ a b).mono ?_
      rintro e w2 ⟨rfl, hS⟩
      replace hx := hx.trans hS
      clear hS
      cases hl : likeB a b
      all_goals
        rw [hl] at HL
        have HAB := Lib.hid hl
        clear hl
        go_wp2_with fail
        refine (wbLike_any _ a b).mono ?_
        rw [HAB.out]
        rintro e w3 ⟨rfl, hS⟩
        replace hx := hx.trans hS
        clear hS
        go_wp2_with fail
        refine (HL.out _).mono ?_
        rintro e w4 ⟨rfl, hS⟩
        replace hx := hx.trans hS
        clear hS
        go_wp2_with fail
        refine (wbLike_any _ a a).mono ?_
        rw [HA.out]
        rintro e w5 ⟨rfl, hS⟩
        replace hx := hx.trans hS
        clear hS
        go_wp2_with fail
        refine (alive18_any _).mono ?_
        rintro e w6 ⟨rfl, hS⟩
        replace hx := hx.trans hS
        clear hS
        go_wp2
        go_ret
        exact Ret.mk hx
  · have HA := Lib.hid (show likeB a a = false by rw [HS.out]; simp; omega)
    go_enter Try.func4, Try.ntmps4
    rw [← HM.out]
    go_wp2_with fail
    refine (wbLike_any _ a b).mono ?_
    rintro e w1 ⟨rfl, hS⟩
    replace hx := hx.trans hS
    clear hS
    go_wp2_with fail
    refine (like18_any _ a b).mono ?_
    rintro e w2 ⟨rfl, hS⟩
    replace hx := hx.trans hS
    clear hS
    cases hl : likeB a b
    all_goals
      rw [hl] at HL
      have HAB := Lib.hid hl
      clear hl
      go_wp2_with fail
      refine (wbLike_any _ a b).mono ?_
      rw [HAB.out]
      rintro e w3 ⟨rfl, hS⟩
      replace hx := hx.trans hS
      clear hS
      go_wp2_with fail
      refine (HL.out _).mono ?_
      rintro e w4 ⟨rfl, hS⟩
      replace hx := hx.trans hS
      clear hS
      go_wp2_with fail
      refine (wbLike_any _ a a).mono ?_
      rw [HA.out]
      rintro e w5 ⟨rfl, hS⟩
      replace hx := hx.trans hS
      clear hS
      go_wp2_with fail
      refine (alive18_any _).mono ?_
      rintro e w6 ⟨rfl, hS⟩
      replace hx := hx.trans hS
      clear hS
      go_wp2
      go_ret
      exact Ret.mk hx
/-- the arithmetic of what may be by weights. -/
theorem wbMay_node (b : Nat) (l : Tr) (k v g : Int) (r : Tr) : wbMay (.node b l k v g r) = (wbOne (.node b l k v g r) == 0 && wbMay l && wbMay r) := mayOf_node b l k v g r
theorem wt_count (T : Tr) (h : T.count ≤ 100000) : wt T = ((T.count + 1 : Nat) : Int) := by
  unfold wt
  rw [Tr.size_count]
  unfold wrap64
  omega
theorem wb_sides {b : Nat} {l r : Tr} {k v g : Int} (h : wbMay (.node b l k v g r) = true) : g = 0 ∧ likeB (wt l) (wt r) = true ∧ wbMay l = true ∧ wbMay r = true := by
  rw [wbMay_node] at h
  simp only [Bool.and_eq_true, beq_iff_eq] at h
  obtain ⟨⟨h1, h2⟩, h3⟩ := h
  have e : wbOne (.node b l k v g r) = if g = 0 then (if likeB (wt l) (wt r) then 0 else 8) else 140 := rfl
  rw [e] at h1
  split at h1
  · rename_i hg
    split at h1
    · rename_i hl; exact ⟨hg, hl, h2, h3⟩
    · cases h1
  · cases h1
theorem like_arith {a b : Nat} (h : likeB (a : Int) (b : Int) = true) : 29 * (a + b) ≤ 100 * a ∧ 29 * (a + b) ≤ 100 * b := by
  unfold likeB at h
  simp only [Bool.and_eq_true, decide_eq_true_eq] at h
  omega
theorem wb_least : ∀ T : Tr, wbMay T = true → T.count ≤ 100000 → wLeast T.ht ≤ T.count + 1
  | .nil, _, _ => by simp [Tr.ht, wLeast]
  | .node b l k v g r, h, hc => by
    obtain ⟨-, h1, h2, h3⟩ := wb_sides h
    rw [Tr.count_node] at hc ⊢
    rw [wt_count l (by omega), wt_count r (by omega)] at h1
    have h4 := like_arith h1
    have l1 := wb_least l h2 (by omega)
    have r1 := wb_least r h3 (by omega)
    rw [Tr.ht, Nat.add_comm 1, wLeast]
    rcases Nat.le_total l.ht r.ht with hh | hh
    · rw [Nat.max_eq_right hh]; omega
    · rw [Nat.max_eq_left hh]; omega
theorem ret_ib {a c : Int} {b : Bool} (h : a = c) : Ending.returned (.tuple #[.int .i64 a, .bool b]) = .returned (.tuple #[.int .i64 c, .bool b]) := by rw [h]
set_option maxHeartbeats 2000000 in
theorem light_any (k : Nat) : ∀ (T : Tr) (w : World), InH w T → T.ht ≤ k → wbMay T = true → T.count ≤ 100000 → k ≤ 1000 →
    Calls Try.prog 19 #[.pointer T.ptr, .int .i64 k] w (Ret (.tuple #[.int .i64 T.ht, .bool true]) w) := by
  induction k with
  | zero =>
    intro T w hT hh hm hc hk
    cases T with
    | nil =>
      rw [Tr.ptr_nil, show Tr.nil.ht = 0 from rfl]
      go_enter Try.func19, Try.ntmps19
      go_wp2
      go_ret2
      exact Ret.mk (Ext.refl _)
    | node => simp [Tr.ht] at hh
  | succ k ih =>
    intro T w hT hh hm hc hk
    cases T with
    | nil =>
      rw [Tr.ptr_nil, show Tr.nil.ht = 0 from rfl]
      clear ih
      go_enter Try.func19, Try.ntmps19
      go_wp2
      go_ret2
      exact Ret.mk (Ext.refl _)
    | node b l ky v g r =>
      obtain ⟨-, h1, h2, h3⟩ := wb_sides hm
      have hcc := Tr.count_node b l ky v g r
      rw [Tr.ht] at hh
      rw [wt_count l (by omega), wt_count r (by omega)] at h1
      have h4 := like_arith h1
      have htl := Tr.ht_count l
      have htr := Tr.ht_count r
      have WL := Lib.hid (wt_count l (by omega))
      have WR := Lib.hid (wt_count r (by omega))
      have WT := Lib.hid (wt_count (.node b l ky v g r) hc)
      have IHL := Lib.hid (fun W hW => ih l W hW (by omega) h2 (by omega) (by omega))
      have IHR := Lib.hid (fun W hW => ih r W hW (by omega) h3 (by omega) (by omega))
      have hl := hT.2.1
      have hr := hT.2.2
      have HHT := Lib.hid (show (Tr.node b l ky v g r).ht = 1 + max l.ht r.ht from rfl)
      obtain ⟨T, eT⟩ : ∃ T, T = Tr.node b l ky v g r := ⟨_, rfl⟩
      rw [← eT] at hT HHT WT hcc hc ⊢
      have HP := Lib.hid (show T.left = l ∧ T.right = r ∧ T.ptr = some ⟨b, 0, none⟩ by rw [eT]; exact ⟨rfl, rfl, rfl⟩)
      have i1 : 100 * ((l.count + 1 : Nat) : Int) ≤ 71 * ((T.count + 1 : Nat) : Int) := by omega
      have i2 : 100 * ((r.count + 1 : Nat) : Int) ≤ 71 * ((T.count + 1 : Nat) : Int) := by omega
      have i3 : l.count ≤ 100000 ∧ r.count ≤ 100000 := by omega
      obtain ⟨i4, i5⟩ := i3
      have hll : l.ht ≤ 1000 := by omega
      have hrr : r.ht ≤ 1000 := by omega
      have hx := Ext.refl w
      clear ih hm eT h1 h2 h3 h4 hcc hh htl htr
      generalize l.count = cl at *
      generalize r.count = cr at *
      generalize T.count = ct at *
      generalize T.ht = HT at *
      generalize l.ht = hl' at *
      generalize r.ht = hr' at *
      have LA := Lib.hid (fun W hW => left_any W T hW)
      have RA := Lib.hid (fun W hW => right_any W T hW)
      have WA := Lib.hid (fun W hW => wbWeight_any W T hW)
      rw [HP.out.1, HP.out.2.2] at LA
      rw [HP.out.2.1, HP.out.2.2] at RA
      rw [HP.out.2.2] at WA ⊢
      rw [show (((k + 1 : Nat) : Nat) : Int) = (k : Int) + 1 by omega]
      have k0 : (((k : Int) + 1) == 0) = false := by simp; omega
      go_enter Try.func19, Try.ntmps19
      go_wp2_with fail
      refine (LA.out _ hT).mono ?_
      rintro e w1 ⟨rfl, hS⟩
      replace hx := hx.trans hS
      replace hT := hT.ext hS
      replace hl := hl.ext hS
      replace hr := hr.ext hS
      clear hS
      go_wp2_with fail
      refine (wbWeight_any _ l hl).mono ?_
      rw [WL.out]
      rintro e w2 ⟨rfl, hS⟩
      replace hx := hx.trans hS
      replace hT := hT.ext hS
      replace hl := hl.ext hS
      replace hr := hr.ext hS
      clear hS
      go_wp2_with fail
      refine (WA.out _ hT).mono ?_
      rw [WT.out]
      rintro e w3 ⟨rfl, hS⟩
      replace hx := hx.trans hS
      replace hT := hT.ext hS
      replace hl := hl.ext hS
      replace hr := hr.ext hS
      clear hS
      go_wp2_with fail
      refine (RA.out _ hT).mono ?_
      rintro e w4 ⟨rfl, hS⟩
      replace hx := hx.trans hS
      replace hT := hT.ext hS
      replace hl := hl.ext hS
      replace hr := hr.ext hS
      clear hS
      go_wp2_with fail
      refine (wbWeight_any _ r hr).mono ?_
      rw [WR.out]
      rintro e w5 ⟨rfl, hS⟩
      replace hx := hx.trans hS
      replace hT := hT.ext hS
      replace hl := hl.ext hS
      replace hr := hr.ext hS
      clear hS
      go_wp2_with fail
      refine (WA.out _ hT).mono ?_
      rw [WT.out]
      rintro e w6 ⟨rfl, hS⟩
      replace hx := hx.trans hS
      replace hT := hT.ext hS
      replace hl := hl.ext hS
      replace hr := hr.ext hS
      clear hS
      go_wp2_with fail
      refine (LA.out _ hT).mono ?_
      rintro e w7 ⟨rfl, hS⟩
      replace hx := hx.trans hS
      replace hT := hT.ext hS
      replace hl := hl.ext hS
      replace hr := hr.ext hS
      clear hS
      go_wp2_with fail
      refine (IHL.out _ hl).mono ?_
      rintro e w8 ⟨rfl, hS⟩
      replace hx := hx.trans hS
      replace hT := hT.ext hS
      replace hl := hl.ext hS
      replace hr := hr.ext hS
      clear hS
      go_wp2_with fail
      refine (RA.out _ hT).mono ?_
      rintro e w9 ⟨rfl, hS⟩
      replace hx := hx.trans hS
      replace hT := hT.ext hS
      replace hl := hl.ext hS
      replace hr := hr.ext hS
      clear hS
      go_wp2_with fail
      refine (IHR.out _ hr).mono ?_
      rintro e w10 ⟨rfl, hS⟩
      replace hx := hx.trans hS
      clear hS
      go_wp2
      all_goals
        go_ret2
        exact ⟨ret_ib (by rw [HHT.out]; omega), hx⟩
set_option maxHeartbeats 1000000 in
theorem wbHigh_walk (a : Option Addr) (len cap : Nat) (zs : List BeadL) (w : World) (hb0 : IsBeads w (.slice a len cap) zs) :
    Calls Try.prog 5 #[.slice a len cap] w (Ret (.bool true) w) := by
  obtain ⟨hb, -⟩ := hb0
  have H := Lib.hid (beadsLong_any w _ zs hb)
  have HB := Lib.hid hb
  have hx := Ext.refl w
  cases hl : (decide (400 < zs.length) || !mayB zs) with
  | true =>
    have HL := Lib.hid hl
    clear hb hl
    go_enter Try.func5, Try.ntmps5
    go_wp2_with fail
    refine (H.out).mono ?_
    rw [HL.out]
    rintro e w1 ⟨rfl, hS⟩
    replace hx := hx.trans hS
    clear hS
    go_wp2_with fail
    refine (alive18_any _).mono ?_
    rintro e w2 ⟨rfl, hS⟩
    replace hx := hx.trans hS
    clear hS
    go_wp2
    go_ret
    exact Ret.mk hx
  | false =>
    obtain ⟨hl4, t, ht⟩ := long_tree hl
    subst ht
    have HL := Lib.hid hl
    have h4 := Lib.hid hl4
    clear hb hl hl4
    go_enter Try.func5, Try.ntmps5
    go_wp2_with fail
    refine (H.out).mono ?_
    rw [HL.out]
    rintro e w1 ⟨rfl, hS⟩
    replace hx := hx.trans hS
    clear hS
    go_wp2_with fail
    refine (beadsMake_any t w1 _ (HB.out.ext hx) h4.out).mono ?_
    rintro e w2 ⟨T, rfl, hT, hf, hS⟩
    replace hx := hx.trans hS
    clear hS
    have HC := Lib.hid (show T.count ≤ 400 by unfold Tr.count; rw [BT.fits_len hf]; exact h4.out)
    clear hf
    go_wp2_with fail
    refine (wbMay_any w2 T hT (Nat.le_trans HC.out (by decide))).mono ?_
    cases hm : wbMay T with
    | false =>
      clear hm
      rintro e w3 ⟨rfl, h3⟩
      go_wp2_with fail
      refine (alive18_any _).mono ?_
      rintro e w4 ⟨rfl, hS⟩
      go_wp2
      go_ret
      exact Ret.mk ((hx.trans h3).trans hS)
    | true =>
      rintro e w3 ⟨rfl, h3⟩
      replace hx := hx.trans h3
      replace hT := hT.ext h3
      have c400 := HC.out
      have hht := Tr.ht_count T
      have hle := wb_least T hm (by omega)
      have h30 : T.ht < 30 := by
        rcases Nat.lt_or_ge T.ht 30 with h | h
        · exact h
        · have := wLeast_mono h
          have e : 401 < wLeast 30 := by decide +kernel
          omega
      have HM := Lib.hid hm
      have WT := Lib.hid (wt_count T (by omega))
      clear hm h3
      go_wp2_with fail
      refine (light_any 500 T w3 hT (by omega) HM.out (by omega) (by omega)).mono ?_
      rintro e w4 ⟨rfl, hS⟩
      replace hx := hx.trans hS
      replace hT := hT.ext hS
      clear hS
      generalize T.ht = HT at *
      go_wp2_with fail
      refine (wbWeight_any _ T hT).mono ?_
      rw [WT.out]
      rintro e w5 ⟨rfl, hS⟩
      replace hx := hx.trans hS
      clear hS
      go_wp2_with fail
      refine (least18_any HT w5 (by omega)).mono ?_
      rintro e w6 ⟨rfl, hS⟩
      replace hx := hx.trans hS
      clear hS
      have hle' : ((wLeast HT : Nat) : Int) ≤ ((T.count + 1 : Nat) : Int) := by omega
      generalize T.count = ct at *
      generalize wLeast HT = wl at *
      go_wp2_with fail
      refine (alive18_any _).mono ?_
      rintro e w7 ⟨rfl, hS⟩
      replace hx := hx.trans hS
      clear hS
      go_wp2
      go_ret
      exact Ret.mk hx
set_option maxHeartbeats 1000000 in
theorem wbTells_walk (a : Option Addr) (len cap : Nat) (zs : List BeadL) (w : World) (hb0 : IsBeads w (.slice a len cap) zs) :
    Calls Try.prog 3 #[.slice a len cap] w (Ret (.bool true) w) := by
  obtain ⟨hb, -⟩ := hb0
  have H := Lib.hid (beadsLong_any w _ zs hb)
  have HB := Lib.hid hb
  have hx := Ext.refl w
  cases hl : (decide (400 < zs.length) || !mayB zs) with
  | true =>
    have HL := Lib.hid hl
    clear hb hl
    go_enter Try.func3, Try.ntmps3
    go_wp2_with fail
    refine (H.out).mono ?_
    rw [HL.out]
    rintro e w1 ⟨rfl, hS⟩
    replace hx := hx.trans hS
    clear hS
    go_wp2_with fail
    refine (alive18_any _).mono ?_
    rintro e w2 ⟨rfl, hS⟩
    replace hx := hx.trans hS
    clear hS
    go_wp2
    go_ret
    exact Ret.mk hx
  | false =>
    obtain ⟨hl4, t, ht⟩ := long_tree hl
    subst ht
    have HL := Lib.hid hl
    have h4 := Lib.hid hl4
    have hlen : len = t.enc.length := by
      obtain ⟨a', c', h⟩ := beads_slice hb
      simpa using congrArg (fun v => match v with | .slice _ l _ => l | _ => 0) h
    have hl40 : len ≤ 400 := by omega
    have HLEN := Lib.hid hlen
    clear hb hl hl4 hlen
    go_enter Try.func3, Try.ntmps3
    go_wp2_with fail
    refine (H.out).mono ?_
    rw [HL.out]
    rintro e w1 ⟨rfl, hS⟩
    replace hx := hx.trans hS
    clear hS
    go_wp2_with fail
    refine (beadsMake_any t w1 _ (HB.out.ext hx) h4.out).mono ?_
    rintro e w2 ⟨T, rfl, hT, hf, hS⟩
    replace hx := hx.trans hS
    clear hS
    have HC := Lib.hid (show T.pre.length ≤ 400 by rw [BT.fits_len hf]; exact h4.out)
    have hle : (firstOf wbOne T.pre).1 ≤ 400 := Nat.le_trans (firstOf_le _) HC.out
    have HF := Lib.hid hf
    have WT := Lib.hid (show wt T = ((len + 1 : Nat) : Int) by rw [fits_wt hf (by have := h4.out; omega), HLEN.out]; rfl)
    clear hf
    go_wp2_with fail
    refine (wbCheck_any _ T hT (Nat.le_trans HC.out (by decide))).mono ?_
    rintro e w3 ⟨rfl, hS⟩
    replace hx := hx.trans hS
    replace hT := hT.ext hS
    clear hS
    go_wp2_with fail
    refine (check18_any t T _ _ HF.out (HB.out.ext hx) (Nat.le_trans h4.out (by decide))).mono ?_
    rintro e w4 ⟨rfl, hS⟩
    replace hx := hx.trans hS
    replace hT := hT.ext hS
    clear hS
    go_wp2_with fail
    refine (wbMay_any _ T hT (Nat.le_trans HC.out (by decide))).mono ?_
    rintro e w5 ⟨rfl, hS⟩
    replace hx := hx.trans hS
    replace hT := hT.ext hS
    clear hS
    go_wp2_with fail
    refine (may18_any t T _ _ HF.out (HB.out.ext hx) (Nat.le_trans h4.out (by decide))).mono ?_
    rintro e w6 ⟨rfl, hS⟩
    replace hx := hx.trans hS
    replace hT := hT.ext hS
    clear hS
    go_wp2_with fail
    refine (wbWeight_any _ T hT).mono ?_
    rw [WT.out]
    rintro e w7 ⟨rfl, hS⟩
    replace hx := hx.trans hS
    replace hT := hT.ext hS
    clear hS
    go_wp2_with fail
    refine (wbRank_any _ T (len + 1) hT WT.out (by omega) (by omega)).mono ?_
    rintro e w8 ⟨rfl, hS⟩
    replace hx := hx.trans hS
    replace hT := hT.ext hS
    clear hS
    go_wp2_with fail
    refine (rank18_any len _ (by omega)).mono ?_
    rintro e w9 ⟨rfl, hS⟩
    replace hx := hx.trans hS
    clear hS
    go_wp2_with fail
    refine (alive18_any _).mono ?_
    rintro e w10 ⟨rfl, hS⟩
    replace hx := hx.trans hS
    clear hS
    go_wp2
    go_ret
    exact Ret.mk hx
end Go.Proofs.Ytgihphnjmfkklaa
