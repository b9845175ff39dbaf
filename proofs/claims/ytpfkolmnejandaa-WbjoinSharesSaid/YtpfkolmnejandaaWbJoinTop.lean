/- wbjoin.Join, Most; joineryref19; joinerylaw19.long, alive; the walk of WbJoins. -/
import Derived.Test.YtpfkolmnejandaaWbHang2
import Derived.Test.YtpfkolmnejandaaWbMakes
import Derived.Test.YtpfkolmnejandaaPair
import Derived.Test.YtpfkolmnejandaaJoinTop
namespace Go.Proofs.Ytpfkolmnejandaa
open Go Go.RowKit

/-- what a join hands back. -/
def WJoins (n : Nat) (l r : Tr) (k v : Int) (w : World) (e : Ending) (w' : World) : Prop :=
  ∃ T : Tr, e = .returned (.pointer T.ptr) ∧ WJoinOk n l r k v T ∧ InH w' T ∧ Ext w w'
theorem whang0 (n : Nat) (P low t : Tr) (hlow : WbH low) (nl : low.news n = 0) (w : World) (hn : n ≤ w.heap.size) (ht : InH w t) (hP : InH w P) (hl : InH w low) (hA : WbH t) (hle : low.count ≤ t.count) (hc : t.count + low.count ≤ 90000) (nt : t.news n = 0) :
    Calls Try.prog 30 #[.int .i64 0, .pointer t.ptr, .pointer P.ptr, .pointer low.ptr] w (WHangs n false t low P.key P.val w) := whang_any false n P low hlow nl t w hn ht hP hl hA (.inr hle) hc nt
theorem whang1 (n : Nat) (P low t : Tr) (hlow : WbH low) (nl : low.news n = 0) (w : World) (hn : n ≤ w.heap.size) (ht : InH w t) (hP : InH w P) (hl : InH w low) (hA : WbH t) (hle : low.count ≤ t.count) (hc : t.count + low.count ≤ 90000) (nt : t.news n = 0) :
    Calls Try.prog 30 #[.int .i64 1, .pointer t.ptr, .pointer P.ptr, .pointer low.ptr] w (WHangs n true t low P.key P.val w) := whang_any true n P low hlow nl t w hn ht hP hl hA (.inr hle) hc nt
set_option maxHeartbeats 1000000 in
theorem wbJoin_any (n : Nat) (w : World) (l r : Tr) (k v : Int) (hn : n ≤ w.heap.size) (hl : InH w l) (hr : InH w r) (al : WbH l) (ar : WbH r) (hc : l.count + r.count ≤ 80000) (nl : l.news n = 0) (nr : r.news n = 0) :
    Calls Try.prog 11 #[.pointer l.ptr, .int .i64 k, .int .i64 v, .pointer r.ptr] w (WJoins n l r k v w) := by
  have AL := Lib.hid al
  have AR := Lib.hid ar
  have NL := Lib.hid nl
  have NR := Lib.hid nr
  have HC := Lib.hid hc
  have hx := Ext.refl w
  obtain ⟨p, ep⟩ : ∃ p, p = l.count + 1 := ⟨_, rfl⟩
  obtain ⟨q, eq⟩ : ∃ q, q = r.count + 1 := ⟨_, rfl⟩
  have CL := Lib.hid (show wt l = (p : Int) by rw [ep]; exact wt_count l (by omega))
  have CR := Lib.hid (show wt r = (q : Int) by rw [eq]; exact wt_count r (by omega))
  have EP := Lib.hid ep
  have EQ := Lib.hid eq
  clear al ar nl nr hc ep eq
  go_enter Try.func11, Try.ntmps11
  go_wp2_with fail
  refine (wbMake_any _ .nil .nil k v trivial trivial).mono ?_
  rintro e w3 ⟨bp, rfl, _, hP, hS⟩
  replace hx := hx.trans hS
  replace hl := hl.ext hS
  replace hr := hr.ext hS
  clear hS
  obtain ⟨P, eP⟩ : ∃ P, P = Tr.node bp .nil k v 0 .nil := ⟨_, rfl⟩
  rw [← eP] at hP ⊢
  have HPK := Lib.hid (show P.key = k ∧ P.val = v by rw [eP]; exact ⟨rfl, rfl⟩)
  clear eP
  go_wp2_with fail
  refine (wbWeight_any _ l hl).mono ?_
  rw [CL.out]
  rintro e w4 ⟨rfl, hS⟩
  replace hx := hx.trans hS
  replace hl := hl.ext hS
  replace hr := hr.ext hS
  replace hP := hP.ext hS
  clear hS
  go_wp2_with fail
  refine (wbWeight_any _ r hr).mono ?_
  rw [CR.out]
  rintro e w5 ⟨rfl, hS⟩
  replace hx := hx.trans hS
  replace hl := hl.ext hS
  replace hr := hr.ext hS
  replace hP := hP.ext hS
  clear hS
  by_cases c1 : p < q
  · have c1' : (p : Int) < (q : Int) := by omega
    have HLE := Lib.hid (show l.count ≤ r.count by have := EP.out; have := EQ.out; omega)
    go_wp2_with fail
    refine (whang0 n P l r AL.out NL.out w5 (Nat.le_trans hn hx.size) hr hP hl AR.out HLE.out (by have := HC.out; omega) NR.out).mono ?_
    rw [HPK.out.1, HPK.out.2]
    rintro e w6 ⟨T, rfl, hok, hT, hS⟩
    go_wp2
    go_ret
    exact ⟨T, rfl, wjoin_left hok HLE.out, hT, hx.trans hS⟩
  · have c1' : ¬ (p : Int) < (q : Int) := by omega
    have HLE := Lib.hid (show r.count ≤ l.count by have := EP.out; have := EQ.out; omega)
    go_wp2_with fail
    refine (whang1 n P r l AR.out NR.out w5 (Nat.le_trans hn hx.size) hl hP hr AL.out HLE.out (by have := HC.out; omega) NL.out).mono ?_
    rw [HPK.out.1, HPK.out.2]
    rintro e w6 ⟨T, rfl, hok, hT, hS⟩
    go_wp2
    go_ret
    exact ⟨T, rfl, wjoin_right hok HLE.out, hT, hx.trans hS⟩
set_option maxHeartbeats 400000 in
theorem wbMost_any (w : World) (l r : Tr) (hl : InH w l) (hr : InH w r) (hc : l.count + r.count ≤ 80000) (p q : Nat) (ep : p = Nat.log2 (l.count + 1)) (eq : q = Nat.log2 (r.count + 1)) :
    Calls Try.prog 18 #[.pointer l.ptr, .pointer r.ptr] w (Ret (.int .i64 (6 * ((max p q : Nat) - (min p q : Nat)) + 1)) w) := by
  have H1 := Lib.hid (wbRank_any w l (l.count + 1) hl (wt_count l (by omega)) (by omega) (by omega))
  have H2 := Lib.hid (fun W h => wbRank_any W r (r.count + 1) h (wt_count r (by omega)) (by omega) (by omega))
  rw [← ep] at H1
  rw [← eq] at H2
  have b1 : p < 100 := by rw [ep]; exact Nat.lt_of_lt_of_le ((Nat.log2_lt (by omega)).2 (show l.count + 1 < 2 ^ 20 by omega)) (by omega)
  have b2 : q < 100 := by rw [eq]; exact Nat.lt_of_lt_of_le ((Nat.log2_lt (by omega)).2 (show r.count + 1 < 2 ^ 20 by omega)) (by omega)
  have hx := Ext.refl w
  obtain ⟨M, hM⟩ : ∃ M : Int, M = (6 * ((max p q : Nat) - (min p q : Nat)) + 1 : Int) := ⟨_, rfl⟩
  rw [← hM]
  have HM := Lib.hid hM
  clear hM ep eq hc
  go_enter Try.func18, Try.ntmps18
  go_wp2_with fail
  refine (H1.out).mono ?_
  rintro e w1 ⟨rfl, hS⟩
  replace hx := hx.trans hS
  replace hr := hr.ext hS
  clear hS
  go_wp2_with fail
  refine (H2.out _ hr).mono ?_
  rintro e w2 ⟨rfl, hS⟩
  replace hx := hx.trans hS
  clear hS
  rcases Nat.lt_or_ge p q with h | h
  all_goals
    go_wp2
    all_goals
      go_ret
      exact ⟨ret_int (by rw [HM.out]; omega), hx⟩
theorem fits_wbMay : ∀ {t : BT} {A B : Tr}, t.fits A → t.fits B → wbMay A = wbMay B
  | .nil, .nil, .nil, _, _ => rfl
  | .nil, .node .., _, h, _ => h.elim
  | .nil, .nil, .node .., _, h => h.elim
  | .node .., .nil, _, h, _ => h.elim
  | .node .., .node .., .nil, _, h => h.elim
  | .node k v s n g l r, .node b L kk vv gg R, .node b' L' k' v' g' R', h, h' => by
    have l1 := fits_wbMay h.2.2.2.1 h'.2.2.2.1
    have r1 := fits_wbMay h.2.2.2.2 h'.2.2.2.2
    have eh : gg = g' := h.2.2.1.symm.trans h'.2.2.1
    subst eh
    have wl : wt L = wt L' := by
      have e : L.count = L'.count := by unfold Tr.count; rw [BT.fits_len h.2.2.2.1, BT.fits_len h'.2.2.2.1]
      unfold wt; rw [Tr.size_count, Tr.size_count, e]
    have wr : wt R = wt R' := by
      have e : R.count = R'.count := by unfold Tr.count; rw [BT.fits_len h.2.2.2.2, BT.fits_len h'.2.2.2.2]
      unfold wt; rw [Tr.size_count, Tr.size_count, e]
    have e : ∀ b l k v g r, wbOne (.node b l k v g r) = if g = 0 then (if likeB (wt l) (wt r) then 0 else 8) else 140 := fun _ _ _ _ _ _ => rfl
    rw [wbMay_node, wbMay_node, l1, r1, e, e, wl, wr]
/-- a row of beads of a tree in balance, and not too long. -/
def GoodW (zs : List BeadL) (t : BT) : Prop := t.enc = zs ∧ zs.length ≤ 400 ∧ wbMay t.tr = true
set_option maxHeartbeats 1000000 in
theorem long19_any (w : World) (p q : Value) (z0 z1 : List BeadL) (h0 : Beads w p z0) (h1 : Beads w q z1) :
    Calls Try.prog 6 #[p, q] w (Says ((∃ t, GoodW z0 t) ∧ ∃ t, GoodW z1 t) w) := by
  have L0 := Lib.hid (beadsLong_any w p z0 h0)
  have L1 := Lib.hid (fun W (h : Ext w W) => beadsLong_any W q z1 (h1.ext h))
  have HB0 := Lib.hid h0
  have HB1 := Lib.hid h1
  have hx := Ext.refl w
  obtain ⟨a0, c0, rfl⟩ := beads_slice h0
  obtain ⟨a1, c1, rfl⟩ := beads_slice h1
  clear h0 h1
  obtain ⟨S, hS⟩ : ∃ S, S = ((∃ t, GoodW z0 t) ∧ ∃ t, GoodW z1 t) := ⟨_, rfl⟩
  rw [← hS]
  have HS := Lib.hid hS
  clear hS
  generalize hN0 : z0.length = n0 at *
  generalize hN1 : z1.length = n1 at *
  have N0 := Lib.hid hN0
  have N1 := Lib.hid hN1
  clear hN0 hN1
  go_enter Try.func6, Try.ntmps6
  go_wp2_with fail
  refine L0.out.mono ?_
  cases hl0 : (decide (400 < n0) || !mayB z0) with
  | true =>
    clear hl0
    rintro e w1 ⟨rfl, h1⟩
    go_wp2
    go_ret
    exact ⟨true, rfl, fun h => (by cases h), h1⟩
  | false =>
    rintro e w1 ⟨rfl, hS⟩
    replace hx := hx.trans hS
    have HL0 := Lib.hid hl0
    clear hl0 hS
    go_wp2_with fail
    refine (L1.out w1 hx).mono ?_
    cases hl1 : (decide (400 < n1) || !mayB z1) with
    | true =>
      clear hl1
      rintro e w2 ⟨rfl, h2⟩
      go_wp2
      go_ret
      exact ⟨true, rfl, fun h => (by cases h), hx.trans h2⟩
    | false =>
      rintro e w2 ⟨rfl, hS⟩
      replace hx := hx.trans hS
      have HL1 := Lib.hid hl1
      clear hl1 hS
      obtain ⟨l0, t0, e0⟩ := long_tree (by rw [N0.out]; exact HL0.out)
      obtain ⟨l1, t1, e1⟩ := long_tree (by rw [N1.out]; exact HL1.out)
      subst e0 e1
      have T0 := Lib.hid l0
      have T1 := Lib.hid l1
      clear l0 l1 HL0 HL1
      go_wp2_with fail
      refine (may18_any t0 t0.tr w2 _ t0.tr_fits (HB0.out.ext hx) (Nat.le_trans T0.out (by decide))).mono ?_
      cases hm0 : wbMay t0.tr with
      | false =>
        clear hm0
        rintro e w3 ⟨rfl, h3⟩
        go_wp2
        go_ret
        exact ⟨true, rfl, fun h => (by cases h), hx.trans h3⟩
      | true =>
        have M0 := Lib.hid hm0
        clear hm0
        rintro e w3 ⟨rfl, hS⟩
        replace hx := hx.trans hS
        clear hS
        go_wp2_with fail
        refine (may18_any t1 t1.tr w3 _ t1.tr_fits (HB1.out.ext hx) (Nat.le_trans T1.out (by decide))).mono ?_
        cases hm1 : wbMay t1.tr with
        | false =>
          clear hm1
          rintro e w4 ⟨rfl, h4⟩
          go_wp2
          go_ret
          exact ⟨true, rfl, fun h => (by cases h), hx.trans h4⟩
        | true =>
          have M1 := Lib.hid hm1
          clear hm1
          rintro e w4 ⟨rfl, h4⟩
          go_wp2
          go_ret
          exact ⟨false, rfl, fun _ => by rw [HS.out]; exact ⟨⟨t0, rfl, T0.out, M0.out⟩, ⟨t1, rfl, T1.out, M1.out⟩⟩, hx.trans h4⟩
/-- what is known of a tree that is made of such a row. -/
theorem goodW_tree {zs : List BeadL} {t : BT} {A : Tr} (hg : GoodW zs t) (hf : t.fits A) : WbH A ∧ A.count ≤ 400 := by
  obtain ⟨rfl, h1, h2⟩ := hg
  have hc : A.count ≤ 400 := by unfold Tr.count; rw [BT.fits_len hf]; exact h1
  exact ⟨WbH.of_may (by rw [fits_wbMay hf t.tr_fits]; exact h2) (by omega), hc⟩
theorem wjoin_count {n : Nat} {l r T : Tr} {k v : Int} (h : WJoinOk n l r k v T) : T.count = l.count + 1 + r.count := by
  rw [← Tr.kvs_count, h.kvs, ← Tr.kvs_count, ← Tr.kvs_count]; simp; omega
theorem three_key {C : Tr} (h : WbH C) (hk : C.kvs = [(1, 10), (2, 20), (3, 30)]) : C.key = 2 := by
  cases C with
  | nil => simp [Tr.kvs] at hk
  | node b l k v g r =>
    obtain ⟨-, -, -, h4⟩ := h
    rw [Tr.kvs] at hk
    rw [← Tr.kvs_count, ← Tr.kvs_count] at h4
    unfold lk at h4
    have hlen := congrArg List.length hk
    rw [List.length_append, List.length_cons] at hlen
    simp at hlen
    rcases hl : l.kvs with _ | ⟨x, _ | ⟨y, xs⟩⟩
    · rw [hl] at h4 hlen; simp at h4 hlen; omega
    · rw [hl] at hk
      simp at hk
      exact hk.2.1.1
    · rw [hl] at h4 hlen; simp at h4 hlen; omega
end Go.Proofs.Ytpfkolmnejandaa
