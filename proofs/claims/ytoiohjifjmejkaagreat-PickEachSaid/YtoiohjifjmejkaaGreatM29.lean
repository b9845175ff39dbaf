/- treap: Check, May. treapjoin: is, way, Most. -/
import Derived.Test.YtoiohjifjmejkaaGreatM28
namespace Go.Proofs.YtoiohjifjmejkaaGreat
open Go Go.RowKit
attribute [local go_sem] Oper.semAt_some

theorem boxed_noNode {w : World} {B : Nat} {t : TypeId} {v : Value} (h : Boxed w B t v) (ht : t ≠ 122) : NoNode w B := ⟨_, _, h, ht⟩
theorem InH.bt1 {A : Nat} {a b : World} {t : Tr} {ty : TypeId} {v : Value} (k : InH a t) (e : Bt [A] a b) (h : Boxed a A ty v) (ht : ty ≠ 122) : InH b t :=
  k.bt e fun P hP => by rw [List.mem_singleton.1 hP]; exact boxed_noNode h ht
theorem Boxed.get7 {L : List Nat} {a b : World} (h : Bt L a b) {B : Nat} {t : TypeId} {v : Value} (hB : B ∉ L) (k : Boxed a B t v) : Boxed b B t v := h.get hB k
theorem Bt.boxed {L : List Nat} {a b : World} (h : Bt L a b) {B : Nat} {t : TypeId} {v : Value} (hB : B ∉ L) (k : Boxed a B t v) : Boxed b B t v := h.get hB k
def TpOn (A x : Nat) (F : Nat × Int) (W : World) (e : Ending) (W' : World) : Prop := e = .returned (.bool (F.2 == 0)) ∧ Bt [A] W W' ∧ Boxed W' A 3 (.int .i64 ((x + F.1 : Nat) : Int))
theorem tp_first (b : Nat) (l : Tr) (k v g : Int) (r : Tr) : firstOf tpOne (Tr.node b l k v g r).pre = if tAbove l (.node b l k v g r) || tAbove r (.node b l k v g r) then (0, 8) else if (firstOf tpOne l.pre).2 = 0 then (l.pre.length + (firstOf tpOne r.pre).1 + 1, (firstOf tpOne r.pre).2) else ((firstOf tpOne l.pre).1 + 1, (firstOf tpOne l.pre).2) := by
  rw [Tr.pre, firstOf_cons, firstOf_append]
  unfold tpOne
  simp only [Tr.left_node, Tr.right_node]
  by_cases h : (tAbove l (.node b l k v g r) || tAbove r (.node b l k v g r)) = true
  · simp only [h]; simp
  · simp only [h]
    split <;> simp
    split <;> simp_all
set_option maxRecDepth 100000 in
set_option maxHeartbeats 2000000 in
theorem tpOn_in (A O : Nat) (hAO : O ≠ A) (T : Tr) : ∀ (n x : Nat) (W : World), InH W T → x + T.pre.length ≤ 100000 → Boxed W A 3 (.int .i64 x) →
    Boxed W O 104 (.func (.func 213) #[] #[.pointer (some ⟨A, 0, none⟩), .pointer (some ⟨O, 0, none⟩)]) →
    CallsIn Fence.wide n Tryz.prog 213 #[.pointer T.ptr, .pointer (some ⟨A, 0, none⟩), .pointer (some ⟨O, 0, none⟩)] W (TpOn A x (firstOf tpOne T.pre) W) := by
  have hfn : ∀ f, Fence.wide.fn f := fun _ => trivial
  have hO : O ∉ [A] := by simp [hAO]
  induction T with
  | nil =>
    intro n x W _ _ hA hB
    have H := Lib.hid hA
    rw [Tr.ptr_nil]
    clear hA hB
    refine callsIn_of_wp Tryz.func213 rfl trivial ?_ rfl
    simp only [Tryz.ntmps213, List.size_toArray, List.length_cons, List.length_nil, Nat.reduceAdd, Nat.reduceSub, Array.replicate_succ, Array.replicate_zero, List.push_toArray, List.append_toArray, List.nil_append, List.cons_append]
    gi_wp2_with fail
    go_ret
    exact ⟨rfl, Bt.refl _ _, H.out⟩
  | node b tl k v g tr ihl ihr =>
    intro n x W ht hx hA hB
    simp only [Tr.pre, List.length_cons, List.length_append] at hx
    have Hl := Lib.hid ihl
    have Hr := Lib.hid ihr
    have hF := tp_first b tl k v g tr
    obtain ⟨F, eF⟩ : ∃ F, F = firstOf tpOne (Tr.node b tl k v g tr).pre := ⟨_, rfl⟩
    rw [← eF] at hF ⊢
    have hLn := firstOf_le (one := tpOne) tl.pre
    have hRn := firstOf_le (one := tpOne) tr.pre
    have hnone : (firstOf tpOne tl.pre).2 = 0 → (firstOf tpOne tl.pre).1 = tl.pre.length := fun h => (firstOf_none h).1
    obtain ⟨T, eT⟩ : ∃ T, T = Tr.node b tl k v g tr := ⟨_, rfl⟩
    have HL := Lib.hid (fun W (e : InH W T) => left_any W T e)
    have HR := Lib.hid (fun W (e : InH W T) => right_any W T e)
    have HAB := Lib.hid (fun W (s : Tr) (hs : InH W s) (e : InH W T) => tpAbove_any W s T hs e)
    have hpt : T.ptr = some ⟨b, 0, none⟩ := by rw [eT]; rfl
    have hl : T.left = tl := by rw [eT]; rfl
    have hr : T.right = tr := by rw [eT]; rfl
    have HS := Lib.hid (fun W (e : InH W T) => (show InH W tl ∧ InH W tr by rw [eT] at e; exact e.2))
    rw [← eT] at ht hF ⊢
    rw [hpt] at HL HR HAB ⊢
    rw [hl] at HL
    rw [hr] at HR
    clear eF eT ihl ihr hpt hl hr
    generalize hxl : tAbove tl T = xl at *
    generalize hxr : tAbove tr T = xr at *
    generalize firstOf tpOne tl.pre = L at *
    generalize firstOf tpOne tr.pre = R at *
    obtain ⟨Ln, Le⟩ := L
    obtain ⟨Rn, Re⟩ := R
    simp only at hF hLn hRn hnone
    have HT := Lib.hid ht
    have HF := Lib.hid hF
    have HN := Lib.hid hnone
    have HX := Lib.hid (And.intro hxl hxr)
    have hAc := cell_all hA.cell
    have hAf := hA.frozen
    have HA := Lib.hid hA
    have HB := Lib.hid hB
    clear ht hF hnone hxl hxr hA hB
    cases xl with
    | true =>
      refine callsIn_of_wp Tryz.func213 rfl trivial ?_ rfl
      simp only [Tryz.ntmps213, List.size_toArray, List.length_cons, List.length_nil, Nat.reduceAdd, Nat.reduceSub, Array.replicate_succ, Array.replicate_zero, List.push_toArray, List.append_toArray, List.nil_append, List.cons_append]
      gi_wp2_with fail
      refine ⟨wide_room _, (callsIn_wide.2 (HL.out W HT.out)).mono ?_⟩
      rintro e w1 ⟨rfl, h1⟩
      gi_wp2_with fail
      refine ⟨wide_room _, (callsIn_wide.2 (HAB.out w1 _ ((HS.out W HT.out).1.ext h1) (HT.out.ext h1))).mono ?_⟩
      rw [HX.out.1]
      rintro e w2 ⟨rfl, h2⟩
      gi_wp2_with fail
      go_ret
      rw [HF.out]
      exact ⟨rfl, Bt.ext (h1.trans h2), (h1.trans h2).get HA.out⟩
    | false =>
      refine callsIn_of_wp Tryz.func213 rfl trivial ?_ rfl
      simp only [Tryz.ntmps213, List.size_toArray, List.length_cons, List.length_nil, Nat.reduceAdd, Nat.reduceSub, Array.replicate_succ, Array.replicate_zero, List.push_toArray, List.append_toArray, List.nil_append, List.cons_append]
      gi_wp2_with fail
      refine ⟨wide_room _, (callsIn_wide.2 (HL.out W HT.out)).mono ?_⟩
      rintro e w1 ⟨rfl, h1⟩
      gi_wp2_with fail
      refine ⟨wide_room _, (callsIn_wide.2 (HAB.out w1 _ ((HS.out W HT.out).1.ext h1) (HT.out.ext h1))).mono ?_⟩
      rw [HX.out.1]
      rintro e w2 ⟨rfl, h2⟩
      gi_wp2_with fail
      refine ⟨wide_room _, (callsIn_wide.2 (HR.out w2 (HT.out.ext (h1.trans h2)))).mono ?_⟩
      rintro e w3 ⟨rfl, h3⟩
      gi_wp2_with fail
      have h13 := h1.trans (h2.trans h3)
      refine ⟨wide_room _, (callsIn_wide.2 (HAB.out w3 _ ((HS.out W HT.out).2.ext h13) (HT.out.ext h13))).mono ?_⟩
      rw [HX.out.2]
      rintro e w4 ⟨rfl, h4⟩
      have h14 := h13.trans h4
      clear h1 h2 h3 h13 h4
      cases xr with
      | true =>
        gi_wp2_with fail
        go_ret
        rw [HF.out]
        exact ⟨rfl, Bt.ext h14, h14.get HA.out⟩
      | false =>
        have hA4 := h14.get HA.out
        have hB4 := h14.get HB.out
        have hc4 := cell_of hA4 0
        have hf4 := frozen_of hA4 0
        gi_wp2_with fail
        have hA5 : Boxed (w4.setCell ⟨A, 0, none⟩ (.int .i64 ((x : Int) + 1))) A 3 (.int .i64 ((x + 1 : Nat) : Int)) := Boxed.set (.int .i64 ((x : Int) + 1)) hA4
        have hB5 : Boxed (w4.setCell ⟨A, 0, none⟩ (.int .i64 ((x : Int) + 1))) O _ _ := Boxed.other hB4 hAO _
        have b5 : Bt [A] W (w4.setCell ⟨A, 0, none⟩ (.int .i64 ((x : Int) + 1))) := (Bt.ext h14).set _ _ (by simp)
        generalize w4.setCell ⟨A, 0, none⟩ (.int .i64 ((x : Int) + 1)) = w5 at *
        have t5 := HT.out.bt1 b5 HA.out (by decide)
        clear hA4 hB4 hc4 hf4 h14 hAc hAf
        have hco := cell_all hB5.cell
        have hx0 := Ext.drew w5
        refine wpIn_region_G (fun j => !(List.contains (α := Nat) [3, 8] j)) (by kernel_rfl) ?_
        refine batchG hfn (fuel := 9) [0, 1] (by kernel_rfl) rfl ?_
        repeat (go_big_quiet_step ((fail)))
        refine wpQuiet_nil ?_
        refine wpAnyG_one (j := 2) (by kernel_rfl) rfl ?_
        gi_wp2_with fail
        clear hco
        refine ⟨wide_room _, (callsIn_wide.2 (HL.out _ (t5.ext hx0))).mono ?_⟩
        rintro e w6 ⟨rfl, h6⟩
        gi_wp2_with fail
        refine onePost_ext (h6) ?_
        refine wpAnyG_one (j := 3) (by kernel_rfl) rfl ?_
        gi_wp2_with fail
        have h56 := hx0.trans h6
        have b6 := b5.trans (Bt.ext h56)
        have t6 := t5.ext h56
        refine ⟨wide_room _, (Hl.out (n - 1) (x + 1) w6 (HS.out w6 t6).1 (by omega) (h56.get hA5) (h56.get hB5)).mono ?_⟩
        rintro e w7 ⟨rfl, b7, hA7⟩
        have hB7 := Boxed.get7 b7 hO (h56.get hB5)
        have t7 := t6.bt1 b7 (h56.get hA5) (by decide)
        have b07 := b6.trans b7
        clear hA5 hB5 b5 t5 h6 h56 b6 t6 b7 hx0
        simp only at hA7
        have hco := cell_all hB7.cell
        have hx1 := Ext.refl w7
        by_cases hq : Le = 0
        · have hq' : (Le == 0) = true := by simp [hq]
          simp only [hq']
          gi_wp2_with fail
          refine onePost_any (by kernel_rfl) ?_
          refine batchG hfn (fuel := 4) [4, 5, 6] (by kernel_rfl) rfl ?_
          repeat (go_big_quiet_step ((fail)))
          refine wpQuiet_nil ?_
          refine wpAnyG_one (j := 7) (by kernel_rfl) rfl ?_
          gi_wp2_with fail
          clear hco
          refine ⟨wide_room _, (callsIn_wide.2 (HR.out _ t7)).mono ?_⟩
          rintro e w8 ⟨rfl, h8⟩
          gi_wp2_with fail
          refine onePost_ext (h8) ?_
          refine wpAnyG_one (j := 8) (by kernel_rfl) rfl ?_
          gi_wp2_with fail
          have t8 := t7.ext h8
          refine ⟨wide_room _, (Hr.out (n - 1) (x + 1 + Ln) w8 (HS.out w8 t8).2 (by omega) (h8.get hA7) (h8.get hB7)).mono ?_⟩
          rintro e w9 ⟨rfl, b9, hA9⟩
          gi_wp2_with fail
          refine onePost_any (by kernel_rfl) ?_
          refine batchG hfn (fuel := 0) [9, 10] (by kernel_rfl) rfl ?_
          repeat (go_big_quiet_step ((fail)))
          refine wpQuiet_nil ?_
          refine wpAnyG_done (by kernel_rfl) ?_
          refine calmQ_normal ?_
          gi_wp2
          go_ret
          rw [HF.out]
          have := HN.out hq
          (try simp only at hA9)
          refine ⟨by simp [hq], b07.trans ((Bt.ext h8).trans b9), ?_⟩
          have e9 : x + (tl.pre.length + Rn + 1) = x + 1 + Ln + Rn := by omega
          simp [hq, e9]
          exact hA9
        · have hq' : (Le == 0) = false := by simp [hq]
          simp only [hq']
          gi_wp2_with fail
          refine onePost_any (by kernel_rfl) ?_
          refine batchG hfn (fuel := 4) [4, 5, 6] (by kernel_rfl) rfl ?_
          repeat (go_big_quiet_step ((fail)))
          refine wpQuiet_nil ?_
          refine wpAnyG_skip hfn (j := 7) (by kernel_rfl) rfl rfl ?_
          simp only [Act.put, List.setIfInBounds_toArray, List.set_cons_zero, List.set_cons_succ]
          refine wpAnyG_skip hfn (j := 8) (by kernel_rfl) rfl rfl ?_
          simp only [Act.put, List.setIfInBounds_toArray, List.set_cons_zero, List.set_cons_succ]
          refine batchG hfn (fuel := 0) [9, 10] (by kernel_rfl) rfl ?_
          repeat (go_big_quiet_step ((fail)))
          refine wpQuiet_nil ?_
          refine wpAnyG_done (by kernel_rfl) ?_
          refine calmQ_normal ?_
          gi_wp2
          go_ret
          rw [HF.out]
          refine ⟨by simp [hq], b07, ?_⟩
          have e9 : x + (Ln + 1) = x + 1 + Ln := by omega
          simp [hq, e9]
          exact hA7
theorem tpErr : ∀ l : List Tr, (firstOf tpOne l).2 = 0 ∨ (firstOf tpOne l).2 = 8
  | [] => .inl rfl
  | t :: l => by
    rw [firstOf_cons]
    split
    · exact tpErr l
    · rename_i h
      right
      show tpOne t = 8
      unfold tpOne at h ⊢
      split
      · rfl
      · rename_i h2
        exact (h (if_neg h2)).elim
set_option maxHeartbeats 1000000 in
theorem tpCheck_any (w : World) (T : Tr) (hT : InH w T) (hc : T.pre.length ≤ 100000) : Calls Tryz.prog 206 #[.pointer T.ptr] w (Ret (.tuple #[.int .i64 (firstOf tpOne T.pre).1, .int .i64 (firstOf tpOne T.pre).2]) w) := by
  have hmf : ∀ (fn : Fn) (first cap : Array Value) (w : World), (Instr.makeFunc fn first cap).run Tryz.prog w = .ok (.func fn first cap) w := fun _ _ _ _ => rfl
  have HT := Lib.hid hT
  have HO := Lib.hid (fun A O (hAO : O ≠ A) W h hA hB => callsIn_wide.1 (tpOn_in A O hAO T 0 0 W h (by omega) hA hB))
  have he := tpErr T.pre
  clear hT hc
  generalize firstOf tpOne T.pre = F at *
  obtain ⟨Fn, Fe⟩ := F
  simp only at he
  generalize T.ptr = p at *
  go_enter Tryz.func206, Tryz.ntmps206
  go_wp2_with fail
  have hE := ((Ext.refl w).alloc (.cells #[.int .i64 0] 3)).alloc (.cells #[.func (.func 213) #[] #[.pointer (some ⟨w.heap.size, 0, none⟩), .pointer (some ⟨w.heap.size + 1, 0, none⟩)]] 104)
  have hb1 := alloc_at w (.cells #[.int .i64 0] 3) _ rfl
  have hb2 := alloc_at (w.alloc (.cells #[.int .i64 0] 3)) (.cells #[.func (.func 213) #[] #[.pointer (some ⟨w.heap.size, 0, none⟩), .pointer (some ⟨w.heap.size + 1, 0, none⟩)]] 104) (w.heap.size + 1) (by simp)
  have hb1' := ((Ext.refl _).alloc (.cells #[.func (.func 213) #[] #[.pointer (some ⟨w.heap.size, 0, none⟩), .pointer (some ⟨w.heap.size + 1, 0, none⟩)]] 104)).get hb1
  generalize (w.alloc (.cells #[.int .i64 0] 3)).alloc _ = w1 at *
  refine (HO.out w.heap.size (w.heap.size + 1) (by omega) w1 (HT.out.ext hE) hb1' hb2).mono ?_
  rintro e w2 ⟨rfl, b2, a2⟩
  have hE2 : Ext w w2 := Bt.out hE (by simp) b2
  rw [Nat.zero_add] at a2
  have hc2 := Boxed.cell a2
  have hf2 := Boxed.frozen a2
  have A2 := Lib.hid a2
  have hX : Ext w (w2.setCell ⟨w.heap.size, 0, none⟩ (.int .i64 (Fn : Nat))) := Below.setCell hE2 (Nat.le_refl _) _
  have HX := Lib.hid hX
  clear hb1 hb1' hb2 hE b2 a2 hE2 hX
  rcases he with rfl | rfl
  · go_wp2
    refine bodyPost_ret (v := .tuple #[.int .i64 (Fn : Nat), .int .i64 0]) ?_ rfl (Ret.mk HX.out)
    have := (Boxed.set (.int .i64 (Fn : Nat)) A2.out).cell
    simp [results, Tryz.results206, go_sem, this]
  · go_wp2
    refine bodyPost_ret (v := .tuple #[.int .i64 (Fn : Nat), .int .i64 8]) ?_ rfl (Ret.mk HX.out)
    have := (Boxed.set (.int .i64 (Fn : Nat)) A2.out).cell
    simp [results, Tryz.results206, go_sem, this]
theorem tpMay_any (w : World) (T : Tr) (hT : InH w T) (hc : T.pre.length ≤ 100000) : Calls Tryz.prog 207 #[.pointer T.ptr] w (Ret (.bool (tpMay T)) w) := by
  have H := Lib.hid (tpCheck_any w T hT hc)
  clear hT hc
  go_enter Tryz.func207, Tryz.ntmps207
  go_wp2_with fail
  refine (H.out).mono ?_
  rintro e w1 ⟨rfl, hS⟩
  go_wp2
  go_ret
  exact ⟨ret_bool rfl, hS⟩
end Go.Proofs.YtoiohjifjmejkaaGreat
namespace Go.Proofs.YtoiohjifjmejkaaGreat
open Go Go.RowKit

def tAboveN (A : Tr) : Tr → Bool
  | .nil => true
  | .node b l k v g r => tAbove A (.node b l k v g r)
theorem isB_def (A M B : Tr) : isB A M B = (tAbove A M && tAboveN A B) := by cases B <;> rfl
set_option maxHeartbeats 1000000 in
theorem tpIs_any (w : World) (A M B : Tr) (c mb : Nat) (hMp : M.ptr = some ⟨mb, 0, none⟩) (hA : InH w A) (hM : InH w M) (hB : InH w B) (c0 : w.cell? ⟨c, 0, none⟩ = some (.pointer M.ptr)) (c1 : w.cell? ⟨c, 1, none⟩ = some (.pointer B.ptr)) :
    Calls Tryz.prog 210 #[.pointer A.ptr, .slice (some ⟨c, 0, none⟩) 2 2] w (Ret (.bool (isB A M B)) w) := by
  have hund : undef = Value.tuple #[] := rfl
  have H1 := Lib.hid (tpAbove_any w A M hA hM)
  have HA := Lib.hid (fun W (e : Ext w W) => tpAbove_any W A B (hA.ext e) (hB.ext e))
  have hD := isB_def A M B
  rw [hMp] at c0 H1
  have hc0 := Lib.hid c0
  have hc1 := Lib.hid c1
  generalize isB A M B = X at *
  cases x1 : tAbove A M with
  | false =>
    rw [x1] at H1 hD
    have HX := Lib.hid (show X = false by rw [hD]; rfl)
    clear hA hM hB HA hD x1
    generalize A.ptr = pa at *
    go_enter Tryz.func210, Tryz.ntmps210
    go_wp2
    refine wp_loop_rounds 3 ?_
    rw [rounds_succ]
    go_wp2_with fail
    refine H1.out.mono ?_
    rintro e w1 ⟨rfl, h1⟩
    go_wp2
    go_ret
    exact ⟨ret_bool HX.out.symm, h1⟩
  | true =>
    cases A with
    | nil => rw [show tAbove .nil M = false from rfl] at x1; cases x1
    | node ab al ak av ag ar =>
      rw [x1] at H1 hD
      rw [Tr.ptr_node] at H1 HA ⊢
      cases B with
      | nil =>
        have HX := Lib.hid (show X = true by rw [hD]; rfl)
        rw [Tr.ptr_nil] at c1 hc1
        clear hA hM hB HA hD x1
        go_enter Tryz.func210, Tryz.ntmps210
        go_wp2
        refine wp_loop_rounds 3 ?_
        rw [rounds_succ]
        go_wp2_with fail
        refine H1.out.mono ?_
        rintro e w1 ⟨rfl, h1⟩
        have d1 : w1.cell? ⟨c, 1, none⟩ = some (.pointer none) := by rw [h1.cell (cell_lt hc1.out)]; exact hc1.out
        go_wp2_with fail
        rw [rounds_succ]
        go_wp2_with fail
        rw [rounds_succ]
        go_wp2
        go_ret
        exact ⟨ret_bool HX.out.symm, h1⟩
      | node bb bl bk bv bg br =>
        rw [Tr.ptr_node] at c1 hc1 HA
        obtain ⟨z, hz⟩ : ∃ z, tAbove (.node ab al ak av ag ar) (.node bb bl bk bv bg br) = z := ⟨_, rfl⟩
        rw [hz] at HA
        have HX := Lib.hid (show X = z by rw [hD, ← hz]; rfl)
        clear hA hM hB hD x1 hz
        go_enter Tryz.func210, Tryz.ntmps210
        go_wp2
        refine wp_loop_rounds 3 ?_
        rw [rounds_succ]
        go_wp2_with fail
        refine H1.out.mono ?_
        rintro e w1 ⟨rfl, h1⟩
        have d1 : w1.cell? ⟨c, 1, none⟩ = some (.pointer (some ⟨bb, 0, none⟩)) := by rw [h1.cell (cell_lt hc1.out)]; exact hc1.out
        go_wp2_with fail
        rw [rounds_succ]
        go_wp2_with fail
        refine (HA.out w1 h1).mono ?_
        rintro e w2 ⟨rfl, h2⟩
        cases z with
        | false =>
          go_wp2
          go_ret
          exact ⟨ret_bool HX.out.symm, h1.trans h2⟩
        | true =>
          go_wp2_with fail
          rw [rounds_succ]
          go_wp2
          go_ret
          exact ⟨ret_bool HX.out.symm, h1.trans h2⟩
theorem right_run (a : Array Value) (w : World) : (callFunc 37 a).run Tryz.prog w = .ok (.enter 37 a) w := by kernel_rfl
theorem left_run (a : Array Value) (w : World) : (callFunc 36 a).run Tryz.prog w = .ok (.enter 36 a) w := by kernel_rfl
theorem rway_right (t : Tr) (h : t ≠ .nil) : t.rway = 1 + t.right.rway := by cases t with | nil => exact (h rfl).elim | node => rfl
theorem lway_left (t : Tr) (h : t ≠ .nil) : t.lway = 1 + t.left.lway := by cases t with | nil => exact (h rfl).elim | node => rfl
theorem ptr_nn {t : Tr} (h : t ≠ .nil) : ∃ b, t.ptr = some ⟨b, 0, none⟩ := by cases t with | nil => exact (h rfl).elim | node b => exact ⟨b, rfl⟩
set_option maxHeartbeats 1000000 in
theorem tpWayR_any (w : World) (T : Tr) (hT : InH w T) (hc : T.count ≤ 100000) : Calls Tryz.prog 214 #[.pointer T.ptr, .func (.func 37) #[] #[]] w (Ret (.int .i64 (T.rway : Nat)) w) := by
  have HT := Lib.hid hT
  have hle := Nat.le_trans T.rway_le hc
  have hrun := right_run
  obtain ⟨p, hp⟩ : ∃ p, p = T.ptr := ⟨_, rfl⟩
  rw [← hp]
  have HP := Lib.hid hp
  clear hp hT
  go_enter Tryz.func214, Tryz.ntmps214
  go_wp2
  go_loopw [0, 4] (fun p n W => Ext w W ∧ ∃ (S : Tr) (k : Nat), p = .pointer S.ptr ∧ InH W S ∧ n = .int .i64 k ∧ k + S.rway = T.rway) (fun _ n _ => T.rway - (intOf n).toNat)
  case atStart => exact ⟨Ext.refl _, T, 0, by rw [HP.out], HT.out, rfl, Nat.zero_add _⟩
  case round =>
    obtain ⟨hX, S, k, rfl, hS, rfl, hk⟩ := hrel
    by_cases hn : S = .nil
    · subst hn
      rw [Tr.ptr_nil]
      have HK := Lib.hid (show k = T.rway from hk)
      clear hS hk
      go_wp2
      go_ret
      exact ⟨ret_int (by rw [HK.out]), hX⟩
    · obtain ⟨b, hb⟩ := ptr_nn hn
      have hS1 := rway_right S hn
      have HS := Lib.hid hS
      have HL := Lib.hid (right_any wr S hS)
      have HR := Lib.hid (show InH wr S.right by cases S with | nil => exact (hn rfl).elim | node => exact hS.2.2)
      rw [hb] at HL ⊢
      clear hS hb hn
      go_wp2_with fail
      refine HL.out.mono ?_
      rintro e w1 ⟨rfl, h1⟩
      go_wp2
      go_roundw
      case rel => exact ⟨hX.trans h1, S.right, k + 1, rfl, HR.out.ext h1, by go_num, by omega⟩
      case measure => simp [intOf]; omega
set_option maxHeartbeats 1000000 in
theorem tpWayL_any (w : World) (T : Tr) (hT : InH w T) (hc : T.count ≤ 100000) : Calls Tryz.prog 214 #[.pointer T.ptr, .func (.func 36) #[] #[]] w (Ret (.int .i64 (T.lway : Nat)) w) := by
  have HT := Lib.hid hT
  have hle := Nat.le_trans T.lway_le hc
  have hrun := left_run
  obtain ⟨p, hp⟩ : ∃ p, p = T.ptr := ⟨_, rfl⟩
  rw [← hp]
  have HP := Lib.hid hp
  clear hp hT
  go_enter Tryz.func214, Tryz.ntmps214
  go_wp2
  go_loopw [0, 4] (fun p n W => Ext w W ∧ ∃ (S : Tr) (k : Nat), p = .pointer S.ptr ∧ InH W S ∧ n = .int .i64 k ∧ k + S.lway = T.lway) (fun _ n _ => T.lway - (intOf n).toNat)
  case atStart => exact ⟨Ext.refl _, T, 0, by rw [HP.out], HT.out, rfl, Nat.zero_add _⟩
  case round =>
    obtain ⟨hX, S, k, rfl, hS, rfl, hk⟩ := hrel
    by_cases hn : S = .nil
    · subst hn
      rw [Tr.ptr_nil]
      have HK := Lib.hid (show k = T.lway from hk)
      clear hS hk
      go_wp2
      go_ret
      exact ⟨ret_int (by rw [HK.out]), hX⟩
    · obtain ⟨b, hb⟩ := ptr_nn hn
      have hS1 := lway_left S hn
      have HS := Lib.hid hS
      have HL := Lib.hid (left_any wr S hS)
      have HR := Lib.hid (show InH wr S.left by cases S with | nil => exact (hn rfl).elim | node => exact hS.2.1)
      rw [hb] at HL ⊢
      clear hS hb hn
      go_wp2_with fail
      refine HL.out.mono ?_
      rintro e w1 ⟨rfl, h1⟩
      go_wp2
      go_roundw
      case rel => exact ⟨hX.trans h1, S.left, k + 1, rfl, HR.out.ext h1, by go_num, by omega⟩
      case measure => simp [intOf]; omega
theorem tpMost_any (w : World) (l r : Tr) (hl : InH w l) (hr : InH w r) (cl : l.count ≤ 100000) (cr : r.count ≤ 100000) : Calls Tryz.prog 209 #[.pointer l.ptr, .pointer r.ptr] w (Ret (.int .i64 ((l.rway + r.lway + 1 : Nat) : Int)) w) := by
  have HL := Lib.hid (tpWayR_any w l hl cl)
  have HR := Lib.hid (fun W (e : Ext w W) => tpWayL_any W r (hr.ext e) cr)
  have h1 := Nat.le_trans l.rway_le cl
  have h2 := Nat.le_trans r.lway_le cr
  clear hl hr cl cr
  generalize l.ptr = p at *
  generalize r.ptr = q at *
  generalize l.rway = a at *
  generalize r.lway = b at *
  go_enter Tryz.func209, Tryz.ntmps209
  go_wp2_with fail
  refine HL.out.mono ?_
  rintro e w1 ⟨rfl, e1⟩
  go_wp2_with fail
  refine (HR.out w1 e1).mono ?_
  rintro e w2 ⟨rfl, e2⟩
  go_wp2
  go_ret
  exact ⟨ret_int (by omega), e1.trans e2⟩
end Go.Proofs.YtoiohjifjmejkaaGreat
