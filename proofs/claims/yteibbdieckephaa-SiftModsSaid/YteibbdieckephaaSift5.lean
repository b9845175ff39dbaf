/- joineryref06: Takes, Not; joinerylaw06: pair, own; joineryref04.Same. -/
import Derived.Test.YteibbdieckephaaSift4
import Derived.Test.YteibbdieckephaaPair
namespace Go.Proofs.Yteibbdieckephaa
open Go Go.RowKit

set_option maxRecDepth 100000 in
set_option maxHeartbeats 2000000 in
theorem refTakes_any (w : World) (kd : Nat) (a b : Int) (nt : Bool) (k v : Int) (ha : I64 a) (hb : I64 b) : Calls Try.prog 13 #[predV kd a b nt, pairV k v] w (Ret (.bool (sTakes kd a b nt k v)) w) := by
  have hfn : ∀ f, Fence.wide.fn f := fun _ => trivial
  have HMAY := Lib.hid (fun W => refMay_any W kd a b nt ha)
  have HTK := Lib.hid (fun W hm => refTk_any W kd a b nt k v ha hb hm)
  have hpv : predV kd a b nt = .agg #[.int .u8 kd, .int .i64 a, .int .i64 b, .bool nt] := rfl
  have hqv : pairV k v = .agg #[.int .i64 k, .int .i64 v] := rfl
  rw [hpv] at HMAY HTK
  rw [hqv] at HTK
  rw [hpv, hqv]
  clear hpv hqv ha hb
  obtain ⟨w1, hw1⟩ : ∃ w1, w1 = (w.alloc (.cells #[.int .u8 kd, .int .i64 a, .int .i64 b, .bool nt] 23)).alloc (.cells #[.int .i64 k, .int .i64 v] 25) := ⟨_, rfl⟩
  have hE : Ext w w1 := by rw [hw1]; exact ((Ext.refl w).alloc _).alloc _
  have hb0 : w1.heap[w.heap.size]? = some (.cells #[.int .u8 kd, .int .i64 a, .int .i64 b, .bool nt] 23 (0, 0)) := by rw [hw1, alloc_lt _ _ _ (by simp)]; exact alloc_at _ _ _ rfl
  have hb1 : w1.heap[w.heap.size + 1]? = some (.cells #[.int .i64 k, .int .i64 v] 25 (0, 0)) := by rw [hw1]; exact alloc_at _ _ _ (by simp)
  have HW := Lib.hid hw1
  clear hw1
  go_enter Try.func13, Try.ntmps13
  obtain ⟨m⟩ : Nonempty Nat := ⟨0⟩
  refine (wpIn_wide (n := m)).1 ?_
  gi_wp2_with fail
  rw [← HW.out]
  clear HW
  have hc0 := cell_of hb0 0
  have hc1 := cell_of hb0 1
  have hc2 := cell_of hb0 2
  have hc3 := cell_of hb0 3
  have hd0 := cell_of hb1 0
  have hd1 := cell_of hb1 1
  simp at hc0 hc1 hc2 hc3 hd0 hd1
  replace hc0 := cell_all hc0
  replace hc1 := cell_all hc1
  replace hc2 := cell_all hc2
  replace hc3 := cell_all hc3
  replace hd0 := cell_all hd0
  replace hd1 := cell_all hd1
  have hx := Ext.drew w1
  refine wpIn_region_G (fun j => !(List.contains (α := Nat) [1] j)) (by kernel_rfl) ?_
  refine batchG hfn (fuel := 10) [0] (by kernel_rfl) rfl ?_
  repeat (go_big_quiet_step ((fail)))
  refine wpQuiet_nil ?_
  refine wpAnyG_one (j := 1) (by kernel_rfl) rfl ?_
  gi_wp2_with fail
  refine ⟨wide_room _, (callsIn_wide.2 (HMAY.out _)).mono ?_⟩
  cases hm : sMay kd a b with
  | false =>
    have HS := Lib.hid (show sTakes kd a b nt k v = false by unfold sTakes; rw [hm]; rfl)
    clear hm
    rintro e w2 ⟨rfl, h2⟩
    have h12 := hx.trans h2
    clear hx
    have hx := Ext.refl w2
    gi_wp2_with fail
    refine onePost_any (by kernel_rfl) ?_
    refine batchG hfn (fuel := 4) [2, 3, 4, 6, 7] (by kernel_rfl) rfl ?_
    repeat (go_big_quiet_step ((fail)))
    refine wpQuiet_nil ?_
    refine wpAnyG_skip hfn (j := 5) (by kernel_rfl) rfl rfl ?_
    simp only [Act.put, List.setIfInBounds_toArray, List.set_cons_zero, List.set_cons_succ]
    refine batchG hfn (fuel := 0) [8, 9, 10] (by kernel_rfl) rfl ?_
    repeat (go_big_quiet_step ((fail)))
    refine wpQuiet_nil ?_
    refine wpAnyG_done (by kernel_rfl) ?_
    refine calmQ_normal ?_
    gi_wp2
    go_ret
    exact ⟨ret_bool HS.out.symm, hE.trans h12⟩
  | true =>
    have HS := Lib.hid (show sTakes kd a b nt k v = (sTk kd a b k v != nt) by unfold sTakes; rw [hm]; rfl)
    have HM := Lib.hid hm
    clear hm
    rintro e w2 ⟨rfl, h2⟩
    have h12 := hx.trans h2
    clear hx
    have hx := Ext.refl w2
    replace hc0 := cell_all (hc0 w1 (Ext.refl _) ⟨w2, h12⟩)
    replace hc1 := cell_all (hc1 w1 (Ext.refl _) ⟨w2, h12⟩)
    replace hc2 := cell_all (hc2 w1 (Ext.refl _) ⟨w2, h12⟩)
    replace hc3 := cell_all (hc3 w1 (Ext.refl _) ⟨w2, h12⟩)
    replace hd0 := cell_all (hd0 w1 (Ext.refl _) ⟨w2, h12⟩)
    replace hd1 := cell_all (hd1 w1 (Ext.refl _) ⟨w2, h12⟩)
    gi_wp2_with fail
    refine onePost_any (by kernel_rfl) ?_
    refine batchG hfn (fuel := 4) [2, 3, 4, 6, 7] (by kernel_rfl) rfl ?_
    repeat (go_big_quiet_step ((fail)))
    refine wpQuiet_nil ?_
    clear hc0 hc1 hc2 hc3 hd0 hd1 hx
    refine wpAnyG_one (j := 5) (by kernel_rfl) rfl ?_
    gi_wp2_with fail
    refine ⟨wide_room _, (callsIn_wide.2 (HTK.out w2 HM.out)).mono ?_⟩
    rintro e w4 ⟨rfl, h4⟩
    generalize sTk kd a b k v = U at *
    gi_wp2_with fail
    refine onePost_ext (h4) ?_
    cases nt <;> cases U
    all_goals
      refine batchG hfn (fuel := 0) [8, 9, 10] (by kernel_rfl) rfl ?_
      repeat (go_big_quiet_step ((fail)))
      refine wpQuiet_nil ?_
      refine wpAnyG_done (by kernel_rfl) ?_
      refine calmQ_normal ?_
      gi_wp2
      go_ret
      exact ⟨ret_bool HS.out.symm, (hE.trans h12).trans h4⟩
theorem pair_any (w : World) (k : Int) : Calls Try.prog 17 #[.int .i64 k] w (Ret (pairV k 0) w) := by
  unfold pairV
  go_enter Try.func17, Try.ntmps17
  go_wp2
  exact bodyPost_ret (v := .agg #[.int .i64 k, .int .i64 0]) (by simp [results, Try.results17, go_sem]) rfl (Ret.mk ((Ext.refl w).alloc _))
theorem not_any (w : World) (kd : Nat) (a b : Int) (nt : Bool) : Calls Try.prog 16 #[predV kd a b nt] w (Ret (predV kd a b (!nt)) w) := by
  unfold predV
  go_enter Try.func16, Try.ntmps16
  go_wp2
  exact bodyPost_ret (v := .agg #[.int .u8 kd, .int .i64 a, .int .i64 b, .bool (!nt)]) (by simp [results, Try.results16, go_sem]) rfl (Ret.mk (((Ext.refl w).alloc _).alloc _))
theorem own_any (w : World) (p : Value) (zs : List (Int × Int)) (h : PRow w p zs) (hl : zs.length ≤ 5000) : Calls Try.prog 7 #[p] w (GivesP zs w) := by
  have H := Lib.hid h
  have HL := Lib.hid hl
  obtain ⟨a, c, rfl⟩ := prow_slice h
  clear h hl
  go_enter Try.func7, Try.ntmps7
  go_wp2_with (at_builtin; refine wpList_append_pairs (B := w.heap.size) (zs := []) (ys := zs) rfl (.const (.slice none 0 0)) (.tmp 3) rfl rfl rfl (POwn.nil _ _) H.out ?b1 (Nat.le_refl _) ?_)
  case b1 => have := HL.out; simp; omega
  intro v1 w1 hown hg
  have hE : Ext w w1 := pgrown_ext (Ext.refl w) (POwn.nil _ _) hg
  have HO := Lib.hid hown
  clear hown hg
  go_wp2
  go_ret
  exact ⟨_, rfl, by simpa using HO.out, hE⟩
end Go.Proofs.Yteibbdieckephaa
