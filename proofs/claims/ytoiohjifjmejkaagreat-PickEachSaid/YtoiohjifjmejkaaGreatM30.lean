/- treapjoin.Join. -/
import Derived.Test.YtoiohjifjmejkaaGreatM29
namespace Go.Proofs.YtoiohjifjmejkaaGreat
open Go Go.RowKit
attribute [local go_sem] Oper.semAt_some

theorem tAbove_of {l M : Tr} (h : tAbove l M = true) : ∃ b ll k v g lr, l = .node b ll k v g lr ∧ aboveB g k M.tag M.key = true := by
  cases l with
  | nil => simp [tAbove] at h
  | node b ll k v g lr =>
    cases M with
    | nil => simp [tAbove] at h
    | node => exact ⟨b, ll, k, v, g, lr, rfl, h⟩
theorem above_not {t : Tr} {b : Nat} {l : Tr} {k v g : Int} {r : Tr} (h : tAbove t (.node b l k v g r) = false) : under t g k := (under_iff ..).1 h
theorem isB_top {l M r : Tr} (h : isB l M r = true) : ∃ b ll k v g lr, l = .node b ll k v g lr ∧ aboveB g k M.tag M.key = true ∧ under r g k ∧ isB r M l = false := by
  rw [isB_def, Bool.and_eq_true] at h
  obtain ⟨b, ll, k, v, g, lr, rfl, ha⟩ := tAbove_of h.1
  refine ⟨b, ll, k, v, g, lr, rfl, ha, ?_, ?_⟩
  · cases r with
    | nil => trivial
    | node => exact above_asym h.2
  · cases r with
    | nil => rfl
    | node b2 l2 k2 v2 g2 r2 =>
      have h2 : tAbove (.node b2 l2 k2 v2 g2 r2) (.node b ll k v g lr) = false := above_asym h.2
      rw [isB_def, show tAboveN (.node b2 l2 k2 v2 g2 r2) (.node b ll k v g lr) = false from h2, Bool.and_false]
theorem both_left {l M r : Tr} (hM : M ≠ .nil) (h1 : isB l M r = false) (h2 : isB r M l = false) (h : tAbove l M = true) : ∃ b ll k v g lr, l = .node b ll k v g lr ∧ aboveB g k M.tag M.key = true ∧ under r g k := by
  obtain ⟨b, ll, k, v, g, lr, rfl, ha⟩ := tAbove_of h
  refine ⟨b, ll, k, v, g, lr, rfl, ha, ?_⟩
  rw [isB_def, h, Bool.true_and] at h1
  cases r with
  | nil => trivial
  | node b2 l2 k2 v2 g2 r2 =>
    have h3 : aboveB g k g2 k2 = false := h1
    show aboveB g2 k2 g k = false
    cases M with
    | nil => exact (hM rfl).elim
    | node mb ml mk mv mg mr =>
      rw [isB_def, Bool.and_eq_false_iff] at h2
      rcases h2 with h2 | h2
      · have h4 : aboveB g2 k2 mg mk = false := h2
        have := above_trans' h3 h4
        rw [Tr.tag_node, Tr.key_node] at ha
        rw [this] at ha; cases ha
      · exact h2
theorem both_none {l M r : Tr} (h2 : isB r M l = false) (h : tAbove l M = false) : tAbove r M = false := by
  cases hr : tAbove r M with
  | false => rfl
  | true =>
    obtain ⟨b, ll, k, v, g, lr, rfl, ha⟩ := tAbove_of hr
    rw [isB_def, hr, Bool.true_and] at h2
    cases l with
    | nil => cases h2
    | node b2 l2 k2 v2 g2 r2 =>
      have h3 : aboveB g k g2 k2 = false := h2
      cases M with
      | nil => simp [tAbove] at hr
      | node mb ml mk mv mg mr =>
        have h4 : aboveB g2 k2 mg mk = false := h
        have := above_trans' h3 h4
        rw [Tr.tag_node, Tr.key_node] at ha
        rw [this] at ha; cases ha
/-- what a join of two treaps does. -/
def TJoins (n : Nat) (L R : Tr) (k v g : Int) (w : World) (e : Ending) (w' : World) : Prop := ∃ T, e = .returned (.pointer T.ptr) ∧ InH w' T ∧ TJoinOk n L R k v g T ∧ Ext w w'
set_option maxRecDepth 100000 in
set_option maxHeartbeats 2000000 in
theorem tpBoth_in (n : Nat) (l M r : Tr) (k v g : Int) (m : Nat) (w : World) (hn : n ≤ w.heap.size) (hk : M.key = k) (hv : M.val = v) (hg : M.tag = g) (hM : M ≠ .nil) (hl : InH w l) (hMi : InH w M) (hr : InH w r)
    (b1 : isB l M r = false) (b2 : isB r M l = false)
    (IH : ∀ (L R : Tr) (W : World), L.ht + R.ht < l.ht + r.ht → n ≤ W.heap.size → InH W L → InH W R → Calls Tryz.prog 205 #[.pointer L.ptr, itV k v g, .pointer R.ptr] W (TJoins n L R k v g W)) :
    CallsIn Fence.wide m Tryz.prog 212 #[.pointer l.ptr, .pointer M.ptr, .pointer r.ptr] w (TJoins n l r k v g w) := by
  have hfn : ∀ f, Fence.wide.fn f := fun _ => trivial
  have MK := Lib.hid (key_any w M hMi)
  have MV := Lib.hid (fun W (e : Ext w W) => val_any W M (hMi.ext e))
  have MG := Lib.hid (fun W (e : Ext w W) => tag_any W M (hMi.ext e))
  have HA := Lib.hid (fun W (e : Ext w W) => tpAbove_any W l M (hl.ext e) (hMi.ext e))
  have HB := Lib.hid (fun W (e : Ext w W) => tpAbove_any W r M (hr.ext e) (hMi.ext e))
  rw [hk] at MK
  rw [hv] at MV
  rw [hg] at MG
  have HI := Lib.hid IH
  have HH := Lib.hid (And.intro hl (And.intro hr hn))
  have HW := Lib.hid (And.intro hk hg)
  clear hl hMi hr hn hk hv hg IH
  refine callsIn_of_wp Tryz.func212 rfl trivial ?_ rfl
  simp only [Tryz.ntmps212, List.size_toArray, List.length_cons, List.length_nil, Nat.reduceAdd, Nat.reduceSub, Array.replicate_succ, Array.replicate_zero, List.push_toArray, List.append_toArray, List.nil_append, List.cons_append]
  gi_wp2_with fail
  refine ⟨wide_room _, (callsIn_wide.2 MK.out).mono ?_⟩
  rintro e w1 ⟨rfl, h1⟩
  gi_wp2_with fail
  refine ⟨wide_room _, (callsIn_wide.2 (MV.out w1 h1)).mono ?_⟩
  rintro e w2 ⟨rfl, h2⟩
  gi_wp2_with fail
  refine ⟨wide_room _, (callsIn_wide.2 (MG.out w2 (h1.trans h2))).mono ?_⟩
  rintro e w3 ⟨rfl, h3⟩
  have h03 := h1.trans (h2.trans h3)
  clear h1 h2 h3
  gi_wp2_with fail
  have hbox := alloc_at w3 (.cells #[.int .i64 k, .int .i64 v, .int .u64 g] 66) _ rfl
  have hX := h03.alloc (.cells #[.int .i64 k, .int .i64 v, .int .u64 g] 66)
  have hs : w.heap.size ≤ w3.heap.size := h03.size
  generalize w3.alloc (.cells #[.int .i64 k, .int .i64 v, .int .u64 g] 66) = W at *
  clear h03
  refine ⟨wide_room _, (callsIn_wide.2 (HA.out W hX)).mono ?_⟩
  cases ha : tAbove l M with
  | true =>
    obtain ⟨lb, ll, lk, lv, lg, lr, rfl, hab, hu⟩ := both_left hM b1 b2 ha
    rw [HW.out.1, HW.out.2] at hab
    rw [Tr.ptr_node]
    rintro e w4 ⟨rfl, h4⟩
    have HL := Lib.hid (fun W (e : Ext w W) => left_any W _ (HH.out.1.ext e))
    have HK := Lib.hid (fun W (e : Ext w W) => key_any W _ (HH.out.1.ext e))
    have HV := Lib.hid (fun W (e : Ext w W) => val_any W _ (HH.out.1.ext e))
    have HG := Lib.hid (fun W (e : Ext w W) => tag_any W _ (HH.out.1.ext e))
    have HR := Lib.hid (fun W (e : Ext w W) => right_any W _ (HH.out.1.ext e))
    rw [Tr.ptr_node, Tr.left_node] at HL
    rw [Tr.ptr_node, Tr.key_node] at HK
    rw [Tr.ptr_node, Tr.val_node] at HV
    rw [Tr.ptr_node, Tr.tag_node] at HG
    rw [Tr.ptr_node, Tr.right_node] at HR
    have HJ := Lib.hid (fun W (e : Ext w W) => HI.out lr r W (by rw [Tr.ht]; omega) (Nat.le_trans HH.out.2.2 e.size) (HH.out.1.2.2.ext e) (HH.out.2.1.ext e))
    have HLI := Lib.hid (fun W (e : Ext w W) => HH.out.1.2.1.ext e)
    have HOK := Lib.hid (fun T B (hb : n ≤ B) (h : TJoinOk n lr r k v g T) => TJoinOk.onLeft (b := B) hb (L := .node lb ll lk lv lg lr) rfl h hab hu)
    replace hX := hX.trans h4
    replace hbox := h4.get hbox
    clear h4 ha b1 b2 hM hab hu
    gi_wp2_with fail
    have hx := Ext.drew w4
    obtain ⟨c0, c1, c2, cf⟩ := cells3 hbox
    have c0 := cell_all c0
    have c1 := cell_all c1
    have c2 := cell_all c2
    unfold itV at HJ
    refine wpIn_region_G (fun j => !(List.contains (α := Nat) [12, 13] j)) (by kernel_rfl) ?_
    refine batchG hfn (fuel := 8) [0, 2, 4, 6, 8, 10, 11] (by kernel_rfl) rfl ?_
    repeat (go_big_quiet_step ((fail)))
    refine wpQuiet_nil ?_
    refine wpAnyG_one (j := 1) (by kernel_rfl) rfl ?_
    gi_wp2_with fail
    refine ⟨wide_room _, (callsIn_wide.2 (HL.out _ (hX.trans hx))).mono ?_⟩
    rintro e w1 ⟨rfl, h1⟩
    gi_wp2_with fail
    refine onePost_ext (h1) ?_
    refine wpAnyG_one (j := 3) (by kernel_rfl) rfl ?_
    gi_wp2_with fail
    refine ⟨wide_room _, (callsIn_wide.2 (HK.out _ ((hX.trans hx).trans h1))).mono ?_⟩
    rintro e w2 ⟨rfl, h2⟩
    gi_wp2_with fail
    refine onePost_ext (h2) ?_
    refine wpAnyG_one (j := 5) (by kernel_rfl) rfl ?_
    gi_wp2_with fail
    refine ⟨wide_room _, (callsIn_wide.2 (HV.out _ (((hX.trans hx).trans h1).trans h2))).mono ?_⟩
    rintro e w3 ⟨rfl, h3⟩
    gi_wp2_with fail
    refine onePost_ext (h3) ?_
    refine wpAnyG_one (j := 7) (by kernel_rfl) rfl ?_
    gi_wp2_with fail
    refine ⟨wide_room _, (callsIn_wide.2 (HG.out _ ((((hX.trans hx).trans h1).trans h2).trans h3))).mono ?_⟩
    rintro e w4 ⟨rfl, h4⟩
    gi_wp2_with fail
    refine onePost_ext (h4) ?_
    refine wpAnyG_one (j := 9) (by kernel_rfl) rfl ?_
    gi_wp2_with fail
    have h04 := (((hX.trans hx).trans h1).trans h2).trans (h3.trans h4)
    clear h1 h2 h3 h4
    refine ⟨wide_room _, (callsIn_wide.2 (HR.out _ h04)).mono ?_⟩
    rintro e w5 ⟨rfl, h5⟩
    gi_wp2_with fail
    refine onePost_ext (h5) ?_
    have h05 := h04.trans h5
    clear h04 h5
    refine wpAnyG_one (j := 12) (by kernel_rfl) rfl ?_
    gi_wp2_with fail
    refine ⟨wide_room _, (callsIn_wide.2 (HJ.out w5 h05)).mono ?_⟩
    rintro e w6 ⟨T, rfl, i6, ok6, h6⟩
    have h06 := h05.trans h6
    clear h05 h6
    gi_wp2_with fail
    refine onePost_any (by kernel_rfl) ?_
    refine wpAnyG_one (j := 13) (by kernel_rfl) rfl ?_
    gi_wp2_with fail
    refine ⟨wide_room _, (callsIn_wide.2 (new_any w6 _ _ _ _ _ (HLI.out w6 h06) i6)).mono ?_⟩
    rintro e w7 ⟨B, rfl, hB, i7, h7⟩
    gi_wp2_with fail
    refine onePost_any (by kernel_rfl) ?_
    refine batchG hfn (fuel := 0) [14] (by kernel_rfl) rfl ?_
    repeat (go_big_quiet_step ((fail)))
    refine wpQuiet_nil ?_
    refine wpAnyG_done (by kernel_rfl) ?_
    refine calmQ_normal ?_
    gi_wp2
    go_ret
    exact ⟨_, rfl, i7, HOK.out T B (Nat.le_trans HH.out.2.2 (Nat.le_trans h06.size hB)) ok6, h06.trans h7⟩
  | false =>
    have hb := both_none b2 ha
    have hul : under l g k := by
      cases M with
      | nil => exact (hM rfl).elim
      | node => have := above_not ha; rw [← HW.out.1, ← HW.out.2]; exact this
    have hur : under r g k := by
      cases M with
      | nil => exact (hM rfl).elim
      | node => have := above_not hb; rw [← HW.out.1, ← HW.out.2]; exact this
    rintro e w4 ⟨rfl, h4⟩
    have h04 := hX.trans h4
    gi_wp2_with fail
    refine ⟨wide_room _, (callsIn_wide.2 (HB.out w4 h04)).mono ?_⟩
    rw [hb]
    rintro e w5 ⟨rfl, h5⟩
    have h05 := h04.trans h5
    replace hbox := h5.get (h4.get hbox)
    obtain ⟨c0, c1, c2, cf⟩ := cells3 hbox
    have HOK := Lib.hid (fun B (hb : n ≤ B) => TJoinOk.mid (v := v) n B hb hul hur)
    clear hbox hX h4 h04 h5 hul hur ha hb b1 b2
    gi_wp2_with fail
    refine ⟨wide_room _, (callsIn_wide.2 (new_any w5 l r k v g (HH.out.1.ext h05) (HH.out.2.1.ext h05))).mono ?_⟩
    rintro e w6 ⟨B, rfl, hB, i6, h6⟩
    gi_wp2
    go_ret
    exact ⟨_, rfl, i6, HOK.out B (Nat.le_trans HH.out.2.2 (Nat.le_trans h05.size hB)), h05.trans h6⟩
set_option maxRecDepth 100000 in
set_option maxHeartbeats 4000000 in
theorem tpJoin_in (n : Nat) (k v g : Int) (f : Nat) : ∀ (m : Nat) (l r : Tr) (w : World), l.ht + r.ht < f → n ≤ w.heap.size → InH w l → InH w r →
    CallsIn Fence.wide m Tryz.prog 205 #[.pointer l.ptr, itV k v g, .pointer r.ptr] w (TJoins n l r k v g w) := by
  have hfn : ∀ f, Fence.wide.fn f := fun _ => trivial
  induction f with
  | zero => intro m l r w h; omega
  | succ f ih =>
    intro m l r w hf hn hl hr
    have HI := Lib.hid (show ∀ (L R : Tr) (W : World), L.ht + R.ht < l.ht + r.ht → n ≤ W.heap.size → InH W L → InH W R → Calls Tryz.prog 205 #[.pointer L.ptr, itV k v g, .pointer R.ptr] W (TJoins n L R k v g W) from
      fun L R W h1 h2 h3 h4 => callsIn_wide.1 (ih 0 L R W (by omega) h2 h3 h4))
    have HH := Lib.hid (And.intro hl (And.intro hr hn))
    clear ih hf hn hl hr
    unfold itV
    refine callsIn_of_wp Tryz.func205 rfl trivial ?_ rfl
    simp only [Tryz.ntmps205, List.size_toArray, List.length_cons, List.length_nil, Nat.reduceAdd, Nat.reduceSub, Array.replicate_succ, Array.replicate_zero, List.push_toArray, List.append_toArray, List.nil_append, List.cons_append]
    gi_wp2_with fail
    have hbox := alloc_at w (.cells #[.int .i64 k, .int .i64 v, .int .u64 g] 66) _ rfl
    have hX0 := (Ext.refl w).alloc (.cells #[.int .i64 k, .int .i64 v, .int .u64 g] 66)
    generalize w.alloc (.cells #[.int .i64 k, .int .i64 v, .int .u64 g] 66) = W0 at *
    have hnew := new_any W0 .nil .nil k v g trivial trivial
    rw [Tr.ptr_nil] at hnew
    refine ⟨wide_room _, (callsIn_wide.2 hnew).mono ?_⟩
    rintro e w1 ⟨MB, rfl, hMB, iM, h1⟩
    clear hnew
    rw [Tr.ptr_node]
    have hX1 := hX0.trans h1
    replace hbox := h1.get hbox
    obtain ⟨M, eM⟩ : ∃ M, M = Tr.node MB .nil k v g .nil := ⟨_, rfl⟩
    have hMp : M.ptr = some ⟨MB, 0, none⟩ := by rw [eM]; rfl
    have HM := Lib.hid (show M.key = k ∧ M.val = v ∧ M.tag = g ∧ M ≠ .nil from by rw [eM]; exact ⟨rfl, rfl, rfl, by simp⟩)
    rw [← eM] at iM
    clear eM hX0 h1
    gi_wp2_with fail
    have hs1 := alloc_at w1 (.cells #[.pointer (some ⟨MB, 0, none⟩), .pointer r.ptr] 31) _ rfl
    have hE1 := (Ext.refl w1).alloc (.cells #[.pointer (some ⟨MB, 0, none⟩), .pointer r.ptr] 31)
    generalize w1.alloc (.cells #[.pointer (some ⟨MB, 0, none⟩), .pointer r.ptr] 31) = w2 at *
    have hX2 := hX1.trans hE1
    rw [← hMp] at hs1
    refine ⟨wide_room _, (callsIn_wide.2 (tpIs_any w2 l M r _ MB hMp (HH.out.1.ext hX2) (iM.ext hE1) (HH.out.2.1.ext hX2) (cell_of hs1 0) (cell_of hs1 1))).mono ?_⟩
    obtain ⟨x1, e1⟩ : ∃ x, isB l M r = x := ⟨_, rfl⟩
    obtain ⟨x2, e2⟩ : ∃ x, isB r M l = x := ⟨_, rfl⟩
    rw [e1]
    rintro e w3 ⟨rfl, h3⟩
    have hX3 := hX2.trans h3
    have iM3 := (iM.ext hE1).ext h3
    replace hbox := h3.get (hE1.get hbox)
    clear hs1 hE1 hX1 hX2 h3 iM
    gi_wp2_with fail
    have hs1 := alloc_at w3 (.cells #[.pointer (some ⟨MB, 0, none⟩), .pointer l.ptr] 31) _ rfl
    have hE1 := (Ext.refl w3).alloc (.cells #[.pointer (some ⟨MB, 0, none⟩), .pointer l.ptr] 31)
    generalize w3.alloc (.cells #[.pointer (some ⟨MB, 0, none⟩), .pointer l.ptr] 31) = w4 at *
    have hX4 := hX3.trans hE1
    rw [← hMp] at hs1
    refine ⟨wide_room _, (callsIn_wide.2 (tpIs_any w4 r M l _ MB hMp (HH.out.2.1.ext hX4) (iM3.ext hE1) (HH.out.1.ext hX4) (cell_of hs1 0) (cell_of hs1 1))).mono ?_⟩
    rw [e2]
    rintro e w5 ⟨rfl, h5⟩
    have hX := hX4.trans h5
    have iM := (iM3.ext hE1).ext h5
    replace hbox := h5.get (hE1.get hbox)
    clear hs1 hE1 hX4 hX3 h5 iM3
    cases x1 with
    | true =>
      obtain ⟨lb, ll, lk, lv, lg, lr, rfl, hab, hu, hff⟩ := isB_top e1
      rw [hff] at e2
      subst e2
      rw [HM.out.1, HM.out.2.2.1] at hab
      rw [Tr.ptr_node]
      have HL := Lib.hid (fun W (e : Ext w W) => left_any W _ (HH.out.1.ext e))
      have HK := Lib.hid (fun W (e : Ext w W) => key_any W _ (HH.out.1.ext e))
      have HV := Lib.hid (fun W (e : Ext w W) => val_any W _ (HH.out.1.ext e))
      have HG := Lib.hid (fun W (e : Ext w W) => tag_any W _ (HH.out.1.ext e))
      have HR := Lib.hid (fun W (e : Ext w W) => right_any W _ (HH.out.1.ext e))
      rw [Tr.ptr_node, Tr.left_node] at HL
      rw [Tr.ptr_node, Tr.key_node] at HK
      rw [Tr.ptr_node, Tr.val_node] at HV
      rw [Tr.ptr_node, Tr.tag_node] at HG
      rw [Tr.ptr_node, Tr.right_node] at HR
      have HJ := Lib.hid (fun W (e : Ext w W) => HI.out lr r W (by rw [Tr.ht]; omega) (Nat.le_trans HH.out.2.2 e.size) (HH.out.1.2.2.ext e) (HH.out.2.1.ext e))
      have HLI := Lib.hid (fun W (e : Ext w W) => HH.out.1.2.1.ext e)
      have HOK := Lib.hid (fun T B (hb : n ≤ B) (h : TJoinOk n lr r k v g T) => TJoinOk.onLeft (b := B) hb (L := .node lb ll lk lv lg lr) rfl h hab hu)
      clear iM hab hu hMp hff e1
      gi_wp2_with fail
      have hx := Ext.drew w5
      obtain ⟨c0, c1, c2, cf⟩ := cells3 hbox
      have c0 := cell_all c0
      have c1 := cell_all c1
      have c2 := cell_all c2
      unfold itV at HJ
      refine wpIn_region_G (fun j => !(List.contains (α := Nat) [12, 13] j)) (by kernel_rfl) ?_
      refine batchG hfn (fuel := 8) [0, 2, 4, 6, 8, 10, 11] (by kernel_rfl) rfl ?_
      repeat (go_big_quiet_step ((fail)))
      refine wpQuiet_nil ?_
      refine wpAnyG_one (j := 1) (by kernel_rfl) rfl ?_
      gi_wp2_with fail
      refine ⟨wide_room _, (callsIn_wide.2 (HL.out _ (hX.trans hx))).mono ?_⟩
      rintro e w1 ⟨rfl, h1⟩
      gi_wp2_with fail
      refine onePost_ext (h1) ?_
      refine wpAnyG_one (j := 3) (by kernel_rfl) rfl ?_
      gi_wp2_with fail
      refine ⟨wide_room _, (callsIn_wide.2 (HK.out _ ((hX.trans hx).trans h1))).mono ?_⟩
      rintro e w2 ⟨rfl, h2⟩
      gi_wp2_with fail
      refine onePost_ext (h2) ?_
      refine wpAnyG_one (j := 5) (by kernel_rfl) rfl ?_
      gi_wp2_with fail
      refine ⟨wide_room _, (callsIn_wide.2 (HV.out _ (((hX.trans hx).trans h1).trans h2))).mono ?_⟩
      rintro e w3 ⟨rfl, h3⟩
      gi_wp2_with fail
      refine onePost_ext (h3) ?_
      refine wpAnyG_one (j := 7) (by kernel_rfl) rfl ?_
      gi_wp2_with fail
      refine ⟨wide_room _, (callsIn_wide.2 (HG.out _ ((((hX.trans hx).trans h1).trans h2).trans h3))).mono ?_⟩
      rintro e w4 ⟨rfl, h4⟩
      gi_wp2_with fail
      refine onePost_ext (h4) ?_
      refine wpAnyG_one (j := 9) (by kernel_rfl) rfl ?_
      gi_wp2_with fail
      have h04 := (((hX.trans hx).trans h1).trans h2).trans (h3.trans h4)
      clear h1 h2 h3 h4
      refine ⟨wide_room _, (callsIn_wide.2 (HR.out _ h04)).mono ?_⟩
      rintro e w5 ⟨rfl, h5⟩
      gi_wp2_with fail
      refine onePost_ext (h5) ?_
      have h05 := h04.trans h5
      clear h04 h5
      refine wpAnyG_one (j := 12) (by kernel_rfl) rfl ?_
      gi_wp2_with fail
      refine ⟨wide_room _, (callsIn_wide.2 (HJ.out w5 h05)).mono ?_⟩
      rintro e w6 ⟨T, rfl, i6, ok6, h6⟩
      have h06 := h05.trans h6
      clear h05 h6
      gi_wp2_with fail
      refine onePost_any (by kernel_rfl) ?_
      refine wpAnyG_one (j := 13) (by kernel_rfl) rfl ?_
      gi_wp2_with fail
      refine ⟨wide_room _, (callsIn_wide.2 (new_any w6 _ _ _ _ _ (HLI.out w6 h06) i6)).mono ?_⟩
      rintro e w7 ⟨B, rfl, hB, i7, h7⟩
      gi_wp2_with fail
      refine onePost_any (by kernel_rfl) ?_
      refine batchG hfn (fuel := 0) [14] (by kernel_rfl) rfl ?_
      repeat (go_big_quiet_step ((fail)))
      refine wpQuiet_nil ?_
      refine wpAnyG_done (by kernel_rfl) ?_
      refine calmQ_normal ?_
      gi_wp2
      go_ret
      exact ⟨_, rfl, i7, HOK.out T B (Nat.le_trans HH.out.2.2 (Nat.le_trans h06.size hB)) ok6, h06.trans h7⟩
    | false =>
      cases x2 with
      | true =>
        obtain ⟨lb, ll, lk, lv, lg, lr, rfl, hab, hu, hff⟩ := isB_top e2
        rw [HM.out.1, HM.out.2.2.1] at hab
        rw [Tr.ptr_node]
        have HL := Lib.hid (fun W (e : Ext w W) => left_any W _ (HH.out.2.1.ext e))
        have HK := Lib.hid (fun W (e : Ext w W) => key_any W _ (HH.out.2.1.ext e))
        have HV := Lib.hid (fun W (e : Ext w W) => val_any W _ (HH.out.2.1.ext e))
        have HG := Lib.hid (fun W (e : Ext w W) => tag_any W _ (HH.out.2.1.ext e))
        have HR := Lib.hid (fun W (e : Ext w W) => right_any W _ (HH.out.2.1.ext e))
        rw [Tr.ptr_node, Tr.left_node] at HL
        rw [Tr.ptr_node, Tr.key_node] at HK
        rw [Tr.ptr_node, Tr.val_node] at HV
        rw [Tr.ptr_node, Tr.tag_node] at HG
        rw [Tr.ptr_node, Tr.right_node] at HR
        have HJ := Lib.hid (fun W (e : Ext w W) => HI.out l ll W (by rw [Tr.ht]; omega) (Nat.le_trans HH.out.2.2 e.size) (HH.out.1.ext e) (HH.out.2.1.2.1.ext e))
        have HLI := Lib.hid (fun W (e : Ext w W) => HH.out.2.1.2.2.ext e)
        have HOK := Lib.hid (fun T B (hb : n ≤ B) (h : TJoinOk n l ll k v g T) => TJoinOk.onRight (b := B) hb (R := .node lb ll lk lv lg lr) rfl h hab hu)
        clear iM hab hu hMp hff e1 e2
        gi_wp2_with fail
        have hx := Ext.drew w5
        obtain ⟨c0, c1, c2, cf⟩ := cells3 hbox
        have c0 := cell_all c0
        have c1 := cell_all c1
        have c2 := cell_all c2
        unfold itV at HJ
        refine wpIn_region_G (fun j => !(List.contains (α := Nat) [12, 13] j)) (by kernel_rfl) ?_
        refine batchG hfn (fuel := 8) [0, 1, 2, 5, 7, 9, 11] (by kernel_rfl) rfl ?_
        repeat (go_big_quiet_step ((fail)))
        refine wpQuiet_nil ?_
        refine wpAnyG_one (j := 3) (by kernel_rfl) rfl ?_
        gi_wp2_with fail
        refine ⟨wide_room _, (callsIn_wide.2 (HL.out _ (hX.trans hx))).mono ?_⟩
        rintro e w1 ⟨rfl, h1⟩
        have h01 := (hX.trans hx).trans h1
        gi_wp2_with fail
        refine onePost_ext (h1) ?_
        refine wpAnyG_one (j := 4) (by kernel_rfl) rfl ?_
        gi_wp2_with fail
        refine ⟨wide_room _, (callsIn_wide.2 (HJ.out w1 h01)).mono ?_⟩
        rintro e w2 ⟨T, rfl, i2, ok2, h2⟩
        have h02 := h01.trans h2
        clear h1 h01
        gi_wp2_with fail
        refine onePost_ext (h2) ?_
        refine wpAnyG_one (j := 6) (by kernel_rfl) rfl ?_
        gi_wp2_with fail
        refine ⟨wide_room _, (callsIn_wide.2 (HK.out _ h02)).mono ?_⟩
        rintro e w3 ⟨rfl, h3⟩
        have h03 := h02.trans h3
        gi_wp2_with fail
        refine onePost_ext (h3) ?_
        refine wpAnyG_one (j := 8) (by kernel_rfl) rfl ?_
        gi_wp2_with fail
        refine ⟨wide_room _, (callsIn_wide.2 (HV.out _ h03)).mono ?_⟩
        rintro e w4 ⟨rfl, h4⟩
        have h04 := h03.trans h4
        gi_wp2_with fail
        refine onePost_ext (h4) ?_
        refine wpAnyG_one (j := 10) (by kernel_rfl) rfl ?_
        gi_wp2_with fail
        refine ⟨wide_room _, (callsIn_wide.2 (HG.out _ h04)).mono ?_⟩
        rintro e w5 ⟨rfl, h5⟩
        have h05 := h04.trans h5
        gi_wp2_with fail
        refine onePost_ext (h5) ?_
        refine wpAnyG_one (j := 12) (by kernel_rfl) rfl ?_
        gi_wp2_with fail
        refine ⟨wide_room _, (callsIn_wide.2 (HR.out _ h05)).mono ?_⟩
        rintro e w6 ⟨rfl, h6⟩
        have h06 := h05.trans h6
        have h26 := h3.trans (h4.trans (h5.trans h6))
        clear h2 h02 h3 h03 h4 h04 h5 h05 h6
        gi_wp2_with fail
        refine onePost_any (by kernel_rfl) ?_
        refine wpAnyG_one (j := 13) (by kernel_rfl) rfl ?_
        gi_wp2_with fail
        refine ⟨wide_room _, (callsIn_wide.2 (new_any w6 _ _ _ _ _ (i2.ext h26) (HLI.out w6 h06))).mono ?_⟩
        rintro e w7 ⟨B, rfl, hB, i7, h7⟩
        gi_wp2_with fail
        refine onePost_any (by kernel_rfl) ?_
        refine batchG hfn (fuel := 0) [14] (by kernel_rfl) rfl ?_
        repeat (go_big_quiet_step ((fail)))
        refine wpQuiet_nil ?_
        refine wpAnyG_done (by kernel_rfl) ?_
        refine calmQ_normal ?_
        gi_wp2
        go_ret
        exact ⟨_, rfl, i7, HOK.out T B (Nat.le_trans HH.out.2.2 (Nat.le_trans h06.size hB)) ok2, h06.trans h7⟩
      | false =>
        have HB := Lib.hid (callsIn_wide.1 (tpBoth_in n l M r k v g 0 w5 (Nat.le_trans HH.out.2.2 hX.size) HM.out.1 HM.out.2.1 HM.out.2.2.1 HM.out.2.2.2 (HH.out.1.ext hX) iM (HH.out.2.1.ext hX) e1 e2 HI.out))
        rw [hMp] at HB
        clear iM e1 e2 hbox
        gi_wp2_with fail
        refine ⟨wide_room _, (callsIn_wide.2 HB.out).mono ?_⟩
        rintro e w6 ⟨T, rfl, i6, ok6, h6⟩
        gi_wp2
        go_ret
        exact ⟨_, rfl, i6, ok6, hX.trans h6⟩
theorem tpJoin_any (n : Nat) (w : World) (l r : Tr) (k v g : Int) (hn : n ≤ w.heap.size) (hl : InH w l) (hr : InH w r) : Calls Tryz.prog 205 #[.pointer l.ptr, itV k v g, .pointer r.ptr] w (TJoins n l r k v g w) :=
  callsIn_wide.1 (tpJoin_in n k v g (l.ht + r.ht + 1) 0 l r w (by omega) hn hl hr)
end Go.Proofs.YtoiohjifjmejkaaGreat
