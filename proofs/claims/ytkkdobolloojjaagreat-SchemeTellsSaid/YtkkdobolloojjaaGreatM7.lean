/- treapjoin.Join. sync.Once, the parts of its slow road: locks, marks, what is deferred. scheme: what a scheme does, how it lies in memory, and sync.Once: face. scheme: sync.Once, and face. scheme: its methods, whatever the functions that it has do. scheme: Of, Join, Item. scheme: Item. All four schemes as one: what their functions do, and what a scheme's methods do. scheme: what no scheme answers; joinerylaw22.Of, nothing, alive. -/
import Derived.Test.YtkkdobolloojjaaGreatM6
import Derived.Tactics
import Derived.Tactics2
import Derived.Defers
import Derived.Laws.Pointers
import Derived.Laws.LoneSync
import Derived.RegionTactic
import Derived.RegionCalls
import Derived.ChangeAlike
namespace Go.Proofs.YtkkdobolloojjaaGreat
open Go Go.RowKit
attribute [local go_sem] Oper.semAt_some

theorem tAbove_of {l M : Tr} (h : tAbove l M = true) : ∃ b ll k v g lr, l = .node b ll k v g lr ∧ aboveB g k M.tag M.key = true := by
  cases l with
  | nil => simp [tAbove] at h
  | node b ll k v g lr =>
    cases M with
    | nil => simp [tAbove] at h
    | node => exact ⟨b, ll, k, v, g, lr, rfl, h⟩
theorem above_not {t : Tr} {b : Nat} {l : Tr} {k v g : Int} {r : Tr} (h : tAbove t (.node b l k v g r) = false) : under t g k := (under_iff ..).1 h
theorem isB_top {l M r : Tr} (h : isB l M r = true) : ∃ b ll k v g lr, l = .node b ll k v g lr ∧ aboveB g k M.tag M.key = true ∧ under r g k ∧ isB r M l = false := by
  rw [isB_def, Bool.and_eq_true] at h
  obtain ⟨b, ll, k, v, g, lr, rfl, ha⟩ := tAbove_of h.1
  refine ⟨b, ll, k, v, g, lr, rfl, ha, ?_, ?_⟩
  · cases r with
    | nil => trivial
    | node => exact above_asym h.2
  · cases r with
    | nil => rfl
    | node b2 l2 k2 v2 g2 r2 =>
      have h2 : tAbove (.node b2 l2 k2 v2 g2 r2) (.node b ll k v g lr) = false := above_asym h.2
      rw [isB_def, show tAboveN (.node b2 l2 k2 v2 g2 r2) (.node b ll k v g lr) = false from h2, Bool.and_false]
theorem both_left {l M r : Tr} (hM : M ≠ .nil) (h1 : isB l M r = false) (h2 : isB r M l = false) (h : tAbove l M = true) : ∃ b ll k v g lr, l = .node b ll k v g lr ∧ aboveB g k M.tag M.key = true ∧ under r g k := by
  obtain ⟨b, ll, k, v, g, lr, rfl, ha⟩ := tAbove_of h
  refine ⟨b, ll, k, v, g, lr, rfl, ha, ?_⟩
  rw [isB_def, h, Bool.true_and] at h1
  cases r with
  | nil => trivial
  | node b2 l2 k2 v2 g2 r2 =>
    have h3 : aboveB g k g2 k2 = false := h1
    show aboveB g2 k2 g k = false
    cases M with
    | nil => exact (hM rfl).elim
    | node mb ml mk mv mg mr =>
      rw [isB_def, Bool.and_eq_false_iff] at h2
      rcases h2 with h2 | h2
      · have h4 : aboveB g2 k2 mg mk = false := h2
        have := above_trans' h3 h4
        rw [Tr.tag_node, Tr.key_node] at ha
        rw [this] at ha; cases ha
      · exact h2
theorem both_none {l M r : Tr} (h2 : isB r M l = false) (h : tAbove l M = false) : tAbove r M = false := by
  cases hr : tAbove r M with
  | false => rfl
  | true =>
    obtain ⟨b, ll, k, v, g, lr, rfl, ha⟩ := tAbove_of hr
    rw [isB_def, hr, Bool.true_and] at h2
    cases l with
    | nil => cases h2
    | node b2 l2 k2 v2 g2 r2 =>
      have h3 : aboveB g k g2 k2 = false := h2
      cases M with
      | nil => simp [tAbove] at hr
      | node mb ml mk mv mg mr =>
        have h4 : aboveB g2 k2 mg mk = false := h
        have := above_trans' h3 h4
        rw [Tr.tag_node, Tr.key_node] at ha
        rw [this] at ha; cases ha
/-- what a join of two treaps does. -/
def TJoins (n : Nat) (L R : Tr) (k v g : Int) (w : World) (e : Ending) (w' : World) : Prop := ∃ T, e = .returned (.pointer T.ptr) ∧ InH w' T ∧ TJoinOk n L R k v g T ∧ Ext w w'
set_option maxRecDepth 100000 in
set_option maxHeartbeats 2000000 in
theorem tpBoth_in (n : Nat) (l M r : Tr) (k v g : Int) (m : Nat) (w : World) (hn : n ≤ w.heap.size) (hk : M.key = k) (hv : M.val = v) (hg : M.tag = g) (hM : M ≠ .nil) (hl : InH w l) (hMi : InH w M) (hr : InH w r)
    (b1 : isB l M r = false) (b2 : isB r M l = false)
    (IH : ∀ (L R : Tr) (W : World), L.ht + R.ht < l.ht + r.ht → n ≤ W.heap.size → InH W L → InH W R → Calls Tryz.prog 189 #[.pointer L.ptr, itV k v g, .pointer R.ptr] W (TJoins n L R k v g W)) :
    CallsIn Fence.wide m Tryz.prog 196 #[.pointer l.ptr, .pointer M.ptr, .pointer r.ptr] w (TJoins n l r k v g w) := by
  have hfn : ∀ f, Fence.wide.fn f := fun _ => trivial
  have MK := Lib.hid (key_any w M hMi)
  have MV := Lib.hid (fun W (e : Ext w W) => val_any W M (hMi.ext e))
  have MG := Lib.hid (fun W (e : Ext w W) => tag_any W M (hMi.ext e))
  have HA := Lib.hid (fun W (e : Ext w W) => tpAbove_any W l M (hl.ext e) (hMi.ext e))
  have HB := Lib.hid (fun W (e : Ext w W) => tpAbove_any W r M (hr.ext e) (hMi.ext e))
  rw [hk] at MK
  rw [hv] at MV
  rw [hg] at MG
  have HI := Lib.hid IH
  have HH := Lib.hid (And.intro hl (And.intro hr hn))
  have HW := Lib.hid (And.intro hk hg)
  clear hl hMi hr hn hk hv hg IH
  refine callsIn_of_wp Tryz.func196 rfl trivial ?_ rfl
  simp only [Tryz.ntmps196, List.size_toArray, List.length_cons, List.length_nil, Nat.reduceAdd, Nat.reduceSub, Array.replicate_succ, Array.replicate_zero, List.push_toArray, List.append_toArray, List.nil_append, List.cons_append]
  gi_wp2_with fail
  refine ⟨wide_room _, (callsIn_wide.2 MK.out).mono ?_⟩
  rintro e w1 ⟨rfl, h1⟩
  gi_wp2_with fail
  refine ⟨wide_room _, (callsIn_wide.2 (MV.out w1 h1)).mono ?_⟩
  rintro e w2 ⟨rfl, h2⟩
  gi_wp2_with fail
  refine ⟨wide_room _, (callsIn_wide.2 (MG.out w2 (h1.trans h2))).mono ?_⟩
  rintro e w3 ⟨rfl, h3⟩
  have h03 := h1.trans (h2.trans h3)
  clear h1 h2 h3
  gi_wp2_with fail
  have hbox := alloc_at w3 (.cells #[.int .i64 k, .int .i64 v, .int .u64 g] 51) _ rfl
  have hX := h03.alloc (.cells #[.int .i64 k, .int .i64 v, .int .u64 g] 51)
  have hs : w.heap.size ≤ w3.heap.size := h03.size
  generalize w3.alloc (.cells #[.int .i64 k, .int .i64 v, .int .u64 g] 51) = W at *
  clear h03
  refine ⟨wide_room _, (callsIn_wide.2 (HA.out W hX)).mono ?_⟩
  cases ha : tAbove l M with
  | true =>
    obtain ⟨lb, ll, lk, lv, lg, lr, rfl, hab, hu⟩ := both_left hM b1 b2 ha
    rw [HW.out.1, HW.out.2] at hab
    rw [Tr.ptr_node]
    rintro e w4 ⟨rfl, h4⟩
    have HL := Lib.hid (fun W (e : Ext w W) => left_any W _ (HH.out.1.ext e))
    have HK := Lib.hid (fun W (e : Ext w W) => key_any W _ (HH.out.1.ext e))
    have HV := Lib.hid (fun W (e : Ext w W) => val_any W _ (HH.out.1.ext e))
    have HG := Lib.hid (fun W (e : Ext w W) => tag_any W _ (HH.out.1.ext e))
    have HR := Lib.hid (fun W (e : Ext w W) => right_any W _ (HH.out.1.ext e))
    rw [Tr.ptr_node, Tr.left_node] at HL
    rw [Tr.ptr_node, Tr.key_node] at HK
    rw [Tr.ptr_node, Tr.val_node] at HV
    rw [Tr.ptr_node, Tr.tag_node] at HG
    rw [Tr.ptr_node, Tr.right_node] at HR
    have HJ := Lib.hid (fun W (e : Ext w W) => HI.out lr r W (by rw [Tr.ht]; omega) (Nat.le_trans HH.out.2.2 e.size) (HH.out.1.2.2.ext e) (HH.out.2.1.ext e))
    have HLI := Lib.hid (fun W (e : Ext w W) => HH.out.1.2.1.ext e)
    have HOK := Lib.hid (fun T B (h : TJoinOk n lr r k v g T) => TJoinOk.onLeft (b := B) (L := .node lb ll lk lv lg lr) rfl h hab hu)
    replace hX := hX.trans h4
    replace hbox := h4.get hbox
    clear h4 ha b1 b2 hM hab hu
    gi_wp2_with fail
    have hx := Ext.drew w4
    obtain ⟨c0, c1, c2, cf⟩ := cells3 hbox
    have c0 := cell_all c0
    have c1 := cell_all c1
    have c2 := cell_all c2
    unfold itV at HJ
    refine wpIn_region_G (fun j => !(List.contains (α := Nat) [12, 13] j)) (by kernel_rfl) ?_
    refine batchG hfn (fuel := 8) [0, 2, 4, 6, 8, 10, 11] (by kernel_rfl) rfl ?_
    repeat (go_big_quiet_step ((fail)))
    refine wpQuiet_nil ?_
    refine wpAnyG_one (j := 1) (by kernel_rfl) rfl ?_
    gi_wp2_with fail
    refine ⟨wide_room _, (callsIn_wide.2 (HL.out _ (hX.trans hx))).mono ?_⟩
    rintro e w1 ⟨rfl, h1⟩
    gi_wp2_with fail
    refine onePost_ext (h1) ?_
    refine wpAnyG_one (j := 3) (by kernel_rfl) rfl ?_
    gi_wp2_with fail
    refine ⟨wide_room _, (callsIn_wide.2 (HK.out _ ((hX.trans hx).trans h1))).mono ?_⟩
    rintro e w2 ⟨rfl, h2⟩
    gi_wp2_with fail
    refine onePost_ext (h2) ?_
    refine wpAnyG_one (j := 5) (by kernel_rfl) rfl ?_
    gi_wp2_with fail
    refine ⟨wide_room _, (callsIn_wide.2 (HV.out _ (((hX.trans hx).trans h1).trans h2))).mono ?_⟩
    rintro e w3 ⟨rfl, h3⟩
    gi_wp2_with fail
    refine onePost_ext (h3) ?_
    refine wpAnyG_one (j := 7) (by kernel_rfl) rfl ?_
    gi_wp2_with fail
    refine ⟨wide_room _, (callsIn_wide.2 (HG.out _ ((((hX.trans hx).trans h1).trans h2).trans h3))).mono ?_⟩
    rintro e w4 ⟨rfl, h4⟩
    gi_wp2_with fail
    refine onePost_ext (h4) ?_
    refine wpAnyG_one (j := 9) (by kernel_rfl) rfl ?_
    gi_wp2_with fail
    have h04 := (((hX.trans hx).trans h1).trans h2).trans (h3.trans h4)
    clear h1 h2 h3 h4
    refine ⟨wide_room _, (callsIn_wide.2 (HR.out _ h04)).mono ?_⟩
    rintro e w5 ⟨rfl, h5⟩
    gi_wp2_with fail
    refine onePost_ext (h5) ?_
    have h05 := h04.trans h5
    clear h04 h5
    refine wpAnyG_one (j := 12) (by kernel_rfl) rfl ?_
    gi_wp2_with fail
    refine ⟨wide_room _, (callsIn_wide.2 (HJ.out w5 h05)).mono ?_⟩
    rintro e w6 ⟨T, rfl, i6, ok6, h6⟩
    have h06 := h05.trans h6
    clear h05 h6
    gi_wp2_with fail
    refine onePost_any (by kernel_rfl) ?_
    refine wpAnyG_one (j := 13) (by kernel_rfl) rfl ?_
    gi_wp2_with fail
    refine ⟨wide_room _, (callsIn_wide.2 (new_any w6 _ _ _ _ _ (HLI.out w6 h06) i6)).mono ?_⟩
    rintro e w7 ⟨B, rfl, hB, i7, h7⟩
    gi_wp2_with fail
    refine onePost_any (by kernel_rfl) ?_
    refine batchG hfn (fuel := 0) [14] (by kernel_rfl) rfl ?_
    repeat (go_big_quiet_step ((fail)))
    refine wpQuiet_nil ?_
    refine wpAnyG_done (by kernel_rfl) ?_
    refine calmQ_normal ?_
    gi_wp2
    go_ret
    exact ⟨_, rfl, i7, HOK.out T B ok6, h06.trans h7⟩
  | false =>
    have hb := both_none b2 ha
    have hul : under l g k := by
      cases M with
      | nil => exact (hM rfl).elim
      | node => have := above_not ha; rw [← HW.out.1, ← HW.out.2]; exact this
    have hur : under r g k := by
      cases M with
      | nil => exact (hM rfl).elim
      | node => have := above_not hb; rw [← HW.out.1, ← HW.out.2]; exact this
    rintro e w4 ⟨rfl, h4⟩
    have h04 := hX.trans h4
    gi_wp2_with fail
    refine ⟨wide_room _, (callsIn_wide.2 (HB.out w4 h04)).mono ?_⟩
    rw [hb]
    rintro e w5 ⟨rfl, h5⟩
    have h05 := h04.trans h5
    replace hbox := h5.get (h4.get hbox)
    obtain ⟨c0, c1, c2, cf⟩ := cells3 hbox
    have HOK := Lib.hid (fun B => TJoinOk.mid (v := v) n B hul hur)
    clear hbox hX h4 h04 h5 hul hur ha hb b1 b2
    gi_wp2_with fail
    refine ⟨wide_room _, (callsIn_wide.2 (new_any w5 l r k v g (HH.out.1.ext h05) (HH.out.2.1.ext h05))).mono ?_⟩
    rintro e w6 ⟨B, rfl, hB, i6, h6⟩
    gi_wp2
    go_ret
    exact ⟨_, rfl, i6, HOK.out B, h05.trans h6⟩
set_option maxRecDepth 100000 in
set_option maxHeartbeats 4000000 in
theorem tpJoin_in (n : Nat) (k v g : Int) (f : Nat) : ∀ (m : Nat) (l r : Tr) (w : World), l.ht + r.ht < f → n ≤ w.heap.size → InH w l → InH w r →
    CallsIn Fence.wide m Tryz.prog 189 #[.pointer l.ptr, itV k v g, .pointer r.ptr] w (TJoins n l r k v g w) := by
  have hfn : ∀ f, Fence.wide.fn f := fun _ => trivial
  induction f with
  | zero => intro m l r w h; omega
  | succ f ih =>
    intro m l r w hf hn hl hr
    have HI := Lib.hid (show ∀ (L R : Tr) (W : World), L.ht + R.ht < l.ht + r.ht → n ≤ W.heap.size → InH W L → InH W R → Calls Tryz.prog 189 #[.pointer L.ptr, itV k v g, .pointer R.ptr] W (TJoins n L R k v g W) from
      fun L R W h1 h2 h3 h4 => callsIn_wide.1 (ih 0 L R W (by omega) h2 h3 h4))
    have HH := Lib.hid (And.intro hl (And.intro hr hn))
    clear ih hf hn hl hr
    unfold itV
    refine callsIn_of_wp Tryz.func189 rfl trivial ?_ rfl
    simp only [Tryz.ntmps189, List.size_toArray, List.length_cons, List.length_nil, Nat.reduceAdd, Nat.reduceSub, Array.replicate_succ, Array.replicate_zero, List.push_toArray, List.append_toArray, List.nil_append, List.cons_append]
    gi_wp2_with fail
    have hbox := alloc_at w (.cells #[.int .i64 k, .int .i64 v, .int .u64 g] 51) _ rfl
    have hX0 := (Ext.refl w).alloc (.cells #[.int .i64 k, .int .i64 v, .int .u64 g] 51)
    generalize w.alloc (.cells #[.int .i64 k, .int .i64 v, .int .u64 g] 51) = W0 at *
    have hnew := new_any W0 .nil .nil k v g trivial trivial
    rw [Tr.ptr_nil] at hnew
    refine ⟨wide_room _, (callsIn_wide.2 hnew).mono ?_⟩
    rintro e w1 ⟨MB, rfl, hMB, iM, h1⟩
    clear hnew
    rw [Tr.ptr_node]
    have hX1 := hX0.trans h1
    replace hbox := h1.get hbox
    obtain ⟨M, eM⟩ : ∃ M, M = Tr.node MB .nil k v g .nil := ⟨_, rfl⟩
    have hMp : M.ptr = some ⟨MB, 0, none⟩ := by rw [eM]; rfl
    have HM := Lib.hid (show M.key = k ∧ M.val = v ∧ M.tag = g ∧ M ≠ .nil from by rw [eM]; exact ⟨rfl, rfl, rfl, by simp⟩)
    rw [← eM] at iM
    clear eM hX0 h1
    gi_wp2_with fail
    have hs1 := alloc_at w1 (.cells #[.pointer (some ⟨MB, 0, none⟩), .pointer r.ptr] 28) _ rfl
    have hE1 := (Ext.refl w1).alloc (.cells #[.pointer (some ⟨MB, 0, none⟩), .pointer r.ptr] 28)
    generalize w1.alloc (.cells #[.pointer (some ⟨MB, 0, none⟩), .pointer r.ptr] 28) = w2 at *
    have hX2 := hX1.trans hE1
    rw [← hMp] at hs1
    refine ⟨wide_room _, (callsIn_wide.2 (tpIs_any w2 l M r _ MB hMp (HH.out.1.ext hX2) (iM.ext hE1) (HH.out.2.1.ext hX2) (cell_of hs1 0) (cell_of hs1 1))).mono ?_⟩
    obtain ⟨x1, e1⟩ : ∃ x, isB l M r = x := ⟨_, rfl⟩
    obtain ⟨x2, e2⟩ : ∃ x, isB r M l = x := ⟨_, rfl⟩
    rw [e1]
    rintro e w3 ⟨rfl, h3⟩
    have hX3 := hX2.trans h3
    have iM3 := (iM.ext hE1).ext h3
    replace hbox := h3.get (hE1.get hbox)
    clear hs1 hE1 hX1 hX2 h3 iM
    gi_wp2_with fail
    have hs1 := alloc_at w3 (.cells #[.pointer (some ⟨MB, 0, none⟩), .pointer l.ptr] 28) _ rfl
    have hE1 := (Ext.refl w3).alloc (.cells #[.pointer (some ⟨MB, 0, none⟩), .pointer l.ptr] 28)
    generalize w3.alloc (.cells #[.pointer (some ⟨MB, 0, none⟩), .pointer l.ptr] 28) = w4 at *
    have hX4 := hX3.trans hE1
    rw [← hMp] at hs1
    refine ⟨wide_room _, (callsIn_wide.2 (tpIs_any w4 r M l _ MB hMp (HH.out.2.1.ext hX4) (iM3.ext hE1) (HH.out.1.ext hX4) (cell_of hs1 0) (cell_of hs1 1))).mono ?_⟩
    rw [e2]
    rintro e w5 ⟨rfl, h5⟩
    have hX := hX4.trans h5
    have iM := (iM3.ext hE1).ext h5
    replace hbox := h5.get (hE1.get hbox)
    clear hs1 hE1 hX4 hX3 h5 iM3
    cases x1 with
    | true =>
      obtain ⟨lb, ll, lk, lv, lg, lr, rfl, hab, hu, hff⟩ := isB_top e1
      rw [hff] at e2
      subst e2
      rw [HM.out.1, HM.out.2.2.1] at hab
      rw [Tr.ptr_node]
      have HL := Lib.hid (fun W (e : Ext w W) => left_any W _ (HH.out.1.ext e))
      have HK := Lib.hid (fun W (e : Ext w W) => key_any W _ (HH.out.1.ext e))
      have HV := Lib.hid (fun W (e : Ext w W) => val_any W _ (HH.out.1.ext e))
      have HG := Lib.hid (fun W (e : Ext w W) => tag_any W _ (HH.out.1.ext e))
      have HR := Lib.hid (fun W (e : Ext w W) => right_any W _ (HH.out.1.ext e))
      rw [Tr.ptr_node, Tr.left_node] at HL
      rw [Tr.ptr_node, Tr.key_node] at HK
      rw [Tr.ptr_node, Tr.val_node] at HV
      rw [Tr.ptr_node, Tr.tag_node] at HG
      rw [Tr.ptr_node, Tr.right_node] at HR
      have HJ := Lib.hid (fun W (e : Ext w W) => HI.out lr r W (by rw [Tr.ht]; omega) (Nat.le_trans HH.out.2.2 e.size) (HH.out.1.2.2.ext e) (HH.out.2.1.ext e))
      have HLI := Lib.hid (fun W (e : Ext w W) => HH.out.1.2.1.ext e)
      have HOK := Lib.hid (fun T B (h : TJoinOk n lr r k v g T) => TJoinOk.onLeft (b := B) (L := .node lb ll lk lv lg lr) rfl h hab hu)
      clear iM hab hu hMp hff e1
      gi_wp2_with fail
      have hx := Ext.drew w5
      obtain ⟨c0, c1, c2, cf⟩ := cells3 hbox
      have c0 := cell_all c0
      have c1 := cell_all c1
      have c2 := cell_all c2
      unfold itV at HJ
      refine wpIn_region_G (fun j => !(List.contains (α := Nat) [12, 13] j)) (by kernel_rfl) ?_
      refine batchG hfn (fuel := 8) [0, 2, 4, 6, 8, 10, 11] (by kernel_rfl) rfl ?_
      repeat (go_big_quiet_step ((fail)))
      refine wpQuiet_nil ?_
      refine wpAnyG_one (j := 1) (by kernel_rfl) rfl ?_
      gi_wp2_with fail
      refine ⟨wide_room _, (callsIn_wide.2 (HL.out _ (hX.trans hx))).mono ?_⟩
      rintro e w1 ⟨rfl, h1⟩
      gi_wp2_with fail
      refine onePost_ext (h1) ?_
      refine wpAnyG_one (j := 3) (by kernel_rfl) rfl ?_
      gi_wp2_with fail
      refine ⟨wide_room _, (callsIn_wide.2 (HK.out _ ((hX.trans hx).trans h1))).mono ?_⟩
      rintro e w2 ⟨rfl, h2⟩
      gi_wp2_with fail
      refine onePost_ext (h2) ?_
      refine wpAnyG_one (j := 5) (by kernel_rfl) rfl ?_
      gi_wp2_with fail
      refine ⟨wide_room _, (callsIn_wide.2 (HV.out _ (((hX.trans hx).trans h1).trans h2))).mono ?_⟩
      rintro e w3 ⟨rfl, h3⟩
      gi_wp2_with fail
      refine onePost_ext (h3) ?_
      refine wpAnyG_one (j := 7) (by kernel_rfl) rfl ?_
      gi_wp2_with fail
      refine ⟨wide_room _, (callsIn_wide.2 (HG.out _ ((((hX.trans hx).trans h1).trans h2).trans h3))).mono ?_⟩
      rintro e w4 ⟨rfl, h4⟩
      gi_wp2_with fail
      refine onePost_ext (h4) ?_
      refine wpAnyG_one (j := 9) (by kernel_rfl) rfl ?_
      gi_wp2_with fail
      have h04 := (((hX.trans hx).trans h1).trans h2).trans (h3.trans h4)
      clear h1 h2 h3 h4
      refine ⟨wide_room _, (callsIn_wide.2 (HR.out _ h04)).mono ?_⟩
      rintro e w5 ⟨rfl, h5⟩
      gi_wp2_with fail
      refine onePost_ext (h5) ?_
      have h05 := h04.trans h5
      clear h04 h5
      refine wpAnyG_one (j := 12) (by kernel_rfl) rfl ?_
      gi_wp2_with fail
      refine ⟨wide_room _, (callsIn_wide.2 (HJ.out w5 h05)).mono ?_⟩
      rintro e w6 ⟨T, rfl, i6, ok6, h6⟩
      have h06 := h05.trans h6
      clear h05 h6
      gi_wp2_with fail
      refine onePost_any (by kernel_rfl) ?_
      refine wpAnyG_one (j := 13) (by kernel_rfl) rfl ?_
      gi_wp2_with fail
      refine ⟨wide_room _, (callsIn_wide.2 (new_any w6 _ _ _ _ _ (HLI.out w6 h06) i6)).mono ?_⟩
      rintro e w7 ⟨B, rfl, hB, i7, h7⟩
      gi_wp2_with fail
      refine onePost_any (by kernel_rfl) ?_
      refine batchG hfn (fuel := 0) [14] (by kernel_rfl) rfl ?_
      repeat (go_big_quiet_step ((fail)))
      refine wpQuiet_nil ?_
      refine wpAnyG_done (by kernel_rfl) ?_
      refine calmQ_normal ?_
      gi_wp2
      go_ret
      exact ⟨_, rfl, i7, HOK.out T B ok6, h06.trans h7⟩
    | false =>
      cases x2 with
      | true =>
        obtain ⟨lb, ll, lk, lv, lg, lr, rfl, hab, hu, hff⟩ := isB_top e2
        rw [HM.out.1, HM.out.2.2.1] at hab
        rw [Tr.ptr_node]
        have HL := Lib.hid (fun W (e : Ext w W) => left_any W _ (HH.out.2.1.ext e))
        have HK := Lib.hid (fun W (e : Ext w W) => key_any W _ (HH.out.2.1.ext e))
        have HV := Lib.hid (fun W (e : Ext w W) => val_any W _ (HH.out.2.1.ext e))
        have HG := Lib.hid (fun W (e : Ext w W) => tag_any W _ (HH.out.2.1.ext e))
        have HR := Lib.hid (fun W (e : Ext w W) => right_any W _ (HH.out.2.1.ext e))
        rw [Tr.ptr_node, Tr.left_node] at HL
        rw [Tr.ptr_node, Tr.key_node] at HK
        rw [Tr.ptr_node, Tr.val_node] at HV
        rw [Tr.ptr_node, Tr.tag_node] at HG
        rw [Tr.ptr_node, Tr.right_node] at HR
        have HJ := Lib.hid (fun W (e : Ext w W) => HI.out l ll W (by rw [Tr.ht]; omega) (Nat.le_trans HH.out.2.2 e.size) (HH.out.1.ext e) (HH.out.2.1.2.1.ext e))
        have HLI := Lib.hid (fun W (e : Ext w W) => HH.out.2.1.2.2.ext e)
        have HOK := Lib.hid (fun T B (h : TJoinOk n l ll k v g T) => TJoinOk.onRight (b := B) (R := .node lb ll lk lv lg lr) rfl h hab hu)
        clear iM hab hu hMp hff e1 e2
        gi_wp2_with fail
        have hx := Ext.drew w5
        obtain ⟨c0, c1, c2, cf⟩ := cells3 hbox
        have c0 := cell_all c0
        have c1 := cell_all c1
        have c2 := cell_all c2
        unfold itV at HJ
        refine wpIn_region_G (fun j => !(List.contains (α := Nat) [12, 13] j)) (by kernel_rfl) ?_
        refine batchG hfn (fuel := 8) [0, 1, 2, 5, 7, 9, 11] (by kernel_rfl) rfl ?_
        repeat (go_big_quiet_step ((fail)))
        refine wpQuiet_nil ?_
        refine wpAnyG_one (j := 3) (by kernel_rfl) rfl ?_
        gi_wp2_with fail
        refine ⟨wide_room _, (callsIn_wide.2 (HL.out _ (hX.trans hx))).mono ?_⟩
        rintro e w1 ⟨rfl, h1⟩
        have h01 := (hX.trans hx).trans h1
        gi_wp2_with fail
        refine onePost_ext (h1) ?_
        refine wpAnyG_one (j := 4) (by kernel_rfl) rfl ?_
        gi_wp2_with fail
        refine ⟨wide_room _, (callsIn_wide.2 (HJ.out w1 h01)).mono ?_⟩
        rintro e w2 ⟨T, rfl, i2, ok2, h2⟩
        have h02 := h01.trans h2
        clear h1 h01
        gi_wp2_with fail
        refine onePost_ext (h2) ?_
        refine wpAnyG_one (j := 6) (by kernel_rfl) rfl ?_
        gi_wp2_with fail
        refine ⟨wide_room _, (callsIn_wide.2 (HK.out _ h02)).mono ?_⟩
        rintro e w3 ⟨rfl, h3⟩
        have h03 := h02.trans h3
        gi_wp2_with fail
        refine onePost_ext (h3) ?_
        refine wpAnyG_one (j := 8) (by kernel_rfl) rfl ?_
        gi_wp2_with fail
        refine ⟨wide_room _, (callsIn_wide.2 (HV.out _ h03)).mono ?_⟩
        rintro e w4 ⟨rfl, h4⟩
        have h04 := h03.trans h4
        gi_wp2_with fail
        refine onePost_ext (h4) ?_
        refine wpAnyG_one (j := 10) (by kernel_rfl) rfl ?_
        gi_wp2_with fail
        refine ⟨wide_room _, (callsIn_wide.2 (HG.out _ h04)).mono ?_⟩
        rintro e w5 ⟨rfl, h5⟩
        have h05 := h04.trans h5
        gi_wp2_with fail
        refine onePost_ext (h5) ?_
        refine wpAnyG_one (j := 12) (by kernel_rfl) rfl ?_
        gi_wp2_with fail
        refine ⟨wide_room _, (callsIn_wide.2 (HR.out _ h05)).mono ?_⟩
        rintro e w6 ⟨rfl, h6⟩
        have h06 := h05.trans h6
        have h26 := h3.trans (h4.trans (h5.trans h6))
        clear h2 h02 h3 h03 h4 h04 h5 h05 h6
        gi_wp2_with fail
        refine onePost_any (by kernel_rfl) ?_
        refine wpAnyG_one (j := 13) (by kernel_rfl) rfl ?_
        gi_wp2_with fail
        refine ⟨wide_room _, (callsIn_wide.2 (new_any w6 _ _ _ _ _ (i2.ext h26) (HLI.out w6 h06))).mono ?_⟩
        rintro e w7 ⟨B, rfl, hB, i7, h7⟩
        gi_wp2_with fail
        refine onePost_any (by kernel_rfl) ?_
        refine batchG hfn (fuel := 0) [14] (by kernel_rfl) rfl ?_
        repeat (go_big_quiet_step ((fail)))
        refine wpQuiet_nil ?_
        refine wpAnyG_done (by kernel_rfl) ?_
        refine calmQ_normal ?_
        gi_wp2
        go_ret
        exact ⟨_, rfl, i7, HOK.out T B ok2, h06.trans h7⟩
      | false =>
        have HB := Lib.hid (callsIn_wide.1 (tpBoth_in n l M r k v g 0 w5 (Nat.le_trans HH.out.2.2 hX.size) HM.out.1 HM.out.2.1 HM.out.2.2.1 HM.out.2.2.2 (HH.out.1.ext hX) iM (HH.out.2.1.ext hX) e1 e2 HI.out))
        rw [hMp] at HB
        clear iM e1 e2 hbox
        gi_wp2_with fail
        refine ⟨wide_room _, (callsIn_wide.2 HB.out).mono ?_⟩
        rintro e w6 ⟨T, rfl, i6, ok6, h6⟩
        gi_wp2
        go_ret
        exact ⟨_, rfl, i6, ok6, hX.trans h6⟩
theorem tpJoin_any (n : Nat) (w : World) (l r : Tr) (k v g : Int) (hn : n ≤ w.heap.size) (hl : InH w l) (hr : InH w r) : Calls Tryz.prog 189 #[.pointer l.ptr, itV k v g, .pointer r.ptr] w (TJoins n l r k v g w) :=
  callsIn_wide.1 (tpJoin_in n k v g (l.ht + r.ht + 1) 0 l r w (by omega) hn hl hr)
end Go.Proofs.YtkkdobolloojjaaGreat
namespace Go.Proofs.YtkkdobolloojjaaGreat
open Go Go.RowKit

theorem raceDisable (w : World) : (callFunc 155 #[]).run Tryz.prog w = .ok (.value (.tuple #[])) w := run_call_mark0 Tryz.func155 (by kernel_rfl) (by kernel_rfl) (by kernel_rfl) .disable (by kernel_rfl) w
theorem raceEnable (w : World) : (callFunc 157 #[]).run Tryz.prog w = .ok (.value (.tuple #[])) w := run_call_mark0 Tryz.func157 (by kernel_rfl) (by kernel_rfl) (by kernel_rfl) .enable (by kernel_rfl) w
theorem raceAcquire (a : Addr) (w : World) : (callFunc 158 #[.pointer (some a)]).run Tryz.prog w = .ok (.value (.tuple #[])) w := run_call_marked Tryz.func158 (by kernel_rfl) (by kernel_rfl) (by kernel_rfl) .acquire (by kernel_rfl) a w
theorem raceReleaseMerge (a : Addr) (w : World) : (callFunc 160 #[.pointer (some a)]).run Tryz.prog w = .ok (.value (.tuple #[])) w := run_call_marked Tryz.func160 (by kernel_rfl) (by kernel_rfl) (by kernel_rfl) .releaseMerge (by kernel_rfl) a w

/-- '(*sync/atomic.Bool).Store(true)', deferred: the cell holds 1. -/
theorem store_deferred (a : Addr) (x : Value) (u : FrameMode) (w : World) (hc : w.cell? a = some x) (hz : w.frozen? a = false) :
    CallsD Tryz.prog 127 #[.pointer (some a), .bool true] u w fun e u' w' => u' = u ∧ (e = .returned (.tuple #[]) ∧ w' = w.drew.setCell a (.int .u32 1)) := by
  have hc' : w.drew.cell? a = some x := by go_simp
  have hz' : w.drew.frozen? a = false := by go_simp
  have hst := run_call_store (P := Tryz.prog) Tryz.func149 (by kernel_rfl) (by kernel_rfl) (by kernel_rfl) (by kernel_rfl) (k := .u32) (y := 1) hc' hz'
  go_enter_d Tryz.func127, Tryz.ntmps127
  go_wp2
  go_region_calls
  all_goals (go_end0; exact ⟨rfl, rfl⟩)

set_option maxRecDepth 100000 in
set_option maxHeartbeats 1600000 in
/-- '(*sync.Mutex).Unlock', deferred, the lock held and nobody waiting. -/
theorem unlock_deferred (a : Addr) (u : FrameMode) (w : World) (hc : w.cell? a = some (.int .i32 1)) (hz : w.frozen? a = false) :
    CallsD Tryz.prog 126 #[.pointer (some a)] u w fun e u' w' => u' = u ∧ (e = .returned (.tuple #[]) ∧ w' = w.setCell a (.int .i32 0)) := by
  have hd := raceDisable
  have he := raceEnable
  have hr := raceReleaseMerge
  have hadd := run_call_add (P := Tryz.prog) Tryz.func161 (by kernel_rfl) (by kernel_rfl) (by kernel_rfl) .i32 (by kernel_rfl) (y := -1) (s := 0) hc hz (by simp [go_sem]; rfl)
  have hcv := run_convert_to_unsafe (P := Tryz.prog) (src := 183) (dst := 187) Tryz.underlying183 Tryz.underlying187 (by kernel_rfl) hc
  go_enter_d Tryz.func126, Tryz.ntmps126
  go_wp2
  go_end0
  go_wp2
  go_end0
  exact ⟨rfl, rfl⟩

set_option maxRecDepth 100000 in
set_option maxHeartbeats 1600000 in
/-- '(*sync.Mutex).Lock', the lock free. -/
theorem lock_free (a : Addr) (w : World) (hc : w.cell? a = some (.int .i32 0)) (hz : w.frozen? a = false) :
    Calls Tryz.prog 125 #[.pointer (some a)] w fun e w' => e = .returned (.tuple #[]) ∧ w' = w.setCell a (.int .i32 1) := by
  have hd := raceDisable
  have he := raceEnable
  have ha := raceAcquire
  have hcas := run_call_cas_hit (P := Tryz.prog) Tryz.func156 (by kernel_rfl) (by kernel_rfl) (by kernel_rfl) .i32 (by kernel_rfl) (y := 1) hc hz
  have hc' : (w.setCell a (.int .i32 1)).cell? a = some (.int .i32 1) := World.cell?_setCell_same w a _ hc
  have hcv := run_convert_to_unsafe (P := Tryz.prog) (src := 183) (dst := 187) Tryz.underlying183 Tryz.underlying187 (by kernel_rfl) hc'
  go_enter Tryz.func125, Tryz.ntmps125
  go_wp2
  first | go_end0 | (simp only [Exit.inBlock, Exit.then]; refine bodyPost_ret (results_none rfl _ _ _) rfl ?_) | refine bodyPost_ret (results_none rfl _ _ _) rfl ?_
  go_wp2
  go_end0
  exact ⟨rfl, rfl⟩
end Go.Proofs.YtkkdobolloojjaaGreat
namespace Go.Proofs.YtkkdobolloojjaaGreat
open Go Go.RowKit

def fnV (f : Nat) : Value := .func (.func f) #[] #[]
def nmB : Nat → Array UInt8
  | 1 => #[97, 118, 108]
  | 2 => #[114, 101, 100, 98, 108, 97, 99, 107]
  | 3 => #[119, 101, 105, 103, 104, 116]
  | _ => #[116, 114, 101, 97, 112]
/-- the functions of a scheme. -/
def joF0 : Nat → Nat
  | 1 => 88
  | 2 => 94
  | _ => 100
def ckF : Nat → Nat
  | 1 => 89
  | 2 => 95
  | 3 => 101
  | _ => 190
def ptF : Nat → Nat
  | 1 => 90
  | 2 => 96
  | 3 => 102
  | _ => 191
def rkF : Nat → Nat
  | 1 => 91
  | 2 => 97
  | 3 => 103
  | _ => 192
def msF : Nat → Nat
  | 1 => 92
  | 2 => 98
  | 3 => 104
  | _ => 193
def whF : Nat → Nat
  | 2 => 99
  | _ => 93
def plainOf (c : Nat) : Value := .agg #[.string ⟨nmB c⟩, fnV (joF0 c), fnV (ckF c), fnV (ptF c), fnV (rkF c), fnV (msF c), fnV (whF c)]
def joF (c : Nat) : Nat := if c = 4 then 189 else 187
def joP (c : Nat) : Array Value := if c = 4 then #[] else #[plainOf c]
def rkP (c : Nat) : Array Value := if c = 4 then #[.agg #[]] else #[]
def joV (c : Nat) : Value := .func (.func (joF c)) (joP c) #[]
def rkV (c : Nat) : Value := .func (.func (rkF c)) (rkP c) #[]
/-- what a scheme does. -/
def facesL (c : Nat) : List Value := [.string ⟨nmB c⟩, joV c, fnV (whF c), fnV (ckF c), fnV (ptF c), rkV c, fnV (msF c), .bool (decide (c = 4))]
def faces0 : List Value := [.string ⟨#[]⟩, .nilFunc, .nilFunc, .nilFunc, .nilFunc, .nilFunc, .nilFunc, .bool false]
def facesV (c : Nat) : Value := .agg (facesL c).toArray
def makerV (c : Nat) : Value := if c = 0 ∨ 4 < c then .nilIface else if c = 4 then .iface 138 (.agg #[]) else .iface 137 (plainOf c)

theorem maker_any (c : Nat) (hc : c < 256) (w : World) : Calls Tryz.prog 70 #[.int .u8 c] w (Ret (makerV c) w) := by
  have cases : c = 1 ∨ c = 2 ∨ c = 3 ∨ c = 4 ∨ (c ≠ 1 ∧ c ≠ 2 ∧ c ≠ 3 ∧ c ≠ 4) := by omega
  rcases cases with rfl | rfl | rfl | rfl | ⟨h1, h2, h3, h4⟩
  · go_enter Tryz.func70, Tryz.ntmps70
    go_wp2
    go_ret
    exact Ret.mk (Ext.refl _)
  · go_enter Tryz.func70, Tryz.ntmps70
    go_wp2
    go_ret
    exact Ret.mk (Ext.refl _)
  · go_enter Tryz.func70, Tryz.ntmps70
    go_wp2
    go_ret
    exact Ret.mk (Ext.refl _)
  · go_enter Tryz.func70, Tryz.ntmps70
    go_wp2
    go_ret
    exact Ret.mk (Ext.refl _)
  · have e : makerV c = .nilIface := by
      unfold makerV
      rw [if_pos (by omega)]
    rw [e]
    clear e
    have h1' : (c : Int) ≠ 1 := by omega
    have h2' : (c : Int) ≠ 2 := by omega
    have h3' : (c : Int) ≠ 3 := by omega
    have h4' : (c : Int) ≠ 4 := by omega
    clear h1 h2 h3 h4
    go_enter Tryz.func70, Tryz.ntmps70
    go_wp2
    go_ret
    exact Ret.mk (Ext.refl _)

set_option maxHeartbeats 1000000 in
theorem plainFaces_any (s : Array UInt8) (j a b c d e : Nat) (w : World) : Calls Tryz.prog 186 #[.agg #[.string ⟨s⟩, fnV j, fnV a, fnV b, fnV c, fnV d, fnV e]] w
    (Ret (.agg #[.string ⟨s⟩, .func (.func 187) #[.agg #[.string ⟨s⟩, fnV j, fnV a, fnV b, fnV c, fnV d, fnV e]] #[], fnV e, fnV a, fnV b, fnV c, fnV d, .bool false]) w) := by
  unfold fnV
  go_enter Tryz.func186, Tryz.ntmps186
  go_wp2
  refine bodyPost_ret (v := .agg #[.string ⟨s⟩, .func (.func 187) #[.agg #[.string ⟨s⟩, fnV j, fnV a, fnV b, fnV c, fnV d, fnV e]] #[], fnV e, fnV a, fnV b, fnV c, fnV d, .bool false]) ?_ rfl ?_
  · simp [results, Tryz.results186, go_sem, fnV]
  · refine Ret.mk ?_
    exact ((Ext.refl w).alloc _).alloc _
theorem taggedFaces_any (w : World) : Calls Tryz.prog 188 #[.agg #[]] w (Ret (facesV 4) w) := by
  have hpz := part_zero w 138 (by kernel_rfl)
  go_enter Tryz.func188, Tryz.ntmps188
  go_wp2
  refine bodyPost_ret (v := facesV 4) ?_ rfl ?_
  · simp [results, Tryz.results188, go_sem, facesV, facesL, nmB, joV, joF, joP, rkV, rkP, rkF, ckF, whF, ptF, msF, fnV]
  · refine Ret.mk ?_
    exact ((Ext.refl w).alloc _).alloc _
theorem makerF_plain (f : Nat) (w : World) (v : Value) : (method (f + 1) 137 v "joinery/scheme.faces").run Tryz.prog w = .ok (186, v) w := by kernel_rfl
theorem makerF_tagged (f : Nat) (w : World) (v : Value) : (method (f + 1) 138 v "joinery/scheme.faces").run Tryz.prog w = .ok (188, v) w := by kernel_rfl
/-- a scheme in memory. -/
def schL (c d st : Nat) (F : List Value) (n : Int) : List Value := [.int .u8 c, .int .u32 d, .int .i32 st, .int .u32 0] ++ F ++ [.int .u64 n]
def SchAt (P : Nat) (w : World) (c d st : Nat) (F : List Value) (n : Int) : Prop := w.heap[P]? = some (.cells (schL c d st F n).toArray 94 (0, 0))
theorem maker_face (c : Nat) (hc1 : 1 ≤ c) (hc4 : c ≤ 4) : ∃ T mF v, makerV c = .iface T v ∧ (∀ (f : Nat) (w : World), (method (f + 1) T v "joinery/scheme.faces").run Tryz.prog w = .ok (mF, v) w) ∧ (∀ (a : Array Value) (w : World), (callFunc mF a).run Tryz.prog w = .ok (.enter mF a) w) ∧
    ∀ w : World, Calls Tryz.prog mF #[v] w (Ret (.agg #[.string ⟨nmB c⟩, joV c, fnV (whF c), fnV (ckF c), fnV (ptF c), rkV c, fnV (msF c), .bool (decide (c = 4))]) w) := by
  have cases : c = 4 ∨ c = 1 ∨ c = 2 ∨ c = 3 := by omega
  rcases cases with rfl | rfl | rfl | rfl
  · exact ⟨_, _, _, rfl, fun f w => makerF_tagged f w _, fun a w => by kernel_rfl, fun w => taggedFaces_any w⟩
  · exact ⟨_, _, _, rfl, fun f w => makerF_plain f w _, fun a w => by kernel_rfl, fun w => plainFaces_any _ _ _ _ _ _ _ w⟩
  · exact ⟨_, _, _, rfl, fun f w => makerF_plain f w _, fun a w => by kernel_rfl, fun w => plainFaces_any _ _ _ _ _ _ _ w⟩
  · exact ⟨_, _, _, rfl, fun f w => makerF_plain f w _, fun a w => by kernel_rfl, fun w => plainFaces_any _ _ _ _ _ _ _ w⟩
set_option maxHeartbeats 1000000 in
theorem faceOnce_any (P pl c st : Nat) (n : Int) (w : World) (hc1 : 1 ≤ c) (hc4 : c ≤ 4) (hp : w.cell? ⟨pl, 0, none⟩ = some (.pointer (some ⟨P, 0, none⟩))) (h : SchAt P w c 0 st faces0 n) :
    Calls Tryz.prog 74 #[.pointer (some ⟨pl, 0, none⟩)] w (fun e w' => e = .returned (.tuple #[]) ∧ Bt [P] w w' ∧ SchAt P w' c 0 st (facesL c) n) := by
  have hfn : ∀ f, Fence.wide.fn f := fun _ => trivial
  obtain ⟨T, mF, v, hm, hm1, hm2, hm3⟩ := maker_face c hc1 hc4
  have hmk := maker_any c (by omega)
  rw [hm] at hmk
  have HMK := Lib.hid hmk
  have HM3 := Lib.hid hm3
  have HS := Lib.hid h
  have hc0 := cell_all (show w.cell? ⟨P, 0, none⟩ = some (.int .u8 c) from cell_of h 0)
  have hp0 := cell_all hp
  have hx := Ext.drew w
  clear hm hmk hm3 h hp
  unfold joV fnV rkV at HM3
  have HL := Lib.hid (show facesL c = [.string ⟨nmB c⟩, .func (.func (joF c)) (joP c) #[], .func (.func (whF c)) #[] #[], .func (.func (ckF c)) #[] #[], .func (.func (ptF c)) #[] #[], .func (.func (rkF c)) (rkP c) #[], .func (.func (msF c)) #[] #[], .bool (decide (c = 4))] from rfl)
  generalize joF c = F0 at *
  generalize joP c = F0' at *
  generalize whF c = F1 at *
  generalize ckF c = F2 at *
  generalize ptF c = F3 at *
  generalize rkF c = F4 at *
  generalize rkP c = F4' at *
  generalize msF c = F5 at *
  generalize nmB c = NM at *
  generalize decide (c = 4) = t4 at *
  go_enter Tryz.func74, Tryz.ntmps74
  obtain ⟨m⟩ : Nonempty Nat := ⟨0⟩
  refine (wpIn_wide (n := m)).1 ?_
  gi_wp2_with fail
  refine wpIn_region_G (fun j => !(List.contains (α := Nat) [9] j)) (by kernel_rfl) ?_
  refine batchG hfn (fuel := 5) [0, 1, 2, 3, 4] (by kernel_rfl) rfl ?_
  repeat (go_big_quiet_step ((fail)))
  refine wpQuiet_nil ?_
  refine wpAnyG_one (j := 5) (by kernel_rfl) rfl ?_
  gi_wp2_with fail
  refine ⟨wide_room _, (callsIn_wide.2 (HMK.out _)).mono ?_⟩
  rintro e w1 ⟨rfl, h1⟩
  gi_wp2_with fail
  refine onePost_ext (h1) ?_
  refine wpAnyG_one (j := 6) (by kernel_rfl) rfl ?_
  gi_wp2_with fail
  refine ⟨wide_room _, (callsIn_wide.2 (HM3.out _)).mono ?_⟩
  rintro e w2 ⟨rfl, h2⟩
  gi_wp2_with fail
  refine onePost_ext (h2) ?_
  have hE := hx.trans (h1.trans h2)
  have hb2 : w2.heap[P]? = some (.cells #[.int .u8 c, .int .u32 (0 : Nat), .int .i32 st, .int .u32 0, .string ⟨#[]⟩, .nilFunc, .nilFunc, .nilFunc, .nilFunc, .nilFunc, .nilFunc, .bool false, .int .u64 n] 94 (0, 0)) := hE.get HS.out
  clear hx h1 h2 hc0 hp0
  refine batchG hfn (fuel := 1) [7, 8] (by kernel_rfl) rfl ?_
  repeat (go_big_quiet_step ((fail)))
  refine wpQuiet_nil ?_
  have hc4 := cell_of hb2 4
  have hc5 := cell_of hb2 5
  have hc6 := cell_of hb2 6
  have hc7 := cell_of hb2 7
  have hc8 := cell_of hb2 8
  have hc9 := cell_of hb2 9
  have hc10 := cell_of hb2 10
  have hc11 := cell_of hb2 11
  have hf := frozen_of hb2
  simp at hc4 hc5 hc6 hc7 hc8 hc9 hc10 hc11
  refine wpAnyG_one (j := 9) (by kernel_rfl) rfl ?_
  gi_wp2_with fail
  refine onePost_any (by kernel_rfl) ?_
  refine wpAnyG_done (by kernel_rfl) ?_
  refine calmQ_normal ?_
  gi_wp2
  go_end0
  refine ⟨rfl, ?_, ?_⟩
  · have hB : Bt [P] w w2 := Bt.ext hE
    repeat (refine Bt.set ?_ _ _ (by simp))
    exact hB
  · unfold SchAt schL
    rw [HL.out]
    simp [World.setCell, Array.getElem?_modify, hb2]
/-- what lies in one block, when a cell of it is turned. -/
theorem sch_set {P : Nat} {w : World} {cs : Array Value} {t : TypeId} (h : w.heap[P]? = some (.cells cs t (0, 0))) (i : Nat) (v : Value) : (w.setCell ⟨P, i, none⟩ v).heap[P]? = some (.cells (cs.setIfInBounds i v) t (0, 0)) := by
  simp [World.setCell, Array.getElem?_modify, h]
end Go.Proofs.YtkkdobolloojjaaGreat
namespace Go.Proofs.YtkkdobolloojjaaGreat
open Go Go.RowKit

theorem boolLoad_any (a : Addr) (x : Nat) (w : World) (hc : w.cell? a = some (.int .u32 (x : Nat))) :
    Calls Tryz.prog 105 #[.pointer (some a)] w (fun e w' => e = .returned (.bool (decide (x ≠ 0))) ∧ w' = w) := by
  have hl := run_call_load (P := Tryz.prog) Tryz.func124 (by kernel_rfl) (by kernel_rfl) (by kernel_rfl) .u32 (by kernel_rfl) (w := w) (a := a) (x := (x : Int)) hc
  by_cases h : x = 0
  · subst h
    go_enter Tryz.func105, Tryz.ntmps105
    go_wp2
    go_ret
    exact ⟨rfl, rfl⟩
  · have h' : (x : Int) ≠ 0 := by omega
    have e : decide (x ≠ 0) = ((x : Int) != 0) := by simp [h]
    rw [e]
    clear e h
    go_enter Tryz.func105, Tryz.ntmps105
    go_wp2
    go_ret
    exact ⟨rfl, rfl⟩
/-- eight cells of one block, put. -/
def put8 (w : World) (N : Nat) (a0 a1 a2 a3 a4 a5 a6 a7 : Value) : World :=
  (((((((w.setCell ⟨N, 0, none⟩ a0).setCell ⟨N, 1, none⟩ a1).setCell ⟨N, 2, none⟩ a2).setCell ⟨N, 3, none⟩ a3).setCell ⟨N, 4, none⟩ a4).setCell ⟨N, 5, none⟩ a5).setCell ⟨N, 6, none⟩ a6).setCell ⟨N, 7, none⟩ a7
theorem put8_spec {w : World} {N : Nat} {z0 z1 z2 z3 z4 z5 z6 z7 : Value} {t : TypeId} (h : w.heap[N]? = some (.cells #[z0, z1, z2, z3, z4, z5, z6, z7] t (0, 0))) (a0 a1 a2 a3 a4 a5 a6 a7 : Value) :
    (put8 w N a0 a1 a2 a3 a4 a5 a6 a7).heap[N]? = some (.cells #[a0, a1, a2, a3, a4, a5, a6, a7] t (0, 0)) ∧ Bt [N] w (put8 w N a0 a1 a2 a3 a4 a5 a6 a7) := by
  refine ⟨?_, ?_⟩
  · unfold put8
    simp [World.setCell, Array.getElem?_modify, h]
  · unfold put8
    repeat (refine Bt.set ?_ _ _ (by simp))
    exact Bt.refl _ _
/-- what has turned beyond the heap's end has not turned anything old. -/
theorem Bt.cut {L : List Nat} {N : Nat} {a b c : World} (h : Bt L a b) (k : Bt [N] b c) (hN : a.heap.size ≤ N) : Bt L a c :=
  ⟨k.os.trans h.os, k.tape.trans h.tape, k.output.trans h.output, Nat.le_trans h.size k.size, fun i hi hp => (k.block i (Nat.lt_of_lt_of_le hi h.size) (by simp; omega)).trans (h.block i hi hp)⟩
set_option maxRecDepth 100000 in
set_option maxHeartbeats 1600000 in
theorem doSlow_any (P pl c : Nat) (n : Int) (w : World) (hc1 : 1 ≤ c) (hc4 : c ≤ 4) (hpl : pl ≠ P) (hp : w.cell? ⟨pl, 0, none⟩ = some (.pointer (some ⟨P, 0, none⟩))) (h : SchAt P w c 0 0 faces0 n) :
    Calls Tryz.prog 106 #[.pointer (some ⟨P, 1, none⟩), .func (.func 74) #[] #[.pointer (some ⟨pl, 0, none⟩)]] w
      (fun e w' => e = .returned (.tuple #[]) ∧ Bt [P] w w' ∧ SchAt P w' c 1 0 (facesL c) n) := by
  have hnot : ∀ (x : Bool) (w : World), (Op.unary .not (.bool x)).run Tryz.prog w = .ok (.bool (!x)) w := fun _ _ => rfl
  have hl2 : w.cell? ⟨P, 2, none⟩ = some (.int .i32 0) := cell_of h 2
  have hf2 := frozen_of h 2
  have HS := Lib.hid h
  have HP := Lib.hid hp
  clear h hp
  go_enter_defers Tryz.func106, Tryz.ntmps106
  go_wp2_with fail
  refine (lock_free ⟨P, 2, none⟩ _ hl2 hf2).mono ?_
  rintro e w1 ⟨rfl, ew⟩
  have B1 : Bt [P] w w1 := by rw [ew]; exact (Bt.refl _ _).set _ _ (by simp)
  have h1 : SchAt P w1 c 0 1 faces0 n := by rw [ew]; exact sch_set HS.out 2 _
  have hp1 : w1.cell? ⟨pl, 0, none⟩ = some (.pointer (some ⟨P, 0, none⟩)) := by
    rw [ew]
    exact (World.cell?_setCell_other _ _ _ _ (fun k => hpl (congrArg Addr.block k).symm)).trans HP.out
  clear ew hl2 hf2
  go_wp2_with fail
  refine (boolLoad_any ⟨P, 1, none⟩ 0 w1 (cell_of h1 1)).mono ?_
  rintro e w1' ⟨rfl, rfl⟩
  have H1 := Lib.hid h1
  have HP1 := Lib.hid hp1
  clear h1 hp1
  go_wp2_with fail
  refine (faceOnce_any P pl c 1 n _ hc1 hc4 HP1.out H1.out).mono ?_
  rintro e w2 ⟨rfl, B2, h2⟩
  have H2 := Lib.hid h2
  clear h2
  go_wp2
  refine leaves_cons (f := 127) (args := #[.pointer (some ⟨P, 1, none⟩), .bool true]) (by simp) (by simp [go_sem]) ?_
  refine (store_deferred ⟨P, 1, none⟩ (.int .u32 0) .returning _ (cell_of H2.out 1) (frozen_of H2.out 1)).mono ?_
  rintro e u' w'' ⟨rfl, rfl, rfl⟩
  have h3 : SchAt P (w2.drew.setCell ⟨P, 1, none⟩ (.int .u32 1)) c 1 1 (facesL c) n := sch_set (w := w2.drew) H2.out 1 _
  refine leaves_cons (f := 126) (args := #[.pointer (some ⟨P, 2, none⟩)]) (by simp [settle]) (by simp [go_sem]) ?_
  refine (unlock_deferred ⟨P, 2, none⟩ _ _ (cell_of h3 2) (frozen_of h3 2)).mono ?_
  rintro e u' w'' ⟨rfl, rfl, rfl⟩
  have h4 : SchAt P ((w2.drew.setCell ⟨P, 1, none⟩ (.int .u32 1)).setCell ⟨P, 2, none⟩ (.int .i32 0)) c 1 0 (facesL c) n := sch_set h3 2 _
  have B4 := (((B1.trans B2).drew.set ⟨P, 1, none⟩ (.int .u32 1) (by simp)).set ⟨P, 2, none⟩ (.int .i32 0) (by simp))
  simp [Leaves, settle, results, Tryz.results106]
  exact ⟨B4, h4⟩
/-- a scheme: none of its parts is made yet, or all are. -/
def Sch (P c : Nat) (n : Int) (w : World) : Prop := 1 ≤ c ∧ c ≤ 4 ∧ (SchAt P w c 0 0 faces0 n ∨ SchAt P w c 1 0 (facesL c) n)
theorem Sch.ext {P c : Nat} {n : Int} {w w' : World} (h : Sch P c n w) (e : Ext w w') : Sch P c n w' := ⟨h.1, h.2.1, h.2.2.imp (fun k => e.get k) fun k => e.get k⟩
theorem Sch.noNode {P c : Nat} {n : Int} {w : World} (h : Sch P c n w) : NoNode w P := by
  rcases h.2.2 with h | h
  · exact ⟨_, _, h, by decide⟩
  · exact ⟨_, _, h, by decide⟩
theorem Sch.lt {P c : Nat} {n : Int} {w : World} (h : Sch P c n w) : P < w.heap.size := by
  rcases h.2.2 with h | h
  · exact lt_of h
  · exact lt_of h
theorem Sch.inh {P c : Nat} {n : Int} {w w' : World} {t : Tr} (h : Sch P c n w) (e : Bt [P] w w') (k : InH w t) : InH w' t := k.bt e fun Q hQ => by
  rw [List.mem_singleton.1 hQ]; exact h.noNode
theorem do_any (P pl c : Nat) (n : Int) (w : World) (hpl : pl ≠ P) (hp : w.cell? ⟨pl, 0, none⟩ = some (.pointer (some ⟨P, 0, none⟩))) (h : Sch P c n w) :
    Calls Tryz.prog 73 #[.pointer (some ⟨P, 1, none⟩), .func (.func 74) #[] #[.pointer (some ⟨pl, 0, none⟩)]] w
      (fun e w' => e = .returned (.tuple #[]) ∧ Bt [P] w w' ∧ SchAt P w' c 1 0 (facesL c) n) := by
  obtain ⟨hc1, hc4, h | h⟩ := h
  · have HS := Lib.hid h
    have HP := Lib.hid hp
    clear h hp
    go_enter Tryz.func73, Tryz.ntmps73
    go_wp2_with fail
    refine (boolLoad_any ⟨P, 1, none⟩ 0 w (cell_of HS.out 1)).mono ?_
    rintro e w1' ⟨rfl, rfl⟩
    go_wp2_with fail
    refine (doSlow_any P pl c n _ hc1 hc4 hpl HP.out HS.out).mono ?_
    rintro e w2 ⟨rfl, B2, h2⟩
    have H2 := Lib.hid h2
    clear h2
    go_wp2
    go_end0
    exact ⟨rfl, B2, H2.out⟩
  · have HS := Lib.hid h
    have HP := Lib.hid hp
    clear h hp
    go_enter Tryz.func73, Tryz.ntmps73
    go_wp2_with fail
    refine (boolLoad_any ⟨P, 1, none⟩ 1 w (cell_of HS.out 1)).mono ?_
    rintro e w1' ⟨rfl, rfl⟩
    go_wp2
    go_end0
    exact ⟨rfl, Bt.refl _ _, HS.out⟩
set_option maxHeartbeats 1000000 in
theorem face_any (P c : Nat) (n : Int) (w : World) (h : Sch P c n w) :
    Calls Tryz.prog 46 #[.pointer (some ⟨P, 0, none⟩)] w
      (fun e w' => e = .returned (facesV c) ∧ Bt [P] w w' ∧ SchAt P w' c 1 0 (facesL c) n) := by
  have HS := Lib.hid h
  have hlt := h.lt
  clear h
  have hmf : ∀ (fn : Fn) (first cap : Array Value) (w : World), (Instr.makeFunc fn first cap).run Tryz.prog w = .ok (.func fn first cap) w := fun _ _ _ _ => rfl
  go_enter Tryz.func46, Tryz.ntmps46
  go_wp2_with fail
  have hbox := alloc_at w (.cells #[.pointer (some ⟨P, 0, none⟩)] 25) _ rfl
  have hE := (Ext.refl w).alloc (.cells #[.pointer (some ⟨P, 0, none⟩)] 25)
  have hs : (w.alloc (.cells #[.pointer (some ⟨P, 0, none⟩)] 25)).heap.size = w.heap.size + 1 := by simp
  generalize w.alloc (.cells #[.pointer (some ⟨P, 0, none⟩)] 25) = w1 at *
  have hbox2 := alloc_at w1 (.cells #[.string ⟨#[]⟩, .nilFunc, .nilFunc, .nilFunc, .nilFunc, .nilFunc, .nilFunc, .bool false] 75) _ rfl
  have hE2 := (Ext.refl w1).alloc (.cells #[.string ⟨#[]⟩, .nilFunc, .nilFunc, .nilFunc, .nilFunc, .nilFunc, .nilFunc, .bool false] 75)
  generalize w1.alloc (.cells #[.string ⟨#[]⟩, .nilFunc, .nilFunc, .nilFunc, .nilFunc, .nilFunc, .nilFunc, .bool false] 75) = w2 at *
  rw [hs] at hbox2
  have hb := hE2.get hbox
  refine (do_any P w.heap.size c n w2 (by omega) (cell_of hb 0) ((HS.out.ext hE).ext hE2)).mono ?_
  rintro e w3 ⟨rfl, B3, h3⟩
  have hq := cell_of (B3.get (by simp; omega) hb) 0
  have hb3 := B3.get (show w.heap.size + 1 ∉ [P] by simp; omega) hbox2
  have H3 := Lib.hid h3
  have B03 : Bt [P] w w3 := ((Bt.ext hE).trans (Bt.ext hE2)).trans B3
  have hz0 := cell_of hb3 0
  have hz1 := cell_of hb3 1
  have hz2 := cell_of hb3 2
  have hz3 := cell_of hb3 3
  have hz4 := cell_of hb3 4
  have hz5 := cell_of hb3 5
  have hz6 := cell_of hb3 6
  have hz7 := cell_of hb3 7
  have hzf := frozen_of hb3
  simp at hq hz0 hz1 hz2 hz3 hz4 hz5 hz6 hz7
  have hp4 := show w3.cell? ⟨P, 4, none⟩ = some (.string ⟨nmB c⟩) from cell_of h3 4
  have hp5 := show w3.cell? ⟨P, 5, none⟩ = some (.func (.func (joF c)) (joP c) #[]) from cell_of h3 5
  have hp6 := show w3.cell? ⟨P, 6, none⟩ = some (.func (.func (whF c)) #[] #[]) from cell_of h3 6
  have hp7 := show w3.cell? ⟨P, 7, none⟩ = some (.func (.func (ckF c)) #[] #[]) from cell_of h3 7
  have hp8 := show w3.cell? ⟨P, 8, none⟩ = some (.func (.func (ptF c)) #[] #[]) from cell_of h3 8
  have hp9 := show w3.cell? ⟨P, 9, none⟩ = some (.func (.func (rkF c)) (rkP c) #[]) from cell_of h3 9
  have hp10 := show w3.cell? ⟨P, 10, none⟩ = some (.func (.func (msF c)) #[] #[]) from cell_of h3 10
  have hp11 := show w3.cell? ⟨P, 11, none⟩ = some (.bool (decide (c = 4))) from cell_of h3 11
  have HF := Lib.hid (show facesV c = .agg #[.string ⟨nmB c⟩, .func (.func (joF c)) (joP c) #[], .func (.func (whF c)) #[] #[], .func (.func (ckF c)) #[] #[], .func (.func (ptF c)) #[] #[], .func (.func (rkF c)) (rkP c) #[], .func (.func (msF c)) #[] #[], .bool (decide (c = 4))] from rfl)
  have HB3 := Lib.hid hb3
  clear hbox hbox2 hE hE2 hb h3 B3 hb3
  obtain ⟨FV, hFV⟩ : ∃ FV, FV = facesV c := ⟨_, rfl⟩
  rw [← hFV] at HF
  have HV := Lib.hid hFV
  clear hFV
  generalize joF c = F0 at *
  generalize joP c = F0' at *
  generalize whF c = F1 at *
  generalize ckF c = F2 at *
  generalize ptF c = F3 at *
  generalize rkF c = F4 at *
  generalize rkP c = F4' at *
  generalize msF c = F5 at *
  generalize nmB c = NM at *
  generalize decide (c = 4) = t4 at *
  go_wp2
  change bodyPost _ _ _ _ _ (put8 w3 (w.heap.size + 1) (.string ⟨NM⟩) (.func (.func F0) F0' #[]) (.func (.func F1) #[] #[]) (.func (.func F2) #[] #[]) (.func (.func F3) #[] #[]) (.func (.func F4) F4' #[]) (.func (.func F5) #[] #[]) (.bool t4))
  obtain ⟨hW, hB⟩ := put8_spec HB3.out (.string ⟨NM⟩) (.func (.func F0) F0' #[]) (.func (.func F1) #[] #[]) (.func (.func F2) #[] #[]) (.func (.func F3) #[] #[]) (.func (.func F4) F4' #[]) (.func (.func F5) #[] #[]) (.bool t4)
  generalize put8 w3 (w.heap.size + 1) (.string ⟨NM⟩) (.func (.func F0) F0' #[]) (.func (.func F1) #[] #[]) (.func (.func F2) #[] #[]) (.func (.func F3) #[] #[]) (.func (.func F4) F4' #[]) (.func (.func F5) #[] #[]) (.bool t4) = W at *
  have hy0 := cell_of hW 0
  have hy1 := cell_of hW 1
  have hy2 := cell_of hW 2
  have hy3 := cell_of hW 3
  have hy4 := cell_of hW 4
  have hy5 := cell_of hW 5
  have hy6 := cell_of hW 6
  have hy7 := cell_of hW 7
  simp at hy0 hy1 hy2 hy3 hy4 hy5 hy6 hy7
  refine bodyPost_ret (v := FV) ?_ rfl ⟨?_, B03.cut hB (by omega), hB.get (by simp; omega) H3.out⟩
  · rw [HF.out]
    clear hp4 hp5 hp6 hp7 hp8 hp9 hp10 hp11 hz0 hz1 hz2 hz3 hz4 hz5 hz6 hz7 hzf hq
    simp [results, Tryz.results46, go_sem, hy0, hy1, hy2, hy3, hy4, hy5, hy6, hy7]
  · rw [HV.out]
end Go.Proofs.YtkkdobolloojjaaGreat
namespace Go.Proofs.YtkkdobolloojjaaGreat
open Go Go.RowKit

theorem facesV_eq (c : Nat) : facesV c = .agg #[.string ⟨nmB c⟩, .func (.func (joF c)) (joP c) #[], .func (.func (whF c)) #[] #[], .func (.func (ckF c)) #[] #[], .func (.func (ptF c)) #[] #[], .func (.func (rkF c)) (rkP c) #[], .func (.func (msF c)) #[] #[], .bool (decide (c = 4))] := rfl
theorem face_fld (a b c d e f g h : Value) (w : World) :
    (Instr.field 75 (.agg #[a, b, c, d, e, f, g, h]) 0).run Tryz.prog w = .ok a w ∧ (Instr.field 75 (.agg #[a, b, c, d, e, f, g, h]) 1).run Tryz.prog w = .ok b w ∧
    (Instr.field 75 (.agg #[a, b, c, d, e, f, g, h]) 2).run Tryz.prog w = .ok c w ∧ (Instr.field 75 (.agg #[a, b, c, d, e, f, g, h]) 3).run Tryz.prog w = .ok d w ∧
    (Instr.field 75 (.agg #[a, b, c, d, e, f, g, h]) 4).run Tryz.prog w = .ok e w ∧ (Instr.field 75 (.agg #[a, b, c, d, e, f, g, h]) 5).run Tryz.prog w = .ok f w ∧
    (Instr.field 75 (.agg #[a, b, c, d, e, f, g, h]) 6).run Tryz.prog w = .ok g w ∧ (Instr.field 75 (.agg #[a, b, c, d, e, f, g, h]) 7).run Tryz.prog w = .ok h w := by
  refine ⟨?_, ?_, ?_, ?_, ?_, ?_, ?_, ?_⟩ <;> kernel_rfl
theorem four_codes {c : Nat} (h1 : 1 ≤ c) (h4 : c ≤ 4) : c = 1 ∨ c = 2 ∨ c = 3 ∨ c = 4 := by omega
theorem ck_call {c : Nat} (h1 : 1 ≤ c) (h4 : c ≤ 4) (a : Array Value) (w : World) : (callFunc (ckF c) a).run Tryz.prog w = .ok (.enter (ckF c) a) w := by
  rcases four_codes h1 h4 with rfl | rfl | rfl | rfl <;> kernel_rfl
theorem pt_call {c : Nat} (h1 : 1 ≤ c) (h4 : c ≤ 4) (a : Array Value) (w : World) : (callFunc (ptF c) a).run Tryz.prog w = .ok (.enter (ptF c) a) w := by
  rcases four_codes h1 h4 with rfl | rfl | rfl | rfl <;> kernel_rfl
theorem rk_call {c : Nat} (h1 : 1 ≤ c) (h4 : c ≤ 4) (a : Array Value) (w : World) : (callFunc (rkF c) a).run Tryz.prog w = .ok (.enter (rkF c) a) w := by
  rcases four_codes h1 h4 with rfl | rfl | rfl | rfl <;> kernel_rfl
theorem ms_call {c : Nat} (h1 : 1 ≤ c) (h4 : c ≤ 4) (a : Array Value) (w : World) : (callFunc (msF c) a).run Tryz.prog w = .ok (.enter (msF c) a) w := by
  rcases four_codes h1 h4 with rfl | rfl | rfl | rfl <;> kernel_rfl
theorem wh_call {c : Nat} (h1 : 1 ≤ c) (h4 : c ≤ 4) (a : Array Value) (w : World) : (callFunc (whF c) a).run Tryz.prog w = .ok (.enter (whF c) a) w := by
  rcases four_codes h1 h4 with rfl | rfl | rfl | rfl <;> kernel_rfl
theorem jo_call {c : Nat} (h1 : 1 ≤ c) (h4 : c ≤ 4) (a : Array Value) (w : World) : (callFunc (joF c) a).run Tryz.prog w = .ok (.enter (joF c) a) w := by
  rcases four_codes h1 h4 with rfl | rfl | rfl | rfl <;> kernel_rfl

/-- a scheme does something; behind it the scheme is there as it was, with n joins. -/
def Does (P c : Nat) (n : Int) (R : Value → World → Prop) (w : World) (e : Ending) (w' : World) : Prop := ∃ v, e = .returned v ∧ Bt [P] w w' ∧ Sch P c n w' ∧ R v w'
theorem Sch.made {P c : Nat} {n : Int} {w : World} (h : Sch P c n w) {w' : World} (k : SchAt P w' c 1 0 (facesL c) n) : Sch P c n w' := ⟨h.1, h.2.1, .inr k⟩
set_option maxHeartbeats 400000 in
theorem schName_any (P c : Nat) (n : Int) (w : World) (h : Sch P c n w) : Calls Tryz.prog 26 #[.pointer (some ⟨P, 0, none⟩)] w (Does P c n (fun v _ => v = .string ⟨nmB c⟩) w) := by
  have HS := Lib.hid h
  clear h
  have hfl := face_fld
  go_enter Tryz.func26, Tryz.ntmps26
  go_wp2_with fail
  refine (face_any P c n w HS.out).mono ?_
  rw [facesV_eq]
  rintro e w1 ⟨rfl, B1, h1⟩
  go_wp2
  go_ret
  exact ⟨_, rfl, B1, HS.out.made h1, rfl⟩
set_option maxHeartbeats 400000 in
theorem schCode_any (P c : Nat) (n : Int) (w : World) (h : Sch P c n w) : Calls Tryz.prog 31 #[.pointer (some ⟨P, 0, none⟩)] w (Ret (.int .u8 c) w) := by
  have hc : w.cell? ⟨P, 0, none⟩ = some (.int .u8 c) := by
    rcases h.2.2 with h | h
    · exact cell_of h 0
    · exact cell_of h 0
  clear h
  go_enter Tryz.func31, Tryz.ntmps31
  go_wp2
  go_ret
  exact Ret.mk (Ext.refl _)
theorem u64Load_any (a : Addr) (x : Int) (w : World) (hc : w.cell? a = some (.int .u64 x)) :
    Calls Tryz.prog 48 #[.pointer (some a)] w (Ret (.int .u64 x) w) := by
  have hl := run_call_load (P := Tryz.prog) Tryz.func75 (by kernel_rfl) (by kernel_rfl) (by kernel_rfl) .u64 (by kernel_rfl) (w := w) (a := a) (x := x) hc
  go_enter Tryz.func48, Tryz.ntmps48
  go_wp2
  go_ret
  exact Ret.mk (Ext.refl _)
set_option maxHeartbeats 400000 in
theorem schJoins_any (P c : Nat) (n : Int) (w : World) (h : Sch P c n w) : Calls Tryz.prog 13 #[.pointer (some ⟨P, 0, none⟩)] w (Ret (.int .u64 n) w) := by
  have HC : Hid (w.cell? ⟨P, 12, none⟩ = some (.int .u64 n)) := Lib.hid (by
    rcases h.2.2 with h | h
    · exact cell_of h 12
    · exact cell_of h 12)
  clear h
  go_enter Tryz.func13, Tryz.ntmps13
  go_wp2_with fail
  refine (u64Load_any _ n w HC.out).mono ?_
  rintro e w1 ⟨rfl, h1⟩
  go_wp2
  go_ret
  exact Ret.mk h1
set_option maxHeartbeats 400000 in
theorem schCheck_by (P c : Nat) (n : Int) (w : World) (p : Value) (a b : Value) (h : Sch P c n w) (HK : ∀ w1, Bt [P] w w1 → Calls Tryz.prog (ckF c) #[p] w1 (Ret (.tuple #[a, b]) w1)) :
    Calls Tryz.prog 11 #[.pointer (some ⟨P, 0, none⟩), p] w (Does P c n (fun v _ => v = .tuple #[a, b]) w) := by
  have HS := Lib.hid h
  have HH := Lib.hid HK
  have hcc := ck_call h.1 h.2.1
  clear h HK
  have hfl := face_fld
  go_enter Tryz.func11, Tryz.ntmps11
  go_wp2_with fail
  refine (face_any P c n w HS.out).mono ?_
  rw [facesV_eq]
  rintro e w1 ⟨rfl, B1, h1⟩
  go_wp2_with fail
  refine (HH.out w1 B1).mono ?_
  rintro e w2 ⟨rfl, h2⟩
  go_wp2
  exact bodyPost_ret (v := .tuple #[a, b]) (by simp [results, Tryz.results11, go_sem]) rfl ⟨_, rfl, B1.trans (Bt.ext h2), (HS.out.made h1).ext h2, rfl⟩
set_option maxHeartbeats 400000 in
theorem schPart_by (P c : Nat) (n : Int) (w : World) (p : Value) (b : Bool) (h : Sch P c n w) (HK : ∀ w1, Bt [P] w w1 → Calls Tryz.prog (ptF c) #[p] w1 (Ret (.bool b) w1)) :
    Calls Tryz.prog 18 #[.pointer (some ⟨P, 0, none⟩), p] w (Does P c n (fun v _ => v = .bool b) w) := by
  have HS := Lib.hid h
  have HH := Lib.hid HK
  have hcc := pt_call h.1 h.2.1
  clear h HK
  have hfl := face_fld
  go_enter Tryz.func18, Tryz.ntmps18
  go_wp2_with fail
  refine (face_any P c n w HS.out).mono ?_
  rw [facesV_eq]
  rintro e w1 ⟨rfl, B1, h1⟩
  go_wp2_with fail
  refine (HH.out w1 B1).mono ?_
  rintro e w2 ⟨rfl, h2⟩
  go_wp2
  go_ret
  exact ⟨_, rfl, B1.trans (Bt.ext h2), (HS.out.made h1).ext h2, rfl⟩
set_option maxHeartbeats 400000 in
theorem schRank_by (P c : Nat) (n : Int) (w : World) (p : Value) (x : Int) (h : Sch P c n w) (HK : ∀ w1, Bt [P] w w1 → Calls Tryz.prog (rkF c) (if c = 4 then #[.agg #[], p] else #[p]) w1 (Ret (.int .i64 x) w1)) :
    Calls Tryz.prog 33 #[.pointer (some ⟨P, 0, none⟩), p] w (Does P c n (fun v _ => v = .int .i64 x) w) := by
  have HS := Lib.hid h
  have HH := Lib.hid HK
  have hcc := rk_call h.1 h.2.1
  clear h HK
  have hfl := face_fld
  have hrp : rkP c = #[] ∨ rkP c = #[.agg #[]] := by
    unfold rkP
    split
    · exact .inr rfl
    · exact .inl rfl
  have hr4 : (if c = 4 then #[.agg #[], p] else #[p]) = rkP c ++ #[p] := by
    unfold rkP
    split <;> rfl
  rw [hr4] at HH
  clear hr4
  have HFE := Lib.hid (facesV_eq c)
  generalize rkP c = RP at *
  rcases hrp with rfl | rfl
  · go_enter Tryz.func33, Tryz.ntmps33
    go_wp2_with fail
    refine (face_any P c n w HS.out).mono ?_
    rw [HFE.out]
    rintro e w1 ⟨rfl, B1, h1⟩
    go_wp2_with fail
    refine (HH.out w1 B1).mono ?_
    rintro e w2 ⟨rfl, h2⟩
    go_wp2
    go_ret
    exact ⟨_, rfl, B1.trans (Bt.ext h2), (HS.out.made h1).ext h2, rfl⟩
  · go_enter Tryz.func33, Tryz.ntmps33
    go_wp2_with fail
    refine (face_any P c n w HS.out).mono ?_
    rw [HFE.out]
    rintro e w1 ⟨rfl, B1, h1⟩
    go_wp2_with fail
    refine (HH.out w1 B1).mono ?_
    rintro e w2 ⟨rfl, h2⟩
    go_wp2
    go_ret
    exact ⟨_, rfl, B1.trans (Bt.ext h2), (HS.out.made h1).ext h2, rfl⟩
set_option maxHeartbeats 400000 in
theorem schMost_by (P c : Nat) (n : Int) (w : World) (p q : Value) (x : Int) (h : Sch P c n w) (HK : ∀ w1, Bt [P] w w1 → Calls Tryz.prog (msF c) #[p, q] w1 (Ret (.int .i64 x) w1)) :
    Calls Tryz.prog 36 #[.pointer (some ⟨P, 0, none⟩), p, q] w (Does P c n (fun v _ => v = .int .i64 x) w) := by
  have HS := Lib.hid h
  have HH := Lib.hid HK
  have hcc := ms_call h.1 h.2.1
  clear h HK
  have hfl := face_fld
  go_enter Tryz.func36, Tryz.ntmps36
  go_wp2_with fail
  refine (face_any P c n w HS.out).mono ?_
  rw [facesV_eq]
  rintro e w1 ⟨rfl, B1, h1⟩
  go_wp2_with fail
  refine (HH.out w1 B1).mono ?_
  rintro e w2 ⟨rfl, h2⟩
  go_wp2
  go_ret
  exact ⟨_, rfl, B1.trans (Bt.ext h2), (HS.out.made h1).ext h2, rfl⟩
set_option maxHeartbeats 400000 in
theorem schWhole_by (P c : Nat) (n : Int) (w : World) (p : Value) (R : Value → World → Prop) (h : Sch P c n w) (HK : ∀ w1, Bt [P] w w1 → Calls Tryz.prog (whF c) #[p] w1 (fun e w2 => ∃ v, e = .returned v ∧ Ext w1 w2 ∧ R v w2)) :
    Calls Tryz.prog 21 #[.pointer (some ⟨P, 0, none⟩), p] w (Does P c n R w) := by
  have HS := Lib.hid h
  have HH := Lib.hid HK
  have hcc := wh_call h.1 h.2.1
  clear h HK
  have hfl := face_fld
  go_enter Tryz.func21, Tryz.ntmps21
  go_wp2_with fail
  refine (face_any P c n w HS.out).mono ?_
  rw [facesV_eq]
  rintro e w1 ⟨rfl, B1, h1⟩
  go_wp2_with fail
  refine (HH.out w1 B1).mono ?_
  rintro e w2 ⟨v, rfl, h2, hv⟩
  go_wp2
  go_ret
  exact ⟨_, rfl, B1.trans (Bt.ext h2), (HS.out.made h1).ext h2, hv⟩
end Go.Proofs.YtkkdobolloojjaaGreat
namespace Go.Proofs.YtkkdobolloojjaaGreat
open Go Go.RowKit

theorem schOf_no (c : Nat) (hc : c < 256) (h : c = 0 ∨ 4 < c) (w : World) : Calls Tryz.prog 42 #[.int .u8 c] w (Ret (.tuple #[.pointer none, .int .i64 2]) w) := by
  have hm := maker_any c hc
  have e : makerV c = .nilIface := by unfold makerV; rw [if_pos h]
  rw [e] at hm
  have HM := Lib.hid hm
  clear hm e
  go_enter Tryz.func42, Tryz.ntmps42
  go_wp2_with fail
  refine (HM.out w).mono ?_
  rintro e w1 ⟨rfl, h1⟩
  go_wp2
  exact bodyPost_ret (v := .tuple #[.pointer none, .int .i64 2]) (by simp [results, Tryz.results42, go_sem]) rfl (Ret.mk h1)
set_option maxHeartbeats 400000 in
theorem schOf_yes (c : Nat) (h1 : 1 ≤ c) (h4 : c ≤ 4) (w : World) : Calls Tryz.prog 42 #[.int .u8 c] w (fun e w' => ∃ P, e = .returned (.tuple #[.pointer (some ⟨P, 0, none⟩), .int .i64 0]) ∧ w.heap.size ≤ P ∧ Sch P c 0 w' ∧ Ext w w') := by
  have hm := maker_any c (by omega)
  obtain ⟨T, mF, v, e, -⟩ := maker_face c h1 h4
  rw [e] at hm
  have HM := Lib.hid hm
  clear hm e
  go_enter Tryz.func42, Tryz.ntmps42
  go_wp2_with fail
  refine (HM.out w).mono ?_
  rintro e w1 ⟨rfl, hw1⟩
  go_wp2
  refine bodyPost_ret (v := .tuple #[.pointer (some ⟨w1.heap.size, 0, none⟩), .int .i64 0]) (by simp [results, Tryz.results42, go_sem]) rfl ⟨w1.heap.size, rfl, hw1.size, ⟨h1, h4, .inl (alloc_at w1 _ _ rfl)⟩, hw1.alloc _⟩
set_option maxHeartbeats 400000 in
theorem u64Add_any (a : Addr) (x : Int) (w : World) (hc : w.cell? a = some (.int .u64 x)) (hz : w.frozen? a = false) :
    Calls Tryz.prog 53 #[.pointer (some a), .int .u64 1] w (fun e w' => e = .returned (.int .u64 (IntKind.u64.wrap (x + 1))) ∧ w' = w.setCell a (.int .u64 (IntKind.u64.wrap (x + 1)))) := by
  have hadd := run_call_add (P := Tryz.prog) Tryz.func77 (by kernel_rfl) (by kernel_rfl) (by kernel_rfl) .u64 (by kernel_rfl) (y := 1) (s := IntKind.u64.wrap (x + 1)) hc hz (by simp [go_sem, Op.intArith])
  generalize IntKind.u64.wrap (x + 1) = y at *
  go_enter Tryz.func53, Tryz.ntmps53
  go_wp2
  go_ret
  exact ⟨rfl, rfl⟩
set_option maxHeartbeats 400000 in
theorem schJoin_by (P c : Nat) (n : Int) (w : World) (p q : Value) (k v g : Int) (R : Value → World → Prop) (h : Sch P c n w)
    (HK : ∀ w1, Bt [P] w w1 → Calls Tryz.prog (joF c) (joP c ++ #[p, .agg #[.int .i64 k, .int .i64 v, .int .u64 g], q]) w1 (fun e w2 => ∃ v, e = .returned v ∧ Ext w1 w2 ∧ R v w2)) :
    Calls Tryz.prog 22 #[.pointer (some ⟨P, 0, none⟩), p, .agg #[.int .i64 k, .int .i64 v, .int .u64 g], q] w (Does P c (IntKind.u64.wrap (n + 1)) R w) := by
  have hfn : ∀ f, Fence.wide.fn f := fun _ => trivial
  have HS := Lib.hid h
  have HH := Lib.hid HK
  have hlt := h.lt
  have hcc := jo_call h.1 h.2.1
  clear h HK
  have hfl := face_fld
  have hbox := alloc_at w (.cells #[.int .i64 k, .int .i64 v, .int .u64 g] 51) _ rfl
  have hE := (Ext.refl w).alloc (.cells #[.int .i64 k, .int .i64 v, .int .u64 g] 51)
  go_enter Tryz.func22, Tryz.ntmps22
  go_wp2_with fail
  generalize w.alloc (.cells #[.int .i64 k, .int .i64 v, .int .u64 g] 51) = w1 at *
  have h1 := HS.out.ext hE
  refine (u64Add_any ⟨P, 12, none⟩ n w1 ?hcell ?hfz).mono ?_
  case hcell =>
    rcases h1.2.2 with h | h
    · exact cell_of h 12
    · exact cell_of h 12
  case hfz =>
    rcases h1.2.2 with h | h
    · exact frozen_of h 12
    · exact frozen_of h 12
  rintro e w2 ⟨rfl, ew⟩
  have B2 : Bt [P] w1 w2 := by rw [ew]; exact (Bt.refl _ _).set _ _ (by simp)
  have h2 : Sch P c (IntKind.u64.wrap (n + 1)) w2 := by
    rw [ew]
    refine ⟨h1.1, h1.2.1, ?_⟩
    rcases h1.2.2 with h | h
    · exact .inl (sch_set h 12 _)
    · exact .inr (sch_set h 12 _)
  have hb2 := B2.get (show w.heap.size ∉ [P] by simp; omega) hbox
  have B02 : Bt [P] w w2 := (Bt.ext hE).trans B2
  clear ew h1 B2 hbox hE
  go_wp2_with fail
  obtain ⟨m⟩ : Nonempty Nat := ⟨0⟩
  refine (wpIn_wide (n := m)).1 ?_
  gi_wp2_with fail
  have H2 := Lib.hid h2
  have hx := Ext.drew w2
  have hb2' := hx.get hb2
  have hlt2 : w.heap.size ∉ [P] := by simp; omega
  clear h2
  generalize hD : w2.drew = w2' at *
  have H2' := Lib.hid (H2.out.ext hx)
  have B02' : Bt [P] w w2' := B02.trans (Bt.ext hx)
  clear H2 B02 hb2 hx
  have hx := Ext.refl w2'
  refine wpIn_region_G (fun j => !(List.contains (α := Nat) [1, 6] j)) (by kernel_rfl) ?_
  rw [hD]
  refine batchG hfn (fuel := 7) [0] (by kernel_rfl) rfl ?_
  repeat (go_big_quiet_step ((fail)))
  refine wpQuiet_nil ?_
  refine takeG0 hfn 3 (by kernel_rfl) rfl ?_
  repeat (go_big_quiet_step ((fail)))
  refine wpQuiet_nil ?_
  refine takeG0 hfn 5 (by kernel_rfl) rfl ?_
  repeat (go_big_quiet_step ((fail)))
  refine wpQuiet_nil ?_
  refine wpAnyG_two (j := 1) (k := 4) (by kernel_rfl) rfl rfl ?_ ?_
  · gi_wp2_with fail
    refine ⟨wide_room _, (callsIn_wide.2 (face_any P c _ w2' H2'.out)).mono ?_⟩
    rw [facesV_eq]
    rintro e w3 ⟨rfl, B3, h3⟩
    gi_wp2_with fail
    refine onePost_any (by kernel_rfl) ?_
    have hb3 := B3.get hlt2 hb2'
    have hc0 := cell_all (show w3.cell? ⟨w.heap.size, 0, none⟩ = some (.int .i64 k) from cell_of hb3 0)
    have hc1 := cell_all (show w3.cell? ⟨w.heap.size, 1, none⟩ = some (.int .i64 v) from cell_of hb3 1)
    have hc2 := cell_all (show w3.cell? ⟨w.heap.size, 2, none⟩ = some (.int .u64 g) from cell_of hb3 2)
    have hx := Ext.refl w3
    refine batchG hfn (fuel := 2) [2, 4] (by kernel_rfl) rfl ?_
    repeat (go_big_quiet_step ((fail)))
    refine wpQuiet_nil ?_
    refine wpAnyG_one (j := 6) (by kernel_rfl) rfl ?_
    gi_wp2_with fail
    refine ⟨wide_room _, (callsIn_wide.2 (HH.out w3 (B02'.trans B3))).mono ?_⟩
    rintro e w4 ⟨v', rfl, h4, hR⟩
    gi_wp2_with fail
    refine onePost_any (by kernel_rfl) ?_
    refine batchG hfn (fuel := 0) [7] (by kernel_rfl) rfl ?_
    repeat (go_big_quiet_step ((fail)))
    refine wpQuiet_nil ?_
    refine wpAnyG_done (by kernel_rfl) ?_
    refine calmQ_normal ?_
    go_wp2
    go_ret
    exact ⟨_, rfl, (B02'.trans B3).trans (Bt.ext h4), (H2'.out.made h3).ext h4, hR⟩
  · have hc0 := show w2'.cell? ⟨w.heap.size, 0, none⟩ = some (.int .i64 k) from cell_of hb2' 0
    have hc1 := show w2'.cell? ⟨w.heap.size, 1, none⟩ = some (.int .i64 v) from cell_of hb2' 1
    have hc2 := show w2'.cell? ⟨w.heap.size, 2, none⟩ = some (.int .u64 g) from cell_of hb2' 2
    gi_wp2_with fail
    refine onePost_ext (Ext.refl _) ?_
    refine wpAnyG_one (j := 1) (by kernel_rfl) rfl ?_
    gi_wp2_with fail
    refine ⟨wide_room _, (callsIn_wide.2 (face_any P c _ w2' H2'.out)).mono ?_⟩
    rw [facesV_eq]
    rintro e w3 ⟨rfl, B3, h3⟩
    gi_wp2_with fail
    refine onePost_any (by kernel_rfl) ?_
    clear hc0 hc1 hc2 hx
    have hx := Ext.refl w3
    refine batchG hfn (fuel := 2) [2] (by kernel_rfl) rfl ?_
    repeat (go_big_quiet_step ((fail)))
    refine wpQuiet_nil ?_
    refine wpAnyG_one (j := 6) (by kernel_rfl) rfl ?_
    gi_wp2_with fail
    refine ⟨wide_room _, (callsIn_wide.2 (HH.out w3 (B02'.trans B3))).mono ?_⟩
    rintro e w4 ⟨v', rfl, h4, hR⟩
    gi_wp2_with fail
    refine onePost_any (by kernel_rfl) ?_
    refine batchG hfn (fuel := 0) [7] (by kernel_rfl) rfl ?_
    repeat (go_big_quiet_step ((fail)))
    refine wpQuiet_nil ?_
    refine wpAnyG_done (by kernel_rfl) ?_
    refine calmQ_normal ?_
    go_wp2
    go_ret
    exact ⟨_, rfl, (B02'.trans B3).trans (Bt.ext h4), (H2'.out.made h3).ext h4, hR⟩
set_option maxHeartbeats 1000000 in
/-- plain.of is the join of keys and values. -/
theorem plainJoin_by (c : Nat) (h1 : 1 ≤ c) (h4 : c ≤ 3) (w : World) (p q : Value) (k v g : Int) (R : Value → World → Prop)
    (HK : ∀ w1, Ext w w1 → Calls Tryz.prog (joF0 c) #[p, .int .i64 k, .int .i64 v, q] w1 (fun e w2 => ∃ v, e = .returned v ∧ Ext w1 w2 ∧ R v w2)) :
    Calls Tryz.prog (joF c) (joP c ++ #[p, .agg #[.int .i64 k, .int .i64 v, .int .u64 g], q]) w (fun e w2 => ∃ v, e = .returned v ∧ Ext w w2 ∧ R v w2) := by
  have hcc : ∀ (a : Array Value) (w : World), (callFunc (joF0 c) a).run Tryz.prog w = .ok (.enter (joF0 c) a) w := by
    intro a w
    rcases (show c = 1 ∨ c = 2 ∨ c = 3 by omega) with rfl | rfl | rfl <;> kernel_rfl
  have HH := Lib.hid HK
  clear HK
  have e1 : joF c = 187 := by unfold joF; rw [if_neg (by omega)]
  have e2 : joP c ++ #[p, .agg #[.int .i64 k, .int .i64 v, .int .u64 g], q] = #[.agg #[.string ⟨nmB c⟩, .func (.func (joF0 c)) #[] #[], fnV (ckF c), fnV (ptF c), fnV (rkF c), fnV (msF c), fnV (whF c)], p, .agg #[.int .i64 k, .int .i64 v, .int .u64 g], q] := by
    unfold joP; rw [if_neg (by omega)]; rfl
  rw [e1, e2]
  clear e1 e2
  unfold fnV
  go_enter Tryz.func187, Tryz.ntmps187
  go_wp2_with fail
  refine (HH.out _ (((Ext.refl w).alloc _).alloc _)).mono ?_
  rintro e w2 ⟨v', rfl, h2, hR⟩
  go_wp2
  go_ret
  exact ⟨_, rfl, (((Ext.refl w).alloc _).alloc _).trans h2, hR⟩
end Go.Proofs.YtkkdobolloojjaaGreat
namespace Go.Proofs.YtkkdobolloojjaaGreat
open Go Go.RowKit

theorem Sch.bt {P c : Nat} {n : Int} {L : List Nat} {w w' : World} (h : Sch P c n w) (e : Bt L w w') (hP : P ∉ L) : Sch P c n w' :=
  ⟨h.1, h.2.1, h.2.2.imp (fun k => e.get hP k) fun k => e.get hP k⟩
theorem put3_bt {P c : Nat} {n : Int} {w w' : World} {N : Nat} {x y z : Value} {t : TypeId} (hB : Bt [P] w w') (hN : w.heap.size ≤ N) (hP : P < w.heap.size) (h : w'.heap[N]? = some (.cells #[x, y, z] t (0, 0))) (hS : Sch P c n w') (a b d : Value) :
    (put3 w' N a b d).heap[N]? = some (.cells #[a, b, d] t (0, 0)) ∧ Bt [P] w (put3 w' N a b d) ∧ Sch P c n (put3 w' N a b d) := by
  have k : Bt [N] w' (put3 w' N a b d) := by
    unfold put3
    exact (((Bt.refl _ _).set _ _ (by simp)).set _ _ (by simp)).set _ _ (by simp)
  refine ⟨?_, hB.cut k hN, hS.bt k (by simp; omega)⟩
  unfold put3
  simp [World.setCell, Array.getElem?_modify, h]
def itemV (c : Nat) (t : Tr) : Value := itV t.key t.val (if c = 4 then t.tag else 0)
set_option maxHeartbeats 1000000 in
theorem schItem_nil (P c : Nat) (n : Int) (w : World) (h : Sch P c n w) : Calls Tryz.prog 23 #[.pointer (some ⟨P, 0, none⟩), .pointer none] w (Does P c n (fun v _ => v = itemV c .nil) w) := by
  have HS := Lib.hid h
  clear h
  go_enter Tryz.func23, Tryz.ntmps23
  go_wp2
  refine bodyPost_ret (v := .agg #[.int .i64 0, .int .i64 0, .int .u64 0]) (by simp [results, Tryz.results23, go_sem]) rfl ⟨_, rfl, (Bt.refl _ _).alloc _, HS.out.ext ((Ext.refl _).alloc _), ?_⟩
  simp [itemV, itV, Tr.key, Tr.val, Tr.tag]
set_option maxHeartbeats 1000000 in
theorem schItem_node (P c : Nat) (n : Int) (w : World) (b : Nat) (l : Tr) (k v g : Int) (r : Tr) (h : Sch P c n w) (ht : InH w (.node b l k v g r)) :
    Calls Tryz.prog 23 #[.pointer (some ⟨P, 0, none⟩), .pointer (some ⟨b, 0, none⟩)] w (Does P c n (fun x _ => x = itemV c (.node b l k v g r)) w) := by
  have HS := Lib.hid h
  have hlt := h.lt
  have hfl := face_fld
  obtain ⟨t, et⟩ : ∃ t, t = Tr.node b l k v g r := ⟨_, rfl⟩
  have hpt : (Value.pointer (some ⟨b, 0, none⟩)) = .pointer t.ptr := by rw [et]; rfl
  have HK := Lib.hid (fun W (e : InH W t) => key_any W t e)
  have HV := Lib.hid (fun W (e : InH W t) => val_any W t e)
  have HG := Lib.hid (fun W (e : InH W t) => tag_any W t e)
  rw [← hpt] at HK HV HG
  rw [← et] at ht ⊢
  have HT := Lib.hid ht
  clear h ht hpt et
  generalize hk : t.key = k' at *
  generalize hv : t.val = v' at *
  generalize hg : t.tag = g' at *
  have hi : itemV c t = itV k' v' (if c = 4 then g' else 0) := by rw [← hk, ← hv, ← hg]; rfl
  rw [hi]
  clear hi hk hv hg
  by_cases h4 : c = 4
  · rw [if_pos h4]
    have hd : decide (c = 4) = true := by simp [h4]
    have HFE := Lib.hid (facesV_eq c)
    rw [hd] at HFE
    clear hd h4
    go_enter Tryz.func23, Tryz.ntmps23
    go_wp2_with fail
    have hbox := alloc_at w (.cells #[.int .i64 0, .int .i64 0, .int .u64 0] 51) _ rfl
    have hE := (Ext.refl w).alloc (.cells #[.int .i64 0, .int .i64 0, .int .u64 0] 51)
    have hsz : (w.alloc (.cells #[.int .i64 0, .int .i64 0, .int .u64 0] 51)).heap.size = w.heap.size + 1 := by simp
    generalize w.alloc (.cells #[.int .i64 0, .int .i64 0, .int .u64 0] 51) = w1 at *
    refine (HK.out w1 (HT.out.ext hE)).mono ?_
    rintro e w2 ⟨rfl, h2⟩
    go_wp2_with fail
    refine (HV.out w2 (HT.out.ext (hE.trans h2))).mono ?_
    rintro e w3 ⟨rfl, h3⟩
    go_wp2_with fail
    have hbox2 := alloc_at w3 (.cells #[.int .i64 k', .int .i64 v', .int .u64 0] 51) _ rfl
    have hE3 := (Ext.refl w3).alloc (.cells #[.int .i64 k', .int .i64 v', .int .u64 0] 51)
    have hs3 := h3.size
    have hs2 := h2.size
    generalize w3.alloc (.cells #[.int .i64 k', .int .i64 v', .int .u64 0] 51) = w4 at *
    have h14 := (h2.trans h3).trans hE3
    have hX4 := hE.trans h14
    replace hbox := h14.get hbox
    clear hE h2 h3 hE3 h14
    refine (face_any P c n w4 (HS.out.ext hX4)).mono ?_
    rw [HFE.out]
    rintro e w5 ⟨rfl, B5, h5⟩
    replace hbox := B5.get (show w.heap.size ∉ [P] by simp; omega) hbox
    replace hbox2 := B5.get (show w3.heap.size ∉ [P] by simp; omega) hbox2
    have hS5 := (HS.out.ext hX4).made h5
    have B05 := (Bt.ext (L := [P]) hX4).trans B5
    have hT5 := (HS.out.ext hX4).inh B5 (HT.out.ext hX4)
    clear hX4 B5 h5
    go_wp2_with fail
    refine (HG.out w5 hT5).mono ?_
    rintro e w6 ⟨rfl, h6⟩
    replace hbox := h6.get hbox
    replace hbox2 := h6.get hbox2
    replace hS5 := hS5.ext h6
    replace B05 := B05.trans (Bt.ext h6)
    clear hT5 h6
    have HB := Lib.hid hbox
    have HB0 := Lib.hid B05
    have HS5 := Lib.hid hS5
    obtain ⟨d0, d1, d2, df⟩ := cells3 hbox
    obtain ⟨c0, c1, c2, cf⟩ := cells3 hbox2
    clear hbox B05 hS5
    go_wp2
    have HC := Lib.hid (And.intro (HB0.out.cut ((Bt.refl [w3.heap.size] w6).set ⟨w3.heap.size, 2, none⟩ (.int .u64 g') (by simp)) (by omega)) (And.intro (HS5.out.bt ((Bt.refl [w3.heap.size] w6).set ⟨w3.heap.size, 2, none⟩ (.int .u64 g') (by simp)) (by simp; omega)) (((Bt.refl [w3.heap.size] w6).set ⟨w3.heap.size, 2, none⟩ (.int .u64 g') (by simp)).get (by simp; omega) HB.out)))
    clear d0 d1 d2 df c0 c1 c2 cf hbox2
    generalize w6.setCell ⟨w3.heap.size, 2, none⟩ (.int .u64 g') = w7 at *
    change bodyPost _ _ _ _ _ (put3 w7 w.heap.size (.int .i64 k') (.int .i64 v') (.int .u64 g'))
    obtain ⟨hW, hX, hS⟩ := put3_bt HC.out.1 (Nat.le_refl _) hlt HC.out.2.2 HC.out.2.1 (.int .i64 k') (.int .i64 v') (.int .u64 g')
    generalize put3 w7 w.heap.size (.int .i64 k') (.int .i64 v') (.int .u64 g') = W at *
    obtain ⟨d0, d1, d2, -⟩ := cells3 hW
    refine bodyPost_ret (v := itV k' v' g') ?_ rfl ⟨_, rfl, hX, hS, rfl⟩
    simp [results, Tryz.results23, go_sem, d0, d1, d2, itV]
  · rw [if_neg h4]
    have hd : decide (c = 4) = false := by simp [h4]
    have HFE := Lib.hid (facesV_eq c)
    rw [hd] at HFE
    clear hd h4
    go_enter Tryz.func23, Tryz.ntmps23
    go_wp2_with fail
    have hbox := alloc_at w (.cells #[.int .i64 0, .int .i64 0, .int .u64 0] 51) _ rfl
    have hE := (Ext.refl w).alloc (.cells #[.int .i64 0, .int .i64 0, .int .u64 0] 51)
    have hsz : (w.alloc (.cells #[.int .i64 0, .int .i64 0, .int .u64 0] 51)).heap.size = w.heap.size + 1 := by simp
    generalize w.alloc (.cells #[.int .i64 0, .int .i64 0, .int .u64 0] 51) = w1 at *
    refine (HK.out w1 (HT.out.ext hE)).mono ?_
    rintro e w2 ⟨rfl, h2⟩
    go_wp2_with fail
    refine (HV.out w2 (HT.out.ext (hE.trans h2))).mono ?_
    rintro e w3 ⟨rfl, h3⟩
    go_wp2_with fail
    have hbox2 := alloc_at w3 (.cells #[.int .i64 k', .int .i64 v', .int .u64 0] 51) _ rfl
    have hE3 := (Ext.refl w3).alloc (.cells #[.int .i64 k', .int .i64 v', .int .u64 0] 51)
    have hs3 := h3.size
    have hs2 := h2.size
    generalize w3.alloc (.cells #[.int .i64 k', .int .i64 v', .int .u64 0] 51) = w4 at *
    have h14 := (h2.trans h3).trans hE3
    have hX4 := hE.trans h14
    replace hbox := h14.get hbox
    clear hE h2 h3 hE3 h14
    refine (face_any P c n w4 (HS.out.ext hX4)).mono ?_
    rw [HFE.out]
    rintro e w5 ⟨rfl, B5, h5⟩
    replace hbox := B5.get (show w.heap.size ∉ [P] by simp; omega) hbox
    replace hbox2 := B5.get (show w3.heap.size ∉ [P] by simp; omega) hbox2
    have hS5 := (HS.out.ext hX4).made h5
    have B05 := (Bt.ext (L := [P]) hX4).trans B5
    have hT5 := (HS.out.ext hX4).inh B5 (HT.out.ext hX4)
    clear hX4 B5 h5
    have HB := Lib.hid hbox
    have HB0 := Lib.hid B05
    have HS5 := Lib.hid hS5
    obtain ⟨d0, d1, d2, df⟩ := cells3 hbox
    obtain ⟨c0, c1, c2, cf⟩ := cells3 hbox2
    clear hbox B05 hS5
    go_wp2
    change bodyPost _ _ _ _ _ (put3 w5 w.heap.size (.int .i64 k') (.int .i64 v') (.int .u64 0))
    clear d0 d1 d2 df c0 c1 c2 cf hbox2
    obtain ⟨hW, hX, hS⟩ := put3_bt HB0.out (Nat.le_refl _) hlt HB.out HS5.out (.int .i64 k') (.int .i64 v') (.int .u64 0)
    generalize put3 w5 w.heap.size (.int .i64 k') (.int .i64 v') (.int .u64 0) = W at *
    obtain ⟨d0, d1, d2, -⟩ := cells3 hW
    refine bodyPost_ret (v := itV k' v' 0) ?_ rfl ⟨_, rfl, hX, hS, rfl⟩
    simp [results, Tryz.results23, go_sem, d0, d1, d2, itV]
theorem schItem_any (P c : Nat) (n : Int) (w : World) (T : Tr) (h : Sch P c n w) (ht : InH w T) :
    Calls Tryz.prog 23 #[.pointer (some ⟨P, 0, none⟩), .pointer T.ptr] w (Does P c n (fun x _ => x = itemV c T) w) := by
  cases T with
  | nil => exact schItem_nil P c n w h
  | node b l k v g r => exact schItem_node P c n w b l k v g r h ht
end Go.Proofs.YtkkdobolloojjaaGreat
namespace Go.Proofs.YtkkdobolloojjaaGreat
open Go Go.RowKit

theorem fourC {c : Nat} (h : 1 ≤ c ∧ c ≤ 4) : c = 1 ∨ c = 2 ∨ c = 3 ∨ c = 4 := by omega
theorem ckC_any (c : Nat) (h4 : 1 ≤ c ∧ c ≤ 4) (w : World) (T : Tr) (hT : InH w T) (ho : c = 2 → TagsOk T) (hc : T.pre.length ≤ 4000) : Calls Tryz.prog (ckF c) #[.pointer T.ptr] w (Ret (.tuple #[.int .i64 (ckV c T).1, .int .i64 (ckV c T).2]) w) := by
  obtain rfl | rfl | rfl | rfl := fourC h4
  · have := avlCheck_any w T hT
    have hle : (avlFirst T.pre).1 ≤ 4000 := Nat.le_trans (avlFirst_le T.pre) hc
    rw [show wrap64 ((avlFirst T.pre).1 : Int) = ((avlFirst T.pre).1 : Int) by unfold wrap64; omega] at this
    exact this
  · exact rbCheck_any w T hT (ho rfl) (by omega)
  · exact wbCheck_any w T hT hc
  · exact tpCheck_any w T hT (by omega)
theorem ptC_any (c : Nat) (h4 : 1 ≤ c ∧ c ≤ 4) (w : World) (T : Tr) (hT : InH w T) (ho : c = 2 → TagsOk T) (hc : T.pre.length ≤ 4000) : Calls Tryz.prog (ptF c) #[.pointer T.ptr] w (Ret (.bool (ptV c T)) w) := by
  obtain rfl | rfl | rfl | rfl := fourC h4
  · exact avlMay_any w T hT
  · exact rbPart_any w T hT (ho rfl)
  · exact wbMay_any w T hT hc
  · exact tpMay_any w T hT (by omega)
theorem tpRank_any (w : World) (p : Value) : Calls Tryz.prog 192 #[.agg #[], p] w (Ret (.int .i64 0) w) := by
  go_enter Tryz.func192, Tryz.ntmps192
  go_wp2
  go_ret
  exact Ret.mk ((Ext.refl _).alloc _)
def rkV' (c : Nat) (T : Tr) : Int := if c = 1 then wrap64 T.tag else if c = 2 then wrap64 (2 * hiB T) else if c = 3 then (Nat.log2 (T.count + 1) : Nat) else 0
theorem rkC_any (c : Nat) (h4 : 1 ≤ c ∧ c ≤ 4) (w : World) (T : Tr) (hT : InH w T) (ho : c = 2 → TagsOk T) (hc : T.count ≤ 4000) : Calls Tryz.prog (rkF c) (if c = 4 then #[.agg #[], .pointer T.ptr] else #[.pointer T.ptr]) w (Ret (.int .i64 (rkV' c T)) w) := by
  obtain rfl | rfl | rfl | rfl := fourC h4
  · exact avlRank_any w T hT
  · exact rbRank_any w T hT (ho rfl)
  · exact wbRank_any w T (T.count + 1) hT (by rw [wt_count T (by omega)]) (by omega) (by omega)
  · exact tpRank_any w _
theorem msC_any (c : Nat) (h4 : 1 ≤ c ∧ c ≤ 4) (w : World) (L R : Tr) (hl : InH w L) (hr : InH w R) (pl : PartC c L) (pr : PartC c R) (hc : L.count + R.count ≤ 20000) : Calls Tryz.prog (msF c) #[.pointer L.ptr, .pointer R.ptr] w (Ret (.int .i64 (mostC c L R : Nat)) w) := by
  obtain rfl | rfl | rfl | rfl := fourC h4
  · have := avlMost_any w L R L.ht R.ht hl hr pl pr (by have := L.ht_count; omega) (by have := R.ht_count; omega)
    rw [show ((mostC 1 L R : Nat) : Int) = ((max L.ht R.ht : Nat) : Int) - ((min L.ht R.ht : Nat) : Int) + 1 by show ((max L.ht R.ht - min L.ht R.ht + 1 : Nat) : Int) = _; omega]
    exact this
  · obtain ⟨p, cl, pl⟩ := pl
    obtain ⟨q, cr, pr⟩ := pr
    have h1 := pl.le
    have h2 := pr.le
    have := rbMost_any w L R p q cl cr hl hr pl pr (by omega) (by omega) _ _ rfl rfl
    rw [show ((mostC 2 L R : Nat) : Int) = 2 * ((max (p + if cl then 1 else 0) (q + if cr then 1 else 0) : Nat) : Int) - 2 * ((min (p + if cl then 1 else 0) (q + if cr then 1 else 0) : Nat) : Int) + 3 by
      show ((2 * max (hiB L).toNat (hiB R).toNat - 2 * min (hiB L).toNat (hiB R).toNat + 3 : Nat) : Int) = _
      rw [pl.hiB (by omega), pr.hiB (by omega), Int.toNat_natCast, Int.toNat_natCast]
      omega]
    exact this
  · have := wbMost_any w L R hl hr (by omega) _ _ rfl rfl
    rw [show ((mostC 3 L R : Nat) : Int) = 6 * (((max (Nat.log2 (L.count + 1)) (Nat.log2 (R.count + 1)) : Nat) : Int) - ((min (Nat.log2 (L.count + 1)) (Nat.log2 (R.count + 1)) : Nat) : Int)) + 1 by
      show ((6 * (max (Nat.log2 (L.count + 1)) (Nat.log2 (R.count + 1)) - min (Nat.log2 (L.count + 1)) (Nat.log2 (R.count + 1))) + 1 : Nat) : Int) = _
      omega]
    exact this
  · exact tpMost_any w L R hl hr (by omega) (by omega)
/-- what a join gives. -/
def JoinsC (n c : Nat) (L R : Tr) (k v g : Int) (x : Value) (w : World) : Prop := ∃ T, x = .pointer T.ptr ∧ InH w T ∧ JoinC n c L R k v g T
theorem joC_any (c n : Nat) (h4 : 1 ≤ c ∧ c ≤ 4) (w : World) (L R : Tr) (k v g : Int) (hn : n ≤ w.heap.size) (hl : InH w L) (hr : InH w R) (pl : PartC c L) (pr : PartC c R) (hc : L.count + R.count ≤ 20000) (nl : L.news n = 0) (nr : R.news n = 0) :
    Calls Tryz.prog (joF c) (joP c ++ #[.pointer L.ptr, .agg #[.int .i64 k, .int .i64 v, .int .u64 g], .pointer R.ptr]) w (fun e w2 => ∃ x, e = .returned x ∧ Ext w w2 ∧ JoinsC n c L R k v g x w2) := by
  by_cases h : c = 4
  · subst h
    refine (tpJoin_any n w L R k v g hn hl hr).mono ?_
    rintro e w2 ⟨T, rfl, i, ok, hX⟩
    exact ⟨_, rfl, hX, T, rfl, i, ok.toC pl pr⟩
  · refine plainJoin_by c h4.1 (by omega) w _ _ k v g (JoinsC n c L R k v g) fun w1 h1 => ?_
    have hn1 := Nat.le_trans hn h1.size
    obtain rfl | rfl | rfl : c = 1 ∨ c = 2 ∨ c = 3 := by omega
    · refine (avlJoin_any n w1 L R k v L.ht R.ht hn1 (hl.ext h1) (hr.ext h1) pl pr (by have := L.ht_count; omega) (by have := R.ht_count; omega) nl nr).mono ?_
      rintro e w2 ⟨T, rfl, ok, i, hX⟩
      exact ⟨_, rfl, hX, T, rfl, i, ok.toC g⟩
    · obtain ⟨p, cl, pl⟩ := pl
      obtain ⟨q, cr, pr⟩ := pr
      have q1 := pl.le
      have q2 := pr.le
      refine (rbJoin_any n w1 L R k v p q cl cr hn1 (hl.ext h1) (hr.ext h1) pl pr (by omega) (by omega) nl nr).mono ?_
      rintro e w2 ⟨T, rfl, ok, i, hX⟩
      exact ⟨_, rfl, hX, T, rfl, i, ok.toC g pl pr (by omega) (by omega)⟩
    · refine (wbJoin_any n w1 L R k v hn1 (hl.ext h1) (hr.ext h1) pl pr (by omega) nl nr).mono ?_
      rintro e w2 ⟨T, rfl, ok, i, hX⟩
      exact ⟨_, rfl, hX, T, rfl, i, ok.toC g⟩
/-- what Whole gives. -/
structure WholeC (n c : Nat) (T u : Tr) : Prop where
  may : MayC c u
  its : itsC c u = itsC c T
  news : u.news n ≤ T.news n + 1
  same : MayC c T → u = T
  tags : TagsOk T → T.count < 100000 → TagsOk u
theorem whSame_any (w : World) (p : Value) : Calls Tryz.prog 93 #[p] w (Ret p w) := by
  go_enter Tryz.func93, Tryz.ntmps93
  go_wp2
  go_ret
  exact Ret.mk (Ext.refl _)
theorem itsC_2 {T u : Tr} (h : u.kvs = T.kvs) : itsC 2 u = itsC 2 T := by rw [itsC_kvs (by decide), itsC_kvs (by decide), h]
theorem part_may {c : Nat} (h4 : 1 ≤ c ∧ c ≤ 4) (h : c ≠ 2) {T : Tr} (p : PartC c T) : MayC c T := by
  obtain rfl | rfl | rfl | rfl := fourC h4
  · exact p
  · exact (h rfl).elim
  · exact p
  · exact p
theorem black_C {n : Nat} {T u : Tr} (p : PartC 2 T) (hc : T.count ≤ 20000) (hu : BlackOf n T u) : WholeC n 2 T u := by
  obtain ⟨b, d, h⟩ := p
  have hb := h.le
  have h2 := black_h h (by omega) hu
  refine ⟨⟨_, h2⟩, itsC_2 (black_kvs hu), ?_, ?_, fun _ hc => h2.tags (by split <;> omega)⟩
  · rcases hu with ⟨-, rfl⟩ | ⟨-, b', -, rfl⟩
    · omega
    · cases T with
      | nil => rw [Tr.news]; simp [Tr.left, Tr.right, Tr.news]
               split <;> omega
      | node tb tl tk tv tg tr => rw [Tr.news, Tr.news, Tr.left_node, Tr.right_node]; split <;> omega
  · rintro ⟨b', h'⟩
    have hb' := h'.le
    have := h'.red
    rcases hu with ⟨-, rfl⟩ | ⟨h1, -⟩
    · rfl
    · rw [this] at h1; cases h1
theorem whC_any (c : Nat) (h4 : 1 ≤ c ∧ c ≤ 4) (w : World) (T : Tr) (hT : InH w T) (p : PartC c T) (hc : T.count ≤ 20000) (n : Nat) (hn : n ≤ w.heap.size) :
    Calls Tryz.prog (whF c) #[.pointer T.ptr] w (fun e w2 => ∃ x, e = .returned x ∧ Ext w w2 ∧ ∃ u, x = .pointer u.ptr ∧ InH w2 u ∧ WholeC n c T u) := by
  by_cases h : c = 2
  · subst h
    refine (rbBlacken_any w T hT (p.tags (by decide) h4 (by omega))).mono ?_
    rintro e w2 ⟨u, rfl, hu, hX, hb⟩
    exact ⟨_, rfl, hX, u, rfl, hu, black_C p hc (blackOf_mono hb hn)⟩
  · rw [show whF c = 93 by obtain rfl | rfl | rfl | rfl := fourC h4 <;> first | rfl | exact (h rfl).elim]
    refine (whSame_any w _).mono ?_
    rintro e w2 ⟨rfl, hX⟩
    exact ⟨_, rfl, hX, T, rfl, hT.ext hX, part_may h4 h p, rfl, by omega, fun _ => rfl, fun h _ => h⟩
/- what a scheme's methods do. -/
section
variable {P c : Nat} {n : Int} {w : World}
theorem Sch.four (h : Sch P c n w) : 1 ≤ c ∧ c ≤ 4 := ⟨h.1, h.2.1⟩
theorem schCheck_any (h : Sch P c n w) {T : Tr} (hT : InH w T) (ho : c = 2 → TagsOk T) (hc : T.pre.length ≤ 4000) :
    Calls Tryz.prog 11 #[.pointer (some ⟨P, 0, none⟩), .pointer T.ptr] w (Does P c n (fun v _ => v = .tuple #[.int .i64 (ckV c T).1, .int .i64 (ckV c T).2]) w) :=
  schCheck_by P c n w _ _ _ h fun w1 B => ckC_any c h.four w1 T (h.inh B hT) ho hc
theorem schPart_any (h : Sch P c n w) {T : Tr} (hT : InH w T) (ho : c = 2 → TagsOk T) (hc : T.pre.length ≤ 4000) :
    Calls Tryz.prog 18 #[.pointer (some ⟨P, 0, none⟩), .pointer T.ptr] w (Does P c n (fun v _ => v = .bool (ptV c T)) w) :=
  schPart_by P c n w _ _ h fun w1 B => ptC_any c h.four w1 T (h.inh B hT) ho hc
theorem schRank_any (h : Sch P c n w) {T : Tr} (hT : InH w T) (ho : c = 2 → TagsOk T) (hc : T.count ≤ 4000) :
    Calls Tryz.prog 33 #[.pointer (some ⟨P, 0, none⟩), .pointer T.ptr] w (Does P c n (fun v _ => v = .int .i64 (rkV' c T)) w) :=
  schRank_by P c n w _ _ h fun w1 B => rkC_any c h.four w1 T (h.inh B hT) ho hc
theorem schMost_any (h : Sch P c n w) {L R : Tr} (hl : InH w L) (hr : InH w R) (pl : PartC c L) (pr : PartC c R) (hc : L.count + R.count ≤ 20000) :
    Calls Tryz.prog 36 #[.pointer (some ⟨P, 0, none⟩), .pointer L.ptr, .pointer R.ptr] w (Does P c n (fun v _ => v = .int .i64 (mostC c L R : Nat)) w) :=
  schMost_by P c n w _ _ _ h fun w1 B => msC_any c h.four w1 L R (h.inh B hl) (h.inh B hr) pl pr hc
theorem schWhole_any (h : Sch P c n w) {T : Tr} (hT : InH w T) (p : PartC c T) (hc : T.count ≤ 20000) (m : Nat) (hm : m ≤ w.heap.size) :
    Calls Tryz.prog 21 #[.pointer (some ⟨P, 0, none⟩), .pointer T.ptr] w (Does P c n (fun v w2 => ∃ u, v = .pointer u.ptr ∧ InH w2 u ∧ WholeC m c T u) w) :=
  schWhole_by P c n w _ _ h fun w1 B => whC_any c h.four w1 T (h.inh B hT) p hc m (Nat.le_trans hm B.size)
theorem schJoin_any (h : Sch P c n w) {L R : Tr} (k v g : Int) (hl : InH w L) (hr : InH w R) (pl : PartC c L) (pr : PartC c R) (hc : L.count + R.count ≤ 20000) (m : Nat) (hm : m ≤ w.heap.size) (nl : L.news m = 0) (nr : R.news m = 0) :
    Calls Tryz.prog 22 #[.pointer (some ⟨P, 0, none⟩), .pointer L.ptr, itV k v g, .pointer R.ptr] w (Does P c (IntKind.u64.wrap (n + 1)) (JoinsC m c L R k v g) w) :=
  schJoin_by P c n w _ _ k v g _ h fun w1 B => joC_any c m h.four w1 L R k v g (Nat.le_trans hm B.size) (h.inh B hl) (h.inh B hr) pl pr hc nl nr
end
end Go.Proofs.YtkkdobolloojjaaGreat
namespace Go.Proofs.YtkkdobolloojjaaGreat
open Go Go.RowKit

/-- behind a call of a scheme's method: the scheme stands, and what was there ahead of it. -/
structure St (w : World) (P c : Nat) (n : Int) (W : World) : Prop where
  ext : Ext w W
  new : w.heap.size ≤ P
  sch : Sch P c n W
theorem St.does {w : World} {P c : Nat} {n : Int} {W W' : World} (h : St w P c n W) {m : Int} (B : Bt [P] W W') (s : Sch P c m W') : St w P c m W' :=
  ⟨Bt.out h.ext (by simp; exact h.new) B, h.new, s⟩
theorem St.more {w : World} {P c : Nat} {n : Int} {W W' : World} (h : St w P c n W) (e : Ext W W') : St w P c n W' :=
  ⟨h.ext.trans e, h.new, h.sch.ext e⟩
theorem St.lt {w : World} {P c : Nat} {n : Int} {W : World} (h : St w P c n W) : P < W.heap.size := h.sch.lt
theorem nilCheck_any (w : World) (p : Value) : Calls Tryz.prog 11 #[.pointer none, p] w (Ret (.tuple #[.int .i64 0, .int .i64 1]) w) := by
  go_enter Tryz.func11, Tryz.ntmps11
  go_wp2
  exact bodyPost_ret (v := .tuple #[.int .i64 0, .int .i64 1]) (by simp [results, Tryz.results11, go_sem]) rfl (Ret.mk (Ext.refl _))
theorem nilCode_any (w : World) : Calls Tryz.prog 31 #[.pointer none] w (Ret (.int .u8 0) w) := by
  go_enter Tryz.func31, Tryz.ntmps31
  go_wp2
  go_ret
  exact Ret.mk (Ext.refl _)
theorem nilName_any (w : World) : Calls Tryz.prog 26 #[.pointer none] w (Ret (.string ⟨#[]⟩) w) := by
  go_enter Tryz.func26, Tryz.ntmps26
  go_wp2
  go_ret
  exact Ret.mk (Ext.refl _)
theorem nilJoin_any (w : World) (p q : Value) (k v g : Int) : Calls Tryz.prog 22 #[.pointer none, p, .agg #[.int .i64 k, .int .i64 v, .int .u64 g], q] w (Ret (.pointer none) w) := by
  go_enter Tryz.func22, Tryz.ntmps22
  go_wp2
  go_ret
  exact Ret.mk ((Ext.refl _).alloc _)
theorem nilWhole_any (w : World) (p : Value) : Calls Tryz.prog 21 #[.pointer none, p] w (Ret (.pointer none) w) := by
  go_enter Tryz.func21, Tryz.ntmps21
  go_wp2
  go_ret
  exact Ret.mk (Ext.refl _)
theorem nilItem_any (w : World) (p : Value) : Calls Tryz.prog 23 #[.pointer none, p] w (Ret (.agg #[.int .i64 0, .int .i64 0, .int .u64 0]) w) := by
  go_enter Tryz.func23, Tryz.ntmps23
  go_wp2
  refine bodyPost_ret (v := .agg #[.int .i64 0, .int .i64 0, .int .u64 0]) (by simp [results, Tryz.results23, go_sem]) rfl (Ret.mk ((Ext.refl _).alloc _))
theorem nilPart_any (w : World) (p : Value) : Calls Tryz.prog 18 #[.pointer none, p] w (Ret (.bool false) w) := by
  have hund : undef = Value.tuple #[] := rfl
  go_enter Tryz.func18, Tryz.ntmps18
  go_wp2
  go_ret
  exact Ret.mk (Ext.refl _)
theorem nilRank_any (w : World) (p : Value) : Calls Tryz.prog 33 #[.pointer none, p] w (Ret (.int .i64 0) w) := by
  go_enter Tryz.func33, Tryz.ntmps33
  go_wp2
  go_ret
  exact Ret.mk (Ext.refl _)
theorem nilMost_any (w : World) (p q : Value) : Calls Tryz.prog 36 #[.pointer none, p, q] w (Ret (.int .i64 0) w) := by
  go_enter Tryz.func36, Tryz.ntmps36
  go_wp2
  go_ret
  exact Ret.mk (Ext.refl _)
theorem nilJoins_any (w : World) : Calls Tryz.prog 13 #[.pointer none] w (Ret (.int .u64 0) w) := by
  go_enter Tryz.func13, Tryz.ntmps13
  go_wp2
  go_ret
  exact Ret.mk (Ext.refl _)
set_option maxHeartbeats 2000000 in
theorem nothing22_any (w : World) : Calls Tryz.prog 28 #[] w (Ret (.bool true) w) := by
  have hund : undef = Value.tuple #[] := rfl
  have hx := Ext.refl w
  go_enter Tryz.func28, Tryz.ntmps28
  go_wp2_with fail
  refine (nilCheck_any _ _).mono ?_
  rintro e w1 ⟨rfl, hS⟩
  replace hx := hx.trans hS
  clear hS
  go_wp2_with fail
  refine (nilCode_any _).mono ?_
  rintro e w2 ⟨rfl, hS⟩
  replace hx := hx.trans hS
  clear hS
  go_wp2_with fail
  refine (nilName_any _).mono ?_
  rintro e w3 ⟨rfl, hS⟩
  replace hx := hx.trans hS
  clear hS
  go_wp2_with fail
  refine (nilJoin_any _ _ _ _ _ _).mono ?_
  rintro e w4 ⟨rfl, hS⟩
  replace hx := hx.trans hS
  clear hS
  go_wp2_with fail
  refine (nilWhole_any _ _).mono ?_
  rintro e w5 ⟨rfl, hS⟩
  replace hx := hx.trans hS
  clear hS
  go_wp2_with fail
  refine (nilItem_any _ _).mono ?_
  rintro e w6 ⟨rfl, hS⟩
  replace hx := hx.trans hS
  clear hS
  go_wp2_with fail
  refine (nilPart_any _ _).mono ?_
  rintro e w7 ⟨rfl, hS⟩
  replace hx := hx.trans hS
  clear hS
  go_wp2_with fail
  refine (nilRank_any _ _).mono ?_
  rintro e w8 ⟨rfl, hS⟩
  replace hx := hx.trans hS
  clear hS
  go_wp2_with fail
  refine (nilMost_any _ _ _).mono ?_
  rintro e w9 ⟨rfl, hS⟩
  replace hx := hx.trans hS
  clear hS
  go_wp2_with fail
  refine (nilJoins_any _).mono ?_
  rintro e w10 ⟨rfl, hS⟩
  replace hx := hx.trans hS
  clear hS
  go_wp2
  go_ret
  exact Ret.mk hx
theorem of22_no (c : Nat) (hc : c < 256) (h : ¬ (1 ≤ c ∧ c ≤ 4)) (w : World) : Calls Tryz.prog 8 #[.int .u8 c] w (Ret (.tuple #[.pointer none, .bool false]) w) := by
  have hund : undef = Value.tuple #[] := rfl
  have H := Lib.hid (schOf_no c hc (by omega) w)
  clear h
  go_enter Tryz.func8, Tryz.ntmps8
  go_wp2_with fail
  refine (H.out).mono ?_
  rintro e w1 ⟨rfl, hS⟩
  go_wp2
  exact bodyPost_ret (v := .tuple #[.pointer none, .bool false]) (by simp [results, Tryz.results8, go_sem]) rfl (Ret.mk hS)
/-- a new scheme. -/
def Gets (c : Nat) (w : World) (e : Ending) (w' : World) : Prop := ∃ P, e = .returned (.tuple #[.pointer (some ⟨P, 0, none⟩), .bool true]) ∧ St w P c 0 w'
theorem of22_yes (c : Nat) (h4 : 1 ≤ c ∧ c ≤ 4) (w : World) : Calls Tryz.prog 8 #[.int .u8 c] w (Gets c w) := by
  have hund : undef = Value.tuple #[] := rfl
  have H := Lib.hid (schOf_yes c h4.1 h4.2 w)
  clear h4
  go_enter Tryz.func8, Tryz.ntmps8
  go_wp2_with fail
  refine H.out.mono ?_
  rintro e w1 ⟨P, rfl, h1, h2, h3⟩
  go_wp2
  exact bodyPost_ret (v := .tuple #[.pointer (some ⟨P, 0, none⟩), .bool true]) (by simp [results, Tryz.results8, go_sem]) rfl ⟨P, rfl, h3, h1, h2⟩
/-- a tree of one item. -/
theorem its_one {c : Nat} {T : Tr} {z : Int × Int × Int} (h : itsC c T = [z]) : ∃ b g, T = .node b .nil z.1 z.2.1 g .nil ∧ itC c (z.1, z.2.1, g) = z := by
  cases T with
  | nil => cases h
  | node b l k v g r =>
    rw [itsC_node] at h
    have hl : itsC c l = [] := by
      cases hh : itsC c l with
      | nil => rfl
      | cons x y => rw [hh] at h; simp at h
    rw [hl, List.nil_append, List.cons.injEq] at h
    have nl : l = .nil := by cases l with | nil => rfl | node => rw [itsC_node] at hl; simp at hl
    have nr : r = .nil := by cases r with | nil => rfl | node => have := h.2; rw [itsC_node] at this; simp at this
    subst nl nr
    obtain ⟨h1, -⟩ := h
    subst h1
    exact ⟨b, g, rfl, rfl⟩
set_option maxHeartbeats 2000000 in
theorem alive22_any (w : World) : Calls Tryz.prog 7 #[] w (Ret (.bool true) w) := by
  have hund : undef = Value.tuple #[] := rfl
  go_enter Tryz.func7, Tryz.ntmps7
  go_wp2_with fail
  refine (schOf_yes 3 (by decide) (by decide) w).mono ?_
  rintro e w1 ⟨P, rfl, hP, hS, hX⟩
  have s1 : St w P 3 0 w1 := ⟨hX, hP, hS⟩
  clear hX hP hS
  go_wp2_with fail
  refine (schOf_no 5 (by decide) (by decide) w1).mono ?_
  rintro e w2 ⟨rfl, h2⟩
  replace s1 := s1.more h2
  clear h2
  go_wp2_with fail
  refine (schJoin_any s1.sch (L := .nil) (R := .nil) 3 4 9 trivial trivial (MayC.nil 3).part (MayC.nil 3).part (by decide) w2.heap.size (Nat.le_refl _) rfl rfl).mono ?_
  rintro e w3 ⟨x, rfl, B3, hS3, T, rfl, iT, ok⟩
  obtain ⟨b, g, rfl, -⟩ := its_one ok.its
  replace s1 := s1.does B3 hS3
  rw [Tr.ptr_node]
  simp only [itC] at iT
  have e1 : IntKind.u64.wrap (0 + 1) = 1 := rfl
  rw [e1] at s1
  clear B3 hS3 ok e1
  go_wp2_with fail
  refine (schName_any P 3 1 w3 s1.sch).mono ?_
  rw [show nmB 3 = #[119, 101, 105, 103, 104, 116] from rfl]
  rintro e w4 ⟨x, rfl, B4, hS4, rfl⟩
  have i4 := s1.sch.inh B4 iT
  replace s1 := s1.does B4 hS4
  clear B4 hS4 iT
  go_wp2_with fail
  refine (schCode_any P 3 1 w4 s1.sch).mono ?_
  rintro e w5 ⟨rfl, h5⟩
  have i5 := i4.ext h5
  replace s1 := s1.more h5
  clear h5 i4
  go_wp2_with fail
  refine (schJoins_any P 3 1 w5 s1.sch).mono ?_
  rintro e w6 ⟨rfl, h6⟩
  have i6 := i5.ext h6
  replace s1 := s1.more h6
  clear h6 i5
  go_wp2_with fail
  refine (key_any w6 _ i6).mono ?_
  rw [Tr.key_node]
  rintro e w7 ⟨rfl, h7⟩
  have i7 := i6.ext h7
  replace s1 := s1.more h7
  clear h7 i6
  go_wp2_with fail
  refine (size_any w7 _ i7).mono ?_
  rw [show (Tr.node b .nil 3 4 g .nil).size = 1 by show wrap64 (wrap64 (0 + 1) + 0) = 1; decide +kernel]
  rintro e w8 ⟨rfl, h8⟩
  have i8 := i7.ext h8
  replace s1 := s1.more h8
  clear h8 i7
  go_wp2_with fail
  refine (schItem_any P 3 1 w8 _ s1.sch i8).mono ?_
  rw [show itemV 3 (Tr.node b .nil 3 4 g .nil) = .agg #[.int .i64 3, .int .i64 4, .int .u64 0] from rfl]
  rintro e w9 ⟨x, rfl, B9, hS9, rfl⟩
  replace s1 := s1.does B9 hS9
  clear B9 hS9 i8
  go_wp2
  go_ret
  exact Ret.mk s1.ext
end Go.Proofs.YtkkdobolloojjaaGreat
