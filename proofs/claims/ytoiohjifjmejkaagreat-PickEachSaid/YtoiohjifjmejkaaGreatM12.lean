/- avljoin: hang, Join, Most. -/
import Derived.Test.YtoiohjifjmejkaaGreatM11
namespace Go.Proofs.YtoiohjifjmejkaaGreat
open Go Go.RowKit

theorem rankH_any (w : World) (t : Tr) (h : Nat) (ht : InH w t) (ha : AvlH t h) (hh : h < 1000000) : Calls Tryz.prog 72 #[.pointer t.ptr] w (Ret (.int .i64 h) w) := by
  have := avlRank_any w t ht
  rwa [ha.tag, show wrap64 ((h : Nat) : Int) = h by unfold wrap64; omega] at this
/-- what hang hands back. -/
def Hangs (n : Nat) (s : Bool) (t low : Tr) (k v : Int) (w : World) (e : Ending) (w' : World) : Prop :=
  ∃ T : Tr, e = .returned (.pointer T.ptr) ∧ HangOk n s t low k v T ∧ InH w' T ∧ Ext w w'
def HangSpec (s : Bool) (n : Nat) (P low : Tr) (r : Nat) (t : Tr) : Prop :=
  ∀ (w : World) (h : Nat), n ≤ w.heap.size → InH w t → InH w P → InH w low → AvlH t h → r + 1 < h → h < 100000 → t.news n = 0 →
    Calls Tryz.prog 109 #[sideV s, .pointer t.ptr, .pointer P.ptr, .pointer low.ptr] w (Hangs n s t low P.key P.val w)
theorem avl_ne {T : Tr} {q : Nat} (h : AvlH T q) (hq : 0 < q) : T ≠ .nil := fun e => by
  rw [e] at h
  have : q = 0 := h
  omega
set_option maxHeartbeats 4000000 in
theorem hang_step (s : Bool) (n : Nat) (P low : Tr) (r : Nat) (hlow : AvlH low r) (nlow : low.news n = 0) (b : Nat) (i : Tr) (k v g : Int) (o : Tr) (IH : HangSpec s n P low r o) : HangSpec s n P low r (mkN s b i k v g o) := by
  intro w h hn ht hP hlw hA hlt hh hnw
  have hfn : ∀ f, Fence.wide.fn f := fun _ => trivial
  obtain ⟨p, q, hi, ho, e1, e2, b1, b2⟩ := (mk_avl _).1 hA
  rw [mk_news] at hnw
  have HNI := Lib.hid (show i.news n = 0 by omega)
  have HNO := Lib.hid (show o.news n = 0 by omega)
  have HNL := Lib.hid nlow
  have hq : q < 100000 := by omega
  have hp : p < 100000 := by omega
  have hr : r < 100000 := by omega
  have hrm : r + 1 < 1 + max p q := by omega
  clear hA e1 e2 hnw nlow hlt hh h
  obtain ⟨t, et⟩ : ∃ t, t = mkN s b i k v g o := ⟨_, rfl⟩
  rw [← et] at ht ⊢
  have HI := Lib.hid (show inOf s t = i by rw [et, inOf_mk])
  have HO := Lib.hid (show outOf s t = o by rw [et, outOf_mk])
  have HK := Lib.hid (show t.key = k ∧ t.val = v by rw [et, mk_key, mk_val]; exact ⟨rfl, rfl⟩)
  have ET := Lib.hid et
  have IHH := Lib.hid IH
  have AI := Lib.hid hi
  have AO := Lib.hid ho
  have AL := Lib.hid hlow
  clear et IH hi ho hlow
  unfold sideV
  have hci := call_in s
  have hco := call_out s
  have hcm := call_mk s
  have hbox := alloc_at w (.cells #[.func (.func (inF s)) #[] #[], .func (.func (outF s)) #[] #[], .func (.func (mkF s)) #[] #[]] 162) _ rfl
  have hE := (Ext.refl w).alloc (.cells #[.func (.func (inF s)) #[] #[], .func (.func (outF s)) #[] #[], .func (.func (mkF s)) #[] #[]] 162)
  go_enter Tryz.func109, Tryz.ntmps109
  obtain ⟨m⟩ : Nonempty Nat := ⟨0⟩
  refine (wpIn_wide (n := m)).1 ?_
  gi_wp2_with fail
  refine wpIn_scope_wide ?_
  generalize w.alloc (.cells #[.func (.func (inF s)) #[] #[], .func (.func (outF s)) #[] #[], .func (.func (mkF s)) #[] #[]] 162) = w1 at *
  have HT := Lib.hid (ht.ext hE)
  have HP := Lib.hid (hP.ext hE)
  have HL := Lib.hid (hlw.ext hE)
  have hc0 := cell_all (cell_of hbox 0)
  have hc1 := cell_all (cell_of hbox 1)
  have hx := Ext.drew w1
  gi_wp2_with fail
  refine wpIn_region_G (fun j => !(List.contains (α := Nat) [7] j)) (by kernel_rfl) ?_
  refine batchG hfn (fuel := 4) [0, 1, 2, 4, 5, 6] (by kernel_rfl) rfl ?_
  repeat (go_big_quiet_step ((fail)))
  refine wpQuiet_nil ?_
  refine wpAnyG_one (j := 3) (by kernel_rfl) rfl ?_
  gi_wp2_with fail
  refine ⟨wide_room _, (callsIn_wide.2 (inS_any s _ t (HT.out.ext hx))).mono ?_⟩
  rw [HI.out]
  rintro e w2 ⟨rfl, h2⟩
  gi_wp2_with fail
  refine onePost_ext (h2) ?_
  have h12 := hx.trans h2
  refine wpAnyG_one (j := 7) (by kernel_rfl) rfl ?_
  gi_wp2_with fail
  refine ⟨wide_room _, (callsIn_wide.2 (outS_any s _ t (HT.out.ext h12))).mono ?_⟩
  rw [HO.out]
  rintro e w3 ⟨rfl, h3⟩
  gi_wp2_with fail
  refine onePost_any (by kernel_rfl) ?_
  refine batchG hfn (fuel := 0) [8, 9] (by kernel_rfl) rfl ?_
  repeat (go_big_quiet_step ((fail)))
  refine wpQuiet_nil ?_
  refine wpAnyG_done (by kernel_rfl) ?_
  refine calmQ_normal ?_
  have h13 := h12.trans h3
  have hN := Nat.le_trans hn hE.size
  have HI1 : Hid (InH w1 i) := Lib.hid (by have := in_ok (s := s) HT.out; rwa [HI.out] at this)
  have HO1 : Hid (InH w1 o) := Lib.hid (by have := out_ok (s := s) HT.out; rwa [HO.out] at this)
  have hb3 := (h13.block _ (lt_of hbox)).trans hbox
  clear hc0 hc1 hx h2 h12 h3 ht hP hlw
  obtain ⟨op, hop⟩ : ∃ op, o.ptr = op := ⟨_, rfl⟩
  have HMK : Hid (∀ W, Ext w1 W → Calls Tryz.prog (mkF s) #[.pointer op, .pointer P.ptr, .pointer low.ptr] W (NewS s o P.key P.val low W)) := Lib.hid (fun W h => by
    rw [← hop]; exact mkS_any s W o P low (HO1.out.ext h) (HP.out.ext h) (HL.out.ext h))
  have HRK : Hid (∀ W, Ext w1 W → Calls Tryz.prog 72 #[.pointer op] W (Ret (.int .i64 q) W)) := Lib.hid (fun W h => by
    rw [← hop]; exact rankH_any W o q (HO1.out.ext h) AO.out (by omega))
  have HRC : Hid (r + 1 < q → ∀ W, Ext w1 W → Calls Tryz.prog 109 #[sideV s, .pointer op, .pointer P.ptr, .pointer low.ptr] W (Hangs n s o low P.key P.val W)) := Lib.hid (fun hlt W h => by
    rw [← hop]; exact IHH.out W q (Nat.le_trans hN h.size) (HO1.out.ext h) (HP.out.ext h) (HL.out.ext h) AO.out hlt hq HNO.out)
  have HNIL : Hid (op = none → q = 0) := Lib.hid (fun h => by
    rw [h] at hop
    have := AO.out
    cases o with
    | nil => exact this
    | node => simp [Tr.ptr] at hop)
  rw [hop]
  clear hop IHH
  have hc2 := cell_of hb3 2
  simp at hc2
  by_cases hqr : q ≤ r + 1
  · have hqi : (q : Int) ≤ (r : Int) + 1 := by omega
    have hrq : r ≤ q := by omega
    cases op with
    | none =>
      gi_wp2_with fail
      refine ⟨wide_room _, (callsIn_wide.2 (HMK.out w3 h13)).mono ?_⟩
      rintro e w4 ⟨bx, rfl, hbx, hX, h4⟩
      have h14 := h13.trans h4
      have hnX : n ≤ bx := Nat.le_trans hN (Nat.le_trans h13.size hbx)
      clear h13 h4 hc2 hb3 hbx
      obtain ⟨X, eX⟩ : ∃ X, X = mkN s bx o P.key P.val (avlTag o low) low := ⟨_, rfl⟩
      rw [← eX] at hX ⊢
      obtain ⟨x1, x2, x3, x4⟩ := hang_base (s := s) (n := n) (pk := P.key) (pv := P.val) bx AO.out AL.out (by omega) (by omega) hqr hrq HNO.out HNL.out hnX
      rw [← eX] at x1 x2 x3 x4
      have X1 := Lib.hid x1
      have X2 := Lib.hid x2
      have X3 := Lib.hid x3
      have X4 := Lib.hid x4
      have EX := Lib.hid eX
      clear x1 x2 x3 x4 eX
      gi_wp2_with fail
      refine wpIn_label ?_
      gi_wp2_with fail
      refine ⟨wide_room _, (callsIn_wide.2 (rankH_any w4 X (q + 1) hX X1.out (by omega))).mono ?_⟩
      rintro e w5 ⟨rfl, h5⟩
      gi_wp2_with fail
      refine ⟨wide_room _, (callsIn_wide.2 (rankH_any w5 i p (HI1.out.ext (h14.trans h5)) AI.out (by omega))).mono ?_⟩
      rintro e w6 ⟨rfl, h6⟩
      have h56 := h5.trans h6
      have h16 := Ext.trans h14 h56
      have hX6 := hX.ext h56
      have hb6 := (h16.block _ (lt_of hbox)).trans hbox
      have hn6 := Nat.le_trans hN h16.size
      clear h5 h6 h56
      by_cases hle : q + 1 ≤ p + 1
      · have hle' : ((q + 1 : Nat) : Int) ≤ (p : Int) + 1 := by omega
        have hc2 := cell_of hb6 2
        simp at hc2
        gi_wp2_with fail
        refine ⟨wide_room _, (callsIn_wide.2 (mkS_any s w6 i t X (HI1.out.ext h16) (HT.out.ext h16) hX6)).mono ?_⟩
        rw [HK.out.1, HK.out.2]
        rintro e w7 ⟨bt, rfl, hbt, hT7, h7⟩
        gi_wp2
        (try rw [Exit.noGoto_ret])
        go_ret
        refine ⟨_, rfl, ?_, hT7, hE.trans (h16.trans h7)⟩
        rw [ET.out]
        exact hang_plain bt AI.out AO.out AL.out b1 b2 hp X1.out hle (.inr rfl) X2.out X3.out X4.out HNI.out (by omega)
      · have hle' : ¬ ((q + 1 : Nat) : Int) ≤ (p : Int) + 1 := by omega
        gi_wp2_with fail
        have hc0 := cell_all (cell_of hb6 0)
        have hc1 := cell_all (cell_of hb6 1)
        have hc2 := cell_all (cell_of hb6 2)
        have hx := Ext.drew w6
        clear hb6 hbox
        refine wpIn_region_G (fun j => !(List.contains (α := Nat) [9] j)) (by kernel_rfl) ?_
        refine batchG hfn (fuel := 4) [0, 1, 2, 3, 4, 5, 6] (by kernel_rfl) rfl ?_
        repeat (go_big_quiet_step ((fail)))
        refine wpQuiet_nil ?_
        refine wpAnyG_one (j := 7) (by kernel_rfl) rfl ?_
        gi_wp2_with fail
        refine ⟨wide_room _, (callsIn_wide.2 (outward_any s _ X (hX6.ext hx))).mono ?_⟩
        rintro e w7 ⟨b3, b4, T3, T4, rfl, hb3, hb4, e3, e4, hT4, h7⟩
        have E34 := Lib.hid (And.intro e3 e4)
        clear e3 e4
        gi_wp2_with fail
        refine onePost_ext (h7) ?_
        have h67 := hx.trans h7
        have h17 := h16.trans h67
        refine wpAnyG_one (j := 8) (by kernel_rfl) rfl ?_
        gi_wp2_with fail
        refine ⟨wide_room _, (callsIn_wide.2 (mkS_any s _ i t T4 (HI1.out.ext h17) (HT.out.ext h17) hT4)).mono ?_⟩
        rw [HK.out.1, HK.out.2]
        rintro e w8 ⟨b5, rfl, hb5, hZ, h8⟩
        obtain ⟨Z, eZ⟩ : ∃ Z, Z = mkN s b5 i k v (avlTag i T4) T4 := ⟨_, rfl⟩
        rw [← eZ] at hZ ⊢
        have EZ := Lib.hid eZ
        clear eZ
        gi_wp2_with fail
        refine onePost_ext (h8) ?_
        have h68 := h67.trans h8
        refine wpAnyG_one (j := 9) (by kernel_rfl) rfl ?_
        gi_wp2_with fail
        refine ⟨wide_room _, (callsIn_wide.2 (inward_any s _ Z hZ)).mono ?_⟩
        rintro e w9 ⟨b6, b7, T6, T7, rfl, hb6, hb7, e6, e7, hT7, h9⟩
        have E67 := Lib.hid (And.intro e6 e7)
        clear e6 e7
        gi_wp2_with fail
        refine onePost_any (by kernel_rfl) ?_
        refine batchG hfn (fuel := 0) [10] (by kernel_rfl) rfl ?_
        repeat (go_big_quiet_step ((fail)))
        refine wpQuiet_nil ?_
        refine wpAnyG_done (by kernel_rfl) ?_
        refine calmQ_normal ?_
        gi_wp2
        (try rw [Exit.noGoto_ret])
        go_ret
        refine ⟨_, rfl, ?_, hT7, hE.trans (h16.trans (h68.trans h9))⟩
        rw [ET.out]
        have s3 := hx.size
        have s4 := h68.size
        obtain ⟨bo, oi, ok, ov, og, oo, eo⟩ := sides_ne s (avl_ne AO.out (by omega))
        have ho := AO.out
        have hno := HNO.out
        obtain ⟨e3, e4⟩ := E34.out
        obtain ⟨e6, e7⟩ := E67.out
        have eZ := EZ.out
        have eX := EX.out
        rw [e7, e6, eZ]
        simp only [inOf_mk, outOf_mk, mk_key, mk_val]
        rw [e4, e3, eX]
        simp only [inOf_mk, outOf_mk, mk_key, mk_val]
        rw [eo] at ho hno ⊢
        simp only [inOf_mk, outOf_mk, mk_key, mk_val]
        exact hang_two b3 b6 b7 AI.out ho AL.out b1 b2 hp hrm hqr (by omega) HNI.out hno HNL.out (by omega) (by omega) (by omega)
    | some a =>
      gi_wp2_with fail
      refine ⟨wide_room _, (callsIn_wide.2 (HRK.out w3 h13)).mono ?_⟩
      rintro e w4' ⟨rfl, h4'⟩
      have h14' := h13.trans h4'
      gi_wp2_with fail
      refine ⟨wide_room _, (callsIn_wide.2 (rankH_any w4' low r (HL.out.ext h14') AL.out (by omega))).mono ?_⟩
      rintro e w4'' ⟨rfl, h4''⟩
      have h14'' := h14'.trans h4''
      have hb4 := (h14''.block _ (lt_of hbox)).trans hbox
      have hc2 := cell_of hb4 2
      simp at hc2
      clear h14' h4' h13 hb3
      gi_wp2_with fail
      refine ⟨wide_room _, (callsIn_wide.2 (HMK.out w4'' h14'')).mono ?_⟩
      rintro e w4 ⟨bx, rfl, hbx, hX, h4⟩
      have h14 := h14''.trans h4
      have hnX : n ≤ bx := Nat.le_trans hN (Nat.le_trans h14''.size hbx)
      clear h14'' h4 hc2 hb4 h4''
      obtain ⟨X, eX⟩ : ∃ X, X = mkN s bx o P.key P.val (avlTag o low) low := ⟨_, rfl⟩
      rw [← eX] at hX ⊢
      obtain ⟨x1, x2, x3, x4⟩ := hang_base (s := s) (n := n) (pk := P.key) (pv := P.val) bx AO.out AL.out (by omega) (by omega) hqr hrq HNO.out HNL.out hnX
      rw [← eX] at x1 x2 x3 x4
      have X1 := Lib.hid x1
      have X2 := Lib.hid x2
      have X3 := Lib.hid x3
      have X4 := Lib.hid x4
      have EX := Lib.hid eX
      clear x1 x2 x3 x4 eX
      gi_wp2_with fail
      refine wpIn_label ?_
      gi_wp2_with fail
      refine ⟨wide_room _, (callsIn_wide.2 (rankH_any w4 X (q + 1) hX X1.out (by omega))).mono ?_⟩
      rintro e w5 ⟨rfl, h5⟩
      gi_wp2_with fail
      refine ⟨wide_room _, (callsIn_wide.2 (rankH_any w5 i p (HI1.out.ext (h14.trans h5)) AI.out (by omega))).mono ?_⟩
      rintro e w6 ⟨rfl, h6⟩
      have h56 := h5.trans h6
      have h16 := Ext.trans h14 h56
      have hX6 := hX.ext h56
      have hb6 := (h16.block _ (lt_of hbox)).trans hbox
      have hn6 := Nat.le_trans hN h16.size
      clear h5 h6 h56
      by_cases hle : q + 1 ≤ p + 1
      · have hle' : ((q + 1 : Nat) : Int) ≤ (p : Int) + 1 := by omega
        have hc2 := cell_of hb6 2
        simp at hc2
        gi_wp2_with fail
        refine ⟨wide_room _, (callsIn_wide.2 (mkS_any s w6 i t X (HI1.out.ext h16) (HT.out.ext h16) hX6)).mono ?_⟩
        rw [HK.out.1, HK.out.2]
        rintro e w7 ⟨bt, rfl, hbt, hT7, h7⟩
        gi_wp2
        (try rw [Exit.noGoto_ret])
        go_ret
        refine ⟨_, rfl, ?_, hT7, hE.trans (h16.trans h7)⟩
        rw [ET.out]
        exact hang_plain bt AI.out AO.out AL.out b1 b2 hp X1.out hle (.inr rfl) X2.out X3.out X4.out HNI.out (by omega)
      · have hle' : ¬ ((q + 1 : Nat) : Int) ≤ (p : Int) + 1 := by omega
        gi_wp2_with fail
        have hc0 := cell_all (cell_of hb6 0)
        have hc1 := cell_all (cell_of hb6 1)
        have hc2 := cell_all (cell_of hb6 2)
        have hx := Ext.drew w6
        clear hb6 hbox
        refine wpIn_region_G (fun j => !(List.contains (α := Nat) [9] j)) (by kernel_rfl) ?_
        refine batchG hfn (fuel := 4) [0, 1, 2, 3, 4, 5, 6] (by kernel_rfl) rfl ?_
        repeat (go_big_quiet_step ((fail)))
        refine wpQuiet_nil ?_
        refine wpAnyG_one (j := 7) (by kernel_rfl) rfl ?_
        gi_wp2_with fail
        refine ⟨wide_room _, (callsIn_wide.2 (outward_any s _ X (hX6.ext hx))).mono ?_⟩
        rintro e w7 ⟨b3, b4, T3, T4, rfl, hb3, hb4, e3, e4, hT4, h7⟩
        have E34 := Lib.hid (And.intro e3 e4)
        clear e3 e4
        gi_wp2_with fail
        refine onePost_ext (h7) ?_
        have h67 := hx.trans h7
        have h17 := h16.trans h67
        refine wpAnyG_one (j := 8) (by kernel_rfl) rfl ?_
        gi_wp2_with fail
        refine ⟨wide_room _, (callsIn_wide.2 (mkS_any s _ i t T4 (HI1.out.ext h17) (HT.out.ext h17) hT4)).mono ?_⟩
        rw [HK.out.1, HK.out.2]
        rintro e w8 ⟨b5, rfl, hb5, hZ, h8⟩
        obtain ⟨Z, eZ⟩ : ∃ Z, Z = mkN s b5 i k v (avlTag i T4) T4 := ⟨_, rfl⟩
        rw [← eZ] at hZ ⊢
        have EZ := Lib.hid eZ
        clear eZ
        gi_wp2_with fail
        refine onePost_ext (h8) ?_
        have h68 := h67.trans h8
        refine wpAnyG_one (j := 9) (by kernel_rfl) rfl ?_
        gi_wp2_with fail
        refine ⟨wide_room _, (callsIn_wide.2 (inward_any s _ Z hZ)).mono ?_⟩
        rintro e w9 ⟨b6, b7, T6, T7, rfl, hb6, hb7, e6, e7, hT7, h9⟩
        have E67 := Lib.hid (And.intro e6 e7)
        clear e6 e7
        gi_wp2_with fail
        refine onePost_any (by kernel_rfl) ?_
        refine batchG hfn (fuel := 0) [10] (by kernel_rfl) rfl ?_
        repeat (go_big_quiet_step ((fail)))
        refine wpQuiet_nil ?_
        refine wpAnyG_done (by kernel_rfl) ?_
        refine calmQ_normal ?_
        gi_wp2
        (try rw [Exit.noGoto_ret])
        go_ret
        refine ⟨_, rfl, ?_, hT7, hE.trans (h16.trans (h68.trans h9))⟩
        rw [ET.out]
        have s3 := hx.size
        have s4 := h68.size
        obtain ⟨bo, oi, ok, ov, og, oo, eo⟩ := sides_ne s (avl_ne AO.out (by omega))
        have ho := AO.out
        have hno := HNO.out
        obtain ⟨e3, e4⟩ := E34.out
        obtain ⟨e6, e7⟩ := E67.out
        have eZ := EZ.out
        have eX := EX.out
        rw [e7, e6, eZ]
        simp only [inOf_mk, outOf_mk, mk_key, mk_val]
        rw [e4, e3, eX]
        simp only [inOf_mk, outOf_mk, mk_key, mk_val]
        rw [eo] at ho hno ⊢
        simp only [inOf_mk, outOf_mk, mk_key, mk_val]
        exact hang_two b3 b6 b7 AI.out ho AL.out b1 b2 hp hrm hqr (by omega) HNI.out hno HNL.out (by omega) (by omega) (by omega)
  · have hqi : ¬ (q : Int) ≤ (r : Int) + 1 := by omega
    cases op with
    | none => have := HNIL.out rfl; omega
    | some a =>
      gi_wp2_with fail
      refine ⟨wide_room _, (callsIn_wide.2 (HRK.out w3 h13)).mono ?_⟩
      rintro e w4' ⟨rfl, h4'⟩
      have h14' := h13.trans h4'
      gi_wp2_with fail
      refine ⟨wide_room _, (callsIn_wide.2 (rankH_any w4' low r (HL.out.ext h14') AL.out (by omega))).mono ?_⟩
      rintro e w4'' ⟨rfl, h4''⟩
      have h14'' := h14'.trans h4''
      have hb4 := (h14''.block _ (lt_of hbox)).trans hbox
      have hc0 := cell_of hb4 0
      have hc1 := cell_of hb4 1
      have hc2 := cell_of hb4 2
      simp at hc0 hc1 hc2
      clear h14' h4' h13 hb3 h4''
      gi_wp2_with fail
      refine ⟨wide_room _, (callsIn_wide.2 (HRC.out (by omega) w4'' h14'')).mono ?_⟩
      rintro e w4 ⟨X, rfl, hok, hX, h4⟩
      have h14 := h14''.trans h4
      clear h14'' h4 hc0 hc1 hc2 hb4
      obtain ⟨⟨hx', x1, x2, x3⟩, xk, xo, xt, xn⟩ := hok
      rw [AO.out.ht] at x2 x3
      rw [AL.out.ht] at x3
      have hx2 : hx' = q ∨ hx' = q + 1 := by omega
      have X1 := Lib.hid x1
      have X2 := Lib.hid x2
      have X3 := Lib.hid x3
      have XK := Lib.hid xk
      have XO := Lib.hid xo
      have XN := Lib.hid xn
      have XT := Lib.hid xt
      clear x1 x2 x3 xk xo xn xt
      gi_wp2_with fail
      refine wpIn_label ?_
      gi_wp2_with fail
      refine ⟨wide_room _, (callsIn_wide.2 (rankH_any w4 X hx' hX X1.out (by omega))).mono ?_⟩
      rintro e w5 ⟨rfl, h5⟩
      gi_wp2_with fail
      refine ⟨wide_room _, (callsIn_wide.2 (rankH_any w5 i p (HI1.out.ext (h14.trans h5)) AI.out (by omega))).mono ?_⟩
      rintro e w6 ⟨rfl, h6⟩
      have h56 := h5.trans h6
      have h16 := Ext.trans h14 h56
      have hX6 := hX.ext h56
      have hb6 := (h16.block _ (lt_of hbox)).trans hbox
      have hn6 := Nat.le_trans hN h16.size
      clear h5 h6 h56
      by_cases hle : hx' ≤ p + 1
      · have hle' : (hx' : Int) ≤ (p : Int) + 1 := by omega
        have HX2 := Lib.hid hx2
        clear hx2
        have hc2 := cell_of hb6 2
        simp at hc2
        gi_wp2_with fail
        refine ⟨wide_room _, (callsIn_wide.2 (mkS_any s w6 i t X (HI1.out.ext h16) (HT.out.ext h16) hX6)).mono ?_⟩
        rw [HK.out.1, HK.out.2]
        rintro e w7 ⟨bt, rfl, hbt, hT7, h7⟩
        gi_wp2
        (try rw [Exit.noGoto_ret])
        go_ret
        refine ⟨_, rfl, ?_, hT7, hE.trans (h16.trans h7)⟩
        rw [ET.out]
        exact hang_plain bt AI.out AO.out AL.out b1 b2 hp X1.out hle HX2.out X3.out XK.out XO.out HNI.out (by omega)
      · have hle' : ¬ (hx' : Int) ≤ (p : Int) + 1 := by omega
        clear hx2
        gi_wp2_with fail
        have hc0 := cell_all (cell_of hb6 0)
        have hc1 := cell_all (cell_of hb6 1)
        have hc2 := cell_all (cell_of hb6 2)
        have hx := Ext.drew w6
        clear hb6 hbox
        refine wpIn_region_G (fun j => !(List.contains (α := Nat) [7] j)) (by kernel_rfl) ?_
        refine batchG hfn (fuel := 3) [0, 1, 2, 3, 4, 5] (by kernel_rfl) rfl ?_
        repeat (go_big_quiet_step ((fail)))
        refine wpQuiet_nil ?_
        refine wpAnyG_one (j := 6) (by kernel_rfl) rfl ?_
        gi_wp2_with fail
        have h17 := h16.trans hx
        refine ⟨wide_room _, (callsIn_wide.2 (mkS_any s _ i t X (HI1.out.ext h17) (HT.out.ext h17) (hX6.ext hx))).mono ?_⟩
        rw [HK.out.1, HK.out.2]
        rintro e w8 ⟨b5, rfl, hb5, hZ, h8⟩
        obtain ⟨Z, eZ⟩ : ∃ Z, Z = mkN s b5 i k v (avlTag i X) X := ⟨_, rfl⟩
        rw [← eZ] at hZ ⊢
        have EZ := Lib.hid eZ
        clear eZ
        gi_wp2_with fail
        refine onePost_ext (h8) ?_
        have h68 := hx.trans h8
        refine wpAnyG_one (j := 7) (by kernel_rfl) rfl ?_
        gi_wp2_with fail
        refine ⟨wide_room _, (callsIn_wide.2 (inward_any s _ Z hZ)).mono ?_⟩
        rintro e w9 ⟨b6, b7, T6, T7, rfl, hb6, hb7, e6, e7, hT7, h9⟩
        have E67 := Lib.hid (And.intro e6 e7)
        clear e6 e7
        gi_wp2_with fail
        refine onePost_any (by kernel_rfl) ?_
        refine batchG hfn (fuel := 0) [8] (by kernel_rfl) rfl ?_
        repeat (go_big_quiet_step ((fail)))
        refine wpQuiet_nil ?_
        refine wpAnyG_done (by kernel_rfl) ?_
        refine calmQ_normal ?_
        gi_wp2
        (try rw [Exit.noGoto_ret])
        go_ret
        refine ⟨_, rfl, ?_, hT7, hE.trans (h16.trans (h68.trans h9))⟩
        rw [ET.out]
        have s4 := h68.size
        obtain ⟨bx, xi, xk, xv, xg, xo, ex⟩ := sides_ne s XN.out
        have x1 := X1.out
        have x2 := X2.out
        have x3 := X3.out
        have xkv := XK.out
        have xol := XO.out
        have xt := XT.out
        obtain ⟨e6, e7⟩ := E67.out
        have eZ := EZ.out
        rw [e7, e6, eZ]
        simp only [inOf_mk, outOf_mk, mk_key, mk_val]
        rw [ex] at x1 x2 x3 xkv xol xt ⊢
        simp only [inOf_mk, outOf_mk, mk_key, mk_val, mk_blk] at x2 xt ⊢
        exact hang_turn b6 b7 AI.out AO.out AL.out b1 b2 hp x1 (by omega) x2 x3 xt xkv xol HNI.out (by omega) (by omega)
/-- **hang**, at any tree that may be and a lower one. -/
theorem hang_any (s : Bool) (n : Nat) (P low : Tr) (r : Nat) (hlow : AvlH low r) (nlow : low.news n = 0) : ∀ t : Tr, HangSpec s n P low r t := by
  intro t
  induction t with
  | nil =>
    intro w h _ _ _ _ hA hlt
    have : h = 0 := hA
    omega
  | node b l k v g rr ihl ihr =>
    rw [mk_sides s b l k v g rr]
    refine hang_step s n P low r hlow nlow b _ k v g _ ?_
    cases s
    · exact ihl
    · exact ihr
end Go.Proofs.YtoiohjifjmejkaaGreat
