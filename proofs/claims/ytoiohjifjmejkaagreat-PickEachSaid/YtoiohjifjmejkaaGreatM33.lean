/- scheme: Of, Join, Item. scheme: Item. -/
import Derived.Test.YtoiohjifjmejkaaGreatM28
import Derived.Test.YtoiohjifjmejkaaGreatM32
namespace Go.Proofs.YtoiohjifjmejkaaGreat
open Go Go.RowKit

theorem schOf_no (c : Nat) (hc : c < 256) (h : c = 0 ∨ 4 < c) (w : World) : Calls Tryz.prog 26 #[.int .u8 c] w (Ret (.tuple #[.pointer none, .int .i64 2]) w) := by
  have hm := maker_any c hc
  have e : makerV c = .nilIface := by unfold makerV; rw [if_pos h]
  rw [e] at hm
  have HM := Lib.hid hm
  clear hm e
  go_enter Tryz.func26, Tryz.ntmps26
  go_wp2_with fail
  refine (HM.out w).mono ?_
  rintro e w1 ⟨rfl, h1⟩
  go_wp2
  exact bodyPost_ret (v := .tuple #[.pointer none, .int .i64 2]) (by simp [results, Tryz.results26, go_sem]) rfl (Ret.mk h1)
set_option maxHeartbeats 400000 in
theorem schOf_yes (c : Nat) (h1 : 1 ≤ c) (h4 : c ≤ 4) (w : World) : Calls Tryz.prog 26 #[.int .u8 c] w (fun e w' => ∃ P, e = .returned (.tuple #[.pointer (some ⟨P, 0, none⟩), .int .i64 0]) ∧ w.heap.size ≤ P ∧ Sch P c 0 w' ∧ Ext w w') := by
  have hm := maker_any c (by omega)
  obtain ⟨T, mF, v, e, -⟩ := maker_face c h1 h4
  rw [e] at hm
  have HM := Lib.hid hm
  clear hm e
  go_enter Tryz.func26, Tryz.ntmps26
  go_wp2_with fail
  refine (HM.out w).mono ?_
  rintro e w1 ⟨rfl, hw1⟩
  go_wp2
  refine bodyPost_ret (v := .tuple #[.pointer (some ⟨w1.heap.size, 0, none⟩), .int .i64 0]) (by simp [results, Tryz.results26, go_sem]) rfl ⟨w1.heap.size, rfl, hw1.size, ⟨h1, h4, .inl (alloc_at w1 _ _ rfl)⟩, hw1.alloc _⟩
set_option maxHeartbeats 400000 in
theorem u64Add_any (a : Addr) (x : Int) (w : World) (hc : w.cell? a = some (.int .u64 x)) (hz : w.frozen? a = false) :
    Calls Tryz.prog 53 #[.pointer (some a), .int .u64 1] w (fun e w' => e = .returned (.int .u64 (IntKind.u64.wrap (x + 1))) ∧ w' = w.setCell a (.int .u64 (IntKind.u64.wrap (x + 1)))) := by
  have hadd := run_call_add (P := Tryz.prog) Tryz.func88 (by kernel_rfl) (by kernel_rfl) (by kernel_rfl) .u64 (by kernel_rfl) (y := 1) (s := IntKind.u64.wrap (x + 1)) hc hz (by simp [go_sem, Op.intArith])
  generalize IntKind.u64.wrap (x + 1) = y at *
  go_enter Tryz.func53, Tryz.ntmps53
  go_wp2
  go_ret
  exact ⟨rfl, rfl⟩
set_option maxHeartbeats 400000 in
theorem schJoin_by (P c : Nat) (n : Int) (w : World) (p q : Value) (k v g : Int) (R : Value → World → Prop) (h : Sch P c n w)
    (HK : ∀ w1, Bt [P] w w1 → Calls Tryz.prog (joF c) (joP c ++ #[p, .agg #[.int .i64 k, .int .i64 v, .int .u64 g], q]) w1 (fun e w2 => ∃ v, e = .returned v ∧ Ext w1 w2 ∧ R v w2)) :
    Calls Tryz.prog 31 #[.pointer (some ⟨P, 0, none⟩), p, .agg #[.int .i64 k, .int .i64 v, .int .u64 g], q] w (Does P c (IntKind.u64.wrap (n + 1)) R w) := by
  have hfn : ∀ f, Fence.wide.fn f := fun _ => trivial
  have HS := Lib.hid h
  have HH := Lib.hid HK
  have hlt := h.lt
  have hcc := jo_call h.1 h.2.1
  clear h HK
  have hfl := face_fld
  have hbox := alloc_at w (.cells #[.int .i64 k, .int .i64 v, .int .u64 g] 66) _ rfl
  have hE := (Ext.refl w).alloc (.cells #[.int .i64 k, .int .i64 v, .int .u64 g] 66)
  go_enter Tryz.func31, Tryz.ntmps31
  go_wp2_with fail
  generalize w.alloc (.cells #[.int .i64 k, .int .i64 v, .int .u64 g] 66) = w1 at *
  have h1 := HS.out.ext hE
  refine (u64Add_any ⟨P, 12, none⟩ n w1 ?hcell ?hfz).mono ?_
  case hcell =>
    rcases h1.2.2 with h | h
    · exact cell_of h 12
    · exact cell_of h 12
  case hfz =>
    rcases h1.2.2 with h | h
    · exact frozen_of h 12
    · exact frozen_of h 12
  rintro e w2 ⟨rfl, ew⟩
  have B2 : Bt [P] w1 w2 := by rw [ew]; exact (Bt.refl _ _).set _ _ (by simp)
  have h2 : Sch P c (IntKind.u64.wrap (n + 1)) w2 := by
    rw [ew]
    refine ⟨h1.1, h1.2.1, ?_⟩
    rcases h1.2.2 with h | h
    · exact .inl (sch_set h 12 _)
    · exact .inr (sch_set h 12 _)
  have hb2 := B2.get (show w.heap.size ∉ [P] by simp; omega) hbox
  have B02 : Bt [P] w w2 := (Bt.ext hE).trans B2
  clear ew h1 B2 hbox hE
  go_wp2_with fail
  obtain ⟨m⟩ : Nonempty Nat := ⟨0⟩
  refine (wpIn_wide (n := m)).1 ?_
  gi_wp2_with fail
  have H2 := Lib.hid h2
  have hx := Ext.drew w2
  have hb2' := hx.get hb2
  have hlt2 : w.heap.size ∉ [P] := by simp; omega
  clear h2
  generalize hD : w2.drew = w2' at *
  have H2' := Lib.hid (H2.out.ext hx)
  have B02' : Bt [P] w w2' := B02.trans (Bt.ext hx)
  clear H2 B02 hb2 hx
  have hx := Ext.refl w2'
  refine wpIn_region_G (fun j => !(List.contains (α := Nat) [1, 6] j)) (by kernel_rfl) ?_
  rw [hD]
  refine batchG hfn (fuel := 7) [0] (by kernel_rfl) rfl ?_
  repeat (go_big_quiet_step ((fail)))
  refine wpQuiet_nil ?_
  refine takeG0 hfn 3 (by kernel_rfl) rfl ?_
  repeat (go_big_quiet_step ((fail)))
  refine wpQuiet_nil ?_
  refine takeG0 hfn 5 (by kernel_rfl) rfl ?_
  repeat (go_big_quiet_step ((fail)))
  refine wpQuiet_nil ?_
  refine wpAnyG_two (j := 1) (k := 4) (by kernel_rfl) rfl rfl ?_ ?_
  · gi_wp2_with fail
    refine ⟨wide_room _, (callsIn_wide.2 (face_any P c _ w2' H2'.out)).mono ?_⟩
    rw [facesV_eq]
    rintro e w3 ⟨rfl, B3, h3⟩
    gi_wp2_with fail
    refine onePost_any (by kernel_rfl) ?_
    have hb3 := B3.get hlt2 hb2'
    have hc0 := cell_all (show w3.cell? ⟨w.heap.size, 0, none⟩ = some (.int .i64 k) from cell_of hb3 0)
    have hc1 := cell_all (show w3.cell? ⟨w.heap.size, 1, none⟩ = some (.int .i64 v) from cell_of hb3 1)
    have hc2 := cell_all (show w3.cell? ⟨w.heap.size, 2, none⟩ = some (.int .u64 g) from cell_of hb3 2)
    have hx := Ext.refl w3
    refine batchG hfn (fuel := 2) [2, 4] (by kernel_rfl) rfl ?_
    repeat (go_big_quiet_step ((fail)))
    refine wpQuiet_nil ?_
    refine wpAnyG_one (j := 6) (by kernel_rfl) rfl ?_
    gi_wp2_with fail
    refine ⟨wide_room _, (callsIn_wide.2 (HH.out w3 (B02'.trans B3))).mono ?_⟩
    rintro e w4 ⟨v', rfl, h4, hR⟩
    gi_wp2_with fail
    refine onePost_any (by kernel_rfl) ?_
    refine batchG hfn (fuel := 0) [7] (by kernel_rfl) rfl ?_
    repeat (go_big_quiet_step ((fail)))
    refine wpQuiet_nil ?_
    refine wpAnyG_done (by kernel_rfl) ?_
    refine calmQ_normal ?_
    go_wp2
    go_ret
    exact ⟨_, rfl, (B02'.trans B3).trans (Bt.ext h4), (H2'.out.made h3).ext h4, hR⟩
  · have hc0 := show w2'.cell? ⟨w.heap.size, 0, none⟩ = some (.int .i64 k) from cell_of hb2' 0
    have hc1 := show w2'.cell? ⟨w.heap.size, 1, none⟩ = some (.int .i64 v) from cell_of hb2' 1
    have hc2 := show w2'.cell? ⟨w.heap.size, 2, none⟩ = some (.int .u64 g) from cell_of hb2' 2
    gi_wp2_with fail
    refine onePost_ext (Ext.refl _) ?_
    refine wpAnyG_one (j := 1) (by kernel_rfl) rfl ?_
    gi_wp2_with fail
    refine ⟨wide_room _, (callsIn_wide.2 (face_any P c _ w2' H2'.out)).mono ?_⟩
    rw [facesV_eq]
    rintro e w3 ⟨rfl, B3, h3⟩
    gi_wp2_with fail
    refine onePost_any (by kernel_rfl) ?_
    clear hc0 hc1 hc2 hx
    have hx := Ext.refl w3
    refine batchG hfn (fuel := 2) [2] (by kernel_rfl) rfl ?_
    repeat (go_big_quiet_step ((fail)))
    refine wpQuiet_nil ?_
    refine wpAnyG_one (j := 6) (by kernel_rfl) rfl ?_
    gi_wp2_with fail
    refine ⟨wide_room _, (callsIn_wide.2 (HH.out w3 (B02'.trans B3))).mono ?_⟩
    rintro e w4 ⟨v', rfl, h4, hR⟩
    gi_wp2_with fail
    refine onePost_any (by kernel_rfl) ?_
    refine batchG hfn (fuel := 0) [7] (by kernel_rfl) rfl ?_
    repeat (go_big_quiet_step ((fail)))
    refine wpQuiet_nil ?_
    refine wpAnyG_done (by kernel_rfl) ?_
    refine calmQ_normal ?_
    go_wp2
    go_ret
    exact ⟨_, rfl, (B02'.trans B3).trans (Bt.ext h4), (H2'.out.made h3).ext h4, hR⟩
set_option maxHeartbeats 1000000 in
/-- plain.of is the join of keys and values. -/
theorem plainJoin_by (c : Nat) (h1 : 1 ≤ c) (h4 : c ≤ 3) (w : World) (p q : Value) (k v g : Int) (R : Value → World → Prop)
    (HK : ∀ w1, Ext w w1 → Calls Tryz.prog (joF0 c) #[p, .int .i64 k, .int .i64 v, q] w1 (fun e w2 => ∃ v, e = .returned v ∧ Ext w1 w2 ∧ R v w2)) :
    Calls Tryz.prog (joF c) (joP c ++ #[p, .agg #[.int .i64 k, .int .i64 v, .int .u64 g], q]) w (fun e w2 => ∃ v, e = .returned v ∧ Ext w w2 ∧ R v w2) := by
  have hcc : ∀ (a : Array Value) (w : World), (callFunc (joF0 c) a).run Tryz.prog w = .ok (.enter (joF0 c) a) w := by
    intro a w
    rcases (show c = 1 ∨ c = 2 ∨ c = 3 by omega) with rfl | rfl | rfl <;> kernel_rfl
  have HH := Lib.hid HK
  clear HK
  have e1 : joF c = 203 := by unfold joF; rw [if_neg (by omega)]
  have e2 : joP c ++ #[p, .agg #[.int .i64 k, .int .i64 v, .int .u64 g], q] = #[.agg #[.string ⟨nmB c⟩, .func (.func (joF0 c)) #[] #[], fnV (ckF c), fnV (ptF c), fnV (rkF c), fnV (msF c), fnV (whF c)], p, .agg #[.int .i64 k, .int .i64 v, .int .u64 g], q] := by
    unfold joP; rw [if_neg (by omega)]; rfl
  rw [e1, e2]
  clear e1 e2
  unfold fnV
  go_enter Tryz.func203, Tryz.ntmps203
  go_wp2_with fail
  refine (HH.out _ (((Ext.refl w).alloc _).alloc _)).mono ?_
  rintro e w2 ⟨v', rfl, h2, hR⟩
  go_wp2
  go_ret
  exact ⟨_, rfl, (((Ext.refl w).alloc _).alloc _).trans h2, hR⟩
end Go.Proofs.YtoiohjifjmejkaaGreat
namespace Go.Proofs.YtoiohjifjmejkaaGreat
open Go Go.RowKit

theorem Sch.bt {P c : Nat} {n : Int} {L : List Nat} {w w' : World} (h : Sch P c n w) (e : Bt L w w') (hP : P ∉ L) : Sch P c n w' :=
  ⟨h.1, h.2.1, h.2.2.imp (fun k => e.get hP k) fun k => e.get hP k⟩
theorem put3_bt {P c : Nat} {n : Int} {w w' : World} {N : Nat} {x y z : Value} {t : TypeId} (hB : Bt [P] w w') (hN : w.heap.size ≤ N) (hP : P < w.heap.size) (h : w'.heap[N]? = some (.cells #[x, y, z] t (0, 0))) (hS : Sch P c n w') (a b d : Value) :
    (put3 w' N a b d).heap[N]? = some (.cells #[a, b, d] t (0, 0)) ∧ Bt [P] w (put3 w' N a b d) ∧ Sch P c n (put3 w' N a b d) := by
  have k : Bt [N] w' (put3 w' N a b d) := by
    unfold put3
    exact (((Bt.refl _ _).set _ _ (by simp)).set _ _ (by simp)).set _ _ (by simp)
  refine ⟨?_, hB.cut k hN, hS.bt k (by simp; omega)⟩
  unfold put3
  simp [World.setCell, Array.getElem?_modify, h]
def itemV (c : Nat) (t : Tr) : Value := itV t.key t.val (if c = 4 then t.tag else 0)
set_option maxHeartbeats 1000000 in
theorem schItem_nil (P c : Nat) (n : Int) (w : World) (h : Sch P c n w) : Calls Tryz.prog 38 #[.pointer (some ⟨P, 0, none⟩), .pointer none] w (Does P c n (fun v _ => v = itemV c .nil) w) := by
  have HS := Lib.hid h
  clear h
  go_enter Tryz.func38, Tryz.ntmps38
  go_wp2
  refine bodyPost_ret (v := .agg #[.int .i64 0, .int .i64 0, .int .u64 0]) (by simp [results, Tryz.results38, go_sem]) rfl ⟨_, rfl, (Bt.refl _ _).alloc _, HS.out.ext ((Ext.refl _).alloc _), ?_⟩
  simp [itemV, itV, Tr.key, Tr.val, Tr.tag]
set_option maxHeartbeats 1000000 in
theorem schItem_node (P c : Nat) (n : Int) (w : World) (b : Nat) (l : Tr) (k v g : Int) (r : Tr) (h : Sch P c n w) (ht : InH w (.node b l k v g r)) :
    Calls Tryz.prog 38 #[.pointer (some ⟨P, 0, none⟩), .pointer (some ⟨b, 0, none⟩)] w (Does P c n (fun x _ => x = itemV c (.node b l k v g r)) w) := by
  have HS := Lib.hid h
  have hlt := h.lt
  have hfl := face_fld
  obtain ⟨t, et⟩ : ∃ t, t = Tr.node b l k v g r := ⟨_, rfl⟩
  have hpt : (Value.pointer (some ⟨b, 0, none⟩)) = .pointer t.ptr := by rw [et]; rfl
  have HK := Lib.hid (fun W (e : InH W t) => key_any W t e)
  have HV := Lib.hid (fun W (e : InH W t) => val_any W t e)
  have HG := Lib.hid (fun W (e : InH W t) => tag_any W t e)
  rw [← hpt] at HK HV HG
  rw [← et] at ht ⊢
  have HT := Lib.hid ht
  clear h ht hpt et
  generalize hk : t.key = k' at *
  generalize hv : t.val = v' at *
  generalize hg : t.tag = g' at *
  have hi : itemV c t = itV k' v' (if c = 4 then g' else 0) := by rw [← hk, ← hv, ← hg]; rfl
  rw [hi]
  clear hi hk hv hg
  by_cases h4 : c = 4
  · rw [if_pos h4]
    have hd : decide (c = 4) = true := by simp [h4]
    have HFE := Lib.hid (facesV_eq c)
    rw [hd] at HFE
    clear hd h4
    go_enter Tryz.func38, Tryz.ntmps38
    go_wp2_with fail
    have hbox := alloc_at w (.cells #[.int .i64 0, .int .i64 0, .int .u64 0] 66) _ rfl
    have hE := (Ext.refl w).alloc (.cells #[.int .i64 0, .int .i64 0, .int .u64 0] 66)
    have hsz : (w.alloc (.cells #[.int .i64 0, .int .i64 0, .int .u64 0] 66)).heap.size = w.heap.size + 1 := by simp
    generalize w.alloc (.cells #[.int .i64 0, .int .i64 0, .int .u64 0] 66) = w1 at *
    refine (HK.out w1 (HT.out.ext hE)).mono ?_
    rintro e w2 ⟨rfl, h2⟩
    go_wp2_with fail
    refine (HV.out w2 (HT.out.ext (hE.trans h2))).mono ?_
    rintro e w3 ⟨rfl, h3⟩
    go_wp2_with fail
    have hbox2 := alloc_at w3 (.cells #[.int .i64 k', .int .i64 v', .int .u64 0] 66) _ rfl
    have hE3 := (Ext.refl w3).alloc (.cells #[.int .i64 k', .int .i64 v', .int .u64 0] 66)
    have hs3 := h3.size
    have hs2 := h2.size
    generalize w3.alloc (.cells #[.int .i64 k', .int .i64 v', .int .u64 0] 66) = w4 at *
    have h14 := (h2.trans h3).trans hE3
    have hX4 := hE.trans h14
    replace hbox := h14.get hbox
    clear hE h2 h3 hE3 h14
    refine (face_any P c n w4 (HS.out.ext hX4)).mono ?_
    rw [HFE.out]
    rintro e w5 ⟨rfl, B5, h5⟩
    replace hbox := B5.get (show w.heap.size ∉ [P] by simp; omega) hbox
    replace hbox2 := B5.get (show w3.heap.size ∉ [P] by simp; omega) hbox2
    have hS5 := (HS.out.ext hX4).made h5
    have B05 := (Bt.ext (L := [P]) hX4).trans B5
    have hT5 := (HS.out.ext hX4).inh B5 (HT.out.ext hX4)
    clear hX4 B5 h5
    go_wp2_with fail
    refine (HG.out w5 hT5).mono ?_
    rintro e w6 ⟨rfl, h6⟩
    replace hbox := h6.get hbox
    replace hbox2 := h6.get hbox2
    replace hS5 := hS5.ext h6
    replace B05 := B05.trans (Bt.ext h6)
    clear hT5 h6
    have HB := Lib.hid hbox
    have HB0 := Lib.hid B05
    have HS5 := Lib.hid hS5
    obtain ⟨d0, d1, d2, df⟩ := cells3 hbox
    obtain ⟨c0, c1, c2, cf⟩ := cells3 hbox2
    clear hbox B05 hS5
    go_wp2
    have HC := Lib.hid (And.intro (HB0.out.cut ((Bt.refl [w3.heap.size] w6).set ⟨w3.heap.size, 2, none⟩ (.int .u64 g') (by simp)) (by omega)) (And.intro (HS5.out.bt ((Bt.refl [w3.heap.size] w6).set ⟨w3.heap.size, 2, none⟩ (.int .u64 g') (by simp)) (by simp; omega)) (((Bt.refl [w3.heap.size] w6).set ⟨w3.heap.size, 2, none⟩ (.int .u64 g') (by simp)).get (by simp; omega) HB.out)))
    clear d0 d1 d2 df c0 c1 c2 cf hbox2
    generalize w6.setCell ⟨w3.heap.size, 2, none⟩ (.int .u64 g') = w7 at *
    change bodyPost _ _ _ _ _ (put3 w7 w.heap.size (.int .i64 k') (.int .i64 v') (.int .u64 g'))
    obtain ⟨hW, hX, hS⟩ := put3_bt HC.out.1 (Nat.le_refl _) hlt HC.out.2.2 HC.out.2.1 (.int .i64 k') (.int .i64 v') (.int .u64 g')
    generalize put3 w7 w.heap.size (.int .i64 k') (.int .i64 v') (.int .u64 g') = W at *
    obtain ⟨d0, d1, d2, -⟩ := cells3 hW
    refine bodyPost_ret (v := itV k' v' g') ?_ rfl ⟨_, rfl, hX, hS, rfl⟩
    simp [results, Tryz.results38, go_sem, d0, d1, d2, itV]
  · rw [if_neg h4]
    have hd : decide (c = 4) = false := by simp [h4]
    have HFE := Lib.hid (facesV_eq c)
    rw [hd] at HFE
    clear hd h4
    go_enter Tryz.func38, Tryz.ntmps38
    go_wp2_with fail
    have hbox := alloc_at w (.cells #[.int .i64 0, .int .i64 0, .int .u64 0] 66) _ rfl
    have hE := (Ext.refl w).alloc (.cells #[.int .i64 0, .int .i64 0, .int .u64 0] 66)
    have hsz : (w.alloc (.cells #[.int .i64 0, .int .i64 0, .int .u64 0] 66)).heap.size = w.heap.size + 1 := by simp
    generalize w.alloc (.cells #[.int .i64 0, .int .i64 0, .int .u64 0] 66) = w1 at *
    refine (HK.out w1 (HT.out.ext hE)).mono ?_
    rintro e w2 ⟨rfl, h2⟩
    go_wp2_with fail
    refine (HV.out w2 (HT.out.ext (hE.trans h2))).mono ?_
    rintro e w3 ⟨rfl, h3⟩
    go_wp2_with fail
    have hbox2 := alloc_at w3 (.cells #[.int .i64 k', .int .i64 v', .int .u64 0] 66) _ rfl
    have hE3 := (Ext.refl w3).alloc (.cells #[.int .i64 k', .int .i64 v', .int .u64 0] 66)
    have hs3 := h3.size
    have hs2 := h2.size
    generalize w3.alloc (.cells #[.int .i64 k', .int .i64 v', .int .u64 0] 66) = w4 at *
    have h14 := (h2.trans h3).trans hE3
    have hX4 := hE.trans h14
    replace hbox := h14.get hbox
    clear hE h2 h3 hE3 h14
    refine (face_any P c n w4 (HS.out.ext hX4)).mono ?_
    rw [HFE.out]
    rintro e w5 ⟨rfl, B5, h5⟩
    replace hbox := B5.get (show w.heap.size ∉ [P] by simp; omega) hbox
    replace hbox2 := B5.get (show w3.heap.size ∉ [P] by simp; omega) hbox2
    have hS5 := (HS.out.ext hX4).made h5
    have B05 := (Bt.ext (L := [P]) hX4).trans B5
    have hT5 := (HS.out.ext hX4).inh B5 (HT.out.ext hX4)
    clear hX4 B5 h5
    have HB := Lib.hid hbox
    have HB0 := Lib.hid B05
    have HS5 := Lib.hid hS5
    obtain ⟨d0, d1, d2, df⟩ := cells3 hbox
    obtain ⟨c0, c1, c2, cf⟩ := cells3 hbox2
    clear hbox B05 hS5
    go_wp2
    change bodyPost _ _ _ _ _ (put3 w5 w.heap.size (.int .i64 k') (.int .i64 v') (.int .u64 0))
    clear d0 d1 d2 df c0 c1 c2 cf hbox2
    obtain ⟨hW, hX, hS⟩ := put3_bt HB0.out (Nat.le_refl _) hlt HB.out HS5.out (.int .i64 k') (.int .i64 v') (.int .u64 0)
    generalize put3 w5 w.heap.size (.int .i64 k') (.int .i64 v') (.int .u64 0) = W at *
    obtain ⟨d0, d1, d2, -⟩ := cells3 hW
    refine bodyPost_ret (v := itV k' v' 0) ?_ rfl ⟨_, rfl, hX, hS, rfl⟩
    simp [results, Tryz.results38, go_sem, d0, d1, d2, itV]
theorem schItem_any (P c : Nat) (n : Int) (w : World) (T : Tr) (h : Sch P c n w) (ht : InH w T) :
    Calls Tryz.prog 38 #[.pointer (some ⟨P, 0, none⟩), .pointer T.ptr] w (Does P c n (fun x _ => x = itemV c T) w) := by
  cases T with
  | nil => exact schItem_nil P c n w h
  | node b l k v g r => exact schItem_node P c n w b l k v g r h ht
end Go.Proofs.YtoiohjifjmejkaaGreat
