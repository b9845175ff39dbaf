/- scheme: its methods once more: behind them its faces are made. Printed by mk_schm.py. cut: to, end, Last, First. -/
import Derived.Test.YtoiohjifjmejkaaGreatM28
import Derived.Test.YtoiohjifjmejkaaGreatM34
namespace Go.Proofs.YtoiohjifjmejkaaGreat
open Go Go.RowKit

/-- a scheme whose faces are made. -/
def SchM (P c : Nat) (n : Int) (w : World) : Prop := 1 ≤ c ∧ c ≤ 4 ∧ SchAt P w c 1 0 (facesL c) n
theorem SchM.sch {P c : Nat} {n : Int} {w : World} (h : SchM P c n w) : Sch P c n w := ⟨h.1, h.2.1, .inr h.2.2⟩
theorem Sch.madeM {P c : Nat} {n : Int} {w w' : World} (h : Sch P c n w) (k : SchAt P w' c 1 0 (facesL c) n) : SchM P c n w' := ⟨h.1, h.2.1, k⟩
theorem SchM.bt {P c : Nat} {n : Int} {L : List Nat} {w w' : World} (h : SchM P c n w) (e : Bt L w w') (hP : P ∉ L) : SchM P c n w' := ⟨h.1, h.2.1, e.get hP h.2.2⟩
theorem SchM.ext {P c : Nat} {n : Int} {w w' : World} (h : SchM P c n w) (e : Ext w w') : SchM P c n w' := ⟨h.1, h.2.1, e.get h.2.2⟩
/-- what is made stays, as it is. -/
theorem SchM.same {P c : Nat} {n : Int} {w w' : World} (h : SchM P c n w) (e : Bt [P] w w') (k : SchM P c n w') : Ext w w' :=
  ⟨e.os, e.tape, e.output, e.size, fun i hi => by
    by_cases hp : i = P
    · subst hp
      exact (show w'.heap[i]? = _ from k.2.2).trans (show w.heap[i]? = _ from h.2.2).symm
    · exact e.block i hi (by simpa using hp)⟩
/-- a scheme does something; behind it its faces are made. -/
def DoesM (P c : Nat) (n : Int) (R : Value → World → Prop) (w : World) (e : Ending) (w' : World) : Prop := ∃ v, e = .returned v ∧ Bt [P] w w' ∧ SchM P c n w' ∧ R v w'
set_option maxHeartbeats 400000 in
theorem schWholeM_by (P c : Nat) (n : Int) (w : World) (p : Value) (R : Value → World → Prop) (h : Sch P c n w) (HK : ∀ w1, Bt [P] w w1 → Calls Tryz.prog (whF c) #[p] w1 (fun e w2 => ∃ v, e = .returned v ∧ Ext w1 w2 ∧ R v w2)) :
    Calls Tryz.prog 63 #[.pointer (some ⟨P, 0, none⟩), p] w (DoesM P c n R w) := by
  have HS := Lib.hid h
  have HH := Lib.hid HK
  have hcc := wh_call h.1 h.2.1
  clear h HK
  have hfl := face_fld
  go_enter Tryz.func63, Tryz.ntmps63
  go_wp2_with fail
  refine (face_any P c n w HS.out).mono ?_
  rw [facesV_eq]
  rintro e w1 ⟨rfl, B1, h1⟩
  go_wp2_with fail
  refine (HH.out w1 B1).mono ?_
  rintro e w2 ⟨v, rfl, h2, hv⟩
  go_wp2
  go_ret
  exact ⟨_, rfl, B1.trans (Bt.ext h2), (HS.out.madeM h1).ext h2, hv⟩
set_option maxHeartbeats 4000000 in
theorem schJoinM_by (P c : Nat) (n : Int) (w : World) (p q : Value) (k v g : Int) (R : Value → World → Prop) (h : Sch P c n w)
    (HK : ∀ w1, Bt [P] w w1 → Calls Tryz.prog (joF c) (joP c ++ #[p, .agg #[.int .i64 k, .int .i64 v, .int .u64 g], q]) w1 (fun e w2 => ∃ v, e = .returned v ∧ Ext w1 w2 ∧ R v w2)) :
    Calls Tryz.prog 31 #[.pointer (some ⟨P, 0, none⟩), p, .agg #[.int .i64 k, .int .i64 v, .int .u64 g], q] w (DoesM P c (IntKind.u64.wrap (n + 1)) R w) := by
  have hfn : ∀ f, Fence.wide.fn f := fun _ => trivial
  have HS := Lib.hid h
  have HH := Lib.hid HK
  have hlt := h.lt
  have hcc := jo_call h.1 h.2.1
  clear h HK
  have hfl := face_fld
  have hbox := alloc_at w (.cells #[.int .i64 k, .int .i64 v, .int .u64 g] 66) _ rfl
  have hE := (Ext.refl w).alloc (.cells #[.int .i64 k, .int .i64 v, .int .u64 g] 66)
  go_enter Tryz.func31, Tryz.ntmps31
  go_wp2_with fail
  generalize w.alloc (.cells #[.int .i64 k, .int .i64 v, .int .u64 g] 66) = w1 at *
  have h1 := HS.out.ext hE
  refine (u64Add_any ⟨P, 12, none⟩ n w1 ?hcell ?hfz).mono ?_
  case hcell =>
    rcases h1.2.2 with h | h
    · exact cell_of h 12
    · exact cell_of h 12
  case hfz =>
    rcases h1.2.2 with h | h
    · exact frozen_of h 12
    · exact frozen_of h 12
  rintro e w2 ⟨rfl, ew⟩
  have B2 : Bt [P] w1 w2 := by rw [ew]; exact (Bt.refl _ _).set _ _ (by simp)
  have h2 : Sch P c (IntKind.u64.wrap (n + 1)) w2 := by
    rw [ew]
    refine ⟨h1.1, h1.2.1, ?_⟩
    rcases h1.2.2 with h | h
    · exact .inl (sch_set h 12 _)
    · exact .inr (sch_set h 12 _)
  have hb2 := B2.get (show w.heap.size ∉ [P] by simp; omega) hbox
  have B02 : Bt [P] w w2 := (Bt.ext hE).trans B2
  clear ew h1 B2 hbox hE
  go_wp2_with fail
  obtain ⟨m⟩ : Nonempty Nat := ⟨0⟩
  refine (wpIn_wide (n := m)).1 ?_
  gi_wp2_with fail
  have H2 := Lib.hid h2
  have hx := Ext.drew w2
  have hb2' := hx.get hb2
  have hlt2 : w.heap.size ∉ [P] := by simp; omega
  clear h2
  generalize hD : w2.drew = w2' at *
  have H2' := Lib.hid (H2.out.ext hx)
  have B02' : Bt [P] w w2' := B02.trans (Bt.ext hx)
  clear H2 B02 hb2 hx
  have hx := Ext.refl w2'
  refine wpIn_region_G (fun j => !(List.contains (α := Nat) [1, 6] j)) (by kernel_rfl) ?_
  rw [hD]
  refine batchG hfn (fuel := 7) [0] (by kernel_rfl) rfl ?_
  repeat (go_big_quiet_step ((fail)))
  refine wpQuiet_nil ?_
  refine takeG0 hfn 3 (by kernel_rfl) rfl ?_
  repeat (go_big_quiet_step ((fail)))
  refine wpQuiet_nil ?_
  refine takeG0 hfn 5 (by kernel_rfl) rfl ?_
  repeat (go_big_quiet_step ((fail)))
  refine wpQuiet_nil ?_
  refine wpAnyG_two (j := 1) (k := 4) (by kernel_rfl) rfl rfl ?_ ?_
  · gi_wp2_with fail
    refine ⟨wide_room _, (callsIn_wide.2 (face_any P c _ w2' H2'.out)).mono ?_⟩
    rw [facesV_eq]
    rintro e w3 ⟨rfl, B3, h3⟩
    gi_wp2_with fail
    refine onePost_any (by kernel_rfl) ?_
    have hb3 := B3.get hlt2 hb2'
    have hc0 := cell_all (show w3.cell? ⟨w.heap.size, 0, none⟩ = some (.int .i64 k) from cell_of hb3 0)
    have hc1 := cell_all (show w3.cell? ⟨w.heap.size, 1, none⟩ = some (.int .i64 v) from cell_of hb3 1)
    have hc2 := cell_all (show w3.cell? ⟨w.heap.size, 2, none⟩ = some (.int .u64 g) from cell_of hb3 2)
    have hx := Ext.refl w3
    refine batchG hfn (fuel := 2) [2, 4] (by kernel_rfl) rfl ?_
    repeat (go_big_quiet_step ((fail)))
    refine wpQuiet_nil ?_
    refine wpAnyG_one (j := 6) (by kernel_rfl) rfl ?_
    gi_wp2_with fail
    refine ⟨wide_room _, (callsIn_wide.2 (HH.out w3 (B02'.trans B3))).mono ?_⟩
    rintro e w4 ⟨v', rfl, h4, hR⟩
    gi_wp2_with fail
    refine onePost_any (by kernel_rfl) ?_
    refine batchG hfn (fuel := 0) [7] (by kernel_rfl) rfl ?_
    repeat (go_big_quiet_step ((fail)))
    refine wpQuiet_nil ?_
    refine wpAnyG_done (by kernel_rfl) ?_
    refine calmQ_normal ?_
    go_wp2
    go_ret
    exact ⟨_, rfl, (B02'.trans B3).trans (Bt.ext h4), (H2'.out.madeM h3).ext h4, hR⟩
  · have hc0 := show w2'.cell? ⟨w.heap.size, 0, none⟩ = some (.int .i64 k) from cell_of hb2' 0
    have hc1 := show w2'.cell? ⟨w.heap.size, 1, none⟩ = some (.int .i64 v) from cell_of hb2' 1
    have hc2 := show w2'.cell? ⟨w.heap.size, 2, none⟩ = some (.int .u64 g) from cell_of hb2' 2
    gi_wp2_with fail
    refine onePost_ext (Ext.refl _) ?_
    refine wpAnyG_one (j := 1) (by kernel_rfl) rfl ?_
    gi_wp2_with fail
    refine ⟨wide_room _, (callsIn_wide.2 (face_any P c _ w2' H2'.out)).mono ?_⟩
    rw [facesV_eq]
    rintro e w3 ⟨rfl, B3, h3⟩
    gi_wp2_with fail
    refine onePost_any (by kernel_rfl) ?_
    clear hc0 hc1 hc2 hx
    have hx := Ext.refl w3
    refine batchG hfn (fuel := 2) [2] (by kernel_rfl) rfl ?_
    repeat (go_big_quiet_step ((fail)))
    refine wpQuiet_nil ?_
    refine wpAnyG_one (j := 6) (by kernel_rfl) rfl ?_
    gi_wp2_with fail
    refine ⟨wide_room _, (callsIn_wide.2 (HH.out w3 (B02'.trans B3))).mono ?_⟩
    rintro e w4 ⟨v', rfl, h4, hR⟩
    gi_wp2_with fail
    refine onePost_any (by kernel_rfl) ?_
    refine batchG hfn (fuel := 0) [7] (by kernel_rfl) rfl ?_
    repeat (go_big_quiet_step ((fail)))
    refine wpQuiet_nil ?_
    refine wpAnyG_done (by kernel_rfl) ?_
    refine calmQ_normal ?_
    go_wp2
    go_ret
    exact ⟨_, rfl, (B02'.trans B3).trans (Bt.ext h4), (H2'.out.madeM h3).ext h4, hR⟩
theorem put3M_bt {P c : Nat} {n : Int} {w w' : World} {N : Nat} {x y z : Value} {t : TypeId} (hB : Bt [P] w w') (hN : w.heap.size ≤ N) (hP : P < w.heap.size) (h : w'.heap[N]? = some (.cells #[x, y, z] t (0, 0))) (hS : SchM P c n w') (a b d : Value) :
    (put3 w' N a b d).heap[N]? = some (.cells #[a, b, d] t (0, 0)) ∧ Bt [P] w (put3 w' N a b d) ∧ SchM P c n (put3 w' N a b d) := by
  have k : Bt [N] w' (put3 w' N a b d) := by
    unfold put3
    exact (((Bt.refl _ _).set _ _ (by simp)).set _ _ (by simp)).set _ _ (by simp)
  refine ⟨?_, hB.cut k hN, hS.bt k (by simp; omega)⟩
  unfold put3
  simp [World.setCell, Array.getElem?_modify, h]
set_option maxHeartbeats 1000000 in
theorem schItemM_node (P c : Nat) (n : Int) (w : World) (b : Nat) (l : Tr) (k v g : Int) (r : Tr) (h : Sch P c n w) (ht : InH w (.node b l k v g r)) :
    Calls Tryz.prog 38 #[.pointer (some ⟨P, 0, none⟩), .pointer (some ⟨b, 0, none⟩)] w (DoesM P c n (fun x _ => x = itemV c (.node b l k v g r)) w) := by
  have HS := Lib.hid h
  have hlt := h.lt
  have hfl := face_fld
  obtain ⟨t, et⟩ : ∃ t, t = Tr.node b l k v g r := ⟨_, rfl⟩
  have hpt : (Value.pointer (some ⟨b, 0, none⟩)) = .pointer t.ptr := by rw [et]; rfl
  have HK := Lib.hid (fun W (e : InH W t) => key_any W t e)
  have HV := Lib.hid (fun W (e : InH W t) => val_any W t e)
  have HG := Lib.hid (fun W (e : InH W t) => tag_any W t e)
  rw [← hpt] at HK HV HG
  rw [← et] at ht ⊢
  have HT := Lib.hid ht
  clear h ht hpt et
  generalize hk : t.key = k' at *
  generalize hv : t.val = v' at *
  generalize hg : t.tag = g' at *
  have hi : itemV c t = itV k' v' (if c = 4 then g' else 0) := by rw [← hk, ← hv, ← hg]; rfl
  rw [hi]
  clear hi hk hv hg
  by_cases h4 : c = 4
  · rw [if_pos h4]
    have hd : decide (c = 4) = true := by simp [h4]
    have HFE := Lib.hid (facesV_eq c)
    rw [hd] at HFE
    clear hd h4
    go_enter Tryz.func38, Tryz.ntmps38
    go_wp2_with fail
    have hbox := alloc_at w (.cells #[.int .i64 0, .int .i64 0, .int .u64 0] 66) _ rfl
    have hE := (Ext.refl w).alloc (.cells #[.int .i64 0, .int .i64 0, .int .u64 0] 66)
    have hsz : (w.alloc (.cells #[.int .i64 0, .int .i64 0, .int .u64 0] 66)).heap.size = w.heap.size + 1 := by simp
    generalize w.alloc (.cells #[.int .i64 0, .int .i64 0, .int .u64 0] 66) = w1 at *
    refine (HK.out w1 (HT.out.ext hE)).mono ?_
    rintro e w2 ⟨rfl, h2⟩
    go_wp2_with fail
    refine (HV.out w2 (HT.out.ext (hE.trans h2))).mono ?_
    rintro e w3 ⟨rfl, h3⟩
    go_wp2_with fail
    have hbox2 := alloc_at w3 (.cells #[.int .i64 k', .int .i64 v', .int .u64 0] 66) _ rfl
    have hE3 := (Ext.refl w3).alloc (.cells #[.int .i64 k', .int .i64 v', .int .u64 0] 66)
    have hs3 := h3.size
    have hs2 := h2.size
    generalize w3.alloc (.cells #[.int .i64 k', .int .i64 v', .int .u64 0] 66) = w4 at *
    have h14 := (h2.trans h3).trans hE3
    have hX4 := hE.trans h14
    replace hbox := h14.get hbox
    clear hE h2 h3 hE3 h14
    refine (face_any P c n w4 (HS.out.ext hX4)).mono ?_
    rw [HFE.out]
    rintro e w5 ⟨rfl, B5, h5⟩
    replace hbox := B5.get (show w.heap.size ∉ [P] by simp; omega) hbox
    replace hbox2 := B5.get (show w3.heap.size ∉ [P] by simp; omega) hbox2
    have hS5 := (HS.out.ext hX4).madeM h5
    have B05 := (Bt.ext (L := [P]) hX4).trans B5
    have hT5 := (HS.out.ext hX4).inh B5 (HT.out.ext hX4)
    clear hX4 B5 h5
    go_wp2_with fail
    refine (HG.out w5 hT5).mono ?_
    rintro e w6 ⟨rfl, h6⟩
    replace hbox := h6.get hbox
    replace hbox2 := h6.get hbox2
    replace hS5 := hS5.ext h6
    replace B05 := B05.trans (Bt.ext h6)
    clear hT5 h6
    have HB := Lib.hid hbox
    have HB0 := Lib.hid B05
    have HS5 := Lib.hid hS5
    obtain ⟨d0, d1, d2, df⟩ := cells3 hbox
    obtain ⟨c0, c1, c2, cf⟩ := cells3 hbox2
    clear hbox B05 hS5
    go_wp2
    have HC := Lib.hid (And.intro (HB0.out.cut ((Bt.refl [w3.heap.size] w6).set ⟨w3.heap.size, 2, none⟩ (.int .u64 g') (by simp)) (by omega)) (And.intro (HS5.out.bt ((Bt.refl [w3.heap.size] w6).set ⟨w3.heap.size, 2, none⟩ (.int .u64 g') (by simp)) (by simp; omega)) (((Bt.refl [w3.heap.size] w6).set ⟨w3.heap.size, 2, none⟩ (.int .u64 g') (by simp)).get (by simp; omega) HB.out)))
    clear d0 d1 d2 df c0 c1 c2 cf hbox2
    generalize w6.setCell ⟨w3.heap.size, 2, none⟩ (.int .u64 g') = w7 at *
    change bodyPost _ _ _ _ _ (put3 w7 w.heap.size (.int .i64 k') (.int .i64 v') (.int .u64 g'))
    obtain ⟨hW, hX, hS⟩ := put3M_bt HC.out.1 (Nat.le_refl _) hlt HC.out.2.2 HC.out.2.1 (.int .i64 k') (.int .i64 v') (.int .u64 g')
    generalize put3 w7 w.heap.size (.int .i64 k') (.int .i64 v') (.int .u64 g') = W at *
    obtain ⟨d0, d1, d2, -⟩ := cells3 hW
    refine bodyPost_ret (v := itV k' v' g') ?_ rfl ⟨_, rfl, hX, hS, rfl⟩
    simp [results, Tryz.results38, go_sem, d0, d1, d2, itV]
  · rw [if_neg h4]
    have hd : decide (c = 4) = false := by simp [h4]
    have HFE := Lib.hid (facesV_eq c)
    rw [hd] at HFE
    clear hd h4
    go_enter Tryz.func38, Tryz.ntmps38
    go_wp2_with fail
    have hbox := alloc_at w (.cells #[.int .i64 0, .int .i64 0, .int .u64 0] 66) _ rfl
    have hE := (Ext.refl w).alloc (.cells #[.int .i64 0, .int .i64 0, .int .u64 0] 66)
    have hsz : (w.alloc (.cells #[.int .i64 0, .int .i64 0, .int .u64 0] 66)).heap.size = w.heap.size + 1 := by simp
    generalize w.alloc (.cells #[.int .i64 0, .int .i64 0, .int .u64 0] 66) = w1 at *
    refine (HK.out w1 (HT.out.ext hE)).mono ?_
    rintro e w2 ⟨rfl, h2⟩
    go_wp2_with fail
    refine (HV.out w2 (HT.out.ext (hE.trans h2))).mono ?_
    rintro e w3 ⟨rfl, h3⟩
    go_wp2_with fail
    have hbox2 := alloc_at w3 (.cells #[.int .i64 k', .int .i64 v', .int .u64 0] 66) _ rfl
    have hE3 := (Ext.refl w3).alloc (.cells #[.int .i64 k', .int .i64 v', .int .u64 0] 66)
    have hs3 := h3.size
    have hs2 := h2.size
    generalize w3.alloc (.cells #[.int .i64 k', .int .i64 v', .int .u64 0] 66) = w4 at *
    have h14 := (h2.trans h3).trans hE3
    have hX4 := hE.trans h14
    replace hbox := h14.get hbox
    clear hE h2 h3 hE3 h14
    refine (face_any P c n w4 (HS.out.ext hX4)).mono ?_
    rw [HFE.out]
    rintro e w5 ⟨rfl, B5, h5⟩
    replace hbox := B5.get (show w.heap.size ∉ [P] by simp; omega) hbox
    replace hbox2 := B5.get (show w3.heap.size ∉ [P] by simp; omega) hbox2
    have hS5 := (HS.out.ext hX4).madeM h5
    have B05 := (Bt.ext (L := [P]) hX4).trans B5
    have hT5 := (HS.out.ext hX4).inh B5 (HT.out.ext hX4)
    clear hX4 B5 h5
    have HB := Lib.hid hbox
    have HB0 := Lib.hid B05
    have HS5 := Lib.hid hS5
    obtain ⟨d0, d1, d2, df⟩ := cells3 hbox
    obtain ⟨c0, c1, c2, cf⟩ := cells3 hbox2
    clear hbox B05 hS5
    go_wp2
    change bodyPost _ _ _ _ _ (put3 w5 w.heap.size (.int .i64 k') (.int .i64 v') (.int .u64 0))
    clear d0 d1 d2 df c0 c1 c2 cf hbox2
    obtain ⟨hW, hX, hS⟩ := put3M_bt HB0.out (Nat.le_refl _) hlt HB.out HS5.out (.int .i64 k') (.int .i64 v') (.int .u64 0)
    generalize put3 w5 w.heap.size (.int .i64 k') (.int .i64 v') (.int .u64 0) = W at *
    obtain ⟨d0, d1, d2, -⟩ := cells3 hW
    refine bodyPost_ret (v := itV k' v' 0) ?_ rfl ⟨_, rfl, hX, hS, rfl⟩
    simp [results, Tryz.results38, go_sem, d0, d1, d2, itV]
section
variable {P c : Nat} {n : Int} {w : World}
theorem schWholeM_any (h : Sch P c n w) {T : Tr} (hT : InH w T) (p : PartC c T) (hc : T.count ≤ 20000) (m : Nat) (hm : m ≤ w.heap.size) :
    Calls Tryz.prog 63 #[.pointer (some ⟨P, 0, none⟩), .pointer T.ptr] w (DoesM P c n (fun v w2 => ∃ u, v = .pointer u.ptr ∧ InH w2 u ∧ WholeC m c T u) w) :=
  schWholeM_by P c n w _ _ h fun w1 B => whC_any c h.four w1 T (h.inh B hT) p hc m (Nat.le_trans hm B.size)
theorem schJoinM_any (h : Sch P c n w) {L R : Tr} (k v g : Int) (hl : InH w L) (hr : InH w R) (pl : PartC c L) (pr : PartC c R) (hc : L.count + R.count ≤ 20000) (m : Nat) (hm : m ≤ w.heap.size) (nl : L.news m = 0) (nr : R.news m = 0) :
    Calls Tryz.prog 31 #[.pointer (some ⟨P, 0, none⟩), .pointer L.ptr, itV k v g, .pointer R.ptr] w (DoesM P c (IntKind.u64.wrap (n + 1)) (JoinsC m c L R k v g) w) :=
  schJoinM_by P c n w _ _ k v g _ h fun w1 B => joC_any c m h.four w1 L R k v g (Nat.le_trans hm B.size) (h.inh B hl) (h.inh B hr) pl pr hc nl nr
end
end Go.Proofs.YtoiohjifjmejkaaGreat
namespace Go.Proofs.YtoiohjifjmejkaaGreat
open Go Go.RowKit

/-- towards the last item. -/
def wayT (pl : Nat) : Value := .agg #[.func (.func 37) #[] #[], .func (.func 36) #[] #[], .func (.func 129) #[] #[.pointer (some ⟨pl, 0, none⟩)]]
/-- towards the first one. -/
def wayB (P : Nat) : Value := .agg #[.func (.func 36) #[] #[], .func (.func 37) #[] #[], .func (.func 31) #[.pointer (some ⟨P, 0, none⟩)] #[]]
set_option maxHeartbeats 1000000 in
theorem toLast_any (P : Nat) (w : World) : Calls Tryz.prog 103 #[.pointer (some ⟨P, 0, none⟩), .bool true] w (fun e w' => ∃ pl, e = .returned (wayT pl) ∧ w.heap.size ≤ pl ∧ Boxed w' pl 25 (.pointer (some ⟨P, 0, none⟩)) ∧ Ext w w') := by
  have hmf : ∀ (fn : Fn) (first cap : Array Value) (w : World), (Instr.makeFunc fn first cap).run Tryz.prog w = .ok (.func fn first cap) w := fun _ _ _ _ => rfl
  go_enter Tryz.func103, Tryz.ntmps103
  go_wp2
  have hbx := alloc_at w (.cells #[.pointer (some ⟨P, 0, none⟩)] 25) _ rfl
  have hE1 := (Ext.refl w).alloc (.cells #[.pointer (some ⟨P, 0, none⟩)] 25)
  have hs1 : (w.alloc (.cells #[.pointer (some ⟨P, 0, none⟩)] 25)).heap.size = w.heap.size + 1 := by simp
  generalize w.alloc (.cells #[.pointer (some ⟨P, 0, none⟩)] 25) = w1 at *
  have hb2 := alloc_at w1 (.cells #[.func (.func 37) #[] #[], .func (.func 36) #[] #[], .func (.func 129) #[] #[.pointer (some ⟨w.heap.size, 0, none⟩)]] 156) (w.heap.size + 1) hs1.symm
  have hE2 := (Ext.refl w1).alloc (.cells #[.func (.func 37) #[] #[], .func (.func 36) #[] #[], .func (.func 129) #[] #[.pointer (some ⟨w.heap.size, 0, none⟩)]] 156)
  obtain ⟨d0, d1, d2, -⟩ := cells3 hb2
  refine bodyPost_ret (v := wayT w.heap.size) ?_ rfl ⟨w.heap.size, rfl, Nat.le_refl _, hE2.get hbx, hE1.trans hE2⟩
  simp [results, Tryz.results103, go_sem, d0, d1, d2, wayT]
set_option maxHeartbeats 1000000 in
theorem toFirst_any (P : Nat) (w : World) : Calls Tryz.prog 103 #[.pointer (some ⟨P, 0, none⟩), .bool false] w (fun e w' => ∃ pl, e = .returned (wayB P) ∧ w.heap.size ≤ pl ∧ Boxed w' pl 25 (.pointer (some ⟨P, 0, none⟩)) ∧ Ext w w') := by
  have hmf : ∀ (fn : Fn) (first cap : Array Value) (w : World), (Instr.makeFunc fn first cap).run Tryz.prog w = .ok (.func fn first cap) w := fun _ _ _ _ => rfl
  go_enter Tryz.func103, Tryz.ntmps103
  go_wp2
  have hbx := alloc_at w (.cells #[.pointer (some ⟨P, 0, none⟩)] 25) _ rfl
  have hE1 := (Ext.refl w).alloc (.cells #[.pointer (some ⟨P, 0, none⟩)] 25)
  have hs1 : (w.alloc (.cells #[.pointer (some ⟨P, 0, none⟩)] 25)).heap.size = w.heap.size + 1 := by simp
  generalize w.alloc (.cells #[.pointer (some ⟨P, 0, none⟩)] 25) = w1 at *
  have hb2 := alloc_at w1 (.cells #[.func (.func 36) #[] #[], .func (.func 37) #[] #[], .func (.func 31) #[.pointer (some ⟨P, 0, none⟩)] #[]] 156) (w.heap.size + 1) hs1.symm
  have hE2 := (Ext.refl w1).alloc (.cells #[.func (.func 36) #[] #[], .func (.func 37) #[] #[], .func (.func 31) #[.pointer (some ⟨P, 0, none⟩)] #[]] 156)
  obtain ⟨d0, d1, d2, -⟩ := cells3 hb2
  refine bodyPost_ret (v := wayB P) ?_ rfl ⟨w.heap.size, rfl, Nat.le_refl _, hE2.get hbx, hE1.trans hE2⟩
  simp [results, Tryz.results103, go_sem, d0, d1, d2, wayB]
set_option maxHeartbeats 1000000 in
theorem toJoin_any {P c : Nat} {n : Int} {w : World} (h : Sch P c n w) {L R : Tr} (pl : Nat) (k v g : Int) (hb : Boxed w pl 25 (.pointer (some ⟨P, 0, none⟩))) (hl : InH w L) (hr : InH w R) (pL : PartC c L) (pR : PartC c R) (hc : L.count + R.count ≤ 20000) :
    Calls Tryz.prog 129 #[.pointer R.ptr, itV k v g, .pointer L.ptr, .pointer (some ⟨pl, 0, none⟩)] w (DoesM P c (IntKind.u64.wrap (n + 1)) (fun x w2 => ∃ m, JoinsC m c L R k v g x w2) w) := by
  have hE := (Ext.refl w).alloc (.cells #[.int .i64 k, .int .i64 v, .int .u64 g] 66)
  have hbox := alloc_at w (.cells #[.int .i64 k, .int .i64 v, .int .u64 g] 66) _ rfl
  have HB := Lib.hid (show Boxed (w.alloc (.cells #[.int .i64 k, .int .i64 v, .int .u64 g] 66)) pl 25 (.pointer (some ⟨P, 0, none⟩)) from hE.get hb)
  have HJ := Lib.hid (schJoinM_any (h.ext hE) k v g (hl.ext hE) (hr.ext hE) pL pR hc _ (Nat.le_refl _) (news_zero (Nat.le_refl _) (hl.ext hE)) (news_zero (Nat.le_refl _) (hr.ext hE)))
  have HE := Lib.hid hE
  obtain ⟨c0, c1, c2, -⟩ := cells3 hbox
  have cb := HB.out.cell
  unfold itV at HJ ⊢
  clear h hb hl hr hE hbox
  go_enter Tryz.func129, Tryz.ntmps129
  go_wp2_with fail
  generalize w.alloc (.cells #[.int .i64 k, .int .i64 v, .int .u64 g] 66) = w1 at *
  refine HJ.out.mono ?_
  rintro e w2 ⟨x, rfl, B2, S2, hJ⟩
  have HF := Lib.hid (And.intro ((Bt.ext (L := [P]) HE.out).trans B2) (And.intro S2 hJ))
  clear B2 S2 hJ
  go_wp2
  go_ret
  exact ⟨_, rfl, HF.out.1, HF.out.2.1, _, HF.out.2.2⟩
end Go.Proofs.YtoiohjifjmejkaaGreat
