/- scheme: its methods, whatever the functions that it has do. scheme: Of, Join, Item. scheme: Item. -/
import Derived.Test.YtjiiokhjajfhjaaGreatM30
import Derived.Test.YtjiiokhjajfhjaaGreatM33
namespace Go.Proofs.YtjiiokhjajfhjaaGreat
open Go Go.RowKit

theorem facesV_eq (c : Nat) : facesV c = .agg #[.string ⟨nmB c⟩, .func (.func (joF c)) (joP c) #[], .func (.func (whF c)) #[] #[], .func (.func (ckF c)) #[] #[], .func (.func (ptF c)) #[] #[], .func (.func (rkF c)) (rkP c) #[], .func (.func (msF c)) #[] #[], .bool (decide (c = 4))] := rfl
theorem face_fld (a b c d e f g h : Value) (w : World) :
    (Instr.field 111 (.agg #[a, b, c, d, e, f, g, h]) 0).run Tryz.prog w = .ok a w ∧ (Instr.field 111 (.agg #[a, b, c, d, e, f, g, h]) 1).run Tryz.prog w = .ok b w ∧
    (Instr.field 111 (.agg #[a, b, c, d, e, f, g, h]) 2).run Tryz.prog w = .ok c w ∧ (Instr.field 111 (.agg #[a, b, c, d, e, f, g, h]) 3).run Tryz.prog w = .ok d w ∧
    (Instr.field 111 (.agg #[a, b, c, d, e, f, g, h]) 4).run Tryz.prog w = .ok e w ∧ (Instr.field 111 (.agg #[a, b, c, d, e, f, g, h]) 5).run Tryz.prog w = .ok f w ∧
    (Instr.field 111 (.agg #[a, b, c, d, e, f, g, h]) 6).run Tryz.prog w = .ok g w ∧ (Instr.field 111 (.agg #[a, b, c, d, e, f, g, h]) 7).run Tryz.prog w = .ok h w := by
  refine ⟨?_, ?_, ?_, ?_, ?_, ?_, ?_, ?_⟩ <;> kernel_rfl
theorem four_codes {c : Nat} (h1 : 1 ≤ c) (h4 : c ≤ 4) : c = 1 ∨ c = 2 ∨ c = 3 ∨ c = 4 := by omega
theorem ck_call {c : Nat} (h1 : 1 ≤ c) (h4 : c ≤ 4) (a : Array Value) (w : World) : (callFunc (ckF c) a).run Tryz.prog w = .ok (.enter (ckF c) a) w := by
  rcases four_codes h1 h4 with rfl | rfl | rfl | rfl <;> kernel_rfl
theorem pt_call {c : Nat} (h1 : 1 ≤ c) (h4 : c ≤ 4) (a : Array Value) (w : World) : (callFunc (ptF c) a).run Tryz.prog w = .ok (.enter (ptF c) a) w := by
  rcases four_codes h1 h4 with rfl | rfl | rfl | rfl <;> kernel_rfl
theorem rk_call {c : Nat} (h1 : 1 ≤ c) (h4 : c ≤ 4) (a : Array Value) (w : World) : (callFunc (rkF c) a).run Tryz.prog w = .ok (.enter (rkF c) a) w := by
  rcases four_codes h1 h4 with rfl | rfl | rfl | rfl <;> kernel_rfl
theorem ms_call {c : Nat} (h1 : 1 ≤ c) (h4 : c ≤ 4) (a : Array Value) (w : World) : (callFunc (msF c) a).run Tryz.prog w = .ok (.enter (msF c) a) w := by
  rcases four_codes h1 h4 with rfl | rfl | rfl | rfl <;> kernel_rfl
theorem wh_call {c : Nat} (h1 : 1 ≤ c) (h4 : c ≤ 4) (a : Array Value) (w : World) : (callFunc (whF c) a).run Tryz.prog w = .ok (.enter (whF c) a) w := by
  rcases four_codes h1 h4 with rfl | rfl | rfl | rfl <;> kernel_rfl
theorem jo_call {c : Nat} (h1 : 1 ≤ c) (h4 : c ≤ 4) (a : Array Value) (w : World) : (callFunc (joF c) a).run Tryz.prog w = .ok (.enter (joF c) a) w := by
  rcases four_codes h1 h4 with rfl | rfl | rfl | rfl <;> kernel_rfl

/-- a scheme does something; behind it the scheme is there as it was, with n joins. -/
def Does (P c : Nat) (n : Int) (R : Value → World → Prop) (w : World) (e : Ending) (w' : World) : Prop := ∃ v, e = .returned v ∧ Bt [P] w w' ∧ Sch P c n w' ∧ R v w'
theorem Sch.made {P c : Nat} {n : Int} {w : World} (h : Sch P c n w) {w' : World} (k : SchAt P w' c 1 0 (facesL c) n) : Sch P c n w' := ⟨h.1, h.2.1, .inr k⟩
set_option maxHeartbeats 400000 in
theorem schCheck_by (P c : Nat) (n : Int) (w : World) (p : Value) (a b : Value) (h : Sch P c n w) (HK : ∀ w1, Bt [P] w w1 → Calls Tryz.prog (ckF c) #[p] w1 (Ret (.tuple #[a, b]) w1)) :
    Calls Tryz.prog 46 #[.pointer (some ⟨P, 0, none⟩), p] w (Does P c n (fun v _ => v = .tuple #[a, b]) w) := by
  have HS := Lib.hid h
  have HH := Lib.hid HK
  have hcc := ck_call h.1 h.2.1
  clear h HK
  have hfl := face_fld
  go_enter Tryz.func46, Tryz.ntmps46
  go_wp2_with fail
  refine (face_any P c n w HS.out).mono ?_
  rw [facesV_eq]
  rintro e w1 ⟨rfl, B1, h1⟩
  go_wp2_with fail
  refine (HH.out w1 B1).mono ?_
  rintro e w2 ⟨rfl, h2⟩
  go_wp2
  exact bodyPost_ret (v := .tuple #[a, b]) (by simp [results, Tryz.results46, go_sem]) rfl ⟨_, rfl, B1.trans (Bt.ext h2), (HS.out.made h1).ext h2, rfl⟩
set_option maxHeartbeats 400000 in
theorem schMost_by (P c : Nat) (n : Int) (w : World) (p q : Value) (x : Int) (h : Sch P c n w) (HK : ∀ w1, Bt [P] w w1 → Calls Tryz.prog (msF c) #[p, q] w1 (Ret (.int .i64 x) w1)) :
    Calls Tryz.prog 31 #[.pointer (some ⟨P, 0, none⟩), p, q] w (Does P c n (fun v _ => v = .int .i64 x) w) := by
  have HS := Lib.hid h
  have HH := Lib.hid HK
  have hcc := ms_call h.1 h.2.1
  clear h HK
  have hfl := face_fld
  go_enter Tryz.func31, Tryz.ntmps31
  go_wp2_with fail
  refine (face_any P c n w HS.out).mono ?_
  rw [facesV_eq]
  rintro e w1 ⟨rfl, B1, h1⟩
  go_wp2_with fail
  refine (HH.out w1 B1).mono ?_
  rintro e w2 ⟨rfl, h2⟩
  go_wp2
  go_ret
  exact ⟨_, rfl, B1.trans (Bt.ext h2), (HS.out.made h1).ext h2, rfl⟩
end Go.Proofs.YtjiiokhjajfhjaaGreat
namespace Go.Proofs.YtjiiokhjajfhjaaGreat
open Go Go.RowKit

theorem schOf_no (c : Nat) (hc : c < 256) (h : c = 0 ∨ 4 < c) (w : World) : Calls Tryz.prog 56 #[.int .u8 c] w (Ret (.tuple #[.pointer none, .int .i64 2]) w) := by
  have hm := maker_any c hc
  have e : makerV c = .nilIface := by unfold makerV; rw [if_pos h]
  rw [e] at hm
  have HM := Lib.hid hm
  clear hm e
  go_enter Tryz.func56, Tryz.ntmps56
  go_wp2_with fail
  refine (HM.out w).mono ?_
  rintro e w1 ⟨rfl, h1⟩
  go_wp2
  exact bodyPost_ret (v := .tuple #[.pointer none, .int .i64 2]) (by simp [results, Tryz.results56, go_sem]) rfl (Ret.mk h1)
set_option maxHeartbeats 400000 in
theorem schOf_yes (c : Nat) (h1 : 1 ≤ c) (h4 : c ≤ 4) (w : World) : Calls Tryz.prog 56 #[.int .u8 c] w (fun e w' => ∃ P, e = .returned (.tuple #[.pointer (some ⟨P, 0, none⟩), .int .i64 0]) ∧ w.heap.size ≤ P ∧ Sch P c 0 w' ∧ Ext w w') := by
  have hm := maker_any c (by omega)
  obtain ⟨T, mF, v, e, -⟩ := maker_face c h1 h4
  rw [e] at hm
  have HM := Lib.hid hm
  clear hm e
  go_enter Tryz.func56, Tryz.ntmps56
  go_wp2_with fail
  refine (HM.out w).mono ?_
  rintro e w1 ⟨rfl, hw1⟩
  go_wp2
  refine bodyPost_ret (v := .tuple #[.pointer (some ⟨w1.heap.size, 0, none⟩), .int .i64 0]) (by simp [results, Tryz.results56, go_sem]) rfl ⟨w1.heap.size, rfl, hw1.size, ⟨h1, h4, .inl (alloc_at w1 _ _ rfl)⟩, hw1.alloc _⟩
set_option maxHeartbeats 400000 in
theorem u64Add_any (a : Addr) (x : Int) (w : World) (hc : w.cell? a = some (.int .u64 x)) (hz : w.frozen? a = false) :
    Calls Tryz.prog 51 #[.pointer (some a), .int .u64 1] w (fun e w' => e = .returned (.int .u64 (IntKind.u64.wrap (x + 1))) ∧ w' = w.setCell a (.int .u64 (IntKind.u64.wrap (x + 1)))) := by
  have hadd := run_call_add (P := Tryz.prog) Tryz.func71 (by kernel_rfl) (by kernel_rfl) (by kernel_rfl) .u64 (by kernel_rfl) (y := 1) (s := IntKind.u64.wrap (x + 1)) hc hz (by simp [go_sem, Op.intArith])
  generalize IntKind.u64.wrap (x + 1) = y at *
  go_enter Tryz.func51, Tryz.ntmps51
  go_wp2
  go_ret
  exact ⟨rfl, rfl⟩
set_option maxHeartbeats 400000 in
theorem schJoin_by (P c : Nat) (n : Int) (w : World) (p q : Value) (k v g : Int) (R : Value → World → Prop) (h : Sch P c n w)
    (HK : ∀ w1, Bt [P] w w1 → Calls Tryz.prog (joF c) (joP c ++ #[p, .agg #[.int .i64 k, .int .i64 v, .int .u64 g], q]) w1 (fun e w2 => ∃ v, e = .returned v ∧ Ext w1 w2 ∧ R v w2)) :
    Calls Tryz.prog 30 #[.pointer (some ⟨P, 0, none⟩), p, .agg #[.int .i64 k, .int .i64 v, .int .u64 g], q] w (Does P c (IntKind.u64.wrap (n + 1)) R w) := by
  have hfn : ∀ f, Fence.wide.fn f := fun _ => trivial
  have HS := Lib.hid h
  have HH := Lib.hid HK
  have hlt := h.lt
  have hcc := jo_call h.1 h.2.1
  clear h HK
  have hfl := face_fld
  have hbox := alloc_at w (.cells #[.int .i64 k, .int .i64 v, .int .u64 g] 58) _ rfl
  have hE := (Ext.refl w).alloc (.cells #[.int .i64 k, .int .i64 v, .int .u64 g] 58)
  go_enter Tryz.func30, Tryz.ntmps30
  go_wp2_with fail
  generalize w.alloc (.cells #[.int .i64 k, .int .i64 v, .int .u64 g] 58) = w1 at *
  have h1 := HS.out.ext hE
  refine (u64Add_any ⟨P, 12, none⟩ n w1 ?hcell ?hfz).mono ?_
  case hcell =>
    rcases h1.2.2 with h | h
    · exact cell_of h 12
    · exact cell_of h 12
  case hfz =>
    rcases h1.2.2 with h | h
    · exact frozen_of h 12
    · exact frozen_of h 12
  rintro e w2 ⟨rfl, ew⟩
  have B2 : Bt [P] w1 w2 := by rw [ew]; exact (Bt.refl _ _).set _ _ (by simp)
  have h2 : Sch P c (IntKind.u64.wrap (n + 1)) w2 := by
    rw [ew]
    refine ⟨h1.1, h1.2.1, ?_⟩
    rcases h1.2.2 with h | h
    · exact .inl (sch_set h 12 _)
    · exact .inr (sch_set h 12 _)
  have hb2 := B2.get (show w.heap.size ∉ [P] by simp; omega) hbox
  have B02 : Bt [P] w w2 := (Bt.ext hE).trans B2
  clear ew h1 B2 hbox hE
  go_wp2_with fail
  obtain ⟨m⟩ : Nonempty Nat := ⟨0⟩
  refine (wpIn_wide (n := m)).1 ?_
  gi_wp2_with fail
  have H2 := Lib.hid h2
  have hx := Ext.drew w2
  have hb2' := hx.get hb2
  have hlt2 : w.heap.size ∉ [P] := by simp; omega
  clear h2
  generalize hD : w2.drew = w2' at *
  have H2' := Lib.hid (H2.out.ext hx)
  have B02' : Bt [P] w w2' := B02.trans (Bt.ext hx)
  clear H2 B02 hb2 hx
  have hx := Ext.refl w2'
  refine wpIn_region_G (fun j => !(List.contains (α := Nat) [1, 6] j)) (by kernel_rfl) ?_
  rw [hD]
  refine batchG hfn (fuel := 7) [0] (by kernel_rfl) rfl ?_
  repeat (go_big_quiet_step ((fail)))
  refine wpQuiet_nil ?_
  refine takeG0 hfn 3 (by kernel_rfl) rfl ?_
  repeat (go_big_quiet_step ((fail)))
  refine wpQuiet_nil ?_
  refine takeG0 hfn 5 (by kernel_rfl) rfl ?_
  repeat (go_big_quiet_step ((fail)))
  refine wpQuiet_nil ?_
  refine wpAnyG_two (j := 1) (k := 4) (by kernel_rfl) rfl rfl ?_ ?_
  · gi_wp2_with fail
    refine ⟨wide_room _, (callsIn_wide.2 (face_any P c _ w2' H2'.out)).mono ?_⟩
    rw [facesV_eq]
    rintro e w3 ⟨rfl, B3, h3⟩
    gi_wp2_with fail
    refine onePost_any (by kernel_rfl) ?_
    have hb3 := B3.get hlt2 hb2'
    have hc0 := cell_all (show w3.cell? ⟨w.heap.size, 0, none⟩ = some (.int .i64 k) from cell_of hb3 0)
    have hc1 := cell_all (show w3.cell? ⟨w.heap.size, 1, none⟩ = some (.int .i64 v) from cell_of hb3 1)
    have hc2 := cell_all (show w3.cell? ⟨w.heap.size, 2, none⟩ = some (.int .u64 g) from cell_of hb3 2)
    have hx := Ext.refl w3
    refine batchG hfn (fuel := 2) [2, 4] (by kernel_rfl) rfl ?_
    repeat (go_big_quiet_step ((fail)))
    refine wpQuiet_nil ?_
    refine wpAnyG_one (j := 6) (by kernel_rfl) rfl ?_
    gi_wp2_with fail
    refine ⟨wide_room _, (callsIn_wide.2 (HH.out w3 (B02'.trans B3))).mono ?_⟩
    rintro e w4 ⟨v', rfl, h4, hR⟩
    gi_wp2_with fail
    refine onePost_any (by kernel_rfl) ?_
    refine batchG hfn (fuel := 0) [7] (by kernel_rfl) rfl ?_
    repeat (go_big_quiet_step ((fail)))
    refine wpQuiet_nil ?_
    refine wpAnyG_done (by kernel_rfl) ?_
    refine calmQ_normal ?_
    go_wp2
    go_ret
    exact ⟨_, rfl, (B02'.trans B3).trans (Bt.ext h4), (H2'.out.made h3).ext h4, hR⟩
  · have hc0 := show w2'.cell? ⟨w.heap.size, 0, none⟩ = some (.int .i64 k) from cell_of hb2' 0
    have hc1 := show w2'.cell? ⟨w.heap.size, 1, none⟩ = some (.int .i64 v) from cell_of hb2' 1
    have hc2 := show w2'.cell? ⟨w.heap.size, 2, none⟩ = some (.int .u64 g) from cell_of hb2' 2
    gi_wp2_with fail
    refine onePost_ext (Ext.refl _) ?_
    refine wpAnyG_one (j := 1) (by kernel_rfl) rfl ?_
    gi_wp2_with fail
    refine ⟨wide_room _, (callsIn_wide.2 (face_any P c _ w2' H2'.out)).mono ?_⟩
    rw [facesV_eq]
    rintro e w3 ⟨rfl, B3, h3⟩
    gi_wp2_with fail
    refine onePost_any (by kernel_rfl) ?_
    clear hc0 hc1 hc2 hx
    have hx := Ext.refl w3
    refine batchG hfn (fuel := 2) [2] (by kernel_rfl) rfl ?_
    repeat (go_big_quiet_step ((fail)))
    refine wpQuiet_nil ?_
    refine wpAnyG_one (j := 6) (by kernel_rfl) rfl ?_
    gi_wp2_with fail
    refine ⟨wide_room _, (callsIn_wide.2 (HH.out w3 (B02'.trans B3))).mono ?_⟩
    rintro e w4 ⟨v', rfl, h4, hR⟩
    gi_wp2_with fail
    refine onePost_any (by kernel_rfl) ?_
    refine batchG hfn (fuel := 0) [7] (by kernel_rfl) rfl ?_
    repeat (go_big_quiet_step ((fail)))
    refine wpQuiet_nil ?_
    refine wpAnyG_done (by kernel_rfl) ?_
    refine calmQ_normal ?_
    go_wp2
    go_ret
    exact ⟨_, rfl, (B02'.trans B3).trans (Bt.ext h4), (H2'.out.made h3).ext h4, hR⟩
set_option maxHeartbeats 1000000 in
/-- plain.of is the join of keys and values. -/
theorem plainJoin_by (c : Nat) (h1 : 1 ≤ c) (h4 : c ≤ 3) (w : World) (p q : Value) (k v g : Int) (R : Value → World → Prop)
    (HK : ∀ w1, Ext w w1 → Calls Tryz.prog (joF0 c) #[p, .int .i64 k, .int .i64 v, q] w1 (fun e w2 => ∃ v, e = .returned v ∧ Ext w1 w2 ∧ R v w2)) :
    Calls Tryz.prog (joF c) (joP c ++ #[p, .agg #[.int .i64 k, .int .i64 v, .int .u64 g], q]) w (fun e w2 => ∃ v, e = .returned v ∧ Ext w w2 ∧ R v w2) := by
  have hcc : ∀ (a : Array Value) (w : World), (callFunc (joF0 c) a).run Tryz.prog w = .ok (.enter (joF0 c) a) w := by
    intro a w
    rcases (show c = 1 ∨ c = 2 ∨ c = 3 by omega) with rfl | rfl | rfl <;> kernel_rfl
  have HH := Lib.hid HK
  clear HK
  have e1 : joF c = 186 := by unfold joF; rw [if_neg (by omega)]
  have e2 : joP c ++ #[p, .agg #[.int .i64 k, .int .i64 v, .int .u64 g], q] = #[.agg #[.string ⟨nmB c⟩, .func (.func (joF0 c)) #[] #[], fnV (ckF c), fnV (ptF c), fnV (rkF c), fnV (msF c), fnV (whF c)], p, .agg #[.int .i64 k, .int .i64 v, .int .u64 g], q] := by
    unfold joP; rw [if_neg (by omega)]; rfl
  rw [e1, e2]
  clear e1 e2
  unfold fnV
  go_enter Tryz.func186, Tryz.ntmps186
  go_wp2_with fail
  refine (HH.out _ (((Ext.refl w).alloc _).alloc _)).mono ?_
  rintro e w2 ⟨v', rfl, h2, hR⟩
  go_wp2
  go_ret
  exact ⟨_, rfl, (((Ext.refl w).alloc _).alloc _).trans h2, hR⟩
end Go.Proofs.YtjiiokhjajfhjaaGreat
namespace Go.Proofs.YtjiiokhjajfhjaaGreat
open Go Go.RowKit

theorem Sch.bt {P c : Nat} {n : Int} {L : List Nat} {w w' : World} (h : Sch P c n w) (e : Bt L w w') (hP : P ∉ L) : Sch P c n w' :=
  ⟨h.1, h.2.1, h.2.2.imp (fun k => e.get hP k) fun k => e.get hP k⟩
theorem put3_bt {P c : Nat} {n : Int} {w w' : World} {N : Nat} {x y z : Value} {t : TypeId} (hB : Bt [P] w w') (hN : w.heap.size ≤ N) (hP : P < w.heap.size) (h : w'.heap[N]? = some (.cells #[x, y, z] t (0, 0))) (hS : Sch P c n w') (a b d : Value) :
    (put3 w' N a b d).heap[N]? = some (.cells #[a, b, d] t (0, 0)) ∧ Bt [P] w (put3 w' N a b d) ∧ Sch P c n (put3 w' N a b d) := by
  have k : Bt [N] w' (put3 w' N a b d) := by
    unfold put3
    exact (((Bt.refl _ _).set _ _ (by simp)).set _ _ (by simp)).set _ _ (by simp)
  refine ⟨?_, hB.cut k hN, hS.bt k (by simp; omega)⟩
  unfold put3
  simp [World.setCell, Array.getElem?_modify, h]
def itemV (c : Nat) (t : Tr) : Value := itV t.key t.val (if c = 4 then t.tag else 0)
end Go.Proofs.YtjiiokhjajfhjaaGreat
