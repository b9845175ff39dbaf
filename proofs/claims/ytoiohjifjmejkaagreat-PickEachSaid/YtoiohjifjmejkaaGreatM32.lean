/- scheme: sync.Once, and face. scheme: its methods, whatever the functions that it has do. -/
import Derived.Test.YtoiohjifjmejkaaGreatM31
namespace Go.Proofs.YtoiohjifjmejkaaGreat
open Go Go.RowKit

theorem boolLoad_any (a : Addr) (x : Nat) (w : World) (hc : w.cell? a = some (.int .u32 (x : Nat))) :
    Calls Tryz.prog 127 #[.pointer (some a)] w (fun e w' => e = .returned (.bool (decide (x ≠ 0))) ∧ w' = w) := by
  have hl := run_call_load (P := Tryz.prog) Tryz.func156 (by kernel_rfl) (by kernel_rfl) (by kernel_rfl) .u32 (by kernel_rfl) (w := w) (a := a) (x := (x : Int)) hc
  by_cases h : x = 0
  · subst h
    go_enter Tryz.func127, Tryz.ntmps127
    go_wp2
    go_ret
    exact ⟨rfl, rfl⟩
  · have h' : (x : Int) ≠ 0 := by omega
    have e : decide (x ≠ 0) = ((x : Int) != 0) := by simp [h]
    rw [e]
    clear e h
    go_enter Tryz.func127, Tryz.ntmps127
    go_wp2
    go_ret
    exact ⟨rfl, rfl⟩
/-- eight cells of one block, put. -/
def put8 (w : World) (N : Nat) (a0 a1 a2 a3 a4 a5 a6 a7 : Value) : World :=
  (((((((w.setCell ⟨N, 0, none⟩ a0).setCell ⟨N, 1, none⟩ a1).setCell ⟨N, 2, none⟩ a2).setCell ⟨N, 3, none⟩ a3).setCell ⟨N, 4, none⟩ a4).setCell ⟨N, 5, none⟩ a5).setCell ⟨N, 6, none⟩ a6).setCell ⟨N, 7, none⟩ a7
theorem put8_spec {w : World} {N : Nat} {z0 z1 z2 z3 z4 z5 z6 z7 : Value} {t : TypeId} (h : w.heap[N]? = some (.cells #[z0, z1, z2, z3, z4, z5, z6, z7] t (0, 0))) (a0 a1 a2 a3 a4 a5 a6 a7 : Value) :
    (put8 w N a0 a1 a2 a3 a4 a5 a6 a7).heap[N]? = some (.cells #[a0, a1, a2, a3, a4, a5, a6, a7] t (0, 0)) ∧ Bt [N] w (put8 w N a0 a1 a2 a3 a4 a5 a6 a7) := by
  refine ⟨?_, ?_⟩
  · unfold put8
    simp [World.setCell, Array.getElem?_modify, h]
  · unfold put8
    repeat (refine Bt.set ?_ _ _ (by simp))
    exact Bt.refl _ _
/-- what has turned beyond the heap's end has not turned anything old. -/
theorem Bt.cut {L : List Nat} {N : Nat} {a b c : World} (h : Bt L a b) (k : Bt [N] b c) (hN : a.heap.size ≤ N) : Bt L a c :=
  ⟨k.os.trans h.os, k.tape.trans h.tape, k.output.trans h.output, Nat.le_trans h.size k.size, fun i hi hp => (k.block i (Nat.lt_of_lt_of_le hi h.size) (by simp; omega)).trans (h.block i hi hp)⟩
set_option maxRecDepth 100000 in
set_option maxHeartbeats 1600000 in
theorem doSlow_any (P pl c : Nat) (n : Int) (w : World) (hc1 : 1 ≤ c) (hc4 : c ≤ 4) (hpl : pl ≠ P) (hp : w.cell? ⟨pl, 0, none⟩ = some (.pointer (some ⟨P, 0, none⟩))) (h : SchAt P w c 0 0 faces0 n) :
    Calls Tryz.prog 128 #[.pointer (some ⟨P, 1, none⟩), .func (.func 90) #[] #[.pointer (some ⟨pl, 0, none⟩)]] w
      (fun e w' => e = .returned (.tuple #[]) ∧ Bt [P] w w' ∧ SchAt P w' c 1 0 (facesL c) n) := by
  have hnot : ∀ (x : Bool) (w : World), (Op.unary .not (.bool x)).run Tryz.prog w = .ok (.bool (!x)) w := fun _ _ => rfl
  have hl2 : w.cell? ⟨P, 2, none⟩ = some (.int .i32 0) := cell_of h 2
  have hf2 := frozen_of h 2
  have HS := Lib.hid h
  have HP := Lib.hid hp
  clear h hp
  go_enter_defers Tryz.func128, Tryz.ntmps128
  go_wp2_with fail
  refine (lock_free ⟨P, 2, none⟩ _ hl2 hf2).mono ?_
  rintro e w1 ⟨rfl, ew⟩
  have B1 : Bt [P] w w1 := by rw [ew]; exact (Bt.refl _ _).set _ _ (by simp)
  have h1 : SchAt P w1 c 0 1 faces0 n := by rw [ew]; exact sch_set HS.out 2 _
  have hp1 : w1.cell? ⟨pl, 0, none⟩ = some (.pointer (some ⟨P, 0, none⟩)) := by
    rw [ew]
    exact (World.cell?_setCell_other _ _ _ _ (fun k => hpl (congrArg Addr.block k).symm)).trans HP.out
  clear ew hl2 hf2
  go_wp2_with fail
  refine (boolLoad_any ⟨P, 1, none⟩ 0 w1 (cell_of h1 1)).mono ?_
  rintro e w1' ⟨rfl, rfl⟩
  have H1 := Lib.hid h1
  have HP1 := Lib.hid hp1
  clear h1 hp1
  go_wp2_with fail
  refine (faceOnce_any P pl c 1 n _ hc1 hc4 HP1.out H1.out).mono ?_
  rintro e w2 ⟨rfl, B2, h2⟩
  have H2 := Lib.hid h2
  clear h2
  go_wp2
  refine leaves_cons (f := 159) (args := #[.pointer (some ⟨P, 1, none⟩), .bool true]) (by simp) (by simp [go_sem]) ?_
  refine (store_deferred ⟨P, 1, none⟩ (.int .u32 0) .returning _ (cell_of H2.out 1) (frozen_of H2.out 1)).mono ?_
  rintro e u' w'' ⟨rfl, rfl, rfl⟩
  have h3 : SchAt P (w2.drew.setCell ⟨P, 1, none⟩ (.int .u32 1)) c 1 1 (facesL c) n := sch_set (w := w2.drew) H2.out 1 _
  refine leaves_cons (f := 158) (args := #[.pointer (some ⟨P, 2, none⟩)]) (by simp [settle]) (by simp [go_sem]) ?_
  refine (unlock_deferred ⟨P, 2, none⟩ _ _ (cell_of h3 2) (frozen_of h3 2)).mono ?_
  rintro e u' w'' ⟨rfl, rfl, rfl⟩
  have h4 : SchAt P ((w2.drew.setCell ⟨P, 1, none⟩ (.int .u32 1)).setCell ⟨P, 2, none⟩ (.int .i32 0)) c 1 0 (facesL c) n := sch_set h3 2 _
  have B4 := (((B1.trans B2).drew.set ⟨P, 1, none⟩ (.int .u32 1) (by simp)).set ⟨P, 2, none⟩ (.int .i32 0) (by simp))
  simp [Leaves, settle, results, Tryz.results128]
  exact ⟨B4, h4⟩
/-- a scheme: none of its parts is made yet, or all are. -/
def Sch (P c : Nat) (n : Int) (w : World) : Prop := 1 ≤ c ∧ c ≤ 4 ∧ (SchAt P w c 0 0 faces0 n ∨ SchAt P w c 1 0 (facesL c) n)
theorem Sch.ext {P c : Nat} {n : Int} {w w' : World} (h : Sch P c n w) (e : Ext w w') : Sch P c n w' := ⟨h.1, h.2.1, h.2.2.imp (fun k => e.get k) fun k => e.get k⟩
theorem Sch.noNode {P c : Nat} {n : Int} {w : World} (h : Sch P c n w) : NoNode w P := by
  rcases h.2.2 with h | h
  · exact ⟨_, _, h, by decide⟩
  · exact ⟨_, _, h, by decide⟩
theorem Sch.lt {P c : Nat} {n : Int} {w : World} (h : Sch P c n w) : P < w.heap.size := by
  rcases h.2.2 with h | h
  · exact lt_of h
  · exact lt_of h
theorem Sch.inh {P c : Nat} {n : Int} {w w' : World} {t : Tr} (h : Sch P c n w) (e : Bt [P] w w') (k : InH w t) : InH w' t := k.bt e fun Q hQ => by
  rw [List.mem_singleton.1 hQ]; exact h.noNode
theorem do_any (P pl c : Nat) (n : Int) (w : World) (hpl : pl ≠ P) (hp : w.cell? ⟨pl, 0, none⟩ = some (.pointer (some ⟨P, 0, none⟩))) (h : Sch P c n w) :
    Calls Tryz.prog 89 #[.pointer (some ⟨P, 1, none⟩), .func (.func 90) #[] #[.pointer (some ⟨pl, 0, none⟩)]] w
      (fun e w' => e = .returned (.tuple #[]) ∧ Bt [P] w w' ∧ SchAt P w' c 1 0 (facesL c) n) := by
  obtain ⟨hc1, hc4, h | h⟩ := h
  · have HS := Lib.hid h
    have HP := Lib.hid hp
    clear h hp
    go_enter Tryz.func89, Tryz.ntmps89
    go_wp2_with fail
    refine (boolLoad_any ⟨P, 1, none⟩ 0 w (cell_of HS.out 1)).mono ?_
    rintro e w1' ⟨rfl, rfl⟩
    go_wp2_with fail
    refine (doSlow_any P pl c n _ hc1 hc4 hpl HP.out HS.out).mono ?_
    rintro e w2 ⟨rfl, B2, h2⟩
    have H2 := Lib.hid h2
    clear h2
    go_wp2
    go_end0
    exact ⟨rfl, B2, H2.out⟩
  · have HS := Lib.hid h
    have HP := Lib.hid hp
    clear h hp
    go_enter Tryz.func89, Tryz.ntmps89
    go_wp2_with fail
    refine (boolLoad_any ⟨P, 1, none⟩ 1 w (cell_of HS.out 1)).mono ?_
    rintro e w1' ⟨rfl, rfl⟩
    go_wp2
    go_end0
    exact ⟨rfl, Bt.refl _ _, HS.out⟩
set_option maxHeartbeats 1000000 in
theorem face_any (P c : Nat) (n : Int) (w : World) (h : Sch P c n w) :
    Calls Tryz.prog 54 #[.pointer (some ⟨P, 0, none⟩)] w
      (fun e w' => e = .returned (facesV c) ∧ Bt [P] w w' ∧ SchAt P w' c 1 0 (facesL c) n) := by
  have HS := Lib.hid h
  have hlt := h.lt
  clear h
  have hmf : ∀ (fn : Fn) (first cap : Array Value) (w : World), (Instr.makeFunc fn first cap).run Tryz.prog w = .ok (.func fn first cap) w := fun _ _ _ _ => rfl
  go_enter Tryz.func54, Tryz.ntmps54
  go_wp2_with fail
  have hbox := alloc_at w (.cells #[.pointer (some ⟨P, 0, none⟩)] 25) _ rfl
  have hE := (Ext.refl w).alloc (.cells #[.pointer (some ⟨P, 0, none⟩)] 25)
  have hs : (w.alloc (.cells #[.pointer (some ⟨P, 0, none⟩)] 25)).heap.size = w.heap.size + 1 := by simp
  generalize w.alloc (.cells #[.pointer (some ⟨P, 0, none⟩)] 25) = w1 at *
  have hbox2 := alloc_at w1 (.cells #[.string ⟨#[]⟩, .nilFunc, .nilFunc, .nilFunc, .nilFunc, .nilFunc, .nilFunc, .bool false] 108) _ rfl
  have hE2 := (Ext.refl w1).alloc (.cells #[.string ⟨#[]⟩, .nilFunc, .nilFunc, .nilFunc, .nilFunc, .nilFunc, .nilFunc, .bool false] 108)
  generalize w1.alloc (.cells #[.string ⟨#[]⟩, .nilFunc, .nilFunc, .nilFunc, .nilFunc, .nilFunc, .nilFunc, .bool false] 108) = w2 at *
  rw [hs] at hbox2
  have hb := hE2.get hbox
  refine (do_any P w.heap.size c n w2 (by omega) (cell_of hb 0) ((HS.out.ext hE).ext hE2)).mono ?_
  rintro e w3 ⟨rfl, B3, h3⟩
  have hq := cell_of (B3.get (by simp; omega) hb) 0
  have hb3 := B3.get (show w.heap.size + 1 ∉ [P] by simp; omega) hbox2
  have H3 := Lib.hid h3
  have B03 : Bt [P] w w3 := ((Bt.ext hE).trans (Bt.ext hE2)).trans B3
  have hz0 := cell_of hb3 0
  have hz1 := cell_of hb3 1
  have hz2 := cell_of hb3 2
  have hz3 := cell_of hb3 3
  have hz4 := cell_of hb3 4
  have hz5 := cell_of hb3 5
  have hz6 := cell_of hb3 6
  have hz7 := cell_of hb3 7
  have hzf := frozen_of hb3
  simp at hq hz0 hz1 hz2 hz3 hz4 hz5 hz6 hz7
  have hp4 := show w3.cell? ⟨P, 4, none⟩ = some (.string ⟨nmB c⟩) from cell_of h3 4
  have hp5 := show w3.cell? ⟨P, 5, none⟩ = some (.func (.func (joF c)) (joP c) #[]) from cell_of h3 5
  have hp6 := show w3.cell? ⟨P, 6, none⟩ = some (.func (.func (whF c)) #[] #[]) from cell_of h3 6
  have hp7 := show w3.cell? ⟨P, 7, none⟩ = some (.func (.func (ckF c)) #[] #[]) from cell_of h3 7
  have hp8 := show w3.cell? ⟨P, 8, none⟩ = some (.func (.func (ptF c)) #[] #[]) from cell_of h3 8
  have hp9 := show w3.cell? ⟨P, 9, none⟩ = some (.func (.func (rkF c)) (rkP c) #[]) from cell_of h3 9
  have hp10 := show w3.cell? ⟨P, 10, none⟩ = some (.func (.func (msF c)) #[] #[]) from cell_of h3 10
  have hp11 := show w3.cell? ⟨P, 11, none⟩ = some (.bool (decide (c = 4))) from cell_of h3 11
  have HF := Lib.hid (show facesV c = .agg #[.string ⟨nmB c⟩, .func (.func (joF c)) (joP c) #[], .func (.func (whF c)) #[] #[], .func (.func (ckF c)) #[] #[], .func (.func (ptF c)) #[] #[], .func (.func (rkF c)) (rkP c) #[], .func (.func (msF c)) #[] #[], .bool (decide (c = 4))] from rfl)
  have HB3 := Lib.hid hb3
  clear hbox hbox2 hE hE2 hb h3 B3 hb3
  obtain ⟨FV, hFV⟩ : ∃ FV, FV = facesV c := ⟨_, rfl⟩
  rw [← hFV] at HF
  have HV := Lib.hid hFV
  clear hFV
  generalize joF c = F0 at *
  generalize joP c = F0' at *
  generalize whF c = F1 at *
  generalize ckF c = F2 at *
  generalize ptF c = F3 at *
  generalize rkF c = F4 at *
  generalize rkP c = F4' at *
  generalize msF c = F5 at *
  generalize nmB c = NM at *
  generalize decide (c = 4) = t4 at *
  go_wp2
  change bodyPost _ _ _ _ _ (put8 w3 (w.heap.size + 1) (.string ⟨NM⟩) (.func (.func F0) F0' #[]) (.func (.func F1) #[] #[]) (.func (.func F2) #[] #[]) (.func (.func F3) #[] #[]) (.func (.func F4) F4' #[]) (.func (.func F5) #[] #[]) (.bool t4))
  obtain ⟨hW, hB⟩ := put8_spec HB3.out (.string ⟨NM⟩) (.func (.func F0) F0' #[]) (.func (.func F1) #[] #[]) (.func (.func F2) #[] #[]) (.func (.func F3) #[] #[]) (.func (.func F4) F4' #[]) (.func (.func F5) #[] #[]) (.bool t4)
  generalize put8 w3 (w.heap.size + 1) (.string ⟨NM⟩) (.func (.func F0) F0' #[]) (.func (.func F1) #[] #[]) (.func (.func F2) #[] #[]) (.func (.func F3) #[] #[]) (.func (.func F4) F4' #[]) (.func (.func F5) #[] #[]) (.bool t4) = W at *
  have hy0 := cell_of hW 0
  have hy1 := cell_of hW 1
  have hy2 := cell_of hW 2
  have hy3 := cell_of hW 3
  have hy4 := cell_of hW 4
  have hy5 := cell_of hW 5
  have hy6 := cell_of hW 6
  have hy7 := cell_of hW 7
  simp at hy0 hy1 hy2 hy3 hy4 hy5 hy6 hy7
  refine bodyPost_ret (v := FV) ?_ rfl ⟨?_, B03.cut hB (by omega), hB.get (by simp; omega) H3.out⟩
  · rw [HF.out]
    clear hp4 hp5 hp6 hp7 hp8 hp9 hp10 hp11 hz0 hz1 hz2 hz3 hz4 hz5 hz6 hz7 hzf hq
    simp [results, Tryz.results54, go_sem, hy0, hy1, hy2, hy3, hy4, hy5, hy6, hy7]
  · rw [HV.out]
end Go.Proofs.YtoiohjifjmejkaaGreat
namespace Go.Proofs.YtoiohjifjmejkaaGreat
open Go Go.RowKit

theorem facesV_eq (c : Nat) : facesV c = .agg #[.string ⟨nmB c⟩, .func (.func (joF c)) (joP c) #[], .func (.func (whF c)) #[] #[], .func (.func (ckF c)) #[] #[], .func (.func (ptF c)) #[] #[], .func (.func (rkF c)) (rkP c) #[], .func (.func (msF c)) #[] #[], .bool (decide (c = 4))] := rfl
theorem face_fld (a b c d e f g h : Value) (w : World) :
    (Instr.field 108 (.agg #[a, b, c, d, e, f, g, h]) 0).run Tryz.prog w = .ok a w ∧ (Instr.field 108 (.agg #[a, b, c, d, e, f, g, h]) 1).run Tryz.prog w = .ok b w ∧
    (Instr.field 108 (.agg #[a, b, c, d, e, f, g, h]) 2).run Tryz.prog w = .ok c w ∧ (Instr.field 108 (.agg #[a, b, c, d, e, f, g, h]) 3).run Tryz.prog w = .ok d w ∧
    (Instr.field 108 (.agg #[a, b, c, d, e, f, g, h]) 4).run Tryz.prog w = .ok e w ∧ (Instr.field 108 (.agg #[a, b, c, d, e, f, g, h]) 5).run Tryz.prog w = .ok f w ∧
    (Instr.field 108 (.agg #[a, b, c, d, e, f, g, h]) 6).run Tryz.prog w = .ok g w ∧ (Instr.field 108 (.agg #[a, b, c, d, e, f, g, h]) 7).run Tryz.prog w = .ok h w := by
  refine ⟨?_, ?_, ?_, ?_, ?_, ?_, ?_, ?_⟩ <;> kernel_rfl
theorem four_codes {c : Nat} (h1 : 1 ≤ c) (h4 : c ≤ 4) : c = 1 ∨ c = 2 ∨ c = 3 ∨ c = 4 := by omega
theorem ck_call {c : Nat} (h1 : 1 ≤ c) (h4 : c ≤ 4) (a : Array Value) (w : World) : (callFunc (ckF c) a).run Tryz.prog w = .ok (.enter (ckF c) a) w := by
  rcases four_codes h1 h4 with rfl | rfl | rfl | rfl <;> kernel_rfl
theorem pt_call {c : Nat} (h1 : 1 ≤ c) (h4 : c ≤ 4) (a : Array Value) (w : World) : (callFunc (ptF c) a).run Tryz.prog w = .ok (.enter (ptF c) a) w := by
  rcases four_codes h1 h4 with rfl | rfl | rfl | rfl <;> kernel_rfl
theorem rk_call {c : Nat} (h1 : 1 ≤ c) (h4 : c ≤ 4) (a : Array Value) (w : World) : (callFunc (rkF c) a).run Tryz.prog w = .ok (.enter (rkF c) a) w := by
  rcases four_codes h1 h4 with rfl | rfl | rfl | rfl <;> kernel_rfl
theorem ms_call {c : Nat} (h1 : 1 ≤ c) (h4 : c ≤ 4) (a : Array Value) (w : World) : (callFunc (msF c) a).run Tryz.prog w = .ok (.enter (msF c) a) w := by
  rcases four_codes h1 h4 with rfl | rfl | rfl | rfl <;> kernel_rfl
theorem wh_call {c : Nat} (h1 : 1 ≤ c) (h4 : c ≤ 4) (a : Array Value) (w : World) : (callFunc (whF c) a).run Tryz.prog w = .ok (.enter (whF c) a) w := by
  rcases four_codes h1 h4 with rfl | rfl | rfl | rfl <;> kernel_rfl
theorem jo_call {c : Nat} (h1 : 1 ≤ c) (h4 : c ≤ 4) (a : Array Value) (w : World) : (callFunc (joF c) a).run Tryz.prog w = .ok (.enter (joF c) a) w := by
  rcases four_codes h1 h4 with rfl | rfl | rfl | rfl <;> kernel_rfl

/-- a scheme does something; behind it the scheme is there as it was, with n joins. -/
def Does (P c : Nat) (n : Int) (R : Value → World → Prop) (w : World) (e : Ending) (w' : World) : Prop := ∃ v, e = .returned v ∧ Bt [P] w w' ∧ Sch P c n w' ∧ R v w'
theorem Sch.made {P c : Nat} {n : Int} {w : World} (h : Sch P c n w) {w' : World} (k : SchAt P w' c 1 0 (facesL c) n) : Sch P c n w' := ⟨h.1, h.2.1, .inr k⟩
set_option maxHeartbeats 400000 in
theorem schWhole_by (P c : Nat) (n : Int) (w : World) (p : Value) (R : Value → World → Prop) (h : Sch P c n w) (HK : ∀ w1, Bt [P] w w1 → Calls Tryz.prog (whF c) #[p] w1 (fun e w2 => ∃ v, e = .returned v ∧ Ext w1 w2 ∧ R v w2)) :
    Calls Tryz.prog 63 #[.pointer (some ⟨P, 0, none⟩), p] w (Does P c n R w) := by
  have HS := Lib.hid h
  have HH := Lib.hid HK
  have hcc := wh_call h.1 h.2.1
  clear h HK
  have hfl := face_fld
  go_enter Tryz.func63, Tryz.ntmps63
  go_wp2_with fail
  refine (face_any P c n w HS.out).mono ?_
  rw [facesV_eq]
  rintro e w1 ⟨rfl, B1, h1⟩
  go_wp2_with fail
  refine (HH.out w1 B1).mono ?_
  rintro e w2 ⟨v, rfl, h2, hv⟩
  go_wp2
  go_ret
  exact ⟨_, rfl, B1.trans (Bt.ext h2), (HS.out.made h1).ext h2, hv⟩
end Go.Proofs.YtoiohjifjmejkaaGreat
