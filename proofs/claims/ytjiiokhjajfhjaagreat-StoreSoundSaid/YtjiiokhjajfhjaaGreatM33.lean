/- scheme: what a scheme does, how it lies in memory, and sync.Once: face. scheme: sync.Once, and face. -/
import Derived.Test.YtjiiokhjajfhjaaGreatM5
import Derived.Test.YtjiiokhjajfhjaaGreatM19
namespace Go.Proofs.YtjiiokhjajfhjaaGreat
open Go Go.RowKit

def fnV (f : Nat) : Value := .func (.func f) #[] #[]
def nmB : Nat → Array UInt8
  | 1 => #[97, 118, 108]
  | 2 => #[114, 101, 100, 98, 108, 97, 99, 107]
  | 3 => #[119, 101, 105, 103, 104, 116]
  | _ => #[116, 114, 101, 97, 112]
/-- the functions of a scheme. -/
def joF0 : Nat → Nat
  | 1 => 88
  | 2 => 94
  | _ => 100
def ckF : Nat → Nat
  | 1 => 89
  | 2 => 95
  | 3 => 101
  | _ => 189
def ptF : Nat → Nat
  | 1 => 90
  | 2 => 96
  | 3 => 102
  | _ => 190
def rkF : Nat → Nat
  | 1 => 91
  | 2 => 97
  | 3 => 103
  | _ => 191
def msF : Nat → Nat
  | 1 => 92
  | 2 => 98
  | 3 => 104
  | _ => 192
def whF : Nat → Nat
  | 2 => 99
  | _ => 93
def plainOf (c : Nat) : Value := .agg #[.string ⟨nmB c⟩, fnV (joF0 c), fnV (ckF c), fnV (ptF c), fnV (rkF c), fnV (msF c), fnV (whF c)]
def joF (c : Nat) : Nat := if c = 4 then 188 else 186
def joP (c : Nat) : Array Value := if c = 4 then #[] else #[plainOf c]
def rkP (c : Nat) : Array Value := if c = 4 then #[.agg #[]] else #[]
def joV (c : Nat) : Value := .func (.func (joF c)) (joP c) #[]
def rkV (c : Nat) : Value := .func (.func (rkF c)) (rkP c) #[]
/-- what a scheme does. -/
def facesL (c : Nat) : List Value := [.string ⟨nmB c⟩, joV c, fnV (whF c), fnV (ckF c), fnV (ptF c), rkV c, fnV (msF c), .bool (decide (c = 4))]
def faces0 : List Value := [.string ⟨#[]⟩, .nilFunc, .nilFunc, .nilFunc, .nilFunc, .nilFunc, .nilFunc, .bool false]
def facesV (c : Nat) : Value := .agg (facesL c).toArray
def makerV (c : Nat) : Value := if c = 0 ∨ 4 < c then .nilIface else if c = 4 then .iface 163 (.agg #[]) else .iface 162 (plainOf c)

theorem maker_any (c : Nat) (hc : c < 256) (w : World) : Calls Tryz.prog 73 #[.int .u8 c] w (Ret (makerV c) w) := by
  have cases : c = 1 ∨ c = 2 ∨ c = 3 ∨ c = 4 ∨ (c ≠ 1 ∧ c ≠ 2 ∧ c ≠ 3 ∧ c ≠ 4) := by omega
  rcases cases with rfl | rfl | rfl | rfl | ⟨h1, h2, h3, h4⟩
  · go_enter Tryz.func73, Tryz.ntmps73
    go_wp2
    go_ret
    exact Ret.mk (Ext.refl _)
  · go_enter Tryz.func73, Tryz.ntmps73
    go_wp2
    go_ret
    exact Ret.mk (Ext.refl _)
  · go_enter Tryz.func73, Tryz.ntmps73
    go_wp2
    go_ret
    exact Ret.mk (Ext.refl _)
  · go_enter Tryz.func73, Tryz.ntmps73
    go_wp2
    go_ret
    exact Ret.mk (Ext.refl _)
  · have e : makerV c = .nilIface := by
      unfold makerV
      rw [if_pos (by omega)]
    rw [e]
    clear e
    have h1' : (c : Int) ≠ 1 := by omega
    have h2' : (c : Int) ≠ 2 := by omega
    have h3' : (c : Int) ≠ 3 := by omega
    have h4' : (c : Int) ≠ 4 := by omega
    clear h1 h2 h3 h4
    go_enter Tryz.func73, Tryz.ntmps73
    go_wp2
    go_ret
    exact Ret.mk (Ext.refl _)

set_option maxHeartbeats 1000000 in
theorem plainFaces_any (s : Array UInt8) (j a b c d e : Nat) (w : World) : Calls Tryz.prog 185 #[.agg #[.string ⟨s⟩, fnV j, fnV a, fnV b, fnV c, fnV d, fnV e]] w
    (Ret (.agg #[.string ⟨s⟩, .func (.func 186) #[.agg #[.string ⟨s⟩, fnV j, fnV a, fnV b, fnV c, fnV d, fnV e]] #[], fnV e, fnV a, fnV b, fnV c, fnV d, .bool false]) w) := by
  unfold fnV
  go_enter Tryz.func185, Tryz.ntmps185
  go_wp2
  refine bodyPost_ret (v := .agg #[.string ⟨s⟩, .func (.func 186) #[.agg #[.string ⟨s⟩, fnV j, fnV a, fnV b, fnV c, fnV d, fnV e]] #[], fnV e, fnV a, fnV b, fnV c, fnV d, .bool false]) ?_ rfl ?_
  · simp [results, Tryz.results185, go_sem, fnV]
  · refine Ret.mk ?_
    exact ((Ext.refl w).alloc _).alloc _
theorem taggedFaces_any (w : World) : Calls Tryz.prog 187 #[.agg #[]] w (Ret (facesV 4) w) := by
  have hpz := part_zero w 163 (by kernel_rfl)
  go_enter Tryz.func187, Tryz.ntmps187
  go_wp2
  refine bodyPost_ret (v := facesV 4) ?_ rfl ?_
  · simp [results, Tryz.results187, go_sem, facesV, facesL, nmB, joV, joF, joP, rkV, rkP, rkF, ckF, whF, ptF, msF, fnV]
  · refine Ret.mk ?_
    exact ((Ext.refl w).alloc _).alloc _
theorem makerF_plain (f : Nat) (w : World) (v : Value) : (method (f + 1) 162 v "joinery/scheme.faces").run Tryz.prog w = .ok (185, v) w := by kernel_rfl
theorem makerF_tagged (f : Nat) (w : World) (v : Value) : (method (f + 1) 163 v "joinery/scheme.faces").run Tryz.prog w = .ok (187, v) w := by kernel_rfl
/-- a scheme in memory. -/
def schL (c d st : Nat) (F : List Value) (n : Int) : List Value := [.int .u8 c, .int .u32 d, .int .i32 st, .int .u32 0] ++ F ++ [.int .u64 n]
def SchAt (P : Nat) (w : World) (c d st : Nat) (F : List Value) (n : Int) : Prop := w.heap[P]? = some (.cells (schL c d st F n).toArray 116 (0, 0))
theorem maker_face (c : Nat) (hc1 : 1 ≤ c) (hc4 : c ≤ 4) : ∃ T mF v, makerV c = .iface T v ∧ (∀ (f : Nat) (w : World), (method (f + 1) T v "joinery/scheme.faces").run Tryz.prog w = .ok (mF, v) w) ∧ (∀ (a : Array Value) (w : World), (callFunc mF a).run Tryz.prog w = .ok (.enter mF a) w) ∧
    ∀ w : World, Calls Tryz.prog mF #[v] w (Ret (.agg #[.string ⟨nmB c⟩, joV c, fnV (whF c), fnV (ckF c), fnV (ptF c), rkV c, fnV (msF c), .bool (decide (c = 4))]) w) := by
  have cases : c = 4 ∨ c = 1 ∨ c = 2 ∨ c = 3 := by omega
  rcases cases with rfl | rfl | rfl | rfl
  · exact ⟨_, _, _, rfl, fun f w => makerF_tagged f w _, fun a w => by kernel_rfl, fun w => taggedFaces_any w⟩
  · exact ⟨_, _, _, rfl, fun f w => makerF_plain f w _, fun a w => by kernel_rfl, fun w => plainFaces_any _ _ _ _ _ _ _ w⟩
  · exact ⟨_, _, _, rfl, fun f w => makerF_plain f w _, fun a w => by kernel_rfl, fun w => plainFaces_any _ _ _ _ _ _ _ w⟩
  · exact ⟨_, _, _, rfl, fun f w => makerF_plain f w _, fun a w => by kernel_rfl, fun w => plainFaces_any _ _ _ _ _ _ _ w⟩
set_option maxHeartbeats 1000000 in
theorem faceOnce_any (P pl c st : Nat) (n : Int) (w : World) (hc1 : 1 ≤ c) (hc4 : c ≤ 4) (hp : w.cell? ⟨pl, 0, none⟩ = some (.pointer (some ⟨P, 0, none⟩))) (h : SchAt P w c 0 st faces0 n) :
    Calls Tryz.prog 72 #[.pointer (some ⟨pl, 0, none⟩)] w (fun e w' => e = .returned (.tuple #[]) ∧ Bt [P] w w' ∧ SchAt P w' c 0 st (facesL c) n) := by
  have hfn : ∀ f, Fence.wide.fn f := fun _ => trivial
  obtain ⟨T, mF, v, hm, hm1, hm2, hm3⟩ := maker_face c hc1 hc4
  have hmk := maker_any c (by omega)
  rw [hm] at hmk
  have HMK := Lib.hid hmk
  have HM3 := Lib.hid hm3
  have HS := Lib.hid h
  have hc0 := cell_all (show w.cell? ⟨P, 0, none⟩ = some (.int .u8 c) from cell_of h 0)
  have hp0 := cell_all hp
  have hx := Ext.drew w
  clear hm hmk hm3 h hp
  unfold joV fnV rkV at HM3
  have HL := Lib.hid (show facesL c = [.string ⟨nmB c⟩, .func (.func (joF c)) (joP c) #[], .func (.func (whF c)) #[] #[], .func (.func (ckF c)) #[] #[], .func (.func (ptF c)) #[] #[], .func (.func (rkF c)) (rkP c) #[], .func (.func (msF c)) #[] #[], .bool (decide (c = 4))] from rfl)
  generalize joF c = F0 at *
  generalize joP c = F0' at *
  generalize whF c = F1 at *
  generalize ckF c = F2 at *
  generalize ptF c = F3 at *
  generalize rkF c = F4 at *
  generalize rkP c = F4' at *
  generalize msF c = F5 at *
  generalize nmB c = NM at *
  generalize decide (c = 4) = t4 at *
  go_enter Tryz.func72, Tryz.ntmps72
  obtain ⟨m⟩ : Nonempty Nat := ⟨0⟩
  refine (wpIn_wide (n := m)).1 ?_
  gi_wp2_with fail
  refine wpIn_region_G (fun j => !(List.contains (α := Nat) [9] j)) (by kernel_rfl) ?_
  refine batchG hfn (fuel := 5) [0, 1, 2, 3, 4] (by kernel_rfl) rfl ?_
  repeat (go_big_quiet_step ((fail)))
  refine wpQuiet_nil ?_
  refine wpAnyG_one (j := 5) (by kernel_rfl) rfl ?_
  gi_wp2_with fail
  refine ⟨wide_room _, (callsIn_wide.2 (HMK.out _)).mono ?_⟩
  rintro e w1 ⟨rfl, h1⟩
  gi_wp2_with fail
  refine onePost_ext (h1) ?_
  refine wpAnyG_one (j := 6) (by kernel_rfl) rfl ?_
  gi_wp2_with fail
  refine ⟨wide_room _, (callsIn_wide.2 (HM3.out _)).mono ?_⟩
  rintro e w2 ⟨rfl, h2⟩
  gi_wp2_with fail
  refine onePost_ext (h2) ?_
  have hE := hx.trans (h1.trans h2)
  have hb2 : w2.heap[P]? = some (.cells #[.int .u8 c, .int .u32 (0 : Nat), .int .i32 st, .int .u32 0, .string ⟨#[]⟩, .nilFunc, .nilFunc, .nilFunc, .nilFunc, .nilFunc, .nilFunc, .bool false, .int .u64 n] 116 (0, 0)) := hE.get HS.out
  clear hx h1 h2 hc0 hp0
  refine batchG hfn (fuel := 1) [7, 8] (by kernel_rfl) rfl ?_
  repeat (go_big_quiet_step ((fail)))
  refine wpQuiet_nil ?_
  have hc4 := cell_of hb2 4
  have hc5 := cell_of hb2 5
  have hc6 := cell_of hb2 6
  have hc7 := cell_of hb2 7
  have hc8 := cell_of hb2 8
  have hc9 := cell_of hb2 9
  have hc10 := cell_of hb2 10
  have hc11 := cell_of hb2 11
  have hf := frozen_of hb2
  simp at hc4 hc5 hc6 hc7 hc8 hc9 hc10 hc11
  refine wpAnyG_one (j := 9) (by kernel_rfl) rfl ?_
  gi_wp2_with fail
  refine onePost_any (by kernel_rfl) ?_
  refine wpAnyG_done (by kernel_rfl) ?_
  refine calmQ_normal ?_
  gi_wp2
  go_end0
  refine ⟨rfl, ?_, ?_⟩
  · have hB : Bt [P] w w2 := Bt.ext hE
    repeat (refine Bt.set ?_ _ _ (by simp))
    exact hB
  · unfold SchAt schL
    rw [HL.out]
    simp [World.setCell, Array.getElem?_modify, hb2]
/-- what lies in one block, when a cell of it is turned. -/
theorem sch_set {P : Nat} {w : World} {cs : Array Value} {t : TypeId} (h : w.heap[P]? = some (.cells cs t (0, 0))) (i : Nat) (v : Value) : (w.setCell ⟨P, i, none⟩ v).heap[P]? = some (.cells (cs.setIfInBounds i v) t (0, 0)) := by
  simp [World.setCell, Array.getElem?_modify, h]
end Go.Proofs.YtjiiokhjajfhjaaGreat
namespace Go.Proofs.YtjiiokhjajfhjaaGreat
open Go Go.RowKit

theorem boolLoad_any (a : Addr) (x : Nat) (w : World) (hc : w.cell? a = some (.int .u32 (x : Nat))) :
    Calls Tryz.prog 75 #[.pointer (some a)] w (fun e w' => e = .returned (.bool (decide (x ≠ 0))) ∧ w' = w) := by
  have hl := run_call_load (P := Tryz.prog) Tryz.func105 (by kernel_rfl) (by kernel_rfl) (by kernel_rfl) .u32 (by kernel_rfl) (w := w) (a := a) (x := (x : Int)) hc
  by_cases h : x = 0
  · subst h
    go_enter Tryz.func75, Tryz.ntmps75
    go_wp2
    go_ret
    exact ⟨rfl, rfl⟩
  · have h' : (x : Int) ≠ 0 := by omega
    have e : decide (x ≠ 0) = ((x : Int) != 0) := by simp [h]
    rw [e]
    clear e h
    go_enter Tryz.func75, Tryz.ntmps75
    go_wp2
    go_ret
    exact ⟨rfl, rfl⟩
/-- eight cells of one block, put. -/
def put8 (w : World) (N : Nat) (a0 a1 a2 a3 a4 a5 a6 a7 : Value) : World :=
  (((((((w.setCell ⟨N, 0, none⟩ a0).setCell ⟨N, 1, none⟩ a1).setCell ⟨N, 2, none⟩ a2).setCell ⟨N, 3, none⟩ a3).setCell ⟨N, 4, none⟩ a4).setCell ⟨N, 5, none⟩ a5).setCell ⟨N, 6, none⟩ a6).setCell ⟨N, 7, none⟩ a7
theorem put8_spec {w : World} {N : Nat} {z0 z1 z2 z3 z4 z5 z6 z7 : Value} {t : TypeId} (h : w.heap[N]? = some (.cells #[z0, z1, z2, z3, z4, z5, z6, z7] t (0, 0))) (a0 a1 a2 a3 a4 a5 a6 a7 : Value) :
    (put8 w N a0 a1 a2 a3 a4 a5 a6 a7).heap[N]? = some (.cells #[a0, a1, a2, a3, a4, a5, a6, a7] t (0, 0)) ∧ Bt [N] w (put8 w N a0 a1 a2 a3 a4 a5 a6 a7) := by
  refine ⟨?_, ?_⟩
  · unfold put8
    simp [World.setCell, Array.getElem?_modify, h]
  · unfold put8
    repeat (refine Bt.set ?_ _ _ (by simp))
    exact Bt.refl _ _
/-- what has turned beyond the heap's end has not turned anything old. -/
theorem Bt.cut {L : List Nat} {N : Nat} {a b c : World} (h : Bt L a b) (k : Bt [N] b c) (hN : a.heap.size ≤ N) : Bt L a c :=
  ⟨k.os.trans h.os, k.tape.trans h.tape, k.output.trans h.output, Nat.le_trans h.size k.size, fun i hi hp => (k.block i (Nat.lt_of_lt_of_le hi h.size) (by simp; omega)).trans (h.block i hi hp)⟩
set_option maxRecDepth 100000 in
set_option maxHeartbeats 1600000 in
theorem doSlow_any (P pl c : Nat) (n : Int) (w : World) (hc1 : 1 ≤ c) (hc4 : c ≤ 4) (hpl : pl ≠ P) (hp : w.cell? ⟨pl, 0, none⟩ = some (.pointer (some ⟨P, 0, none⟩))) (h : SchAt P w c 0 0 faces0 n) :
    Calls Tryz.prog 76 #[.pointer (some ⟨P, 1, none⟩), .func (.func 72) #[] #[.pointer (some ⟨pl, 0, none⟩)]] w
      (fun e w' => e = .returned (.tuple #[]) ∧ Bt [P] w w' ∧ SchAt P w' c 1 0 (facesL c) n) := by
  have hnot : ∀ (x : Bool) (w : World), (Op.unary .not (.bool x)).run Tryz.prog w = .ok (.bool (!x)) w := fun _ _ => rfl
  have hl2 : w.cell? ⟨P, 2, none⟩ = some (.int .i32 0) := cell_of h 2
  have hf2 := frozen_of h 2
  have HS := Lib.hid h
  have HP := Lib.hid hp
  clear h hp
  go_enter_defers Tryz.func76, Tryz.ntmps76
  go_wp2_with fail
  refine (lock_free ⟨P, 2, none⟩ _ hl2 hf2).mono ?_
  rintro e w1 ⟨rfl, ew⟩
  have B1 : Bt [P] w w1 := by rw [ew]; exact (Bt.refl _ _).set _ _ (by simp)
  have h1 : SchAt P w1 c 0 1 faces0 n := by rw [ew]; exact sch_set HS.out 2 _
  have hp1 : w1.cell? ⟨pl, 0, none⟩ = some (.pointer (some ⟨P, 0, none⟩)) := by
    rw [ew]
    exact (World.cell?_setCell_other _ _ _ _ (fun k => hpl (congrArg Addr.block k).symm)).trans HP.out
  clear ew hl2 hf2
  go_wp2_with fail
  refine (boolLoad_any ⟨P, 1, none⟩ 0 w1 (cell_of h1 1)).mono ?_
  rintro e w1' ⟨rfl, rfl⟩
  have H1 := Lib.hid h1
  have HP1 := Lib.hid hp1
  clear h1 hp1
  go_wp2_with fail
  refine (faceOnce_any P pl c 1 n _ hc1 hc4 HP1.out H1.out).mono ?_
  rintro e w2 ⟨rfl, B2, h2⟩
  have H2 := Lib.hid h2
  clear h2
  go_wp2
  refine leaves_cons (f := 108) (args := #[.pointer (some ⟨P, 1, none⟩), .bool true]) (by simp) (by simp [go_sem]) ?_
  refine (store_deferred ⟨P, 1, none⟩ (.int .u32 0) .returning _ (cell_of H2.out 1) (frozen_of H2.out 1)).mono ?_
  rintro e u' w'' ⟨rfl, rfl, rfl⟩
  have h3 : SchAt P (w2.drew.setCell ⟨P, 1, none⟩ (.int .u32 1)) c 1 1 (facesL c) n := sch_set (w := w2.drew) H2.out 1 _
  refine leaves_cons (f := 107) (args := #[.pointer (some ⟨P, 2, none⟩)]) (by simp [settle]) (by simp [go_sem]) ?_
  refine (unlock_deferred ⟨P, 2, none⟩ _ _ (cell_of h3 2) (frozen_of h3 2)).mono ?_
  rintro e u' w'' ⟨rfl, rfl, rfl⟩
  have h4 : SchAt P ((w2.drew.setCell ⟨P, 1, none⟩ (.int .u32 1)).setCell ⟨P, 2, none⟩ (.int .i32 0)) c 1 0 (facesL c) n := sch_set h3 2 _
  have B4 := (((B1.trans B2).drew.set ⟨P, 1, none⟩ (.int .u32 1) (by simp)).set ⟨P, 2, none⟩ (.int .i32 0) (by simp))
  simp [Leaves, settle, results, Tryz.results76]
  exact ⟨B4, h4⟩
/-- a scheme: none of its parts is made yet, or all are. -/
def Sch (P c : Nat) (n : Int) (w : World) : Prop := 1 ≤ c ∧ c ≤ 4 ∧ (SchAt P w c 0 0 faces0 n ∨ SchAt P w c 1 0 (facesL c) n)
theorem Sch.ext {P c : Nat} {n : Int} {w w' : World} (h : Sch P c n w) (e : Ext w w') : Sch P c n w' := ⟨h.1, h.2.1, h.2.2.imp (fun k => e.get k) fun k => e.get k⟩
theorem Sch.noNode {P c : Nat} {n : Int} {w : World} (h : Sch P c n w) : NoNode w P := by
  rcases h.2.2 with h | h
  · exact ⟨_, _, h, by decide⟩
  · exact ⟨_, _, h, by decide⟩
theorem Sch.lt {P c : Nat} {n : Int} {w : World} (h : Sch P c n w) : P < w.heap.size := by
  rcases h.2.2 with h | h
  · exact lt_of h
  · exact lt_of h
theorem Sch.inh {P c : Nat} {n : Int} {w w' : World} {t : Tr} (h : Sch P c n w) (e : Bt [P] w w') (k : InH w t) : InH w' t := k.bt e fun Q hQ => by
  rw [List.mem_singleton.1 hQ]; exact h.noNode
theorem do_any (P pl c : Nat) (n : Int) (w : World) (hpl : pl ≠ P) (hp : w.cell? ⟨pl, 0, none⟩ = some (.pointer (some ⟨P, 0, none⟩))) (h : Sch P c n w) :
    Calls Tryz.prog 57 #[.pointer (some ⟨P, 1, none⟩), .func (.func 72) #[] #[.pointer (some ⟨pl, 0, none⟩)]] w
      (fun e w' => e = .returned (.tuple #[]) ∧ Bt [P] w w' ∧ SchAt P w' c 1 0 (facesL c) n) := by
  obtain ⟨hc1, hc4, h | h⟩ := h
  · have HS := Lib.hid h
    have HP := Lib.hid hp
    clear h hp
    go_enter Tryz.func57, Tryz.ntmps57
    go_wp2_with fail
    refine (boolLoad_any ⟨P, 1, none⟩ 0 w (cell_of HS.out 1)).mono ?_
    rintro e w1' ⟨rfl, rfl⟩
    go_wp2_with fail
    refine (doSlow_any P pl c n _ hc1 hc4 hpl HP.out HS.out).mono ?_
    rintro e w2 ⟨rfl, B2, h2⟩
    have H2 := Lib.hid h2
    clear h2
    go_wp2
    go_end0
    exact ⟨rfl, B2, H2.out⟩
  · have HS := Lib.hid h
    have HP := Lib.hid hp
    clear h hp
    go_enter Tryz.func57, Tryz.ntmps57
    go_wp2_with fail
    refine (boolLoad_any ⟨P, 1, none⟩ 1 w (cell_of HS.out 1)).mono ?_
    rintro e w1' ⟨rfl, rfl⟩
    go_wp2
    go_end0
    exact ⟨rfl, Bt.refl _ _, HS.out⟩
set_option maxHeartbeats 1000000 in
theorem face_any (P c : Nat) (n : Int) (w : World) (h : Sch P c n w) :
    Calls Tryz.prog 52 #[.pointer (some ⟨P, 0, none⟩)] w
      (fun e w' => e = .returned (facesV c) ∧ Bt [P] w w' ∧ SchAt P w' c 1 0 (facesL c) n) := by
  have HS := Lib.hid h
  have hlt := h.lt
  clear h
  have hmf : ∀ (fn : Fn) (first cap : Array Value) (w : World), (Instr.makeFunc fn first cap).run Tryz.prog w = .ok (.func fn first cap) w := fun _ _ _ _ => rfl
  go_enter Tryz.func52, Tryz.ntmps52
  go_wp2_with fail
  have hbox := alloc_at w (.cells #[.pointer (some ⟨P, 0, none⟩)] 60) _ rfl
  have hE := (Ext.refl w).alloc (.cells #[.pointer (some ⟨P, 0, none⟩)] 60)
  have hs : (w.alloc (.cells #[.pointer (some ⟨P, 0, none⟩)] 60)).heap.size = w.heap.size + 1 := by simp
  generalize w.alloc (.cells #[.pointer (some ⟨P, 0, none⟩)] 60) = w1 at *
  have hbox2 := alloc_at w1 (.cells #[.string ⟨#[]⟩, .nilFunc, .nilFunc, .nilFunc, .nilFunc, .nilFunc, .nilFunc, .bool false] 111) _ rfl
  have hE2 := (Ext.refl w1).alloc (.cells #[.string ⟨#[]⟩, .nilFunc, .nilFunc, .nilFunc, .nilFunc, .nilFunc, .nilFunc, .bool false] 111)
  generalize w1.alloc (.cells #[.string ⟨#[]⟩, .nilFunc, .nilFunc, .nilFunc, .nilFunc, .nilFunc, .nilFunc, .bool false] 111) = w2 at *
  rw [hs] at hbox2
  have hb := hE2.get hbox
  refine (do_any P w.heap.size c n w2 (by omega) (cell_of hb 0) ((HS.out.ext hE).ext hE2)).mono ?_
  rintro e w3 ⟨rfl, B3, h3⟩
  have hq := cell_of (B3.get (by simp; omega) hb) 0
  have hb3 := B3.get (show w.heap.size + 1 ∉ [P] by simp; omega) hbox2
  have H3 := Lib.hid h3
  have B03 : Bt [P] w w3 := ((Bt.ext hE).trans (Bt.ext hE2)).trans B3
  have hz0 := cell_of hb3 0
  have hz1 := cell_of hb3 1
  have hz2 := cell_of hb3 2
  have hz3 := cell_of hb3 3
  have hz4 := cell_of hb3 4
  have hz5 := cell_of hb3 5
  have hz6 := cell_of hb3 6
  have hz7 := cell_of hb3 7
  have hzf := frozen_of hb3
  simp at hq hz0 hz1 hz2 hz3 hz4 hz5 hz6 hz7
  have hp4 := show w3.cell? ⟨P, 4, none⟩ = some (.string ⟨nmB c⟩) from cell_of h3 4
  have hp5 := show w3.cell? ⟨P, 5, none⟩ = some (.func (.func (joF c)) (joP c) #[]) from cell_of h3 5
  have hp6 := show w3.cell? ⟨P, 6, none⟩ = some (.func (.func (whF c)) #[] #[]) from cell_of h3 6
  have hp7 := show w3.cell? ⟨P, 7, none⟩ = some (.func (.func (ckF c)) #[] #[]) from cell_of h3 7
  have hp8 := show w3.cell? ⟨P, 8, none⟩ = some (.func (.func (ptF c)) #[] #[]) from cell_of h3 8
  have hp9 := show w3.cell? ⟨P, 9, none⟩ = some (.func (.func (rkF c)) (rkP c) #[]) from cell_of h3 9
  have hp10 := show w3.cell? ⟨P, 10, none⟩ = some (.func (.func (msF c)) #[] #[]) from cell_of h3 10
  have hp11 := show w3.cell? ⟨P, 11, none⟩ = some (.bool (decide (c = 4))) from cell_of h3 11
  have HF := Lib.hid (show facesV c = .agg #[.string ⟨nmB c⟩, .func (.func (joF c)) (joP c) #[], .func (.func (whF c)) #[] #[], .func (.func (ckF c)) #[] #[], .func (.func (ptF c)) #[] #[], .func (.func (rkF c)) (rkP c) #[], .func (.func (msF c)) #[] #[], .bool (decide (c = 4))] from rfl)
  have HB3 := Lib.hid hb3
  clear hbox hbox2 hE hE2 hb h3 B3 hb3
  obtain ⟨FV, hFV⟩ : ∃ FV, FV = facesV c := ⟨_, rfl⟩
  rw [← hFV] at HF
  have HV := Lib.hid hFV
  clear hFV
  generalize joF c = F0 at *
  generalize joP c = F0' at *
  generalize whF c = F1 at *
  generalize ckF c = F2 at *
  generalize ptF c = F3 at *
  generalize rkF c = F4 at *
  generalize rkP c = F4' at *
  generalize msF c = F5 at *
  generalize nmB c = NM at *
  generalize decide (c = 4) = t4 at *
  go_wp2
  change bodyPost _ _ _ _ _ (put8 w3 (w.heap.size + 1) (.string ⟨NM⟩) (.func (.func F0) F0' #[]) (.func (.func F1) #[] #[]) (.func (.func F2) #[] #[]) (.func (.func F3) #[] #[]) (.func (.func F4) F4' #[]) (.func (.func F5) #[] #[]) (.bool t4))
  obtain ⟨hW, hB⟩ := put8_spec HB3.out (.string ⟨NM⟩) (.func (.func F0) F0' #[]) (.func (.func F1) #[] #[]) (.func (.func F2) #[] #[]) (.func (.func F3) #[] #[]) (.func (.func F4) F4' #[]) (.func (.func F5) #[] #[]) (.bool t4)
  generalize put8 w3 (w.heap.size + 1) (.string ⟨NM⟩) (.func (.func F0) F0' #[]) (.func (.func F1) #[] #[]) (.func (.func F2) #[] #[]) (.func (.func F3) #[] #[]) (.func (.func F4) F4' #[]) (.func (.func F5) #[] #[]) (.bool t4) = W at *
  have hy0 := cell_of hW 0
  have hy1 := cell_of hW 1
  have hy2 := cell_of hW 2
  have hy3 := cell_of hW 3
  have hy4 := cell_of hW 4
  have hy5 := cell_of hW 5
  have hy6 := cell_of hW 6
  have hy7 := cell_of hW 7
  simp at hy0 hy1 hy2 hy3 hy4 hy5 hy6 hy7
  refine bodyPost_ret (v := FV) ?_ rfl ⟨?_, B03.cut hB (by omega), hB.get (by simp; omega) H3.out⟩
  · rw [HF.out]
    clear hp4 hp5 hp6 hp7 hp8 hp9 hp10 hp11 hz0 hz1 hz2 hz3 hz4 hz5 hz6 hz7 hzf hq
    simp [results, Tryz.results52, go_sem, hy0, hy1, hy2, hy3, hy4, hy5, hy6, hy7]
  · rw [HV.out]
end Go.Proofs.YtjiiokhjajfhjaaGreat
