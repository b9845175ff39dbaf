/- sync.Once, the parts of its slow road: locks, marks, what is deferred. scheme: what a scheme does, how it lies in memory, and sync.Once: face. -/
import Derived.Tactics
import Derived.Tactics2
import Derived.Defers
import Derived.Laws.Pointers
import Derived.Laws.LoneSync
import Derived.RegionTactic
import Derived.RegionCalls
import Derived.ChangeAlike
import Derived.Test.YtoiohjifjmejkaaGreatM19
import Derived.Test.YtoiohjifjmejkaaGreatM27
namespace Go.Proofs.YtoiohjifjmejkaaGreat
open Go Go.RowKit

theorem raceDisable (w : World) : (callFunc 170 #[]).run Tryz.prog w = .ok (.value (.tuple #[])) w := run_call_mark0 Tryz.func170 (by kernel_rfl) (by kernel_rfl) (by kernel_rfl) .disable (by kernel_rfl) w
theorem raceEnable (w : World) : (callFunc 172 #[]).run Tryz.prog w = .ok (.value (.tuple #[])) w := run_call_mark0 Tryz.func172 (by kernel_rfl) (by kernel_rfl) (by kernel_rfl) .enable (by kernel_rfl) w
theorem raceAcquire (a : Addr) (w : World) : (callFunc 173 #[.pointer (some a)]).run Tryz.prog w = .ok (.value (.tuple #[])) w := run_call_marked Tryz.func173 (by kernel_rfl) (by kernel_rfl) (by kernel_rfl) .acquire (by kernel_rfl) a w
theorem raceReleaseMerge (a : Addr) (w : World) : (callFunc 175 #[.pointer (some a)]).run Tryz.prog w = .ok (.value (.tuple #[])) w := run_call_marked Tryz.func175 (by kernel_rfl) (by kernel_rfl) (by kernel_rfl) .releaseMerge (by kernel_rfl) a w

/-- '(*sync/atomic.Bool).Store(true)', deferred: the cell holds 1. -/
theorem store_deferred (a : Addr) (x : Value) (u : FrameMode) (w : World) (hc : w.cell? a = some x) (hz : w.frozen? a = false) :
    CallsD Tryz.prog 159 #[.pointer (some a), .bool true] u w fun e u' w' => u' = u ∧ (e = .returned (.tuple #[]) ∧ w' = w.drew.setCell a (.int .u32 1)) := by
  have hc' : w.drew.cell? a = some x := by go_simp
  have hz' : w.drew.frozen? a = false := by go_simp
  have hst := run_call_store (P := Tryz.prog) Tryz.func168 (by kernel_rfl) (by kernel_rfl) (by kernel_rfl) (by kernel_rfl) (k := .u32) (y := 1) hc' hz'
  go_enter_d Tryz.func159, Tryz.ntmps159
  go_wp2
  go_region_calls
  all_goals (go_end0; exact ⟨rfl, rfl⟩)

set_option maxRecDepth 100000 in
set_option maxHeartbeats 1600000 in
/-- '(*sync.Mutex).Unlock', deferred, the lock held and nobody waiting. -/
theorem unlock_deferred (a : Addr) (u : FrameMode) (w : World) (hc : w.cell? a = some (.int .i32 1)) (hz : w.frozen? a = false) :
    CallsD Tryz.prog 158 #[.pointer (some a)] u w fun e u' w' => u' = u ∧ (e = .returned (.tuple #[]) ∧ w' = w.setCell a (.int .i32 0)) := by
  have hd := raceDisable
  have he := raceEnable
  have hr := raceReleaseMerge
  have hadd := run_call_add (P := Tryz.prog) Tryz.func176 (by kernel_rfl) (by kernel_rfl) (by kernel_rfl) .i32 (by kernel_rfl) (y := -1) (s := 0) hc hz (by simp [go_sem]; rfl)
  have hcv := run_convert_to_unsafe (P := Tryz.prog) (src := 209) (dst := 213) Tryz.underlying209 Tryz.underlying213 (by kernel_rfl) hc
  go_enter_d Tryz.func158, Tryz.ntmps158
  go_wp2
  go_end0
  go_wp2
  go_end0
  exact ⟨rfl, rfl⟩

set_option maxRecDepth 100000 in
set_option maxHeartbeats 1600000 in
/-- '(*sync.Mutex).Lock', the lock free. -/
theorem lock_free (a : Addr) (w : World) (hc : w.cell? a = some (.int .i32 0)) (hz : w.frozen? a = false) :
    Calls Tryz.prog 157 #[.pointer (some a)] w fun e w' => e = .returned (.tuple #[]) ∧ w' = w.setCell a (.int .i32 1) := by
  have hd := raceDisable
  have he := raceEnable
  have ha := raceAcquire
  have hcas := run_call_cas_hit (P := Tryz.prog) Tryz.func171 (by kernel_rfl) (by kernel_rfl) (by kernel_rfl) .i32 (by kernel_rfl) (y := 1) hc hz
  have hc' : (w.setCell a (.int .i32 1)).cell? a = some (.int .i32 1) := World.cell?_setCell_same w a _ hc
  have hcv := run_convert_to_unsafe (P := Tryz.prog) (src := 209) (dst := 213) Tryz.underlying209 Tryz.underlying213 (by kernel_rfl) hc'
  go_enter Tryz.func157, Tryz.ntmps157
  go_wp2
  first | go_end0 | (simp only [Exit.inBlock, Exit.then]; refine bodyPost_ret (results_none rfl _ _ _) rfl ?_) | refine bodyPost_ret (results_none rfl _ _ _) rfl ?_
  go_wp2
  go_end0
  exact ⟨rfl, rfl⟩
end Go.Proofs.YtoiohjifjmejkaaGreat
namespace Go.Proofs.YtoiohjifjmejkaaGreat
open Go Go.RowKit

def fnV (f : Nat) : Value := .func (.func f) #[] #[]
def nmB : Nat → Array UInt8
  | 1 => #[97, 118, 108]
  | 2 => #[114, 101, 100, 98, 108, 97, 99, 107]
  | 3 => #[119, 101, 105, 103, 104, 116]
  | _ => #[116, 114, 101, 97, 112]
/-- the functions of a scheme. -/
def joF0 : Nat → Nat
  | 1 => 69
  | 2 => 75
  | _ => 81
def ckF : Nat → Nat
  | 1 => 70
  | 2 => 76
  | 3 => 82
  | _ => 206
def ptF : Nat → Nat
  | 1 => 71
  | 2 => 77
  | 3 => 83
  | _ => 207
def rkF : Nat → Nat
  | 1 => 72
  | 2 => 78
  | 3 => 84
  | _ => 208
def msF : Nat → Nat
  | 1 => 73
  | 2 => 79
  | 3 => 85
  | _ => 209
def whF : Nat → Nat
  | 2 => 80
  | _ => 74
def plainOf (c : Nat) : Value := .agg #[.string ⟨nmB c⟩, fnV (joF0 c), fnV (ckF c), fnV (ptF c), fnV (rkF c), fnV (msF c), fnV (whF c)]
def joF (c : Nat) : Nat := if c = 4 then 205 else 203
def joP (c : Nat) : Array Value := if c = 4 then #[] else #[plainOf c]
def rkP (c : Nat) : Array Value := if c = 4 then #[.agg #[]] else #[]
def joV (c : Nat) : Value := .func (.func (joF c)) (joP c) #[]
def rkV (c : Nat) : Value := .func (.func (rkF c)) (rkP c) #[]
/-- what a scheme does. -/
def facesL (c : Nat) : List Value := [.string ⟨nmB c⟩, joV c, fnV (whF c), fnV (ckF c), fnV (ptF c), rkV c, fnV (msF c), .bool (decide (c = 4))]
def faces0 : List Value := [.string ⟨#[]⟩, .nilFunc, .nilFunc, .nilFunc, .nilFunc, .nilFunc, .nilFunc, .bool false]
def facesV (c : Nat) : Value := .agg (facesL c).toArray
def makerV (c : Nat) : Value := if c = 0 ∨ 4 < c then .nilIface else if c = 4 then .iface 144 (.agg #[]) else .iface 143 (plainOf c)

theorem maker_any (c : Nat) (hc : c < 256) (w : World) : Calls Tryz.prog 49 #[.int .u8 c] w (Ret (makerV c) w) := by
  have cases : c = 1 ∨ c = 2 ∨ c = 3 ∨ c = 4 ∨ (c ≠ 1 ∧ c ≠ 2 ∧ c ≠ 3 ∧ c ≠ 4) := by omega
  rcases cases with rfl | rfl | rfl | rfl | ⟨h1, h2, h3, h4⟩
  · go_enter Tryz.func49, Tryz.ntmps49
    go_wp2
    go_ret
    exact Ret.mk (Ext.refl _)
  · go_enter Tryz.func49, Tryz.ntmps49
    go_wp2
    go_ret
    exact Ret.mk (Ext.refl _)
  · go_enter Tryz.func49, Tryz.ntmps49
    go_wp2
    go_ret
    exact Ret.mk (Ext.refl _)
  · go_enter Tryz.func49, Tryz.ntmps49
    go_wp2
    go_ret
    exact Ret.mk (Ext.refl _)
  · have e : makerV c = .nilIface := by
      unfold makerV
      rw [if_pos (by omega)]
    rw [e]
    clear e
    have h1' : (c : Int) ≠ 1 := by omega
    have h2' : (c : Int) ≠ 2 := by omega
    have h3' : (c : Int) ≠ 3 := by omega
    have h4' : (c : Int) ≠ 4 := by omega
    clear h1 h2 h3 h4
    go_enter Tryz.func49, Tryz.ntmps49
    go_wp2
    go_ret
    exact Ret.mk (Ext.refl _)

set_option maxHeartbeats 1000000 in
theorem plainFaces_any (s : Array UInt8) (j a b c d e : Nat) (w : World) : Calls Tryz.prog 202 #[.agg #[.string ⟨s⟩, fnV j, fnV a, fnV b, fnV c, fnV d, fnV e]] w
    (Ret (.agg #[.string ⟨s⟩, .func (.func 203) #[.agg #[.string ⟨s⟩, fnV j, fnV a, fnV b, fnV c, fnV d, fnV e]] #[], fnV e, fnV a, fnV b, fnV c, fnV d, .bool false]) w) := by
  unfold fnV
  go_enter Tryz.func202, Tryz.ntmps202
  go_wp2
  refine bodyPost_ret (v := .agg #[.string ⟨s⟩, .func (.func 203) #[.agg #[.string ⟨s⟩, fnV j, fnV a, fnV b, fnV c, fnV d, fnV e]] #[], fnV e, fnV a, fnV b, fnV c, fnV d, .bool false]) ?_ rfl ?_
  · simp [results, Tryz.results202, go_sem, fnV]
  · refine Ret.mk ?_
    exact ((Ext.refl w).alloc _).alloc _
theorem taggedFaces_any (w : World) : Calls Tryz.prog 204 #[.agg #[]] w (Ret (facesV 4) w) := by
  have hpz := part_zero w 144 (by kernel_rfl)
  go_enter Tryz.func204, Tryz.ntmps204
  go_wp2
  refine bodyPost_ret (v := facesV 4) ?_ rfl ?_
  · simp [results, Tryz.results204, go_sem, facesV, facesL, nmB, joV, joF, joP, rkV, rkP, rkF, ckF, whF, ptF, msF, fnV]
  · refine Ret.mk ?_
    exact ((Ext.refl w).alloc _).alloc _
theorem makerF_plain (f : Nat) (w : World) (v : Value) : (method (f + 1) 143 v "joinery/scheme.faces").run Tryz.prog w = .ok (202, v) w := by kernel_rfl
theorem makerF_tagged (f : Nat) (w : World) (v : Value) : (method (f + 1) 144 v "joinery/scheme.faces").run Tryz.prog w = .ok (204, v) w := by kernel_rfl
/-- a scheme in memory. -/
def schL (c d st : Nat) (F : List Value) (n : Int) : List Value := [.int .u8 c, .int .u32 d, .int .i32 st, .int .u32 0] ++ F ++ [.int .u64 n]
def SchAt (P : Nat) (w : World) (c d st : Nat) (F : List Value) (n : Int) : Prop := w.heap[P]? = some (.cells (schL c d st F n).toArray 113 (0, 0))
theorem maker_face (c : Nat) (hc1 : 1 ≤ c) (hc4 : c ≤ 4) : ∃ T mF v, makerV c = .iface T v ∧ (∀ (f : Nat) (w : World), (method (f + 1) T v "joinery/scheme.faces").run Tryz.prog w = .ok (mF, v) w) ∧ (∀ (a : Array Value) (w : World), (callFunc mF a).run Tryz.prog w = .ok (.enter mF a) w) ∧
    ∀ w : World, Calls Tryz.prog mF #[v] w (Ret (.agg #[.string ⟨nmB c⟩, joV c, fnV (whF c), fnV (ckF c), fnV (ptF c), rkV c, fnV (msF c), .bool (decide (c = 4))]) w) := by
  have cases : c = 4 ∨ c = 1 ∨ c = 2 ∨ c = 3 := by omega
  rcases cases with rfl | rfl | rfl | rfl
  · exact ⟨_, _, _, rfl, fun f w => makerF_tagged f w _, fun a w => by kernel_rfl, fun w => taggedFaces_any w⟩
  · exact ⟨_, _, _, rfl, fun f w => makerF_plain f w _, fun a w => by kernel_rfl, fun w => plainFaces_any _ _ _ _ _ _ _ w⟩
  · exact ⟨_, _, _, rfl, fun f w => makerF_plain f w _, fun a w => by kernel_rfl, fun w => plainFaces_any _ _ _ _ _ _ _ w⟩
  · exact ⟨_, _, _, rfl, fun f w => makerF_plain f w _, fun a w => by kernel_rfl, fun w => plainFaces_any _ _ _ _ _ _ _ w⟩
set_option maxHeartbeats 1000000 in
theorem faceOnce_any (P pl c st : Nat) (n : Int) (w : World) (hc1 : 1 ≤ c) (hc4 : c ≤ 4) (hp : w.cell? ⟨pl, 0, none⟩ = some (.pointer (some ⟨P, 0, none⟩))) (h : SchAt P w c 0 st faces0 n) :
    Calls Tryz.prog 90 #[.pointer (some ⟨pl, 0, none⟩)] w (fun e w' => e = .returned (.tuple #[]) ∧ Bt [P] w w' ∧ SchAt P w' c 0 st (facesL c) n) := by
  have hfn : ∀ f, Fence.wide.fn f := fun _ => trivial
  obtain ⟨T, mF, v, hm, hm1, hm2, hm3⟩ := maker_face c hc1 hc4
  have hmk := maker_any c (by omega)
  rw [hm] at hmk
  have HMK := Lib.hid hmk
  have HM3 := Lib.hid hm3
  have HS := Lib.hid h
  have hc0 := cell_all (show w.cell? ⟨P, 0, none⟩ = some (.int .u8 c) from cell_of h 0)
  have hp0 := cell_all hp
  have hx := Ext.drew w
  clear hm hmk hm3 h hp
  unfold joV fnV rkV at HM3
  have HL := Lib.hid (show facesL c = [.string ⟨nmB c⟩, .func (.func (joF c)) (joP c) #[], .func (.func (whF c)) #[] #[], .func (.func (ckF c)) #[] #[], .func (.func (ptF c)) #[] #[], .func (.func (rkF c)) (rkP c) #[], .func (.func (msF c)) #[] #[], .bool (decide (c = 4))] from rfl)
  generalize joF c = F0 at *
  generalize joP c = F0' at *
  generalize whF c = F1 at *
  generalize ckF c = F2 at *
  generalize ptF c = F3 at *
  generalize rkF c = F4 at *
  generalize rkP c = F4' at *
  generalize msF c = F5 at *
  generalize nmB c = NM at *
  generalize decide (c = 4) = t4 at *
  go_enter Tryz.func90, Tryz.ntmps90
  obtain ⟨m⟩ : Nonempty Nat := ⟨0⟩
  refine (wpIn_wide (n := m)).1 ?_
  gi_wp2_with fail
  refine wpIn_region_G (fun j => !(List.contains (α := Nat) [9] j)) (by kernel_rfl) ?_
  refine batchG hfn (fuel := 5) [0, 1, 2, 3, 4] (by kernel_rfl) rfl ?_
  repeat (go_big_quiet_step ((fail)))
  refine wpQuiet_nil ?_
  refine wpAnyG_one (j := 5) (by kernel_rfl) rfl ?_
  gi_wp2_with fail
  refine ⟨wide_room _, (callsIn_wide.2 (HMK.out _)).mono ?_⟩
  rintro e w1 ⟨rfl, h1⟩
  gi_wp2_with fail
  refine onePost_ext (h1) ?_
  refine wpAnyG_one (j := 6) (by kernel_rfl) rfl ?_
  gi_wp2_with fail
  refine ⟨wide_room _, (callsIn_wide.2 (HM3.out _)).mono ?_⟩
  rintro e w2 ⟨rfl, h2⟩
  gi_wp2_with fail
  refine onePost_ext (h2) ?_
  have hE := hx.trans (h1.trans h2)
  have hb2 : w2.heap[P]? = some (.cells #[.int .u8 c, .int .u32 (0 : Nat), .int .i32 st, .int .u32 0, .string ⟨#[]⟩, .nilFunc, .nilFunc, .nilFunc, .nilFunc, .nilFunc, .nilFunc, .bool false, .int .u64 n] 113 (0, 0)) := hE.get HS.out
  clear hx h1 h2 hc0 hp0
  refine batchG hfn (fuel := 1) [7, 8] (by kernel_rfl) rfl ?_
  repeat (go_big_quiet_step ((fail)))
  refine wpQuiet_nil ?_
  have hc4 := cell_of hb2 4
  have hc5 := cell_of hb2 5
  have hc6 := cell_of hb2 6
  have hc7 := cell_of hb2 7
  have hc8 := cell_of hb2 8
  have hc9 := cell_of hb2 9
  have hc10 := cell_of hb2 10
  have hc11 := cell_of hb2 11
  have hf := frozen_of hb2
  simp at hc4 hc5 hc6 hc7 hc8 hc9 hc10 hc11
  refine wpAnyG_one (j := 9) (by kernel_rfl) rfl ?_
  gi_wp2_with fail
  refine onePost_any (by kernel_rfl) ?_
  refine wpAnyG_done (by kernel_rfl) ?_
  refine calmQ_normal ?_
  gi_wp2
  go_end0
  refine ⟨rfl, ?_, ?_⟩
  · have hB : Bt [P] w w2 := Bt.ext hE
    repeat (refine Bt.set ?_ _ _ (by simp))
    exact hB
  · unfold SchAt schL
    rw [HL.out]
    simp [World.setCell, Array.getElem?_modify, hb2]
/-- what lies in one block, when a cell of it is turned. -/
theorem sch_set {P : Nat} {w : World} {cs : Array Value} {t : TypeId} (h : w.heap[P]? = some (.cells cs t (0, 0))) (i : Nat) (v : Value) : (w.setCell ⟨P, i, none⟩ v).heap[P]? = some (.cells (cs.setIfInBounds i v) t (0, 0)) := by
  simp [World.setCell, Array.getElem?_modify, h]
end Go.Proofs.YtoiohjifjmejkaaGreat
