/- Rows of beads that a call owns: append onto them. What stays as it was but some blocks. sync.Once, the parts of its slow road: locks, marks, what is deferred. sync/atomic: loads, and compares and swaps, of pointers. -/
import Derived.Maps.AppendAt
import Derived.Deep.Upon
import Derived.Tactics
import Derived.Tactics2
import Derived.Defers
import Derived.Laws.Pointers
import Derived.Laws.LoneSync
import Derived.RegionTactic
import Derived.RegionCalls
import Derived.ChangeAlike
import Derived.Test.YtjiiokhjajfhjaaGreatM1
import Derived.Test.YtjiiokhjajfhjaaGreatM4
namespace Go.Proofs.YtjiiokhjajfhjaaGreat
open Go Go.RowKit

/-- a row that was made since the heap had B blocks. -/
def Own (B : Nat) (w : World) (v : Value) (zs : List BeadL) : Prop := w.ownsRow B 71 7 v zs.length (beadCells zs)
theorem Own.beads {B : Nat} {w : World} {v : Value} {zs : List BeadL} (h : Own B w v zs) : Beads w v zs := by
  obtain ⟨h1, ⟨rfl, h0⟩ | ⟨g, cap, cur, rfl, hb, hg, hc, hm, hs, ht⟩⟩ := h
  · exact .inl ⟨List.eq_nil_of_length_eq_zero h0, _, 0, rfl⟩
  · by_cases h0 : zs = []
    · subst h0; exact .inl ⟨rfl, _, _, rfl⟩
    · refine .inr ⟨g, 0, cap, rfl, h0, hc, fun j u hj => ?_⟩
      rw [Nat.zero_add, cell_of hg j]
      rw [← ht, List.getElem?_take] at hj
      split at hj
      · simpa using hj
      · cases hj
theorem Own.nil (B : Nat) (w : World) : Own B w (.slice none 0 0) [] := ⟨rfl, .inl ⟨rfl, rfl⟩⟩
theorem Own.ext {B : Nat} {w w' : World} {v : Value} {zs : List BeadL} (h : Own B w v zs) (e : Ext w w') : Own B w' v zs := by
  obtain ⟨h1, h | ⟨g, cap, cur, hv, hb, hg, hc⟩⟩ := h
  · exact ⟨h1, .inl h⟩
  · exact ⟨h1, .inr ⟨g, cap, cur, hv, hb, (e.block g (lt_of hg)).trans hg, hc⟩⟩
theorem Own.mono {B B' : Nat} {w : World} {v : Value} {zs : List BeadL} (h : Own B w v zs) (e : B' ≤ B) : Own B' w v zs := by
  obtain ⟨h1, h | ⟨g, cap, cur, hv, hb, hg, hc⟩⟩ := h
  · exact ⟨h1, .inl h⟩
  · exact ⟨h1, .inr ⟨g, cap, cur, hv, Nat.le_trans e hb, hg, hc⟩⟩
theorem bead_info : ∃ i : TypeInfo, Tryz.prog.info? 71 = some i ∧ i.zero = some (.agg #[.int .i64 0, .int .i64 0, .int .i64 0, .int .i64 0, .int .u64 0, .bool false, .bool false]) ∧ i.size = 7 ∧ i.bytes = 48 := by
  have h : (Tryz.prog.info? 71).map (fun i => (i.zero, i.size, i.bytes)) = some (some (.agg #[.int .i64 0, .int .i64 0, .int .i64 0, .int .i64 0, .int .u64 0, .bool false, .bool false]), 7, 48) := by kernel_rfl
  cases hi : Tryz.prog.info? 71 with
  | none => rw [hi] at h; cases h
  | some i =>
    rw [hi] at h
    simp only [Option.map_some, Option.some.injEq, Prod.mk.injEq] at h
    exact ⟨i, rfl, h.1, h.2.1, h.2.2⟩
theorem beadCells_one : ∀ (zs : List BeadL), ∀ u ∈ beadCells zs, u.oneCell' = true
  | [], u, h => by simp [beadCells] at h
  | z :: zs, u, h => by
    rw [beadCells, List.flatMap_cons, List.mem_append] at h
    rcases h with h | h
    · simp only [BeadL.cells, List.mem_cons, List.not_mem_nil, or_false] at h
      rcases h with rfl | rfl | rfl | rfl | rfl | rfl | rfl <;> rfl
    · exact beadCells_one zs u h
theorem beadCells_append (a b : List BeadL) : beadCells (a ++ b) = beadCells a ++ beadCells b := by simp [beadCells]
/-- append, onto a row of one's own. -/
theorem append_own {B : Nat} {w : World} {v u : Value} {zs ys : List BeadL} (ty : TypeId) (hv : Own B w v zs) (hu : Beads w u ys) (hlen : zs.length + ys.length ≤ 10000) (hB : B ≤ w.heap.size) :
    ∃ v' w', (Builtin.append_ #[22, 22] ty #[v, u]).run Tryz.prog w = .ok v' w' ∧ Own B w' v' (zs ++ ys) ∧ w.grownBy w' v.ownBlock := by
  obtain ⟨i, hi, hz, hs, hb⟩ := bead_info
  have hml : (10000 : Nat) ≤ maxLen := by decide
  by_cases h0 : ys = []
  · subst h0
    have hu' : ∃ a c, u = .slice a 0 c := by
      obtain ⟨a, c, rfl⟩ := beads_slice hu
      exact ⟨a, c, rfl⟩
    obtain ⟨a, c, rfl⟩ := hu'
    have hsrc : Src Tryz.prog i.size 22 (.slice a 0 c) 0 [] w := by
      cases a with
      | none => exact Src.ofNil w Tryz.underlying22 c
      | some a => exact Src.ofSlice w Tryz.underlying22 a 0 c [] (by simp) (by simp) (by simp)
    have hv' : ∃ p l c', v = .slice p l c' ∧ l ≤ c' := by
      rcases hv with ⟨_, ⟨rfl, h0⟩ | ⟨g, cap, cur, rfl, _, _, hc, _⟩⟩
      · exact ⟨_, _, _, rfl, Nat.le_refl _⟩
      · exact ⟨_, _, _, rfl, hc⟩
    obtain ⟨p, l, c', rfl, hlc⟩ := hv'
    refine ⟨_, w, run_append_nothing w _ _ ty _ i Tryz.underlying22 hi p l c' hlc _ hsrc, by simpa using hv, ⟨rfl, rfl, rfl, Nat.le_refl _, fun _ _ _ => rfl⟩⟩
  · rcases hu with ⟨h, _⟩ | ⟨b, o, c, rfl, _, hc, hr⟩
    · exact (h0 h).elim
    · obtain ⟨v', w', hrun, hown, hg, _, _⟩ := run_append_own_at (P := Tryz.prog) w B _ ty _ i _ 7 48 Tryz.underlying22 hi hz hs hb rfl (by omega) v zs.length (beadCells zs) hv ⟨b, o, none⟩ ys.length c (beadCells ys) (beadCells_len ys)
        (fun j u hj => by rw [Addr.add_mid]; exact hr j u hj) (beadCells_one ys) (by omega) (by omega) hB
      refine ⟨v', w', hrun, ?_, hg⟩
      show w'.ownsRow _ _ _ _ _ _
      rw [List.length_append, beadCells_append]
      exact hown
/-- what append leaves alone. -/
theorem grown_ext {w0 w w' : World} {v : Value} {zs : List BeadL} (hw : Ext w0 w) (hv : Own w0.heap.size w v zs) (hg : w.grownBy w' v.ownBlock) : Ext w0 w' := by
  refine RowKit.Below.grown hw hg hw.size ?_
  intro k hk
  rcases hv with ⟨_, ⟨rfl, h0⟩ | ⟨g, cap, cur, rfl, hb, _⟩⟩
  · cases hk
  · simp only [Value.ownBlock, Option.some.injEq] at hk
    omega

/-- a new row of one bead. -/
theorem own_new {B : Nat} {w : World} (z : BeadL) (h : B ≤ w.heap.size) : Own B (w.alloc (.cells #[.int .i64 z.key, .int .i64 z.val, .int .i64 z.sum, .int .i64 z.size, .int .u64 z.tag, .bool z.left, .bool z.right] 71)) (.slice (some ⟨w.heap.size, 0, none⟩) 1 1) [z] :=
  ⟨rfl, .inr ⟨w.heap.size, 1, _, rfl, h, alloc_at _ _ _ rfl, Nat.le_refl _, by decide, rfl, rfl⟩⟩
section
variable {F : Fence} {n : Nat} {ops : Array Oper} {rest : List Oper} {o : Oper} {a : Act} {Q : Exit → Act → World → Prop}
theorem wpList_append_beads (hgd : o.guard = none) (s x : Operand) (ho : o.op = .call { callee := .builtin .append, args := #[s, x], argTypes := #[22, 22] })
    {B : Nat} {w : World} {v u : Value} {zs ys : List BeadL} (hs : a.eval s = v) (hx : a.eval x = u) (hv : Own B w v zs) (hu : Beads w u ys) (hlen : zs.length + ys.length ≤ 10000) (hB : B ≤ w.heap.size)
    (h : ∀ v' w', Own B w' v' (zs ++ ys) → w.grownBy w' v.ownBlock → wpList Tryz.prog ops Q rest (a.put o.dst v') w') : wpList Tryz.prog ops Q (o :: rest) a w := by
  refine wpList_plain hgd fun K hK => ?_
  obtain ⟨v', w', hr, h2, h3⟩ := append_own o.type hv hu hlen hB
  unfold Oper.wp execOp
  simp only [ho, resolve, invoke, builtin, Sem.run_bind, Sem.run_pure, Result.andThen_ok, List.map_toArray, List.map_cons, List.map_nil, hs, hx, hr]
  exact hK _ _ (h v' w' h2 h3)
theorem wpListIn_append_beads (hgd : o.guard = none) (s x : Operand) (ho : o.op = .call { callee := .builtin .append, args := #[s, x], argTypes := #[22, 22] })
    {B : Nat} {w : World} {v u : Value} {zs ys : List BeadL} (hs : a.eval s = v) (hx : a.eval x = u) (hv : Own B w v zs) (hu : Beads w u ys) (hlen : zs.length + ys.length ≤ 10000) (hB : B ≤ w.heap.size)
    (hfn : ∀ f, F.fn f)
    (h : ∀ v' w', Own B w' v' (zs ++ ys) → w.grownBy w' v.ownBlock → wpListIn F n Tryz.prog ops Q rest (a.put o.dst v') w') : wpListIn F n Tryz.prog ops Q (o :: rest) a w := by
  refine wpListIn_plain hgd fun K hK => ?_
  obtain ⟨v', w', hr, h2, h3⟩ := append_own o.type hv hu hlen hB
  unfold Oper.wpIn
  refine ⟨fun f _ => hfn f, ?_⟩
  rw [Oper.semAt_eq _ _ _ (fun c => by rw [ho]; simp)]
  unfold execOp
  simp only [ho, resolve, invoke, builtin, Sem.run_bind, Sem.run_pure, Result.andThen_ok, List.map_toArray, List.map_cons, List.map_nil, hs, hx, hr]
  exact hK _ _ (h v' w' h2 h3)
end
/-- beads with their sizes and sums. -/
def sumL (zs : List BeadL) : Int := zs.foldl (fun n z => wrap64 (n + z.val)) 0
def BT.of : BT → BT
  | .nil => .nil
  | .node k v s n g l r => .node k v (sumL (BT.node k v s n g l r).enc) (BT.node k v s n g l r).enc.length g l.of r.of
set_option maxHeartbeats 400000 in
theorem sum09_any (w : World) (p : Value) (zs : List BeadL) (hb : Beads w p zs) (hl : zs.length ≤ 2000) : Calls Tryz.prog 43 #[p] w (Ret (.int .i64 (sumL zs)) w) := by
  rcases hb with ⟨rfl, a, c, rfl⟩ | ⟨b, o, c, rfl, hne, hc, hr⟩
  · rw [show sumL [] = 0 from rfl]
    go_enter Tryz.func43, Tryz.ntmps43
    go_wp2
    go_loop [3, 4] (fun n i => n = .int .i64 0 ∧ i = .int .i64 0) (fun _ _ => 0)
    case atStart => exact ⟨rfl, rfl⟩
    case round =>
      obtain ⟨rfl, rfl⟩ := hrel
      go_wp2
      go_ret
      exact Ret.mk (Ext.refl _)
  · have H := Lib.hid hr
    clear hr hne
    go_enter Tryz.func43, Tryz.ntmps43
    go_wp2
    go_loop [3, 4] (fun n i => ∃ k : Nat, k ≤ zs.length ∧ i = .int .i64 k ∧ n = .int .i64 (sumL (zs.take k))) (fun _ i => zs.length - (intOf i).toNat)
    case atStart => exact ⟨0, Nat.zero_le _, rfl, rfl⟩
    case round =>
      obtain ⟨k, hk, rfl, rfl⟩ := hrel
      by_cases hlt : k < zs.length
      · obtain ⟨z, hz⟩ : ∃ z, zs[k]? = some z := ⟨_, List.getElem?_eq_getElem hlt⟩
        have hcv := rangeAt_cell H.out hz (j := 1) rfl
        have hsum : wrap64 (sumL (zs.take k) + z.val) = sumL (zs.take (k + 1)) := by
          rw [List.take_add_one, hz]; simp [sumL]
        have HS := Lib.hid hsum
        clear hz hsum
        go_wp2
        go_round
        case rel => exact ⟨k + 1, by omega, by go_num, by rw [HS.out]⟩
        case measure => simp [intOf]; omega
      · have hk' : k = zs.length := by omega
        have HK := Lib.hid hk'
        clear hk'
        go_wp2
        go_ret
        exact ⟨ret_int (by rw [HK.out, List.take_length]), Ext.refl _⟩
end Go.Proofs.YtjiiokhjajfhjaaGreat
namespace Go.Proofs.YtjiiokhjajfhjaaGreat
open Go Go.RowKit

/-- nothing that was there has turned, but some blocks. -/
structure Bt (L : List Nat) (w w' : World) : Prop where
  os : w'.os = w.os
  tape : w'.tape = w.tape
  output : w'.output = w.output
  size : w.heap.size ≤ w'.heap.size
  block : ∀ k, k < w.heap.size → k ∉ L → w'.heap[k]? = w.heap[k]?
theorem Bt.refl (L : List Nat) (w : World) : Bt L w w := ⟨rfl, rfl, rfl, Nat.le_refl _, fun _ _ _ => rfl⟩
theorem Bt.trans {L : List Nat} {a b c : World} (h : Bt L a b) (k : Bt L b c) : Bt L a c :=
  ⟨k.os.trans h.os, k.tape.trans h.tape, k.output.trans h.output, Nat.le_trans h.size k.size, fun i hi hp => (k.block i (Nat.lt_of_lt_of_le hi h.size) hp).trans (h.block i hi hp)⟩
theorem Bt.ext {L : List Nat} {a b : World} (h : Ext a b) : Bt L a b := ⟨h.os, h.tape, h.output, Below.size h, fun i hi _ => Below.block h i hi⟩
theorem Bt.mono {L M : List Nat} {a b : World} (h : Bt L a b) (k : ∀ i, i ∈ L → i ∈ M) : Bt M a b := ⟨h.os, h.tape, h.output, h.size, fun i hi hM => h.block i hi (fun hL => hM (k i hL))⟩
theorem Bt.alloc {L : List Nat} {a b : World} (h : Bt L a b) (o : Obj) : Bt L a (b.alloc o) := h.trans (Bt.ext ((Ext.refl b).alloc o))
theorem Bt.drew {L : List Nat} {a b : World} (h : Bt L a b) : Bt L a b.drew := h.trans (Bt.ext (RowKit.Below.drew (RowKit.Below.refl _ _)))
theorem Bt.set {L : List Nat} {a b : World} (h : Bt L a b) (p : Addr) (v : Value) (hp : p.block ∈ L) : Bt L a (b.setCell p v) :=
  h.trans ⟨rfl, rfl, rfl, (KeepsWalks.setCell b _ v).size, fun _ _ hi => Below.heap_setCell _ _ _ _ (fun e => hi (e ▸ hp))⟩
theorem Bt.out {L : List Nat} {a b c : World} (h : Ext a b) (hL : ∀ P ∈ L, a.heap.size ≤ P) (k : Bt L b c) : Ext a c :=
  ⟨k.os.trans h.os, k.tape.trans h.tape, k.output.trans h.output, Nat.le_trans h.size k.size, fun i hi => (k.block i (Nat.lt_of_lt_of_le hi h.size) (fun hP => absurd (hL i hP) (Nat.not_le.2 hi))).trans (Below.block h i hi)⟩
theorem Bt.get {L : List Nat} {a b : World} (h : Bt L a b) {i : Nat} {o : Obj} (hi : i ∉ L) (k : a.heap[i]? = some o) : b.heap[i]? = some o :=
  (h.block i (lt_of k) hi).trans k
/-- blocks that hold no nodes. -/
def NoNode (w : World) (P : Nat) : Prop := ∃ c t, w.heap[P]? = some (.cells c t (0, 0)) ∧ t ≠ 124
theorem InH.bt {L : List Nat} {a b : World} (e : Bt L a b) (hL : ∀ P ∈ L, NoNode a P) : ∀ {t : Tr}, InH a t → InH b t
  | .nil, _ => trivial
  | .node x _ _ _ _ _, ⟨h0, h1, h2⟩ => ⟨e.get (fun hx => by obtain ⟨c, t, h, ht⟩ := hL x hx; rw [h0] at h; injection h with h; injection h with _ h2 _; exact ht h2.symm) h0, InH.bt e hL h1, InH.bt e hL h2⟩
theorem Own.bt {B : Nat} {L : List Nat} {w w' : World} {v : Value} {zs : List BeadL} (h : Own B w v zs) (e : Bt L w w') (hL : ∀ P ∈ L, P < B) : Own B w' v zs := by
  obtain ⟨h1, h | ⟨g, cap, cur, hv, hb, hg, hc⟩⟩ := h
  · exact ⟨h1, .inl h⟩
  · exact ⟨h1, .inr ⟨g, cap, cur, hv, hb, e.get (fun hx => by have := hL g hx; omega) hg, hc⟩⟩
end Go.Proofs.YtjiiokhjajfhjaaGreat
namespace Go.Proofs.YtjiiokhjajfhjaaGreat
open Go Go.RowKit

theorem raceDisable (w : World) : (callFunc 148 #[]).run Tryz.prog w = .ok (.value (.tuple #[])) w := run_call_mark0 Tryz.func148 (by kernel_rfl) (by kernel_rfl) (by kernel_rfl) .disable (by kernel_rfl) w
theorem raceEnable (w : World) : (callFunc 150 #[]).run Tryz.prog w = .ok (.value (.tuple #[])) w := run_call_mark0 Tryz.func150 (by kernel_rfl) (by kernel_rfl) (by kernel_rfl) .enable (by kernel_rfl) w
theorem raceAcquire (a : Addr) (w : World) : (callFunc 151 #[.pointer (some a)]).run Tryz.prog w = .ok (.value (.tuple #[])) w := run_call_marked Tryz.func151 (by kernel_rfl) (by kernel_rfl) (by kernel_rfl) .acquire (by kernel_rfl) a w
theorem raceReleaseMerge (a : Addr) (w : World) : (callFunc 153 #[.pointer (some a)]).run Tryz.prog w = .ok (.value (.tuple #[])) w := run_call_marked Tryz.func153 (by kernel_rfl) (by kernel_rfl) (by kernel_rfl) .releaseMerge (by kernel_rfl) a w

/-- '(*sync/atomic.Bool).Store(true)', deferred: the cell holds 1. -/
theorem store_deferred (a : Addr) (x : Value) (u : FrameMode) (w : World) (hc : w.cell? a = some x) (hz : w.frozen? a = false) :
    CallsD Tryz.prog 108 #[.pointer (some a), .bool true] u w fun e u' w' => u' = u ∧ (e = .returned (.tuple #[]) ∧ w' = w.drew.setCell a (.int .u32 1)) := by
  have hc' : w.drew.cell? a = some x := by go_simp
  have hz' : w.drew.frozen? a = false := by go_simp
  have hst := run_call_store (P := Tryz.prog) Tryz.func127 (by kernel_rfl) (by kernel_rfl) (by kernel_rfl) (by kernel_rfl) (k := .u32) (y := 1) hc' hz'
  go_enter_d Tryz.func108, Tryz.ntmps108
  go_wp2
  go_region_calls
  all_goals (go_end0; exact ⟨rfl, rfl⟩)

set_option maxRecDepth 100000 in
set_option maxHeartbeats 1600000 in
/-- '(*sync.Mutex).Unlock', deferred, the lock held and nobody waiting. -/
theorem unlock_deferred (a : Addr) (u : FrameMode) (w : World) (hc : w.cell? a = some (.int .i32 1)) (hz : w.frozen? a = false) :
    CallsD Tryz.prog 107 #[.pointer (some a)] u w fun e u' w' => u' = u ∧ (e = .returned (.tuple #[]) ∧ w' = w.setCell a (.int .i32 0)) := by
  have hd := raceDisable
  have he := raceEnable
  have hr := raceReleaseMerge
  have hadd := run_call_add (P := Tryz.prog) Tryz.func154 (by kernel_rfl) (by kernel_rfl) (by kernel_rfl) .i32 (by kernel_rfl) (y := -1) (s := 0) hc hz (by simp [go_sem]; rfl)
  have hcv := run_convert_to_unsafe (P := Tryz.prog) (src := 201) (dst := 89) Tryz.underlying201 Tryz.underlying89 (by kernel_rfl) hc
  go_enter_d Tryz.func107, Tryz.ntmps107
  go_wp2
  go_end0
  go_wp2
  go_end0
  exact ⟨rfl, rfl⟩

set_option maxRecDepth 100000 in
set_option maxHeartbeats 1600000 in
/-- '(*sync.Mutex).Lock', the lock free. -/
theorem lock_free (a : Addr) (w : World) (hc : w.cell? a = some (.int .i32 0)) (hz : w.frozen? a = false) :
    Calls Tryz.prog 106 #[.pointer (some a)] w fun e w' => e = .returned (.tuple #[]) ∧ w' = w.setCell a (.int .i32 1) := by
  have hd := raceDisable
  have he := raceEnable
  have ha := raceAcquire
  have hcas := run_call_cas_hit (P := Tryz.prog) Tryz.func149 (by kernel_rfl) (by kernel_rfl) (by kernel_rfl) .i32 (by kernel_rfl) (y := 1) hc hz
  have hc' : (w.setCell a (.int .i32 1)).cell? a = some (.int .i32 1) := World.cell?_setCell_same w a _ hc
  have hcv := run_convert_to_unsafe (P := Tryz.prog) (src := 201) (dst := 89) Tryz.underlying201 Tryz.underlying89 (by kernel_rfl) hc'
  go_enter Tryz.func106, Tryz.ntmps106
  go_wp2
  first | go_end0 | (simp only [Exit.inBlock, Exit.then]; refine bodyPost_ret (results_none rfl _ _ _) rfl ?_) | refine bodyPost_ret (results_none rfl _ _ _) rfl ?_
  go_wp2
  go_end0
  exact ⟨rfl, rfl⟩
end Go.Proofs.YtjiiokhjajfhjaaGreat
namespace Go.Proofs.YtjiiokhjajfhjaaGreat
open Go Go.RowKit

theorem same_ptr (p : Option Addr) (P : Program) (w : World) : (samePointer p p).run P w = .ok true w := by
  cases p with
  | none => rfl
  | some a => simp [samePointer, sameAddr]
theorem run_call_loadP {P : Program} {f : FuncId} {fn : Func} (hf : P.funcs[f]? = some fn) (hname : (fn.name == "runtime.NumGoroutine") = false) (hb : fn.body.isNone = true) (hn : Extern.findNext fn = none)
    (he : Extern.find fn = some (Extern.Atomic.loadT .ptr)) {a : Addr} {p : Option Addr} {w : World} (hc : w.cell? a = some (.pointer p)) :
    (callFunc f #[.pointer (some a)]).run P w = .ok (.value (.pointer p)) w := by
  rw [run_callFunc_extern hf hname hb hn he]
  change (Sem.run P (do Extern.Atomic.read .ptr (← asAddr (.pointer (some a)))) w).andThen _ = _
  simp [Extern.Atomic.read, asAddr, hc, Result.andThen]
theorem run_call_casP {P : Program} {f : FuncId} {fn : Func} (hf : P.funcs[f]? = some fn) (hname : (fn.name == "runtime.NumGoroutine") = false) (hb : fn.body.isNone = true) (hn : Extern.findNext fn = none)
    (he : Extern.find fn = some (Extern.Atomic.casT .ptr)) {a : Addr} {p q : Option Addr} {w : World} (hc : w.cell? a = some (.pointer p)) (hz : w.frozen? a = false) :
    (callFunc f #[.pointer (some a), .pointer p, .pointer q]).run P w = .ok (.value (.bool true)) (w.setCell a (.pointer q)) := by
  rw [run_callFunc_extern hf hname hb hn he]
  change (Sem.run P (do
    let a' ← asAddr (.pointer (some a))
    if ← Extern.Atomic.touchesFrozen a' then unsupported (.unsafePointer "a write to bytes that a string shares")
    let eq ← match Extern.Atomic.T.ptr, ← Extern.Atomic.read .ptr a', Value.pointer p with
      | _, .int _ x, .int _ y => pure (x == y)
      | .ptr, .pointer x, .pointer y => samePointer x y
      | .int _, .pointer (some _), .int _ 0 | .int _, .int _ 0, .pointer (some _) => pure false
      | .int _, .pointer (some _), _ | .int _, _, .pointer (some _) => unsupported .addressObserved
      | _, _, _ => stuck "atomic.CompareAndSwap: old is no T"
    if eq then store a' (.pointer q) .atomic
    pure (Value.bool eq)) w).andThen _ = _
  simp [Extern.Atomic.touchesFrozen, Extern.Atomic.read, asAddr, viewAt, World.shape?_isSome_of_cell? hc, hc, hz, same_ptr, run_store P w a (.pointer q) .atomic rfl, Result.andThen]
/-- '(*T)(p)' of an unsafe pointer to a variable of T in a block of its own: the same address. -/
theorem run_convert_from_unsafe {P : Program} {src dst u : TypeId} (hs : P.underlying src = some .unsafePointer) (hd : P.underlying dst = some (.pointer u)) (hsz : (P.info? u).map (fun i => decide (i.size = 0)) = some false) (hlies : liesAt P P.depth u (1 / P.cellsOf u) 0 u 1 = true)
    {b : Nat} {c : Array Value} {w : World} (h : w.heap[b]? = some (.cells c u (0, 0))) (hc : c.size = 1) : (convert src dst (.pointer (some ⟨b, 0, none⟩))).run P w = .ok (.pointer (some ⟨b, 0, none⟩)) w := by
  have hsh : w.shape? b = some (u, 1) := by
    unfold World.shape?
    simp [h, hc]
  obtain ⟨i, hi, hz0⟩ := Option.map_eq_some_iff.1 hsz
  have hz : i.size ≠ 0 := by simpa using hz0
  simp [convert, run_underlying hs, run_underlying hd, Conv.unsafePointer, Conv.seenAt, viewAt, hsh, variablesAt, hlies, sizeOf, typeInfo, hi, hz]
theorem run_nil_from_unsafe {P : Program} {src dst u : TypeId} (hs : P.underlying src = some .unsafePointer) (hd : P.underlying dst = some (.pointer u)) (w : World) : (convert src dst (.pointer none)).run P w = .ok (.pointer none) w := by
  simp [convert, run_underlying hs, run_underlying hd, Conv.unsafePointer]
theorem run_nil_to_unsafe {P : Program} {src dst u : TypeId} (hs : P.underlying src = some (.pointer u)) (hd : P.underlying dst = some .unsafePointer) (w : World) : (convert src dst (.pointer none)).run P w = .ok (.pointer none) w := by
  simp [convert, run_underlying hs, run_underlying hd, Conv.unsafePointer]
/-- a variable that is a row of pointers to nodes, in a block of its own. -/
def RowBox (w : World) (RB : Nat) (v : Value) : Prop := w.heap[RB]? = some (.cells #[v] 35 (0, 0))
set_option maxRecDepth 20000 in
theorem ptrLoad_any (Q : Nat) (p : Option Addr) (w : World) (hc : w.cell? ⟨Q, 4, none⟩ = some (.pointer p)) (hp : ∀ a, p = some a → ∃ RB v, a = ⟨RB, 0, none⟩ ∧ RowBox w RB v) :
    Calls Tryz.prog 38 #[.pointer (some ⟨Q, 4, none⟩)] w (fun e w' => e = .returned (.pointer p) ∧ w' = w) := by
  have hl := run_call_loadP (P := Tryz.prog) Tryz.func59 (by kernel_rfl) (by kernel_rfl) (by kernel_rfl) (by kernel_rfl) hc
  cases p with
  | none =>
    have hcn := run_nil_from_unsafe (P := Tryz.prog) (src := 89) (dst := 75) Tryz.underlying89 Tryz.underlying75
    go_enter Tryz.func38, Tryz.ntmps38
    go_wp2
    go_ret
    exact ⟨rfl, rfl⟩
  | some a =>
    obtain ⟨RB, v, rfl, hb⟩ := hp a rfl
    have hcv := run_convert_from_unsafe (P := Tryz.prog) (src := 89) (dst := 75) Tryz.underlying89 Tryz.underlying75 (by kernel_rfl) (by kernel_rfl) hb rfl
    clear hp hb
    go_enter Tryz.func38, Tryz.ntmps38
    go_wp2
    exact bodyPost_ret (v := .pointer (some ⟨RB, 0, none⟩)) (by simp [results, Tryz.results38, go_sem]) rfl ⟨rfl, rfl⟩
set_option maxRecDepth 20000 in
theorem ptrCas_any (Q : Nat) (p : Option Addr) (RB : Nat) (v : Value) (w : World) (hc : w.cell? ⟨Q, 4, none⟩ = some (.pointer p)) (hz : w.frozen? ⟨Q, 4, none⟩ = false) (hp : ∀ a, p = some a → ∃ v, w.cell? a = some v) (hb : RowBox w RB v) :
    Calls Tryz.prog 39 #[.pointer (some ⟨Q, 4, none⟩), .pointer p, .pointer (some ⟨RB, 0, none⟩)] w (fun e w' => e = .returned (.bool true) ∧ w' = w.setCell ⟨Q, 4, none⟩ (.pointer (some ⟨RB, 0, none⟩))) := by
  have hl := run_call_casP (P := Tryz.prog) Tryz.func60 (by kernel_rfl) (by kernel_rfl) (by kernel_rfl) (by kernel_rfl) (q := some ⟨RB, 0, none⟩) hc hz
  have hcv := run_convert_to_unsafe (P := Tryz.prog) (src := 75) (dst := 89) Tryz.underlying75 Tryz.underlying89 (by kernel_rfl) (cell_of hb 0)
  cases p with
  | none =>
    have hcn := run_nil_to_unsafe (P := Tryz.prog) (src := 75) (dst := 89) Tryz.underlying75 Tryz.underlying89
    clear hp hb
    go_enter Tryz.func39, Tryz.ntmps39
    go_wp2
    go_ret
    exact ⟨rfl, rfl⟩
  | some a =>
    obtain ⟨v', hv'⟩ := hp a rfl
    have hcv2 := run_convert_to_unsafe (P := Tryz.prog) (src := 75) (dst := 89) Tryz.underlying75 Tryz.underlying89 (by kernel_rfl) hv'
    clear hp hb
    go_enter Tryz.func39, Tryz.ntmps39
    go_wp2
    exact bodyPost_ret (v := .bool true) (by simp [results, Tryz.results39, go_sem]) rfl ⟨rfl, rfl⟩
end Go.Proofs.YtjiiokhjajfhjaaGreat
