/- wbjoin: its sides, make, once, twice. -/
import Derived.Test.YtpfkolmnejandaaWbJoinLaw
import Derived.Test.YtpfkolmnejandaaDraw
namespace Go.Proofs.Ytpfkolmnejandaa
open Go Go.RowKit

/-- a side, as the code tells it. -/
def sideV (s : Bool) : Value := .int .i64 (if s then 1 else 0)
theorem pset2 {w : World} {N : Nat} {T : TypeId} {a0 a1 : Value} (h : w.heap[N]? = some (.cells #[a0, a1] T (0, 0))) (b0 b1 : Value) :
    ((w.setCell ⟨N, 0, none⟩ b0).setCell ⟨N, 1, none⟩ b1).heap[N]? = some (.cells #[b0, b1] T (0, 0)) := by
  simp [World.setCell, Array.getElem?_modify, h]
theorem pext {w w1 : World} (h : Ext w w1) (j : Nat) (u : Value) : Ext w (w1.setCell ⟨w.heap.size, j, none⟩ u) := Below.setCell (B := w.heap.size) h (Nat.le_refl _) u
theorem pload2 {w : World} {N : Nat} {a b : Option Addr} (hh : w.heap[N]? = some (.cells #[.pointer a, .pointer b] 86 (0, 0))) : (loadVar 86 ⟨N, 0, none⟩).run Try.prog w = .ok (.agg #[.pointer a, .pointer b]) w := by
  refine run_loadVar_mid w N 0 _ [.pointer a, .pointer b] _ (fun j v hj => ?_) Try.underlying86 rfl (by kernel_rfl)
  rw [Nat.zero_add, cell_of hh j]
  simpa using hj
theorem presults {fn : Func} {p : Tmp} {ty : TypeId} (h : fn.results = #[.cell p ty]) (tmps : Array Value) (w : World) {x : Value} {a : Addr} (hp : tmps.getD p undef = .pointer (some a))
    (hl : (loadVar ty a).run Try.prog w = .ok x w) : (results fn tmps).run Try.prog w = .ok x w := by
  simp only [Array.getD_eq_getD_getElem?] at hp
  simp [results, h, hp, hl, asAddr]
theorem pindex0 (a b : Option Addr) (w : World) : (Instr.index 86 (.agg #[.pointer a, .pointer b]) (.int .i64 0)).run Try.prog w = .ok (.pointer a) w := by kernel_rfl
theorem pindex1 (a b : Option Addr) (w : World) : (Instr.index 86 (.agg #[.pointer a, .pointer b]) (.int .i64 1)).run Try.prog w = .ok (.pointer b) w := by kernel_rfl
theorem wbOf_any (w : World) (t : Tr) (ht : InH w t) : Calls Try.prog 57 #[.pointer t.ptr] w (Ret (.agg #[.pointer t.left.ptr, .pointer t.right.ptr]) w) := by
  have hnew := alloc_at w (.cells #[.pointer none, .pointer none] 86) _ rfl
  have hE := (Ext.refl w).alloc (.cells #[.pointer none, .pointer none] 86)
  go_enter Try.func57, Try.ntmps57
  go_wp2_with fail
  refine (left_any _ t (ht.ext hE)).mono ?_
  rintro e w1 ⟨rfl, h1⟩
  go_wp2_with fail
  refine (right_any _ t (ht.ext (hE.trans h1))).mono ?_
  rintro e w2 ⟨rfl, h2⟩
  have h02 := h1.trans h2
  have hnew2 := (h02.block _ (lt_of hnew)).trans hnew
  have hE2 := hE.trans h02
  have hn0 := cell_of hnew2 0
  have hn1 := cell_of hnew2 1
  have hf0 := frozen_of hnew2 0
  have hf1 := frozen_of hnew2 1
  simp at hn0 hn1
  clear hE hnew h1 h2 h02
  go_wp2
  exact bodyPost_ret (presults rfl _ _ rfl (pload2 (pset2 hnew2 _ _))) rfl (Ret.mk (pext (pext hE2 0 _) 1 _))
theorem wbAt_any (s : Bool) (w : World) (t : Tr) (ht : InH w t) : Calls Try.prog 50 #[sideV s, .pointer t.ptr] w (Ret (.pointer (outOf s t).ptr) w) := by
  have hi0 := pindex0
  have hi1 := pindex1
  unfold sideV
  cases s
  · rw [if_neg (by simp)]
    go_enter Try.func50, Try.ntmps50
    go_wp2_with fail
    refine (wbOf_any w t ht).mono ?_
    rintro e w1 ⟨rfl, h1⟩
    go_wp2
    go_ret
    exact Ret.mk h1
  · rw [if_pos rfl]
    go_enter Try.func50, Try.ntmps50
    go_wp2_with fail
    refine (wbOf_any w t ht).mono ?_
    rintro e w1 ⟨rfl, h1⟩
    go_wp2
    go_ret
    exact Ret.mk h1
theorem wbOther_any (s : Bool) (w : World) : Calls Try.prog 49 #[sideV s] w (Ret (sideV (!s)) w) := by
  unfold sideV
  cases s
  · go_enter Try.func49, Try.ntmps49
    go_wp2
    go_ret
    exact Ret.mk (Ext.refl w)
  · go_enter Try.func49, Try.ntmps49
    go_wp2
    go_ret
    exact Ret.mk (Ext.refl w)
/-- a new node of a side. -/
def NewW (s : Bool) (i : Tr) (k v : Int) (o : Tr) (w : World) (e : Ending) (w' : World) : Prop :=
  ∃ b, e = .returned (.pointer (mkN s b i k v 0 o).ptr) ∧ w.heap.size ≤ b ∧ InH w' (mkN s b i k v 0 o) ∧ Ext w w'
theorem wbOtherL (w : World) : Calls Try.prog 49 #[.int .i64 0] w (Ret (.int .i64 1) w) := wbOther_any false w
theorem wbOtherR (w : World) : Calls Try.prog 49 #[.int .i64 1] w (Ret (.int .i64 0) w) := wbOther_any true w
set_option maxHeartbeats 1000000 in
theorem wbMk_any (s : Bool) (w : World) (i p o : Tr) (hi : InH w i) (hp : InH w p) (ho : InH w o) : Calls Try.prog 48 #[sideV s, .pointer i.ptr, .pointer p.ptr, .pointer o.ptr] w (NewW s i p.key p.val o w) := by
  have hfn : ∀ f, Fence.wide.fn f := fun _ => trivial
  have hb := alloc_at w (.cells #[.pointer i.ptr, .pointer o.ptr] 86) _ rfl
  have hE2 := (Ext.refl w).alloc (.cells #[.pointer i.ptr, .pointer o.ptr] 86)
  cases s
  · unfold sideV
    rw [if_neg (by simp)]
    go_enter Try.func48, Try.ntmps48
    obtain ⟨m⟩ : Nonempty Nat := ⟨0⟩
    refine (wpIn_wide (n := m)).1 ?_
    gi_wp2_with fail
    generalize w.alloc (.cells #[.pointer i.ptr, .pointer o.ptr] 86) = w1 at *
    have hc0 := cell_all (cell_of hb 0)
    have hc1 := cell_all (cell_of hb 1)
    have hx := Ext.drew w1
    refine wpIn_region_G (fun j => !(List.contains (α := Nat) [11] j)) (by kernel_rfl) ?_
    refine batchG hfn (fuel := 7) [0, 4, 6, 8, 9, 10] (by kernel_rfl) rfl ?_
    repeat (go_big_quiet_step ((fail)))
    refine wpQuiet_nil ?_
    refine wpAnyG_one (j := 1) (by kernel_rfl) rfl ?_
    gi_wp2_with fail
    refine ⟨wide_room _, (callsIn_wide.2 (wbOtherL _)).mono ?_⟩
    rintro e w2 ⟨rfl, h2⟩
    gi_wp2_with fail
    refine onePost_ext (h2) ?_
    have h12 := hx.trans h2
    refine batchG hfn (fuel := 4) [2, 3] (by kernel_rfl) rfl ?_
    repeat (go_big_quiet_step ((fail)))
    refine wpQuiet_nil ?_
    refine wpAnyG_one (j := 5) (by kernel_rfl) rfl ?_
    gi_wp2_with fail
    refine ⟨wide_room _, (callsIn_wide.2 (key_any _ p (hp.ext (hE2.trans h12)))).mono ?_⟩
    rintro e w3 ⟨rfl, h3⟩
    gi_wp2_with fail
    refine onePost_ext (h3) ?_
    have h13 := h12.trans h3
    refine wpAnyG_one (j := 7) (by kernel_rfl) rfl ?_
    gi_wp2_with fail
    refine ⟨wide_room _, (callsIn_wide.2 (val_any _ p (hp.ext (hE2.trans h13)))).mono ?_⟩
    rintro e w4 ⟨rfl, h4⟩
    gi_wp2_with fail
    refine onePost_ext (h4) ?_
    have h14 := h13.trans h4
    refine wpAnyG_one (j := 11) (by kernel_rfl) rfl ?_
    gi_wp2_with fail
    refine ⟨wide_room _, (callsIn_wide.2 (wbMake_any _ o i p.key p.val (ho.ext (hE2.trans h14)) (hi.ext (hE2.trans h14)))).mono ?_⟩
    rintro e w5 ⟨bn, rfl, hbn, hT, h5⟩
    gi_wp2_with fail
    refine onePost_any (by kernel_rfl) ?_
    refine batchG hfn (fuel := 0) [12] (by kernel_rfl) rfl ?_
    repeat (go_big_quiet_step ((fail)))
    refine wpQuiet_nil ?_
    refine wpAnyG_done (by kernel_rfl) ?_
    refine calmQ_normal ?_
    gi_wp2
    go_ret
    exact ⟨bn, rfl, Nat.le_trans (hE2.trans h14).size hbn, hT, (hE2.trans h14).trans h5⟩
  · unfold sideV
    rw [if_pos rfl]
    go_enter Try.func48, Try.ntmps48
    obtain ⟨m⟩ : Nonempty Nat := ⟨0⟩
    refine (wpIn_wide (n := m)).1 ?_
    gi_wp2_with fail
    generalize w.alloc (.cells #[.pointer i.ptr, .pointer o.ptr] 86) = w1 at *
    have hc0 := cell_all (cell_of hb 0)
    have hc1 := cell_all (cell_of hb 1)
    have hx := Ext.drew w1
    refine wpIn_region_G (fun j => !(List.contains (α := Nat) [11] j)) (by kernel_rfl) ?_
    refine batchG hfn (fuel := 7) [0, 4, 6, 8, 9, 10] (by kernel_rfl) rfl ?_
    repeat (go_big_quiet_step ((fail)))
    refine wpQuiet_nil ?_
    refine wpAnyG_one (j := 1) (by kernel_rfl) rfl ?_
    gi_wp2_with fail
    refine ⟨wide_room _, (callsIn_wide.2 (wbOtherR _)).mono ?_⟩
    rintro e w2 ⟨rfl, h2⟩
    gi_wp2_with fail
    refine onePost_ext (h2) ?_
    have h12 := hx.trans h2
    refine batchG hfn (fuel := 4) [2, 3] (by kernel_rfl) rfl ?_
    repeat (go_big_quiet_step ((fail)))
    refine wpQuiet_nil ?_
    refine wpAnyG_one (j := 5) (by kernel_rfl) rfl ?_
    gi_wp2_with fail
    refine ⟨wide_room _, (callsIn_wide.2 (key_any _ p (hp.ext (hE2.trans h12)))).mono ?_⟩
    rintro e w3 ⟨rfl, h3⟩
    gi_wp2_with fail
    refine onePost_ext (h3) ?_
    have h13 := h12.trans h3
    refine wpAnyG_one (j := 7) (by kernel_rfl) rfl ?_
    gi_wp2_with fail
    refine ⟨wide_room _, (callsIn_wide.2 (val_any _ p (hp.ext (hE2.trans h13)))).mono ?_⟩
    rintro e w4 ⟨rfl, h4⟩
    gi_wp2_with fail
    refine onePost_ext (h4) ?_
    have h14 := h13.trans h4
    refine wpAnyG_one (j := 11) (by kernel_rfl) rfl ?_
    gi_wp2_with fail
    refine ⟨wide_room _, (callsIn_wide.2 (wbMake_any _ i o p.key p.val (hi.ext (hE2.trans h14)) (ho.ext (hE2.trans h14)))).mono ?_⟩
    rintro e w5 ⟨bn, rfl, hbn, hT, h5⟩
    gi_wp2_with fail
    refine onePost_any (by kernel_rfl) ?_
    refine batchG hfn (fuel := 0) [12] (by kernel_rfl) rfl ?_
    repeat (go_big_quiet_step ((fail)))
    refine wpQuiet_nil ?_
    refine wpAnyG_done (by kernel_rfl) ?_
    refine calmQ_normal ?_
    gi_wp2
    go_ret
    exact ⟨bn, rfl, Nat.le_trans (hE2.trans h14).size hbn, hT, (hE2.trans h14).trans h5⟩
end Go.Proofs.Ytpfkolmnejandaa
