/- avljoin: its sides, the turns, hang, Join, Most. -/
import Derived.Test.YtmpglinomjmogaaJoinLaw
import Derived.Test.YtmpglinomjmogaaDraw
namespace Go.Proofs.Ytmpglinomjmogaa
open Go Go.RowKit

/-- the functions of a side, as the code tells them. -/
def inF (s : Bool) : Nat := if s then 46 else 47
def outF (s : Bool) : Nat := if s then 47 else 46
def mkF (s : Bool) : Nat := if s then 48 else 51
def sideV (s : Bool) : Value := .agg #[.func (.func (inF s)) #[] #[], .func (.func (outF s)) #[] #[], .func (.func (mkF s)) #[] #[]]
theorem call_in (s : Bool) (a : Array Value) (w : World) : (callFunc (inF s) a).run Try.prog w = .ok (.enter (inF s) a) w := by cases s <;> kernel_rfl
theorem call_out (s : Bool) (a : Array Value) (w : World) : (callFunc (outF s) a).run Try.prog w = .ok (.enter (outF s) a) w := by cases s <;> kernel_rfl
theorem call_mk (s : Bool) (a : Array Value) (w : World) : (callFunc (mkF s) a).run Try.prog w = .ok (.enter (mkF s) a) w := by cases s <;> kernel_rfl
theorem inS_any (s : Bool) (w : World) (t : Tr) (ht : InH w t) : Calls Try.prog (inF s) #[.pointer t.ptr] w (Ret (.pointer (inOf s t).ptr) w) := by
  cases s
  · exact right_any w t ht
  · exact left_any w t ht
theorem outS_any (s : Bool) (w : World) (t : Tr) (ht : InH w t) : Calls Try.prog (outF s) #[.pointer t.ptr] w (Ret (.pointer (outOf s t).ptr) w) := by
  cases s
  · exact left_any w t ht
  · exact right_any w t ht
theorem in_ok {w : World} {s : Bool} {t : Tr} (h : InH w t) : InH w (inOf s t) := by
  cases s
  · exact right_ok h
  · exact left_ok h
theorem out_ok {w : World} {s : Bool} {t : Tr} (h : InH w t) : InH w (outOf s t) := by
  cases s
  · exact left_ok h
  · exact right_ok h
set_option maxHeartbeats 400000 in
theorem right1_any (w : World) (i p o : Tr) (hi : InH w i) (hp : InH w p) (ho : InH w o) : Calls Try.prog 48 #[.pointer i.ptr, .pointer p.ptr, .pointer o.ptr] w (New i p.key p.val (avlTag i o) o w) := by
  go_enter Try.func48, Try.ntmps48
  go_wp2_with fail
  refine (key_any _ p hp).mono ?_
  rintro e w1 ⟨rfl, h1⟩
  go_wp2_with fail
  refine (val_any _ p (hp.ext h1)).mono ?_
  rintro e w2 ⟨rfl, h2⟩
  have h := h1.trans h2
  go_wp2_with fail
  refine (avlMake_any _ i o p.key p.val (hi.ext h) (ho.ext h)).mono ?_
  rintro e w3 ⟨b, rfl, hb, ht, h3⟩
  go_wp2
  go_ret
  exact ⟨b, rfl, Nat.le_trans h.size hb, ht, h.trans h3⟩
set_option maxHeartbeats 400000 in
theorem left1_any (w : World) (i p o : Tr) (hi : InH w i) (hp : InH w p) (ho : InH w o) : Calls Try.prog 51 #[.pointer i.ptr, .pointer p.ptr, .pointer o.ptr] w (New o p.key p.val (avlTag o i) i w) := by
  go_enter Try.func51, Try.ntmps51
  go_wp2_with fail
  refine (key_any _ p hp).mono ?_
  rintro e w1 ⟨rfl, h1⟩
  go_wp2_with fail
  refine (val_any _ p (hp.ext h1)).mono ?_
  rintro e w2 ⟨rfl, h2⟩
  have h := h1.trans h2
  go_wp2_with fail
  refine (avlMake_any _ o i p.key p.val (ho.ext h) (hi.ext h)).mono ?_
  rintro e w3 ⟨b, rfl, hb, ht, h3⟩
  go_wp2
  go_ret
  exact ⟨b, rfl, Nat.le_trans h.size hb, ht, h.trans h3⟩
/-- a new node of a side. -/
def NewS (s : Bool) (i : Tr) (k v : Int) (o : Tr) (w : World) (e : Ending) (w' : World) : Prop :=
  ∃ b, e = .returned (.pointer (mkN s b i k v (avlTag i o) o).ptr) ∧ w.heap.size ≤ b ∧ InH w' (mkN s b i k v (avlTag i o) o) ∧ Ext w w'
theorem mkS_any (s : Bool) (w : World) (i p o : Tr) (hi : InH w i) (hp : InH w p) (ho : InH w o) : Calls Try.prog (mkF s) #[.pointer i.ptr, .pointer p.ptr, .pointer o.ptr] w (NewS s i p.key p.val o w) := by
  cases s
  · refine (left1_any w i p o hi hp ho).mono ?_
    rintro e w1 ⟨b, h1, h2, h3, h4⟩
    rw [avlTag_comm] at h1 h3
    exact ⟨b, h1, h2, h3, h4⟩
  · exact right1_any w i p o hi hp ho
/-- what a turn inward hands back. -/
def Inw (s : Bool) (t : Tr) (w : World) (e : Ending) (w' : World) : Prop :=
  ∃ b3 b4 T3 T4, e = .returned (.pointer (T4 : Tr).ptr) ∧ w.heap.size ≤ b3 ∧ w.heap.size ≤ b4 ∧
    T3 = mkN s b3 (inOf s t) t.key t.val (avlTag (inOf s t) (inOf s (outOf s t))) (inOf s (outOf s t)) ∧
    T4 = mkN s b4 T3 (outOf s t).key (outOf s t).val (avlTag T3 (outOf s (outOf s t))) (outOf s (outOf s t)) ∧ InH w' T4 ∧ Ext w w'
set_option maxHeartbeats 1000000 in
theorem inward_any (s : Bool) (w : World) (t : Tr) (ht : InH w t) : Calls Try.prog 49 #[sideV s, .pointer t.ptr] w (Inw s t w) := by
  have hfn : ∀ f, Fence.wide.fn f := fun _ => trivial
  unfold sideV
  have hci := call_in s
  have hco := call_out s
  have hcm := call_mk s
  have hbox := alloc_at w (.cells #[.func (.func (inF s)) #[] #[], .func (.func (outF s)) #[] #[], .func (.func (mkF s)) #[] #[]] 58) _ rfl
  have hE := (Ext.refl w).alloc (.cells #[.func (.func (inF s)) #[] #[], .func (.func (outF s)) #[] #[], .func (.func (mkF s)) #[] #[]] 58)
  go_enter Try.func49, Try.ntmps49
  obtain ⟨m⟩ : Nonempty Nat := ⟨0⟩
  refine (wpIn_wide (n := m)).1 ?_
  gi_wp2_with fail
  generalize w.alloc (.cells #[.func (.func (inF s)) #[] #[], .func (.func (outF s)) #[] #[], .func (.func (mkF s)) #[] #[]] 58) = w1 at *
  refine ⟨wide_room _, (callsIn_wide.2 (outS_any s w1 t (ht.ext hE))).mono ?_⟩
  rintro e w2 ⟨rfl, h2⟩
  have hb2 := (h2.block _ (lt_of hbox)).trans hbox
  have hE2 := hE.trans h2
  have HT := Lib.hid (ht.ext hE2)
  clear hbox hE h2 ht
  gi_wp2_with fail
  have hc0 := cell_all (cell_of hb2 0)
  have hc1 := cell_all (cell_of hb2 1)
  have hc2 := cell_all (cell_of hb2 2)
  have hx := Ext.drew w2
  clear hb2
  refine wpIn_region_G (fun j => !(List.contains (α := Nat) [19] j)) (by kernel_rfl) ?_
  refine batchG hfn (fuel := 6) [0, 1, 2, 3, 4, 5, 6, 8, 9, 10, 11, 14, 15, 16, 17] (by kernel_rfl) rfl ?_
  repeat (go_big_quiet_step ((fail)))
  refine wpQuiet_nil ?_
  refine wpAnyG_one (j := 7) (by kernel_rfl) rfl ?_
  gi_wp2_with fail
  refine ⟨wide_room _, (callsIn_wide.2 (inS_any s _ t (HT.out.ext hx))).mono ?_⟩
  rintro e w3 ⟨rfl, h3⟩
  gi_wp2_with fail
  refine onePost_ext (h3) ?_
  have h23 := hx.trans h3
  refine wpAnyG_one (j := 12) (by kernel_rfl) rfl ?_
  gi_wp2_with fail
  refine ⟨wide_room _, (callsIn_wide.2 (inS_any s _ (outOf s t) (out_ok (HT.out.ext h23)))).mono ?_⟩
  rintro e w4 ⟨rfl, h4⟩
  gi_wp2_with fail
  refine onePost_ext (h4) ?_
  have h24 := h23.trans h4
  refine wpAnyG_one (j := 13) (by kernel_rfl) rfl ?_
  gi_wp2_with fail
  refine ⟨wide_room _, (callsIn_wide.2 (mkS_any s _ (inOf s t) t (inOf s (outOf s t)) (in_ok (HT.out.ext h24)) (HT.out.ext h24) (in_ok (out_ok (HT.out.ext h24))))).mono ?_⟩
  rintro e w5 ⟨b3, rfl, hb3, hT3, h5⟩
  obtain ⟨T3, e3⟩ : ∃ T3, T3 = mkN s b3 (inOf s t) t.key t.val (avlTag (inOf s t) (inOf s (outOf s t))) (inOf s (outOf s t)) := ⟨_, rfl⟩
  rw [← e3] at hT3 ⊢
  have E3 := Lib.hid e3
  clear e3
  gi_wp2_with fail
  refine onePost_ext (h5) ?_
  have h25 := h24.trans h5
  refine wpAnyG_one (j := 18) (by kernel_rfl) rfl ?_
  gi_wp2_with fail
  refine ⟨wide_room _, (callsIn_wide.2 (outS_any s _ (outOf s t) (out_ok (HT.out.ext h25)))).mono ?_⟩
  rintro e w6 ⟨rfl, h6⟩
  gi_wp2_with fail
  refine onePost_ext (h6) ?_
  have h26 := h25.trans h6
  refine wpAnyG_one (j := 19) (by kernel_rfl) rfl ?_
  gi_wp2_with fail
  refine ⟨wide_room _, (callsIn_wide.2 (mkS_any s _ T3 (outOf s t) (outOf s (outOf s t)) (hT3.ext h6) (out_ok (HT.out.ext h26)) (out_ok (out_ok (HT.out.ext h26))))).mono ?_⟩
  rintro e w7 ⟨b4, rfl, hb4, hT4, h7⟩
  gi_wp2_with fail
  refine onePost_any (by kernel_rfl) ?_
  refine batchG hfn (fuel := 0) [20] (by kernel_rfl) rfl ?_
  repeat (go_big_quiet_step ((fail)))
  refine wpQuiet_nil ?_
  refine wpAnyG_done (by kernel_rfl) ?_
  refine calmQ_normal ?_
  gi_wp2
  go_ret
  exact ⟨b3, b4, T3, _, rfl, Nat.le_trans hE2.size (Nat.le_trans h24.size hb3), Nat.le_trans hE2.size (Nat.le_trans h26.size hb4), E3.out, rfl, hT4, hE2.trans (h26.trans h7)⟩
/-- what a turn outward hands back. -/
def Outw (s : Bool) (t : Tr) (w : World) (e : Ending) (w' : World) : Prop :=
  ∃ b3 b4 T3 T4, e = .returned (.pointer (T4 : Tr).ptr) ∧ w.heap.size ≤ b3 ∧ w.heap.size ≤ b4 ∧
    T3 = mkN s b3 (outOf s (inOf s t)) t.key t.val (avlTag (outOf s (inOf s t)) (outOf s t)) (outOf s t) ∧
    T4 = mkN s b4 (inOf s (inOf s t)) (inOf s t).key (inOf s t).val (avlTag (inOf s (inOf s t)) T3) T3 ∧ InH w' T4 ∧ Ext w w'
set_option maxHeartbeats 1000000 in
theorem outward_any (s : Bool) (w : World) (t : Tr) (ht : InH w t) : Calls Try.prog 50 #[sideV s, .pointer t.ptr] w (Outw s t w) := by
  have hfn : ∀ f, Fence.wide.fn f := fun _ => trivial
  unfold sideV
  have hci := call_in s
  have hco := call_out s
  have hcm := call_mk s
  have hbox := alloc_at w (.cells #[.func (.func (inF s)) #[] #[], .func (.func (outF s)) #[] #[], .func (.func (mkF s)) #[] #[]] 58) _ rfl
  have hE := (Ext.refl w).alloc (.cells #[.func (.func (inF s)) #[] #[], .func (.func (outF s)) #[] #[], .func (.func (mkF s)) #[] #[]] 58)
  go_enter Try.func50, Try.ntmps50
  obtain ⟨m⟩ : Nonempty Nat := ⟨0⟩
  refine (wpIn_wide (n := m)).1 ?_
  gi_wp2_with fail
  generalize w.alloc (.cells #[.func (.func (inF s)) #[] #[], .func (.func (outF s)) #[] #[], .func (.func (mkF s)) #[] #[]] 58) = w1 at *
  refine ⟨wide_room _, (callsIn_wide.2 (inS_any s w1 t (ht.ext hE))).mono ?_⟩
  rintro e w2 ⟨rfl, h2⟩
  have hb2 := (h2.block _ (lt_of hbox)).trans hbox
  have hE2 := hE.trans h2
  have HT := Lib.hid (ht.ext hE2)
  clear hbox hE h2 ht
  gi_wp2_with fail
  have hc0 := cell_all (cell_of hb2 0)
  have hc1 := cell_all (cell_of hb2 1)
  have hc2 := cell_all (cell_of hb2 2)
  have hx := Ext.drew w2
  clear hb2
  refine wpIn_region_G (fun j => !(List.contains (α := Nat) [19] j)) (by kernel_rfl) ?_
  refine batchG hfn (fuel := 6) [0, 1, 2, 3, 4, 6, 7, 8, 9, 10, 11, 13, 14, 15, 16] (by kernel_rfl) rfl ?_
  repeat (go_big_quiet_step ((fail)))
  refine wpQuiet_nil ?_
  refine wpAnyG_one (j := 5) (by kernel_rfl) rfl ?_
  gi_wp2_with fail
  refine ⟨wide_room _, (callsIn_wide.2 (inS_any s _ (inOf s t) (in_ok (HT.out.ext hx)))).mono ?_⟩
  rintro e w3 ⟨rfl, h3⟩
  gi_wp2_with fail
  refine onePost_ext (h3) ?_
  have h23 := hx.trans h3
  refine wpAnyG_one (j := 12) (by kernel_rfl) rfl ?_
  gi_wp2_with fail
  refine ⟨wide_room _, (callsIn_wide.2 (outS_any s _ (inOf s t) (in_ok (HT.out.ext h23)))).mono ?_⟩
  rintro e w4 ⟨rfl, h4⟩
  gi_wp2_with fail
  refine onePost_ext (h4) ?_
  have h24 := h23.trans h4
  refine wpAnyG_one (j := 17) (by kernel_rfl) rfl ?_
  gi_wp2_with fail
  refine ⟨wide_room _, (callsIn_wide.2 (outS_any s _ t (HT.out.ext h24))).mono ?_⟩
  rintro e w5 ⟨rfl, h5⟩
  gi_wp2_with fail
  refine onePost_ext (h5) ?_
  have h25 := h24.trans h5
  refine wpAnyG_one (j := 18) (by kernel_rfl) rfl ?_
  gi_wp2_with fail
  refine ⟨wide_room _, (callsIn_wide.2 (mkS_any s _ (outOf s (inOf s t)) t (outOf s t) (out_ok (in_ok (HT.out.ext h25))) (HT.out.ext h25) (out_ok (HT.out.ext h25)))).mono ?_⟩
  rintro e w6 ⟨b3, rfl, hb3, hT3, h6⟩
  obtain ⟨T3, e3⟩ : ∃ T3, T3 = mkN s b3 (outOf s (inOf s t)) t.key t.val (avlTag (outOf s (inOf s t)) (outOf s t)) (outOf s t) := ⟨_, rfl⟩
  rw [← e3] at hT3 ⊢
  have E3 := Lib.hid e3
  clear e3
  gi_wp2_with fail
  refine onePost_ext (h6) ?_
  have h26 := h25.trans h6
  refine wpAnyG_one (j := 19) (by kernel_rfl) rfl ?_
  gi_wp2_with fail
  refine ⟨wide_room _, (callsIn_wide.2 (mkS_any s _ (inOf s (inOf s t)) (inOf s t) T3 (in_ok (in_ok (HT.out.ext h26))) (in_ok (HT.out.ext h26)) hT3)).mono ?_⟩
  rintro e w7 ⟨b4, rfl, hb4, hT4, h7⟩
  gi_wp2_with fail
  refine onePost_any (by kernel_rfl) ?_
  refine batchG hfn (fuel := 0) [20] (by kernel_rfl) rfl ?_
  repeat (go_big_quiet_step ((fail)))
  refine wpQuiet_nil ?_
  refine wpAnyG_done (by kernel_rfl) ?_
  refine calmQ_normal ?_
  gi_wp2
  go_ret
  exact ⟨b3, b4, T3, _, rfl, Nat.le_trans hE2.size (Nat.le_trans h25.size hb3), Nat.le_trans hE2.size (Nat.le_trans h26.size hb4), E3.out, rfl, hT4, hE2.trans (h26.trans h7)⟩
end Go.Proofs.Ytmpglinomjmogaa
