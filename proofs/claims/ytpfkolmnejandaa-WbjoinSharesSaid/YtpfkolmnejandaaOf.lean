/- joineryref09.Of and Node. -/
import Derived.Test.YtpfkolmnejandaaOwn
namespace Go.Proofs.Ytpfkolmnejandaa
open Go Go.RowKit

theorem BT.of_isNil : ∀ t : BT, t.of.isNil = t.isNil
  | .nil => rfl
  | .node .. => rfl
theorem BT.of_len : ∀ t : BT, t.of.enc.length = t.enc.length
  | .nil => rfl
  | .node k v s n g l r => by simp [BT.of, BT.enc, BT.of_len l, BT.of_len r]
/-- a row that is the call's own. -/
def GivesRow (zs : List BeadL) (w : World) (e : Ending) (w' : World) : Prop := ∃ v, e = .returned v ∧ Own w.heap.size w' v zs ∧ Ext w w'
set_option maxHeartbeats 1000000 in
theorem of_any (t : BT) : ∀ (w : World) (p : Value), Beads w p t.enc → t.enc.length ≤ 2000 →
    Calls Try.prog 9 #[p] w (GivesRow t.of.enc w) := by
  have hfn : ∀ f, Fence.wide.fn f := fun _ => trivial
  induction t with
  | nil =>
    intro w p hb hl
    obtain ⟨a, c, rfl⟩ := beads_slice hb
    rw [show BT.nil.enc.length = 0 from rfl]
    clear hb hl
    go_enter Try.func9, Try.ntmps9
    go_wp2
    go_ret
    exact ⟨_, rfl, Own.nil _ _, Ext.refl _⟩
  | node k v s n g l r ihl ihr =>
    intro w p hb hl
    have hp := parts_any w p k v s n g l r hb hl
    have hs := fun (w : World) (h : Beads w p (BT.node k v s n g l r).enc) => sum09_any w p _ h hl
    have hlen : (BT.node k v s n g l r).enc.length = 1 + l.enc.length + r.enc.length := by simp [BT.enc]; omega
    have IHl := Lib.hid ihl
    have IHr := Lib.hid ihr
    have HS := Lib.hid hs
    have HLL := Lib.hid (show l.enc.length ≤ 2000 by omega)
    have HLR := Lib.hid (show r.enc.length ≤ 2000 by omega)
    have h1 : 1 ≤ (BT.node k v s n g l r).enc.length := by omega
    have HOF : Hid ((BT.node k v s n g l r).of.enc = ⟨k, v, sumL (BT.node k v s n g l r).enc, (BT.node k v s n g l r).enc.length, g, !l.isNil, !r.isNil⟩ :: (l.of.enc ++ r.of.enc)) := Lib.hid (by
      show BeadL.mk _ _ _ _ _ (!l.of.isNil) (!r.of.isNil) :: _ = _
      rw [BT.of_isNil, BT.of_isNil])
    have HB := Lib.hid hb
    obtain ⟨a, c, rfl⟩ := beads_slice hb
    have HP := Lib.hid hp
    have HLEN := Lib.hid hlen
    clear hb hp hlen ihl ihr hs
    obtain ⟨OF, hOF⟩ : ∃ OF, OF = (BT.node k v s n g l r).of.enc := ⟨_, rfl⟩
    rw [← hOF] at HOF ⊢
    clear hOF
    generalize hZS : (BT.node k v s n g l r).enc = ZS at *
    have HZS := Lib.hid hZS
    clear hZS
    generalize hSS : sumL ZS = SS at *
    clear hSS
    generalize hL : ZS.length = LL at *
    have HL := Lib.hid hL
    clear hL
    go_enter Try.func9, Try.ntmps9
    obtain ⟨m⟩ : Nonempty Nat := ⟨0⟩
    refine (wpIn_wide (n := m)).1 ?_
    gi_wp2_with fail
    refine ⟨wide_room _, (callsIn_wide.2 (HP.out)).mono ?_⟩
    rintro e w1 ⟨v1, v2, rfl, hv1, hv2, hE⟩
    gi_wp2_with fail
    have hnew := alloc_at w1 (.cells #[.int .i64 k, .int .i64 v, .int .i64 s, .int .i64 LL, .int .u64 g, .bool (!l.isNil), .bool (!r.isNil)] 47) _ rfl
    have hE2 := (Ext.refl w1).alloc (.cells #[.int .i64 k, .int .i64 v, .int .i64 s, .int .i64 LL, .int .u64 g, .bool (!l.isNil), .bool (!r.isNil)] 47)
    generalize w1.alloc (.cells #[.int .i64 k, .int .i64 v, .int .i64 s, .int .i64 LL, .int .u64 g, .bool (!l.isNil), .bool (!r.isNil)] 47) = w2 at *
    refine ⟨wide_room _, (callsIn_wide.2 (HS.out w2 (HB.out.ext (hE.trans hE2)))).mono ?_⟩
    rintro e w3 ⟨rfl, h3⟩
    have hnew3 := (h3.block w1.heap.size (lt_of hnew)).trans hnew
    have hc2 := cell_of hnew3 2
    have hf2 := frozen_of hnew3 2
    simp at hc2
    have hw3 := hE2.trans h3
    gi_wp2_with fail
    have hw4 : Ext w1 (w3.setCell ⟨w1.heap.size, 2, none⟩ (.int .i64 SS)) := Ext.put hw3 2 _
    have hnew4 : (w3.setCell ⟨w1.heap.size, 2, none⟩ (.int .i64 SS)).heap[w1.heap.size]? = some (.cells #[.int .i64 k, .int .i64 v, .int .i64 SS, .int .i64 LL, .int .u64 g, .bool (!l.isNil), .bool (!r.isNil)] 47 (0, 0)) := by
      simp [World.setCell, Array.getElem?_modify, hnew3]
    generalize w3.setCell ⟨w1.heap.size, 2, none⟩ (.int .i64 SS) = w4 at *
    have h01 : Ext w w1 := hE
    have h14 : Ext w1 w4 := hw4
    have HV1 := Lib.hid (hv1.ext hw4)
    have HV2 := Lib.hid hv2
    clear hv1 hv2 hE hE2 hw3 h3 hnew hnew3 hc2 hf2 hw4
    have hc0 := cell_all (cell_of hnew4 0)
    have hc1 := cell_all (cell_of hnew4 1)
    have hc2 := cell_all (cell_of hnew4 2)
    have hc3 := cell_all (cell_of hnew4 3)
    have hc4 := cell_all (cell_of hnew4 4)
    have hc5 := cell_all (cell_of hnew4 5)
    have hc6 := cell_all (cell_of hnew4 6)
    have hx := Ext.drew w4
    clear hnew4
    refine wpIn_region_G (fun j => !(List.contains (α := Nat) [4] j)) (by kernel_rfl) ?_
    refine batchG hfn (fuel := 4) [0, 2] (by kernel_rfl) rfl ?_
    repeat (go_big_quiet_step ((fail)))
    refine wpQuiet_nil ?_
    refine wpAnyG_two (j := 1) (k := 3) (by kernel_rfl) rfl rfl ?_ ?_
    · gi_wp2_with fail
      have hown := (own_new (w := w4) ⟨k, v, SS, LL, g, !l.isNil, !r.isNil⟩ (show w1.heap.size ≤ w4.heap.size from h14.size)).ext (Ext.drew _)
      have h45 := ((Ext.refl w4).alloc (.cells #[.int .i64 k, .int .i64 v, .int .i64 SS, .int .i64 LL, .int .u64 g, .bool (!l.isNil), .bool (!r.isNil)] 47)).trans (Ext.drew _)
      refine onePost_ext ((Ext.refl w4.drew).alloc _) ?_
      clear hx hc0 hc1 hc2 hc3 hc4 hc5 hc6
      refine wpAnyG_one (j := 3) (by kernel_rfl) rfl ?_
      gi_wp2_with fail
      generalize (w4.alloc (.cells #[.int .i64 k, .int .i64 v, .int .i64 SS, .int .i64 LL, .int .u64 g, .bool (!l.isNil), .bool (!r.isNil)] 47)).drew = w5 at *
      generalize w4.heap.size = N5 at *
      refine ⟨wide_room _, (callsIn_wide.2 (IHl.out w5 v1 (HV1.out.ext h45) HLL.out)).mono ?_⟩
      rintro e w6 ⟨v3, rfl, hv3, h56⟩
      gi_wp2_with fail
      refine onePost_ext (h56) ?_
      have hown6 := hown.ext h56
      have hb6 := hv3.beads
      have h16 : Ext w1 w6 := (h14.trans h45).trans h56
      clear hown hv3 h56 h45
      refine wpAnyG_one (j := 4) (by kernel_rfl) rfl ?_
      refine wpListIn_append_beads (B := w1.heap.size) (zs := [⟨k, v, SS, LL, g, !l.isNil, !r.isNil⟩]) (ys := l.of.enc) rfl (.tmp 23) (.tmp 25) rfl rfl rfl hown6 hb6 (by rw [BT.of_len]; have := HLL.out; simp; omega) h16.size hfn ?_
      intro v4 w7 hown7 hg7
      have h17 : Ext w1 w7 := grown_ext h16 hown6 hg7
      simp only [Act.put, List.setIfInBounds_toArray, List.set_cons_zero, List.set_cons_succ]
      refine wpListIn_nil ?_
      refine onePost_any (by kernel_rfl) ?_
      clear hg7 hown6 hb6 h16
      refine batchG hfn (fuel := 0) [5] (by kernel_rfl) rfl ?_
      repeat (go_big_quiet_step ((fail)))
      refine wpQuiet_nil ?_
      refine wpAnyG_done (by kernel_rfl) ?_
      refine calmQ_normal ?_
      gi_wp2_with fail
      refine ⟨wide_room _, (callsIn_wide.2 (IHr.out w7 v2 (HV2.out.ext h17) HLR.out)).mono ?_⟩
      rintro e w8 ⟨v5, rfl, hv5, h78⟩
      have hown8 := hown7.ext h78
      have hb8 := hv5.beads
      have h18 := h17.trans h78
      clear hown7 hv5 h78 h17
      gi_wp2_with (refine wpListIn_append_beads (B := w1.heap.size) rfl (.tmp 27) (.tmp 29) rfl rfl rfl hown8 hb8 ?c1 h18.size hfn ?_)
      case c1 =>
        rw [BT.of_len, List.length_append, BT.of_len]
        have := HLL.out
        have := HLR.out
        simp
        omega
      intro v6 w9 hown9 hg9
      have h19 : Ext w1 w9 := grown_ext h18 hown8 hg9
      clear hg9 hown8 hb8
      gi_wp2
      go_ret
      refine ⟨_, rfl, ?_, h01.trans h19⟩
      rw [HOF.out]
      exact hown9.mono h01.size
    · clear hc0 hc1 hc2 hc3 hc4 hc5 hc6
      gi_wp2_with fail
      refine ⟨wide_room _, (callsIn_wide.2 (IHl.out w4.drew v1 (HV1.out.ext hx) HLL.out)).mono ?_⟩
      rintro e w5 ⟨v3, rfl, hv3, h45'⟩
      gi_wp2_with fail
      refine onePost_ext (h45') ?_
      have h45 := hx.trans h45'
      refine wpAnyG_one (j := 1) (by kernel_rfl) rfl ?_
      gi_wp2_with fail
      have h15 := h14.trans h45
      have hown6 := own_new (w := w5) ⟨k, v, SS, LL, g, !l.isNil, !r.isNil⟩ (show w1.heap.size ≤ w5.heap.size from h15.size)
      refine onePost_ext ((Ext.refl w5).alloc _) ?_
      have h56 := (Ext.refl w5).alloc (.cells #[.int .i64 k, .int .i64 v, .int .i64 SS, .int .i64 LL, .int .u64 g, .bool (!l.isNil), .bool (!r.isNil)] 47)
      generalize w5.alloc (.cells #[.int .i64 k, .int .i64 v, .int .i64 SS, .int .i64 LL, .int .u64 g, .bool (!l.isNil), .bool (!r.isNil)] 47) = w6 at *
      generalize w5.heap.size = N5 at *
      have hb6 := hv3.beads.ext h56
      have h16 : Ext w1 w6 := h15.trans h56
      clear hv3 h56 h45 h45' hx h15
      refine wpAnyG_one (j := 4) (by kernel_rfl) rfl ?_
      refine wpListIn_append_beads (B := w1.heap.size) (zs := [⟨k, v, SS, LL, g, !l.isNil, !r.isNil⟩]) (ys := l.of.enc) rfl (.tmp 23) (.tmp 25) rfl rfl rfl hown6 hb6 (by rw [BT.of_len]; have := HLL.out; simp; omega) h16.size hfn ?_
      intro v4 w7 hown7 hg7
      have h17 : Ext w1 w7 := grown_ext h16 hown6 hg7
      simp only [Act.put, List.setIfInBounds_toArray, List.set_cons_zero, List.set_cons_succ]
      refine wpListIn_nil ?_
      refine onePost_any (by kernel_rfl) ?_
      clear hg7 hown6 hb6 h16
      refine batchG hfn (fuel := 0) [5] (by kernel_rfl) rfl ?_
      repeat (go_big_quiet_step ((fail)))
      refine wpQuiet_nil ?_
      refine wpAnyG_done (by kernel_rfl) ?_
      refine calmQ_normal ?_
      gi_wp2_with fail
      refine ⟨wide_room _, (callsIn_wide.2 (IHr.out w7 v2 (HV2.out.ext h17) HLR.out)).mono ?_⟩
      rintro e w8 ⟨v5, rfl, hv5, h78⟩
      have hown8 := hown7.ext h78
      have hb8 := hv5.beads
      have h18 := h17.trans h78
      clear hown7 hv5 h78 h17
      gi_wp2_with (refine wpListIn_append_beads (B := w1.heap.size) rfl (.tmp 27) (.tmp 29) rfl rfl rfl hown8 hb8 ?c1 h18.size hfn ?_)
      case c1 =>
        rw [BT.of_len, List.length_append, BT.of_len]
        have := HLL.out
        have := HLR.out
        simp
        omega
      intro v6 w9 hown9 hg9
      have h19 : Ext w1 w9 := grown_ext h18 hown8 hg9
      clear hg9 hown8 hb8
      gi_wp2
      go_ret
      refine ⟨_, rfl, ?_, h01.trans h19⟩
      rw [HOF.out]
      exact hown9.mono h01.size
end Go.Proofs.Ytpfkolmnejandaa
