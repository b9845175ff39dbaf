/- joineryref09.Of and Node. The going over a tree, each node ahead of its sides (avl.beads). The package avl, but for Check and May. -/
import Derived.BigQuiet
import Derived.Test.YtjiiokhjajfhjaaGreatM3
import Derived.Test.YtjiiokhjajfhjaaGreatM5
namespace Go.Proofs.YtjiiokhjajfhjaaGreat
open Go Go.RowKit

theorem BT.of_isNil : ∀ t : BT, t.of.isNil = t.isNil
  | .nil => rfl
  | .node .. => rfl
theorem BT.of_len : ∀ t : BT, t.of.enc.length = t.enc.length
  | .nil => rfl
  | .node k v s n g l r => by simp [BT.of, BT.enc, BT.of_len l, BT.of_len r]
/-- a row that is the call's own. -/
def GivesRow (zs : List BeadL) (w : World) (e : Ending) (w' : World) : Prop := ∃ v, e = .returned v ∧ Own w.heap.size w' v zs ∧ Ext w w'
set_option maxHeartbeats 1000000 in
theorem of_any (t : BT) : ∀ (w : World) (p : Value), Beads w p t.enc → t.enc.length ≤ 2000 →
    Calls Tryz.prog 17 #[p] w (GivesRow t.of.enc w) := by
  have hfn : ∀ f, Fence.wide.fn f := fun _ => trivial
  induction t with
  | nil =>
    intro w p hb hl
    obtain ⟨a, c, rfl⟩ := beads_slice hb
    rw [show BT.nil.enc.length = 0 from rfl]
    clear hb hl
    go_enter Tryz.func17, Tryz.ntmps17
    go_wp2
    go_ret
    exact ⟨_, rfl, Own.nil _ _, Ext.refl _⟩
  | node k v s n g l r ihl ihr =>
    intro w p hb hl
    have hp := parts_any w p k v s n g l r hb hl
    have hs := fun (w : World) (h : Beads w p (BT.node k v s n g l r).enc) => sum09_any w p _ h hl
    have hlen : (BT.node k v s n g l r).enc.length = 1 + l.enc.length + r.enc.length := by simp [BT.enc]; omega
    have IHl := Lib.hid ihl
    have IHr := Lib.hid ihr
    have HS := Lib.hid hs
    have HLL := Lib.hid (show l.enc.length ≤ 2000 by omega)
    have HLR := Lib.hid (show r.enc.length ≤ 2000 by omega)
    have h1 : 1 ≤ (BT.node k v s n g l r).enc.length := by omega
    have HOF : Hid ((BT.node k v s n g l r).of.enc = ⟨k, v, sumL (BT.node k v s n g l r).enc, (BT.node k v s n g l r).enc.length, g, !l.isNil, !r.isNil⟩ :: (l.of.enc ++ r.of.enc)) := Lib.hid (by
      show BeadL.mk _ _ _ _ _ (!l.of.isNil) (!r.of.isNil) :: _ = _
      rw [BT.of_isNil, BT.of_isNil])
    have HB := Lib.hid hb
    obtain ⟨a, c, rfl⟩ := beads_slice hb
    have HP := Lib.hid hp
    have HLEN := Lib.hid hlen
    clear hb hp hlen ihl ihr hs
    obtain ⟨OF, hOF⟩ : ∃ OF, OF = (BT.node k v s n g l r).of.enc := ⟨_, rfl⟩
    rw [← hOF] at HOF ⊢
    clear hOF
    generalize hZS : (BT.node k v s n g l r).enc = ZS at *
    have HZS := Lib.hid hZS
    clear hZS
    generalize hSS : sumL ZS = SS at *
    clear hSS
    generalize hL : ZS.length = LL at *
    have HL := Lib.hid hL
    clear hL
    go_enter Tryz.func17, Tryz.ntmps17
    obtain ⟨m⟩ : Nonempty Nat := ⟨0⟩
    refine (wpIn_wide (n := m)).1 ?_
    gi_wp2_with fail
    refine ⟨wide_room _, (callsIn_wide.2 (HP.out)).mono ?_⟩
    rintro e w1 ⟨v1, v2, rfl, hv1, hv2, hE⟩
    gi_wp2_with fail
    have hnew := alloc_at w1 (.cells #[.int .i64 k, .int .i64 v, .int .i64 s, .int .i64 LL, .int .u64 g, .bool (!l.isNil), .bool (!r.isNil)] 71) _ rfl
    have hE2 := (Ext.refl w1).alloc (.cells #[.int .i64 k, .int .i64 v, .int .i64 s, .int .i64 LL, .int .u64 g, .bool (!l.isNil), .bool (!r.isNil)] 71)
    generalize w1.alloc (.cells #[.int .i64 k, .int .i64 v, .int .i64 s, .int .i64 LL, .int .u64 g, .bool (!l.isNil), .bool (!r.isNil)] 71) = w2 at *
    refine ⟨wide_room _, (callsIn_wide.2 (HS.out w2 (HB.out.ext (hE.trans hE2)))).mono ?_⟩
    rintro e w3 ⟨rfl, h3⟩
    have hnew3 := (h3.block w1.heap.size (lt_of hnew)).trans hnew
    have hc2 := cell_of hnew3 2
    have hf2 := frozen_of hnew3 2
    simp at hc2
    have hw3 := hE2.trans h3
    gi_wp2_with fail
    have hw4 : Ext w1 (w3.setCell ⟨w1.heap.size, 2, none⟩ (.int .i64 SS)) := Ext.put hw3 2 _
    have hnew4 : (w3.setCell ⟨w1.heap.size, 2, none⟩ (.int .i64 SS)).heap[w1.heap.size]? = some (.cells #[.int .i64 k, .int .i64 v, .int .i64 SS, .int .i64 LL, .int .u64 g, .bool (!l.isNil), .bool (!r.isNil)] 71 (0, 0)) := by
      simp [World.setCell, Array.getElem?_modify, hnew3]
    generalize w3.setCell ⟨w1.heap.size, 2, none⟩ (.int .i64 SS) = w4 at *
    have h01 : Ext w w1 := hE
    have h14 : Ext w1 w4 := hw4
    have HV1 := Lib.hid (hv1.ext hw4)
    have HV2 := Lib.hid hv2
    clear hv1 hv2 hE hE2 hw3 h3 hnew hnew3 hc2 hf2 hw4
    have hc0 := cell_all (cell_of hnew4 0)
    have hc1 := cell_all (cell_of hnew4 1)
    have hc2 := cell_all (cell_of hnew4 2)
    have hc3 := cell_all (cell_of hnew4 3)
    have hc4 := cell_all (cell_of hnew4 4)
    have hc5 := cell_all (cell_of hnew4 5)
    have hc6 := cell_all (cell_of hnew4 6)
    have hx := Ext.drew w4
    clear hnew4
    refine wpIn_region_G (fun j => !(List.contains (α := Nat) [4] j)) (by kernel_rfl) ?_
    refine batchG hfn (fuel := 4) [0, 2] (by kernel_rfl) rfl ?_
    repeat (go_big_quiet_step ((fail)))
    refine wpQuiet_nil ?_
    refine wpAnyG_two (j := 1) (k := 3) (by kernel_rfl) rfl rfl ?_ ?_
    · gi_wp2_with fail
      have hown := (own_new (w := w4) ⟨k, v, SS, LL, g, !l.isNil, !r.isNil⟩ (show w1.heap.size ≤ w4.heap.size from h14.size)).ext (Ext.drew _)
      have h45 := ((Ext.refl w4).alloc (.cells #[.int .i64 k, .int .i64 v, .int .i64 SS, .int .i64 LL, .int .u64 g, .bool (!l.isNil), .bool (!r.isNil)] 71)).trans (Ext.drew _)
      refine onePost_ext ((Ext.refl w4.drew).alloc _) ?_
      clear hx hc0 hc1 hc2 hc3 hc4 hc5 hc6
      refine wpAnyG_one (j := 3) (by kernel_rfl) rfl ?_
      gi_wp2_with fail
      generalize (w4.alloc (.cells #[.int .i64 k, .int .i64 v, .int .i64 SS, .int .i64 LL, .int .u64 g, .bool (!l.isNil), .bool (!r.isNil)] 71)).drew = w5 at *
      generalize w4.heap.size = N5 at *
      refine ⟨wide_room _, (callsIn_wide.2 (IHl.out w5 v1 (HV1.out.ext h45) HLL.out)).mono ?_⟩
      rintro e w6 ⟨v3, rfl, hv3, h56⟩
      gi_wp2_with fail
      refine onePost_ext (h56) ?_
      have hown6 := hown.ext h56
      have hb6 := hv3.beads
      have h16 : Ext w1 w6 := (h14.trans h45).trans h56
      clear hown hv3 h56 h45
      refine wpAnyG_one (j := 4) (by kernel_rfl) rfl ?_
      refine wpListIn_append_beads (B := w1.heap.size) (zs := [⟨k, v, SS, LL, g, !l.isNil, !r.isNil⟩]) (ys := l.of.enc) rfl (.tmp 23) (.tmp 25) rfl rfl rfl hown6 hb6 (by rw [BT.of_len]; have := HLL.out; simp; omega) h16.size hfn ?_
      intro v4 w7 hown7 hg7
      have h17 : Ext w1 w7 := grown_ext h16 hown6 hg7
      simp only [Act.put, List.setIfInBounds_toArray, List.set_cons_zero, List.set_cons_succ]
      refine wpListIn_nil ?_
      refine onePost_any (by kernel_rfl) ?_
      clear hg7 hown6 hb6 h16
      refine batchG hfn (fuel := 0) [5] (by kernel_rfl) rfl ?_
      repeat (go_big_quiet_step ((fail)))
      refine wpQuiet_nil ?_
      refine wpAnyG_done (by kernel_rfl) ?_
      refine calmQ_normal ?_
      gi_wp2_with fail
      refine ⟨wide_room _, (callsIn_wide.2 (IHr.out w7 v2 (HV2.out.ext h17) HLR.out)).mono ?_⟩
      rintro e w8 ⟨v5, rfl, hv5, h78⟩
      have hown8 := hown7.ext h78
      have hb8 := hv5.beads
      have h18 := h17.trans h78
      clear hown7 hv5 h78 h17
      gi_wp2_with (refine wpListIn_append_beads (B := w1.heap.size) rfl (.tmp 27) (.tmp 29) rfl rfl rfl hown8 hb8 ?c1 h18.size hfn ?_)
      case c1 =>
        rw [BT.of_len, List.length_append, BT.of_len]
        have := HLL.out
        have := HLR.out
        simp
        omega
      intro v6 w9 hown9 hg9
      have h19 : Ext w1 w9 := grown_ext h18 hown8 hg9
      clear hg9 hown8 hb8
      gi_wp2
      go_ret
      refine ⟨_, rfl, ?_, h01.trans h19⟩
      rw [HOF.out]
      exact hown9.mono h01.size
    · clear hc0 hc1 hc2 hc3 hc4 hc5 hc6
      gi_wp2_with fail
      refine ⟨wide_room _, (callsIn_wide.2 (IHl.out w4.drew v1 (HV1.out.ext hx) HLL.out)).mono ?_⟩
      rintro e w5 ⟨v3, rfl, hv3, h45'⟩
      gi_wp2_with fail
      refine onePost_ext (h45') ?_
      have h45 := hx.trans h45'
      refine wpAnyG_one (j := 1) (by kernel_rfl) rfl ?_
      gi_wp2_with fail
      have h15 := h14.trans h45
      have hown6 := own_new (w := w5) ⟨k, v, SS, LL, g, !l.isNil, !r.isNil⟩ (show w1.heap.size ≤ w5.heap.size from h15.size)
      refine onePost_ext ((Ext.refl w5).alloc _) ?_
      have h56 := (Ext.refl w5).alloc (.cells #[.int .i64 k, .int .i64 v, .int .i64 SS, .int .i64 LL, .int .u64 g, .bool (!l.isNil), .bool (!r.isNil)] 71)
      generalize w5.alloc (.cells #[.int .i64 k, .int .i64 v, .int .i64 SS, .int .i64 LL, .int .u64 g, .bool (!l.isNil), .bool (!r.isNil)] 71) = w6 at *
      generalize w5.heap.size = N5 at *
      have hb6 := hv3.beads.ext h56
      have h16 : Ext w1 w6 := h15.trans h56
      clear hv3 h56 h45 h45' hx h15
      refine wpAnyG_one (j := 4) (by kernel_rfl) rfl ?_
      refine wpListIn_append_beads (B := w1.heap.size) (zs := [⟨k, v, SS, LL, g, !l.isNil, !r.isNil⟩]) (ys := l.of.enc) rfl (.tmp 23) (.tmp 25) rfl rfl rfl hown6 hb6 (by rw [BT.of_len]; have := HLL.out; simp; omega) h16.size hfn ?_
      intro v4 w7 hown7 hg7
      have h17 : Ext w1 w7 := grown_ext h16 hown6 hg7
      simp only [Act.put, List.setIfInBounds_toArray, List.set_cons_zero, List.set_cons_succ]
      refine wpListIn_nil ?_
      refine onePost_any (by kernel_rfl) ?_
      clear hg7 hown6 hb6 h16
      refine batchG hfn (fuel := 0) [5] (by kernel_rfl) rfl ?_
      repeat (go_big_quiet_step ((fail)))
      refine wpQuiet_nil ?_
      refine wpAnyG_done (by kernel_rfl) ?_
      refine calmQ_normal ?_
      gi_wp2_with fail
      refine ⟨wide_room _, (callsIn_wide.2 (IHr.out w7 v2 (HV2.out.ext h17) HLR.out)).mono ?_⟩
      rintro e w8 ⟨v5, rfl, hv5, h78⟩
      have hown8 := hown7.ext h78
      have hb8 := hv5.beads
      have h18 := h17.trans h78
      clear hown7 hv5 h78 h17
      gi_wp2_with (refine wpListIn_append_beads (B := w1.heap.size) rfl (.tmp 27) (.tmp 29) rfl rfl rfl hown8 hb8 ?c1 h18.size hfn ?_)
      case c1 =>
        rw [BT.of_len, List.length_append, BT.of_len]
        have := HLL.out
        have := HLR.out
        simp
        omega
      intro v6 w9 hown9 hg9
      have h19 : Ext w1 w9 := grown_ext h18 hown8 hg9
      clear hg9 hown8 hb8
      gi_wp2
      go_ret
      refine ⟨_, rfl, ?_, h01.trans h19⟩
      rw [HOF.out]
      exact hown9.mono h01.size
end Go.Proofs.YtjiiokhjajfhjaaGreat
namespace Go.Proofs.YtjiiokhjajfhjaaGreat
open Go Go.RowKit Go.Shelf
attribute [local go_sem] Oper.semAt_some

set_option maxRecDepth 100000 in
set_option maxHeartbeats 2000000 in
theorem avlOn_in (M : Nat → Prop) (Px : Tr → Prop) (l N by_ bo : Nat) (J Jx : List Tr → World → Prop) (hy0 : ¬ M by_) (ho0 : ¬ M bo)
    (hY : ∀ m pre x W, Px x → J pre W → pre.length < N → YieldAt Fence.wide m Tryz.prog l #[.pointer x.ptr] W fun e W' =>
      (e = .returned (.bool true) ∧ J (pre ++ [x]) W' ∧ Keep M W W') ∨ (e = .returned (.bool false) ∧ Jx (pre ++ [x]) W'))
    (hJE : ∀ pre W W', J pre W → Ext W W' → J pre W')
    (T : Tr) :
    ∀ (n : Nat) (pre : List Tr) (W : World), InH W T → Off M T → (∀ x ∈ T.pre, Px x) → J pre W → pre.length + T.pre.length ≤ N →
      Boxed W by_ 108 (.func (.yield l) #[] #[]) → Boxed W bo 108 (.func (.func 137) #[] #[.pointer (some ⟨by_, 0, none⟩), .pointer (some ⟨bo, 0, none⟩)]) →
      CallsIn Fence.wide n Tryz.prog 137 #[.pointer T.ptr, .pointer (some ⟨by_, 0, none⟩), .pointer (some ⟨bo, 0, none⟩)] W fun e W' =>
        (e = .returned (.bool true) ∧ J (pre ++ T.pre) W' ∧ Keep M W W') ∨ (e = .returned (.bool false) ∧ ∃ q, q <+: T.pre ∧ Jx (pre ++ q) W') := by
  have hfn : ∀ f, Fence.wide.fn f := fun _ => trivial
  induction T with
  | nil =>
    intro n pre W _ _ _ hJ _ _ _
    rw [Tr.ptr_nil]
    refine callsIn_of_wp Tryz.func137 rfl trivial ?_ rfl
    simp only [Tryz.ntmps137, List.size_toArray, List.length_cons, List.length_nil, Nat.reduceAdd, Nat.reduceSub, Array.replicate_succ, Array.replicate_zero, List.push_toArray, List.append_toArray, List.nil_append, List.cons_append]
    gi_wp2_with fail
    refine wpIn_region_G (fun j => !(List.contains (α := Nat) [5, 10, 16] j)) (by kernel_rfl) ?_
    refine batchG hfn (fuel := 15) [0, 1, 2, 3, 4] (by kernel_rfl) rfl ?_
    repeat (go_big_quiet_step ((fail)))
    refine wpQuiet_nil ?_
    refine wpAnyG_skip hfn (j := 5) (by kernel_rfl) rfl rfl ?_
    simp only [Act.put, List.setIfInBounds_toArray, List.set_cons_zero, List.set_cons_succ]
    refine batchG hfn (fuel := 11) [6, 7, 8] (by kernel_rfl) rfl ?_
    repeat (go_big_quiet_step ((fail)))
    refine wpQuiet_nil ?_
    refine wpAnyG_skip hfn (j := 9) (by kernel_rfl) rfl rfl ?_
    simp only [Act.put, List.setIfInBounds_toArray, List.set_cons_zero, List.set_cons_succ]
    refine wpAnyG_skip hfn (j := 10) (by kernel_rfl) rfl rfl ?_
    simp only [Act.put, List.setIfInBounds_toArray, List.set_cons_zero, List.set_cons_succ]
    refine batchG hfn (fuel := 5) [11, 12, 13, 14] (by kernel_rfl) rfl ?_
    repeat (go_big_quiet_step ((fail)))
    refine wpQuiet_nil ?_
    refine wpAnyG_skip hfn (j := 15) (by kernel_rfl) rfl rfl ?_
    simp only [Act.put, List.setIfInBounds_toArray, List.set_cons_zero, List.set_cons_succ]
    refine wpAnyG_skip hfn (j := 16) (by kernel_rfl) rfl rfl ?_
    simp only [Act.put, List.setIfInBounds_toArray, List.set_cons_zero, List.set_cons_succ]
    refine batchG hfn (fuel := 0) [17, 18, 19] (by kernel_rfl) rfl ?_
    repeat (go_big_quiet_step ((fail)))
    refine wpQuiet_nil ?_
    refine wpAnyG_done (by kernel_rfl) ?_
    refine calmQ_normal ?_
    gi_wp2
    go_ret
    exact .inl ⟨rfl, by simpa [Tr.pre] using hJE _ _ _ hJ (Ext.drew W), Keep.drew W⟩
  | node b tl k v g tr ihl ihr =>
    intro n pre W ht ho hP hJ hN hy hbo
    simp only [Tr.pre, List.length_cons, List.length_append] at hN
    have hY1 := hY n pre (.node b tl k v g tr) W.drew (hP _ (List.mem_cons_self ..)) (hJE _ _ _ hJ (Ext.drew W)) (by omega)
    rw [Tr.ptr_node] at hY1
    have Hl := Lib.hid ihl
    have Hr := Lib.hid ihr
    clear ihl ihr hY
    have HP := Lib.hid hP
    clear hP
    have hcy := cell_all hy.cell
    have hx0 := Ext.drew W
    obtain ⟨fn, tmps, assign, body, hy1, hR⟩ := hY1
    have HR := Lib.hid hR
    clear hR
    rw [Tr.ptr_node]
    refine callsIn_of_wp Tryz.func137 rfl trivial ?_ rfl
    simp only [Tryz.ntmps137, List.size_toArray, List.length_cons, List.length_nil, Nat.reduceAdd, Nat.reduceSub, Array.replicate_succ, Array.replicate_zero, List.push_toArray, List.append_toArray, List.nil_append, List.cons_append]
    gi_wp2_with fail
    refine wpIn_region_G (fun j => !(List.contains (α := Nat) [5, 10, 16] j)) (by kernel_rfl) ?_
    refine batchG hfn (fuel := 15) [0, 1, 2, 3, 4] (by kernel_rfl) rfl ?_
    repeat (go_big_quiet_step ((fail)))
    refine wpQuiet_nil ?_
    refine wpAnyG_one (j := 5) (by kernel_rfl) rfl ?_
    gi_wp2_with fail
    clear hcy hx0 hy1
    refine ⟨wide_room _, (RoundIn.any HR.out).mono ?_⟩
    rintro e W1 (⟨rfl, hJ1, hk1⟩ | ⟨rfl, hJx1⟩)
    · have hk01 := (Keep.drew (M := M) W).trans hk1
      have ht1 := InH.keep hk01 ho ht
      have hy1 := hk01.boxed hy0 hy
      have hb1 := hk01.boxed ho0 hbo
      clear hy hbo ht hJ hk1
      have hco := cell_all hb1.cell
      have hx1 := Ext.refl W1
      gi_wp2_with fail
      refine onePost_any (by kernel_rfl) ?_
      refine batchG hfn (fuel := 11) [6, 7, 8] (by kernel_rfl) rfl ?_
      repeat (go_big_quiet_step ((fail)))
      refine wpQuiet_nil ?_
      refine wpAnyG_one (j := 9) (by kernel_rfl) rfl ?_
      gi_wp2_with fail
      rw [← Tr.ptr_node b tl k v g tr]
      clear hco hx1
      refine ⟨wide_room _, (callsIn_wide.2 (left_any _ _ ht1)).mono ?_⟩
      rintro e W2 ⟨rfl, h2⟩
      gi_wp2_with fail
      refine onePost_ext (h2) ?_
      refine wpAnyG_one (j := 10) (by kernel_rfl) rfl ?_
      gi_wp2_with fail
      simp only [Tr.left_node]
      have ht2 := ht1.ext h2
      have hb2 := (Keep.ext (M := M) h2).boxed ho0 hb1
      have hy2 := (Keep.ext (M := M) h2).boxed hy0 hy1
      have hJ2 := hJE _ _ _ hJ1 h2
      have hk02 := hk01.trans (Keep.ext h2)
      clear ht1 hb1 hy1 hJ1 hk01
      refine ⟨wide_room _, (Hl.out (n - 1) _ W2 ht2.2.1 ho.2.1 (fun x hx => HP.out x (List.mem_cons_of_mem _ (List.mem_append_left _ hx))) hJ2 (by simp; omega) hy2 hb2).mono ?_⟩
      rintro e W3 (⟨rfl, hJ3, hk3⟩ | ⟨rfl, q, hq, hJx3⟩)
      · have ht3 := InH.keep hk3 ho ht2
        have hy3 := hk3.boxed hy0 hy2
        have hb3 := hk3.boxed ho0 hb2
        have hk03 := hk02.trans hk3
        clear hk3 hk02 hJ2 hb2 hy2 ht2
        have hco := cell_all hb3.cell
        have hx3 := Ext.refl W3
        gi_wp2_with fail
        refine onePost_any (by kernel_rfl) ?_
        refine batchG hfn (fuel := 5) [11, 12, 13, 14] (by kernel_rfl) rfl ?_
        repeat (go_big_quiet_step ((fail)))
        refine wpQuiet_nil ?_
        refine wpAnyG_one (j := 15) (by kernel_rfl) rfl ?_
        gi_wp2_with fail
        clear hco hx3
        refine ⟨wide_room _, (callsIn_wide.2 (right_any _ _ ht3)).mono ?_⟩
        rintro e W4 ⟨rfl, h4⟩
        gi_wp2_with fail
        refine onePost_ext (h4) ?_
        refine wpAnyG_one (j := 16) (by kernel_rfl) rfl ?_
        gi_wp2_with fail
        simp only [Tr.right_node]
        have ht4 := ht3.ext h4
        have hb4 := (Keep.ext (M := M) h4).boxed ho0 hb3
        have hy4 := (Keep.ext (M := M) h4).boxed hy0 hy3
        have hJ4 := hJE _ _ _ hJ3 h4
        have hk04 := hk03.trans (Keep.ext h4)
        clear ht3 hb3 hy3 hJ3 hk03
        refine ⟨wide_room _, (Hr.out (n - 1) _ W4 ht4.2.2 ho.2.2 (fun x hx => HP.out x (List.mem_cons_of_mem _ (List.mem_append_right _ hx))) hJ4 (by simp; omega) hy4 hb4).mono ?_⟩
        rintro e W5 (⟨rfl, hJ5, hk5⟩ | ⟨rfl, q, hq, hJx5⟩)
        · gi_wp2_with fail
          refine onePost_any (by kernel_rfl) ?_
          refine batchG hfn (fuel := 0) [17, 18, 19] (by kernel_rfl) rfl ?_
          repeat (go_big_quiet_step ((fail)))
          refine wpQuiet_nil ?_
          refine wpAnyG_done (by kernel_rfl) ?_
          refine calmQ_normal ?_
          gi_wp2
          go_ret
          exact .inl ⟨rfl, by simpa [Tr.pre, List.append_assoc] using hJ5, hk04.trans hk5⟩
        · gi_wp2_with fail
          refine onePost_any (by kernel_rfl) ?_
          refine batchG hfn (fuel := 0) [17, 18, 19] (by kernel_rfl) rfl ?_
          repeat (go_big_quiet_step ((fail)))
          refine wpQuiet_nil ?_
          refine wpAnyG_done (by kernel_rfl) ?_
          refine calmQ_normal ?_
          gi_wp2
          go_ret
          obtain ⟨r', hr'⟩ := hq
          exact .inr ⟨rfl, .node b tl k v g tr :: (tl.pre ++ q), ⟨r', by simp [Tr.pre, ← hr']⟩, by simpa [List.append_assoc] using hJx5⟩
      · gi_wp2_with fail
        refine onePost_any (by kernel_rfl) ?_
        refine batchG hfn (fuel := 5) [11, 12, 13, 14] (by kernel_rfl) rfl ?_
        repeat (go_big_quiet_step ((fail)))
        refine wpQuiet_nil ?_
        refine wpAnyG_skip hfn (j := 15) (by kernel_rfl) rfl rfl ?_
        simp only [Act.put, List.setIfInBounds_toArray, List.set_cons_zero, List.set_cons_succ]
        refine wpAnyG_skip hfn (j := 16) (by kernel_rfl) rfl rfl ?_
        simp only [Act.put, List.setIfInBounds_toArray, List.set_cons_zero, List.set_cons_succ]
        refine batchG hfn (fuel := 0) [17, 18, 19] (by kernel_rfl) rfl ?_
        repeat (go_big_quiet_step ((fail)))
        refine wpQuiet_nil ?_
        refine wpAnyG_done (by kernel_rfl) ?_
        refine calmQ_normal ?_
        gi_wp2
        go_ret
        obtain ⟨r', hr'⟩ := hq
        exact .inr ⟨rfl, .node b tl k v g tr :: q, ⟨r' ++ tr.pre, by simp [Tr.pre, ← hr']⟩, by simpa [List.append_assoc] using hJx3⟩
    · gi_wp2_with fail
      refine onePost_any (by kernel_rfl) ?_
      refine batchG hfn (fuel := 11) [6, 7, 8] (by kernel_rfl) rfl ?_
      repeat (go_big_quiet_step ((fail)))
      refine wpQuiet_nil ?_
      refine wpAnyG_skip hfn (j := 9) (by kernel_rfl) rfl rfl ?_
      simp only [Act.put, List.setIfInBounds_toArray, List.set_cons_zero, List.set_cons_succ]
      refine wpAnyG_skip hfn (j := 10) (by kernel_rfl) rfl rfl ?_
      simp only [Act.put, List.setIfInBounds_toArray, List.set_cons_zero, List.set_cons_succ]
      refine batchG hfn (fuel := 5) [11, 12, 13, 14] (by kernel_rfl) rfl ?_
      repeat (go_big_quiet_step ((fail)))
      refine wpQuiet_nil ?_
      refine wpAnyG_skip hfn (j := 15) (by kernel_rfl) rfl rfl ?_
      simp only [Act.put, List.setIfInBounds_toArray, List.set_cons_zero, List.set_cons_succ]
      refine wpAnyG_skip hfn (j := 16) (by kernel_rfl) rfl rfl ?_
      simp only [Act.put, List.setIfInBounds_toArray, List.set_cons_zero, List.set_cons_succ]
      refine batchG hfn (fuel := 0) [17, 18, 19] (by kernel_rfl) rfl ?_
      repeat (go_big_quiet_step ((fail)))
      refine wpQuiet_nil ?_
      refine wpAnyG_done (by kernel_rfl) ?_
      refine calmQ_normal ?_
      gi_wp2
      go_ret
      exact .inr ⟨rfl, [.node b tl k v g tr], ⟨tl.pre ++ tr.pre, rfl⟩, hJx1⟩
end Go.Proofs.YtjiiokhjajfhjaaGreat
namespace Go.Proofs.YtjiiokhjajfhjaaGreat
open Go Go.RowKit

/-- the tag of a node that is made of two. -/
def avlTag (l r : Tr) : Int := IntKind.u64.wrap (max l.tag r.tag + 1)
theorem avlTag_left {l r : Tr} (h : r.tag ≤ l.tag) : IntKind.u64.wrap (l.tag + 1) = avlTag l r := by unfold avlTag; rw [Int.max_eq_left h]
theorem avlTag_right {l r : Tr} (h : ¬ r.tag ≤ l.tag) : IntKind.u64.wrap (r.tag + 1) = avlTag l r := by unfold avlTag; rw [Int.max_eq_right (by omega)]
set_option maxHeartbeats 400000 in
theorem avlMake_any (w : World) (l r : Tr) (k v : Int) (hl : InH w l) (hr : InH w r) : Calls Tryz.prog 110 #[.pointer l.ptr, .int .i64 k, .int .i64 v, .pointer r.ptr] w (New l k v (avlTag l r) r w) := by
  go_enter Tryz.func110, Tryz.ntmps110
  go_wp2_with fail
  refine (tag_any _ l hl).mono ?_
  rintro e w1 ⟨rfl, h1⟩
  go_wp2_with fail
  refine (tag_any _ r (hr.ext h1)).mono ?_
  rintro e w2 ⟨rfl, h2⟩
  have h := h1.trans h2
  by_cases hc : r.tag ≤ l.tag
  · have e := avlTag_left hc
    have hE := Lib.hid e
    clear e
    go_wp2_with fail
    rw [hE.out]
    refine (new_any _ l r k v _ (hl.ext h) (hr.ext h)).mono ?_
    rintro e w3 ⟨b, rfl, hb, ht, h3⟩
    go_wp2
    go_ret
    exact ⟨b, rfl, Nat.le_trans h.size hb, ht, h.trans h3⟩
  · have e := avlTag_right hc
    have hE := Lib.hid e
    clear e
    go_wp2_with fail
    rw [hE.out]
    refine (new_any _ l r k v _ (hl.ext h) (hr.ext h)).mono ?_
    rintro e w3 ⟨b, rfl, hb, ht, h3⟩
    go_wp2
    go_ret
    exact ⟨b, rfl, Nat.le_trans h.size hb, ht, h.trans h3⟩
set_option maxHeartbeats 400000 in
theorem avlRank_any (w : World) (t : Tr) (ht : InH w t) : Calls Tryz.prog 91 #[.pointer t.ptr] w (Ret (.int .i64 (wrap64 t.tag)) w) := by
  go_enter Tryz.func91, Tryz.ntmps91
  go_wp2_with fail
  refine (tag_any _ t ht).mono ?_
  rintro e w1 ⟨rfl, h1⟩
  go_wp2
  go_ret
  exact Ret.mk h1
/-- by how much a tree is higher on the right. -/
def avlLean (t : Tr) : Int := wrap64 (IntKind.u64.wrap (t.right.tag - t.left.tag))
end Go.Proofs.YtjiiokhjajfhjaaGreat
