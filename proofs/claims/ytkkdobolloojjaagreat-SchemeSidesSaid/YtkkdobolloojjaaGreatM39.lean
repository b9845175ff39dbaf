/- joineryref22: Item, Has. joineryref22.Has. -/
import Derived.BigQuiet
import Derived.Test.YtkkdobolloojjaaGreatM29
import Derived.Test.YtkkdobolloojjaaGreatM38
namespace Go.Proofs.YtkkdobolloojjaaGreat
open Go Go.RowKit
attribute [local go_sem] Oper.semAt_some

theorem put3_other {w : World} {N i : Nat} {o : Obj} (hi : i ≠ N) (h : w.heap[i]? = some o) (a b c : Value) : (put3 w N a b c).heap[i]? = some o := by
  unfold put3
  rw [Below.heap_setCell _ _ _ _ hi, Below.heap_setCell _ _ _ _ hi, Below.heap_setCell _ _ _ _ hi]
  exact h
set_option maxHeartbeats 2000000 in
theorem item22_any (c : Nat) (t : BT) (T : Tr) (w : World) (p : Value) (hf : t.fits T) (hb : Beads w p t.enc) (hl : t.enc.length ≤ 2000) :
    Calls Tryz.prog 35 #[.int .u8 c, p] w (Ret (itemV c T) w) := by
  have hfn : ∀ f, Fence.wide.fn f := fun _ => trivial
  cases t with
  | nil =>
    have e : T = .nil := by cases T with | nil => rfl | node => exact hf.elim
    subst e
    obtain ⟨a, k, rfl⟩ := beads_slice hb
    rw [show BT.nil.enc.length = 0 from rfl]
    clear hb hl hf
    have hi : itemV c .nil = itV 0 0 0 := by simp [itemV, Tr.key, Tr.val, Tr.tag]
    rw [hi]
    clear hi
    go_enter Tryz.func35, Tryz.ntmps35
    go_wp2
    refine bodyPost_ret (v := itV 0 0 0) ?_ rfl (Ret.mk ((Ext.refl _).alloc _))
    simp [results, Tryz.results35, go_sem, itV]
  | node k v s n g l r =>
    cases T with
    | nil => exact hf.elim
    | node tb tl tk tv tg tr =>
    obtain ⟨h1, h2, h3, -, -⟩ := hf
    subst h1 h2 h3
    rcases hb with ⟨h, -⟩ | ⟨b, o, cp, rfl, hne, hc, hr⟩
    · simp [BT.enc] at h
    · have hc0 : w.cell? ⟨b, o, none⟩ = some (.int .i64 k) := by simpa using rangeAt_cell hr (i := 0) rfl (j := 0) rfl
      have hc1 : w.cell? ⟨b, o + 1, none⟩ = some (.int .i64 v) := by simpa using rangeAt_cell hr (i := 0) rfl (j := 1) rfl
      have hc4 : w.cell? ⟨b, o + 4, none⟩ = some (.int .u64 g) := by simpa using rangeAt_cell hr (i := 0) rfl (j := 4) rfl
      have hlen : 1 ≤ (BT.node k v s n g l r).enc.length := by simp [BT.enc]
      have hi : itemV c (.node tb tl k v g tr) = itV k v (if c = 4 then g else 0) := rfl
      rw [hi]
      have hlt := cell_lt hc0
      have HC := Lib.hid (And.intro hc0 (And.intro hc1 hc4))
      clear hr hne hi hc0 hc1 hc4
      generalize (BT.node k v s n g l r).enc.length = LL at *
      obtain ⟨m⟩ : Nonempty Nat := ⟨0⟩
      by_cases h4 : c = 4
      · rw [if_pos h4]
        subst h4
        refine (callsIn_wide (n := m)).1 ?_
        refine callsIn_of_wp Tryz.func35 rfl trivial ?_ rfl
        simp only [Tryz.ntmps35, List.size_toArray, List.length_cons, List.length_nil, Nat.reduceAdd, Nat.reduceSub, Array.replicate_succ, Array.replicate_zero, List.push_toArray, List.append_toArray, List.nil_append, List.cons_append]
        gi_wp2_with fail
        have hbox := alloc_at w (.cells #[.int .i64 0, .int .i64 0, .int .u64 0] 51) _ rfl
        have hE := (Ext.refl w).alloc (.cells #[.int .i64 0, .int .i64 0, .int .u64 0] 51)
        generalize w.alloc (.cells #[.int .i64 0, .int .i64 0, .int .u64 0] 51) = w1 at *
        have hc0 := cell_all ((hE.cell hlt).trans HC.out.1)
        have hc1 := cell_all ((hE.cell hlt).trans HC.out.2.1)
        have hx := Ext.drew w1
        refine wpIn_region_G (fun j => !(List.contains (α := Nat) [10] j)) (by kernel_rfl) ?_
        refine batchG hfn (fuel := 2) [0, 1, 2, 3, 4, 5, 6, 7, 8] (by kernel_rfl) rfl ?_
        repeat (go_big_quiet_step ((fail)))
        refine wpQuiet_nil ?_
        refine wpAnyG_one (j := 9) (by kernel_rfl) rfl ?_
        gi_wp2_with fail
        refine onePost_ext ((Ext.refl w1.drew).alloc _) ?_
        have h2 : Ext w1 (w1.alloc (.cells #[.int .i64 0, .int .i64 0, .int .u64 0] 51)).drew := ((Ext.refl w1).alloc _).trans (Ext.drew _)
        have hnew : (w1.alloc (.cells #[.int .i64 0, .int .i64 0, .int .u64 0] 51)).drew.heap[w1.heap.size]? = some (.cells #[.int .i64 0, .int .i64 0, .int .u64 0] 51 (0, 0)) := alloc_at w1 _ _ rfl
        generalize (w1.alloc (.cells #[.int .i64 0, .int .i64 0, .int .u64 0] 51)).drew = w2 at *
        obtain ⟨g0, g1, g2, gf⟩ := cells3 hnew
        have hs := hE.size
        have hs1 : w.heap.size < w1.heap.size := lt_of hbox
        clear hc0 hc1 hx
        refine wpAnyG_one (j := 10) (by kernel_rfl) rfl ?_
        gi_wp2_with fail
        refine onePost_any (by kernel_rfl) ?_
        change wpAnyG _ _ _ _ _ _ _ _ _ _ (put3 w2 w1.heap.size (.int .i64 k) (.int .i64 v) (.int .u64 0))
        obtain ⟨hn3, hX3⟩ := put3_spec (hE.trans h2) hs hnew (.int .i64 k) (.int .i64 v) (.int .u64 0)
        have hb3 := put3_other (w := w2) (N := w1.heap.size) (i := w.heap.size) (by omega) (h2.get hbox) (.int .i64 k) (.int .i64 v) (.int .u64 0)
        generalize put3 w2 w1.heap.size (.int .i64 k) (.int .i64 v) (.int .u64 0) = w3 at *
        clear hnew g0 g1 g2 gf hbox h2 hE
        refine wpAnyG_done (by kernel_rfl) ?_
        refine calmQ_normal ?_
        obtain ⟨d0, d1, d2, df⟩ := cells3 hb3
        obtain ⟨f0, f1, f2, ff⟩ := cells3 hn3
        have hc4 := (hX3.cell hlt).trans HC.out.2.2
        have HX := Lib.hid (And.intro hX3 (And.intro hb3 hn3))
        clear hX3 hb3 hn3
        gi_wp2
        have HX := Lib.hid (show Ext w (w3.setCell ⟨w1.heap.size, 2, none⟩ (.int .u64 g)) ∧ (w3.setCell ⟨w1.heap.size, 2, none⟩ (.int .u64 g)).heap[w.heap.size]? = _ from ⟨Below.setCell HX.out.1 hs _, (Below.heap_setCell _ _ _ _ (by show w.heap.size ≠ w1.heap.size; omega)).trans HX.out.2.1⟩)
        generalize w3.setCell ⟨w1.heap.size, 2, none⟩ (.int .u64 g) = w4 at *
        change bodyPost _ _ _ _ _ (put3 w4 w.heap.size (.int .i64 k) (.int .i64 v) (.int .u64 g))
        clear d0 d1 d2 df f0 f1 f2 ff hc4
        obtain ⟨hW, hX⟩ := put3_spec HX.out.1 (Nat.le_refl _) HX.out.2 (.int .i64 k) (.int .i64 v) (.int .u64 g)
        generalize put3 w4 w.heap.size (.int .i64 k) (.int .i64 v) (.int .u64 g) = W at *
        obtain ⟨e0, e1, e2, -⟩ := cells3 hW
        refine bodyPost_ret (v := itV k v g) ?_ rfl (Ret.mk hX)
        simp [results, Tryz.results35, go_sem, e0, e1, e2, itV]
      · rw [if_neg h4]
        have h4' : (c : Int) ≠ 4 := by omega
        clear h4
        refine (callsIn_wide (n := m)).1 ?_
        refine callsIn_of_wp Tryz.func35 rfl trivial ?_ rfl
        simp only [Tryz.ntmps35, List.size_toArray, List.length_cons, List.length_nil, Nat.reduceAdd, Nat.reduceSub, Array.replicate_succ, Array.replicate_zero, List.push_toArray, List.append_toArray, List.nil_append, List.cons_append]
        gi_wp2_with fail
        have hbox := alloc_at w (.cells #[.int .i64 0, .int .i64 0, .int .u64 0] 51) _ rfl
        have hE := (Ext.refl w).alloc (.cells #[.int .i64 0, .int .i64 0, .int .u64 0] 51)
        generalize w.alloc (.cells #[.int .i64 0, .int .i64 0, .int .u64 0] 51) = w1 at *
        have hc0 := cell_all ((hE.cell hlt).trans HC.out.1)
        have hc1 := cell_all ((hE.cell hlt).trans HC.out.2.1)
        have hx := Ext.drew w1
        refine wpIn_region_G (fun j => !(List.contains (α := Nat) [10] j)) (by kernel_rfl) ?_
        refine batchG hfn (fuel := 2) [0, 1, 2, 3, 4, 5, 6, 7, 8] (by kernel_rfl) rfl ?_
        repeat (go_big_quiet_step ((fail)))
        refine wpQuiet_nil ?_
        refine wpAnyG_one (j := 9) (by kernel_rfl) rfl ?_
        gi_wp2_with fail
        refine onePost_ext ((Ext.refl w1.drew).alloc _) ?_
        have h2 : Ext w1 (w1.alloc (.cells #[.int .i64 0, .int .i64 0, .int .u64 0] 51)).drew := ((Ext.refl w1).alloc _).trans (Ext.drew _)
        have hnew : (w1.alloc (.cells #[.int .i64 0, .int .i64 0, .int .u64 0] 51)).drew.heap[w1.heap.size]? = some (.cells #[.int .i64 0, .int .i64 0, .int .u64 0] 51 (0, 0)) := alloc_at w1 _ _ rfl
        generalize (w1.alloc (.cells #[.int .i64 0, .int .i64 0, .int .u64 0] 51)).drew = w2 at *
        obtain ⟨g0, g1, g2, gf⟩ := cells3 hnew
        have hs := hE.size
        have hs1 : w.heap.size < w1.heap.size := lt_of hbox
        clear hc0 hc1 hx
        refine wpAnyG_one (j := 10) (by kernel_rfl) rfl ?_
        gi_wp2_with fail
        refine onePost_any (by kernel_rfl) ?_
        change wpAnyG _ _ _ _ _ _ _ _ _ _ (put3 w2 w1.heap.size (.int .i64 k) (.int .i64 v) (.int .u64 0))
        obtain ⟨hn3, hX3⟩ := put3_spec (hE.trans h2) hs hnew (.int .i64 k) (.int .i64 v) (.int .u64 0)
        have hb3 := put3_other (w := w2) (N := w1.heap.size) (i := w.heap.size) (by omega) (h2.get hbox) (.int .i64 k) (.int .i64 v) (.int .u64 0)
        generalize put3 w2 w1.heap.size (.int .i64 k) (.int .i64 v) (.int .u64 0) = w3 at *
        clear hnew g0 g1 g2 gf hbox h2 hE
        refine wpAnyG_done (by kernel_rfl) ?_
        refine calmQ_normal ?_
        obtain ⟨d0, d1, d2, df⟩ := cells3 hb3
        obtain ⟨f0, f1, f2, ff⟩ := cells3 hn3
        have HX := Lib.hid (And.intro hX3 (And.intro hb3 hn3))
        clear hX3 hb3 hn3
        gi_wp2
        change bodyPost _ _ _ _ _ (put3 w3 w.heap.size (.int .i64 k) (.int .i64 v) (.int .u64 0))
        clear d0 d1 d2 df f0 f1 f2 ff
        obtain ⟨hW, hX⟩ := put3_spec HX.out.1 (Nat.le_refl _) HX.out.2.1 (.int .i64 k) (.int .i64 v) (.int .u64 0)
        generalize put3 w3 w.heap.size (.int .i64 k) (.int .i64 v) (.int .u64 0) = W at *
        obtain ⟨e0, e1, e2, -⟩ := cells3 hW
        refine bodyPost_ret (v := itV k v 0) ?_ rfl (Ret.mk hX)
        simp [results, Tryz.results35, go_sem, e0, e1, e2, itV]
end Go.Proofs.YtkkdobolloojjaaGreat
namespace Go.Proofs.YtkkdobolloojjaaGreat
open Go Go.RowKit
attribute [local go_sem] Oper.semAt_some

theorem map_at {c : Nat} {xs zs : List (Int × Int × Int)} (h : zs.map (itC c) = xs) {k : Nat} {z : Int × Int × Int} (hz : zs[k]? = some z) : xs[k]? = some (itC c z) := by
  rw [← h]; simp [hz]
set_option maxRecDepth 100000 in
set_option maxHeartbeats 4000000 in
theorem has22_any (c : Nat) (h4 : 1 ≤ c ∧ c ≤ 4) (T : Tr) (w : World) (p q : Value) (zs : List (Int × Int × Int)) (hb : Beads w p T.beads) (hq : IRow3 w q zs) (hz : zs.map (itC c) = itsC c T) (hm : MayC c T) (ho : c = 2 → TagsOk T) (hl : T.count ≤ 2000) :
    Calls Tryz.prog 12 #[.int .u8 c, p, q] w (Ret (.bool true) w) := by
  have hund : undef = Value.tuple #[] := rfl
  have hfn : ∀ f, Fence.wide.fn f := fun _ => trivial
  have hbt : Beads w p T.bt.enc := beads_bt hb
  have hlen : T.bt.enc.length ≤ 2000 := by rw [← fits_cnt T.bt_fits]; exact hl
  have H1 := Lib.hid (may22_any c h4 T.bt T w p T.bt_fits ho hbt hlen)
  rw [show ((ckV c T).2 == 0) = true by rw [MayC.ck h4 (by omega) hm]; rfl] at H1
  have H2 := Lib.hid (fun W (e : Ext w W) => of_any T.bt W p (hbt.ext e) hlen)
  rw [← fits_beads T.bt_fits (by omega)] at H2
  have H3 := Lib.hid (fun W (e : Ext w W) u (hu : Beads W u T.beads) => same_any W p u T.beads (hb.ext e) hu (by rw [T.beads_len]; exact hl))
  have H4 := Lib.hid (fun W (e : Ext w W) => items22_any c h4 T.bt W p (hbt.ext e) hlen)
  rw [← fits_itsC c T.bt_fits] at H4
  have hzl : zs.length = T.count := by rw [← itsC_len c, ← hz, List.length_map]
  have HZ := Lib.hid hz
  have hll : (itsC c T).length = zs.length := by rw [← hz, List.length_map]
  obtain ⟨a, k, rfl⟩ := beads_slice hb
  have hzl2 : zs.length ≤ 2000 := by omega
  clear hb hbt hlen hm ho hz hzl hl
  generalize T.beads = bs at *
  generalize bs.length = BL at *
  generalize itsC c T = xs at *
  by_cases h0 : zs = []
  · subst h0
    obtain rfl : xs = [] := by cases xs with | nil => rfl | cons => simp at hll
    obtain ⟨a0, k0, rfl⟩ := irow3_slice hq
    rw [show ([] : List (Int × Int × Int)).length = 0 from rfl] at *
    clear hq HZ hll hzl2
    go_enter Tryz.func12, Tryz.ntmps12
    go_wp2_with fail
    refine H1.out.mono ?_
    rintro e w1 ⟨rfl, h1⟩
    go_wp2_with fail
    refine (H2.out w1 h1).mono ?_
    rintro e w2 ⟨v2, rfl, o2, h2⟩
    have hx2 := h1.trans h2
    have O2 := Lib.hid o2.beads
    obtain ⟨a2, k2, rfl⟩ := beads_slice o2.beads
    clear h1 h2 o2
    go_wp2_with fail
    refine (H3.out w2 hx2 _ O2.out).mono ?_
    rintro e w3 ⟨rfl, h3⟩
    have hx3 := hx2.trans h3
    clear hx2 h3 O2
    go_wp2_with fail
    refine (H4.out w3 hx3).mono ?_
    rintro e w4 ⟨v4, rfl, o4, h4⟩
    have hx4 := hx3.trans h4
    have O4 := Lib.hid o4.row
    obtain ⟨a4, k4, rfl⟩ := irow3_slice o4.row
    clear hx3 h4 o4
    clear O4
    rw [show ([] : List (Int × Int × Int)).length = 0 from rfl]
    go_wp2
    go_loop [8] (fun i => i = .int .i64 0) (fun _ => 0)
    case atStart => rfl
    case round =>
      subst hrel
      go_wp2
      go_ret
      exact Ret.mk hx4
  · have hxne : xs ≠ [] := fun e => by rw [e] at hll; exact h0 (List.eq_nil_of_length_eq_zero hll.symm)
    rcases hq with ⟨h, -⟩ | ⟨b, o, cq, rfl, -, hcq, hr⟩
    · exact (h0 h).elim
    · have HR := Lib.hid hr
      clear hr h0
      by_cases hc : c = 4
      · subst hc
        have hit : ∀ z, itC 4 z = z := fun z => rfl
        go_enter Tryz.func12, Tryz.ntmps12
        go_wp2_with fail
        refine H1.out.mono ?_
        rintro e w1 ⟨rfl, h1⟩
        go_wp2_with fail
        refine (H2.out w1 h1).mono ?_
        rintro e w2 ⟨v2, rfl, o2, h2⟩
        have hx2 := h1.trans h2
        have O2 := Lib.hid o2.beads
        obtain ⟨a2, k2, rfl⟩ := beads_slice o2.beads
        clear h1 h2 o2
        go_wp2_with fail
        refine (H3.out w2 hx2 _ O2.out).mono ?_
        rintro e w3 ⟨rfl, h3⟩
        have hx3 := hx2.trans h3
        clear hx2 h3 O2
        go_wp2_with fail
        refine (H4.out w3 hx3).mono ?_
        rintro e w4 ⟨v4, rfl, o4, h4⟩
        have hx4 := hx3.trans h4
        have O4 := Lib.hid o4.row
        obtain ⟨a4, k4, rfl⟩ := irow3_slice o4.row
        clear hx3 h4 o4
        rcases O4.out with ⟨h, -⟩ | ⟨b2, o2, cq2, hv, -, hcq2, hr2⟩
        · exact (hxne h).elim
        · injection hv with e1 e2 e3
          subst e1 e3
          have HR2 := Lib.hid hr2
          rw [hll] at hcq2 ⊢
          clear hr2 O4 hxne
          go_wp2
          go_loopw [8] (fun i W => (Ext w W ∧ Ext w4 W) ∧ ∃ k : Nat, k ≤ zs.length ∧ i = .int .i64 k) (fun i _ => zs.length - (intOf i).toNat)
          case atStart => exact ⟨⟨hx4, Ext.refl _⟩, 0, Nat.zero_le _, rfl⟩
          case round =>
            obtain ⟨⟨hX, hX4⟩, k, hk, rfl⟩ := hrel
            by_cases hlt : k < zs.length
            · obtain ⟨z, hz⟩ : ∃ z, zs[k]? = some z := ⟨_, List.getElem?_eq_getElem hlt⟩
              obtain ⟨z0, z1, z2⟩ := z
              have hx' := map_at HZ.out hz
              have c0 : wr.cell? ⟨b, o + k * 3, none⟩ = some (.int .i64 z0) := item_cell (rangeAt_ext HR.out hX) hz (j := 0) rfl
              have c1 : wr.cell? ⟨b, o + k * 3 + 1, none⟩ = some (.int .i64 z1) := item_cell (rangeAt_ext HR.out hX) hz (j := 1) rfl
              have c2' : wr.cell? ⟨b, o + k * 3 + 2, none⟩ = some (.int .u64 z2) := item_cell (rangeAt_ext HR.out hX) hz (j := 2) rfl
              have d0 : wr.cell? ⟨b2, o2 + k * 3, none⟩ = some (.int .i64 z0) := item_cell (rangeAt_ext HR2.out hX4) hx' (j := 0) rfl
              have d1 : wr.cell? ⟨b2, o2 + k * 3 + 1, none⟩ = some (.int .i64 z1) := item_cell (rangeAt_ext HR2.out hX4) hx' (j := 1) rfl
              have d2 : wr.cell? ⟨b2, o2 + k * 3 + 2, none⟩ = some (.int .u64 (itC _ (z0, z1, z2)).2.2) := item_cell (rangeAt_ext HR2.out hX4) hx' (j := 2) rfl
              replace c0 := cell_all c0
              replace c1 := cell_all c1
              replace c2' := cell_all c2'
              replace d0 := cell_all d0
              replace d1 := cell_all d1
              replace d2 := cell_all d2
              clear hz hx'
              have hx := Ext.drew wr
              obtain ⟨m⟩ : Nonempty Nat := ⟨0⟩
              go_wp2_with fail
              refine (wpIn_wide (n := m)).1 ?_
              gi_wp2_with fail
              refine wpIn_region_G (fun j => !(List.contains (α := Nat) [] j)) (by kernel_rfl) ?_
              refine batchG hfn (fuel := 0) [0, 1, 2, 3, 4, 5, 6, 7, 8, 9, 10, 11, 12, 13, 14, 15, 16, 17, 18, 19, 20, 21, 22, 23, 24, 25, 26, 27, 28, 29, 30, 31, 32, 33, 34, 35, 36, 37, 38, 39, 40] (by kernel_rfl) rfl ?_
              repeat (go_big_quiet_step ((fail)))
              refine wpQuiet_nil ?_
              refine wpAnyG_done (by kernel_rfl) ?_
              refine calmQ_normal ?_
              go_wp2
              go_roundw
              case rel => exact ⟨⟨by first | exact hX | exact hX.trans (Ext.drew _), by first | exact hX4 | exact hX4.trans (Ext.drew _)⟩, k + 1, by omega, by go_num⟩
              case measure => simp [intOf]; omega
            · go_wp2
              go_ret
              exact Ret.mk hX
      · obtain rfl | rfl | rfl : c = 1 ∨ c = 2 ∨ c = 3 := by omega
        all_goals
          clear hc
          go_enter Tryz.func12, Tryz.ntmps12
          go_wp2_with fail
          refine H1.out.mono ?_
          rintro e w1 ⟨rfl, h1⟩
          go_wp2_with fail
          refine (H2.out w1 h1).mono ?_
          rintro e w2 ⟨v2, rfl, o2, h2⟩
          have hx2 := h1.trans h2
          have O2 := Lib.hid o2.beads
          obtain ⟨a2, k2, rfl⟩ := beads_slice o2.beads
          clear h1 h2 o2
          go_wp2_with fail
          refine (H3.out w2 hx2 _ O2.out).mono ?_
          rintro e w3 ⟨rfl, h3⟩
          have hx3 := hx2.trans h3
          clear hx2 h3 O2
          go_wp2_with fail
          refine (H4.out w3 hx3).mono ?_
          rintro e w4 ⟨v4, rfl, o4, h4⟩
          have hx4 := hx3.trans h4
          have O4 := Lib.hid o4.row
          obtain ⟨a4, k4, rfl⟩ := irow3_slice o4.row
          clear hx3 h4 o4
          rcases O4.out with ⟨h, -⟩ | ⟨b2, o2, cq2, hv, -, hcq2, hr2⟩
          · exact (hxne h).elim
          · injection hv with e1 e2 e3
            subst e1 e3
            have HR2 := Lib.hid hr2
            rw [hll] at hcq2 ⊢
            clear hr2 O4 hxne
            go_wp2
            go_loopw [8] (fun i W => (Ext w W ∧ Ext w4 W) ∧ ∃ k : Nat, k ≤ zs.length ∧ i = .int .i64 k) (fun i _ => zs.length - (intOf i).toNat)
            case atStart => exact ⟨⟨hx4, Ext.refl _⟩, 0, Nat.zero_le _, rfl⟩
            case round =>
              obtain ⟨⟨hX, hX4⟩, k, hk, rfl⟩ := hrel
              by_cases hlt : k < zs.length
              · obtain ⟨z, hz⟩ : ∃ z, zs[k]? = some z := ⟨_, List.getElem?_eq_getElem hlt⟩
                obtain ⟨z0, z1, z2⟩ := z
                have hx' := map_at HZ.out hz
                have c0 : wr.cell? ⟨b, o + k * 3, none⟩ = some (.int .i64 z0) := item_cell (rangeAt_ext HR.out hX) hz (j := 0) rfl
                have c1 : wr.cell? ⟨b, o + k * 3 + 1, none⟩ = some (.int .i64 z1) := item_cell (rangeAt_ext HR.out hX) hz (j := 1) rfl
                have c2' : wr.cell? ⟨b, o + k * 3 + 2, none⟩ = some (.int .u64 z2) := item_cell (rangeAt_ext HR.out hX) hz (j := 2) rfl
                have d0 : wr.cell? ⟨b2, o2 + k * 3, none⟩ = some (.int .i64 z0) := item_cell (rangeAt_ext HR2.out hX4) hx' (j := 0) rfl
                have d1 : wr.cell? ⟨b2, o2 + k * 3 + 1, none⟩ = some (.int .i64 z1) := item_cell (rangeAt_ext HR2.out hX4) hx' (j := 1) rfl
                have d2 : wr.cell? ⟨b2, o2 + k * 3 + 2, none⟩ = some (.int .u64 (itC _ (z0, z1, z2)).2.2) := item_cell (rangeAt_ext HR2.out hX4) hx' (j := 2) rfl
                replace c0 := cell_all c0
                replace c1 := cell_all c1
                replace c2' := cell_all c2'
                replace d0 := cell_all d0
                replace d1 := cell_all d1
                replace d2 := cell_all d2
                clear hz hx'
                have hx := Ext.drew wr
                obtain ⟨m⟩ : Nonempty Nat := ⟨0⟩
                go_wp2_with fail
                refine (wpIn_wide (n := m)).1 ?_
                gi_wp2_with fail
                refine wpIn_region_G (fun j => !(List.contains (α := Nat) [] j)) (by kernel_rfl) ?_
                refine batchG hfn (fuel := 0) [0, 1, 2, 3, 4, 5, 6, 7, 8, 9, 10, 11, 12, 13, 14, 15, 16, 17, 18, 19, 20, 21, 22, 23, 24, 25, 26, 27, 28, 29, 30, 31, 32, 33, 34, 35, 36, 37, 38, 39, 40] (by kernel_rfl) rfl ?_
                repeat (go_big_quiet_step ((fail)))
                refine wpQuiet_nil ?_
                refine wpAnyG_done (by kernel_rfl) ?_
                refine calmQ_normal ?_
                go_wp2
                go_roundw
                case rel => exact ⟨⟨by first | exact hX | exact hX.trans (Ext.drew _), by first | exact hX4 | exact hX4.trans (Ext.drew _)⟩, k + 1, by omega, by go_num⟩
                case measure => simp [intOf]; omega
              · go_wp2
                go_ret
                exact Ret.mk hX
end Go.Proofs.YtkkdobolloojjaaGreat
