/- The walk of LookStops. -/
import Derived.Test.YtkbndpemljommaaLookAlive
import Derived.Test.YtkbndpemljommaaShape
import Derived.Test.YtkbndpemljommaaIterS
namespace Go.Proofs.Ytkbndpemljommaa
open Go Go.RowKit Go.Shelf
attribute [local go_sem] Oper.semAt_some

theorem inl_kvs : ∀ T : Tr, T.inl.map kvT = T.kvs
  | .nil => rfl
  | .node b l k v g r => by rw [Tr.inl, Tr.kvs, List.map_append, List.map_cons, inl_kvs l, inl_kvs r]; rfl
theorem inr_kvs (T : Tr) : T.inr.map kvT = T.kvs.reverse := by rw [inr_rev, List.map_reverse, inl_kvs]
theorem POwn.front {B : Nat} {w : World} {a : Option Addr} {n cp k : Nat} {zs : List (Int × Int)} (h : POwn B w (.slice a n cp) zs) (hk : k ≤ zs.length) : PRow w (.slice a k cp) (zs.take k) := by
  by_cases h0 : k = 0
  · subst h0; exact .inl ⟨rfl, _, _, rfl⟩
  · rcases h.row with ⟨hz, a', c', hv⟩ | ⟨b, o, c', hv, hne, hc, hr⟩
    · rw [hz] at hk; exact absurd (Nat.le_zero.1 hk) h0
    · cases hv
      have hl : (zs.take k).length = k := by rw [List.length_take]; omega
      refine .inr ⟨b, o, cp, by rw [hl], fun hn => by rw [hn] at hl; exact h0 hl.symm, by omega, fun j u hj => hr j u ?_⟩
      conv => lhs; rw [← List.take_append_drop k zs]
      rw [pairCells_append, List.getElem?_append_left (List.getElem?_eq_some_iff.1 hj).1]
      exact hj
theorem pown_cap {B : Nat} {w : World} {a : Option Addr} {n cp : Nat} {zs : List (Int × Int)} (h : POwn B w (.slice a n cp) zs) : zs.length ≤ cp := by
  obtain ⟨h1, ⟨hv, h0⟩ | ⟨g, cap, cur, hv, hb, hg, hc, hm, hs, ht⟩⟩ := h
  · cases hv; exact Nat.le_of_eq h0
  · cases hv; exact hc
theorem pown_ptr {B : Nat} {w : World} {a : Option Addr} {n cp : Nat} {zs : List (Int × Int)} (h : POwn B w (.slice a n cp) zs) : (a = none ∧ cp = 0) ∨ ∃ g, a = some ⟨g, 0, none⟩ := by
  obtain ⟨h1, ⟨hv, h0⟩ | ⟨g, cap, cur, hv, hb, hg, hc, hm, hs, ht⟩⟩ := h
  · cases hv; exact .inl ⟨rfl, rfl⟩
  · cases hv; exact .inr ⟨g, rfl⟩
theorem stop_k {pre zs : List (Int × Int)} {n : Nat} (h : pre.length < zs.length) (hn : 60 ≥ n) (hz : zs.length = n) (x : Int × Int) : Value.int .i64 (wrap64 ((pre.length : Int) + 1)) = .int .i64 (((pre ++ [x]).length : Nat) : Int) := by
  rw [List.length_append, show wrap64 ((pre.length : Int) + 1) = ((pre.length + [x].length : Nat) : Int) by unfold wrap64; simp; omega]
set_option maxRecDepth 100000 in
set_option maxHeartbeats 4000000 in
theorem lookStops_in (n : Nat) (a0 : Option Addr) (len0 cap0 : Nat) (z0 : List BeadL) (mo : Nat) (hmo : mo < 256) (w : World) (w0 : IsBeads w (.slice a0 len0 cap0) z0) :
    CallsIn Fence.wide n Try.prog 3 #[.slice a0 len0 cap0, .int .u8 mo] w (Ret (.bool true) w) := by
  have hund : undef = Value.tuple #[] := rfl
  have hfn : ∀ f, Fence.wide.fn f := fun _ => trivial
  obtain rfl : len0 = z0.length := by obtain ⟨_, _, h⟩ := beads_slice w0.1; cases h; rfl
  have HB0 := Lib.hid w0.1
  have HLG := Lib.hid (fun W (e : Ext w W) => beadsLong_any W _ z0 (w0.1.ext e))
  have hE := (Ext.refl w).alloc (.cells #[.bool false] 4)
  have hr := Boxed.new w 4 (.bool false)
  have HR := Lib.hid (And.intro hE hr)
  clear w0
  cases d0 : (decide (400 < z0.length) || !mayB z0) with
  | true =>
    rw [d0] at HLG
    clear d0 hE hr
    refine callsIn_of_wp_marks Try.func3 rfl trivial ?_ rfl
    simp only [Try.ntmps3, List.size_toArray, List.length_cons, List.length_nil, Nat.reduceAdd, Nat.reduceSub, Array.replicate_succ, Array.replicate_zero, List.push_toArray, List.append_toArray, List.nil_append, List.cons_append]
    gi_wp2_with fail
    generalize w.alloc (.cells #[.bool false] 4) = w1 at *
    gi_wp2_with fail
    refine ⟨wide_room _, (callsIn_wide.2 (HLG.out _ HR.out.1)).mono ?_⟩
    rintro e w2 ⟨rfl, h2⟩
    gi_wp2_with fail
    gi_wp2_with fail
    refine ⟨wide_room _, (callsIn_wide.2 (alive10_any _)).mono ?_⟩
    rintro e w3 ⟨rfl, h3⟩
    have hb := h3.get (h2.get HR.out.2)
    have hce := (show Boxed w3 w.heap.size 4 _ from hb).cell
    have hfe := (show Boxed w3 w.heap.size 4 _ from hb).frozen
    have HX := Lib.hid (And.intro ((HR.out.1.trans h2).trans h3) (show Boxed w3 w.heap.size 4 (.bool false) from hb))
    clear h2 h3 hb
    gi_wp2
    have hs := (HX.out.2.set (.bool true)).cell
    exact ⟨.bool true, by simp [results, Try.results3, go_sem, loadVar, hs], ⟨rfl, HX.out.1.setCell (p := ⟨w.heap.size, 0, none⟩) (Nat.le_refl _) _⟩⟩
  | false =>
    obtain ⟨l0, t0, e0⟩ := long_tree d0
    subst e0
    rw [d0] at HLG
    have L0 := Lib.hid l0
    clear d0 l0 hE hr
    rcases Nat.lt_or_ge 60 t0.enc.length with h60 | h60
    · have h60' : (60 : Int) < (t0.enc.length : Int) := by omega
      clear h60
      refine callsIn_of_wp_marks Try.func3 rfl trivial ?_ rfl
      simp only [Try.ntmps3, List.size_toArray, List.length_cons, List.length_nil, Nat.reduceAdd, Nat.reduceSub, Array.replicate_succ, Array.replicate_zero, List.push_toArray, List.append_toArray, List.nil_append, List.cons_append]
      gi_wp2_with fail
      generalize w.alloc (.cells #[.bool false] 4) = w1 at *
      gi_wp2_with fail
      refine ⟨wide_room _, (callsIn_wide.2 (HLG.out _ HR.out.1)).mono ?_⟩
      rintro e w2 ⟨rfl, h2⟩
      gi_wp2_with fail
      gi_wp2_with fail
      refine ⟨wide_room _, (callsIn_wide.2 (alive10_any _)).mono ?_⟩
      rintro e w3 ⟨rfl, h3⟩
      have hb := h3.get (h2.get HR.out.2)
      have hce := (show Boxed w3 w.heap.size 4 _ from hb).cell
      have hfe := (show Boxed w3 w.heap.size 4 _ from hb).frozen
      have HX := Lib.hid (And.intro ((HR.out.1.trans h2).trans h3) (show Boxed w3 w.heap.size 4 (.bool false) from hb))
      clear h2 h3 hb
      gi_wp2
      have hs := (HX.out.2.set (.bool true)).cell
      exact ⟨.bool true, by simp [results, Try.results3, go_sem, loadVar, hs], ⟨rfl, HX.out.1.setCell (p := ⟨w.heap.size, 0, none⟩) (Nat.le_refl _) _⟩⟩
    · have HN := Lib.hid h60
      have h60' : (t0.enc.length : Int) ≤ (60 : Int) := by omega
      clear h60
      rcases Nat.lt_trichotomy mo t0.kvs.length with hq | hq | hq
      · have HQ := Lib.hid (Nat.le_of_lt hq)
        have hq' : (mo : Int) < (t0.kvs.length : Int) := by omega
        clear hq
        refine callsIn_of_wp_marks Try.func3 rfl trivial ?_ rfl
        simp only [Try.ntmps3, List.size_toArray, List.length_cons, List.length_nil, Nat.reduceAdd, Nat.reduceSub, Array.replicate_succ, Array.replicate_zero, List.push_toArray, List.append_toArray, List.nil_append, List.cons_append]
        gi_wp2_with fail
        generalize w.alloc (.cells #[.bool false] 4) = w1 at *
        gi_wp2_with fail
        refine ⟨wide_room _, (callsIn_wide.2 (HLG.out _ HR.out.1)).mono ?_⟩
        rintro e w2 ⟨rfl, h2⟩
        have HX2 := Lib.hid (And.intro (HR.out.1.trans h2) (show Boxed w2 w.heap.size 4 (.bool false) from h2.get HR.out.2))
        clear h2 HR HLG
        gi_wp2_with fail
        clear h60'
        gi_wp2_with fail
        refine ⟨wide_room _, (callsIn_wide.2 (beadsMake_any t0 w2 _ (HB0.out.ext HX2.out.1) L0.out)).mono ?_⟩
        rintro e w3 ⟨T, rfl, iT, fT, h3⟩
        have HT := Lib.hid (And.intro iT (show T.kvs = t0.kvs from BT.fits_kvs fT))
        have HX3 := Lib.hid (And.intro (HX2.out.1.trans h3) (show Boxed w3 w.heap.size 4 (.bool false) from h3.get HX2.out.2))
        clear h3 HX2 iT fT
        gi_wp2_with fail
        gi_wp2_with fail
        refine ⟨wide_room _, (callsIn_wide.2 (pairs09_any t0 w3 _ (HB0.out.ext HX3.out.1) (Nat.le_trans L0.out (by decide)))).mono ?_⟩
        rintro e w4 ⟨v4, rfl, o4, h4⟩
        obtain ⟨pa, pc, rfl⟩ := prow_slice o4.row
        have hb6 := Boxed.new w4 27 (.slice pa t0.kvs.length pc)
        have hE6 := (Ext.refl w4).alloc (.cells #[.slice pa t0.kvs.length pc] 27)
        have HX5 := Lib.hid (And.intro (HX3.out.1.trans (h4.trans hE6)) (And.intro (show Boxed _ w.heap.size 4 (.bool false) from hE6.get (h4.get HX3.out.2)) (And.intro hb6 (And.intro (HT.out.1.ext (h4.trans hE6)) (o4.ext hE6)))))
        have hcp := hb6.cell
        clear hb6 hE6 h4 o4 HX3
        gi_wp2_with fail
        clear hcp
        generalize w4.alloc (.cells #[.slice pa t0.kvs.length pc] 27) = w5 at *
        generalize w4.heap.size = N6 at *
        gi_wp2_with fail
        refine ⟨wide_room _, (callsIn_wide.2 (all_any w5 T HX5.out.2.2.2.1)).mono ?_⟩
        rintro e w6 ⟨bq, rfl, h6, hs6, hit6⟩
        unfold pairsV
        rw [inl_kvs, HT.out.2] at hit6
        have HA := Lib.hid (fun W (e : Ext w6 W) mo => collect_any W bq mo t0.kvs (goes_use HX5.out.2.2.2.1 hs6 hit6 e) (by rw [BT.kvs_len]; exact Nat.le_trans HN.out (by decide)))
        have HX6 := Lib.hid (And.intro (HX5.out.1.trans h6) (And.intro (show Boxed w6 w.heap.size 4 (.bool false) from h6.get HX5.out.2.1) (And.intro (show Boxed w6 N6 27 (.slice pa t0.kvs.length pc) from h6.get HX5.out.2.2.1) (And.intro (HX5.out.2.2.2.1.ext h6) (HX5.out.2.2.2.2.ext h6)))))
        have HIT := Lib.hid (fun W (e : Ext w6 W) => goes_use HX5.out.2.2.2.1 hs6 hit6 e)
        clear h6 hs6 hit6 HX5
        gi_wp2_with fail
        gi_wp2_with fail
        refine ⟨wide_room _, (callsIn_wide.2 (back_any w6 T HX6.out.2.2.2.1)).mono ?_⟩
        rintro e w7 ⟨bq2, rfl, h7, hs7, hit7⟩
        unfold pairsV
        rw [inr_kvs, HT.out.2] at hit7
        have hE8 := (Ext.refl w7).alloc (.cells #[.func (.func 31) #[] #[.pointer (some ⟨bq2, 0, none⟩)]] 30)
        have hb8 := Boxed.new w7 30 (.func (.func 31) #[] #[.pointer (some ⟨bq2, 0, none⟩)])
        have HBK := Lib.hid (fun W (e : Ext (w7.alloc (.cells #[.func (.func 31) #[] #[.pointer (some ⟨bq2, 0, none⟩)]] 30)) W) mo => collect_any W bq2 mo t0.kvs.reverse (goes_use HX6.out.2.2.2.1 hs7 hit7 (hE8.trans e)) (by rw [List.length_reverse, BT.kvs_len]; exact Nat.le_trans HN.out (by decide)))
        have HX8 := Lib.hid (And.intro (HX6.out.1.trans (h7.trans hE8)) (And.intro (show Boxed _ w.heap.size 4 (.bool false) from hE8.get (h7.get HX6.out.2.1)) (And.intro (show Boxed _ N6 27 (.slice pa t0.kvs.length pc) from hE8.get (h7.get HX6.out.2.2.1)) (And.intro (HX6.out.2.2.2.2.ext (h7.trans hE8)) (And.intro (h7.trans hE8) hb8)))))
        clear h7 hs7 hit7 hE8 hb8 HX6
        gi_wp2_with fail
        generalize w7.alloc (.cells #[.func (.func 31) #[] #[.pointer (some ⟨bq2, 0, none⟩)]] 30) = w8 at *
        generalize w7.heap.size = N9 at *
        have c6 := cell_all HX8.out.2.2.1.cell
        have c9 := cell_all HX8.out.2.2.2.2.2.cell
        have hx := Ext.drew w8
        have hk1 : (mo : Int) ≤ (pc : Int) := Int.ofNat_le.2 (Nat.le_trans HQ.out (pown_cap HX8.out.2.2.2.1))
        refine wpIn_region_G (fun j => !(List.contains (α := Nat) [] j)) (by kernel_rfl) ?_
        refine batchG hfn (fuel := 21) [0, 1, 3, 4, 5] (by kernel_rfl) rfl ?_
        repeat (go_big_quiet_step ((fail)))
        refine wpQuiet_nil ?_
        refine wpAnyG_one (j := 2) (by kernel_rfl) rfl ?_
        gi_wp2_with fail
        refine ⟨wide_room _, (callsIn_wide.2 (HA.out _ (HX8.out.2.2.2.2.1.trans hx) mo)).mono ?_⟩
        rintro e w9 ⟨v9, rfl, o9, h9⟩
        gi_wp2_with fail
        refine onePost_ext (h9) ?_
        replace hx := hx.trans h9
        have HO9 := Lib.hid o9.row
        clear h9 o9
        refine wpAnyG_one (j := 6) (by kernel_rfl) rfl ?_
        gi_wp2_with fail
        refine ⟨wide_room _, (callsIn_wide.2 (samePairs_any w9 _ _ (t0.kvs.take mo) HO9.out ((HX8.out.2.2.2.1.ext hx).front HQ.out) (by rw [List.length_take]; exact Nat.le_trans (Nat.min_le_right _ _) (by rw [BT.kvs_len]; exact Nat.le_trans HN.out (by decide))))).mono ?_⟩
        rintro e w10 ⟨rfl, h10⟩
        gi_wp2_with fail
        refine onePost_ext (h10) ?_
        replace hx := hx.trans h10
        clear h10 HO9
        refine batchG hfn (fuel := 13) [7, 8, 9, 10, 12, 14] (by kernel_rfl) rfl ?_
        repeat (go_big_quiet_step ((fail)))
        refine wpQuiet_nil ?_
        refine wpAnyG_one (j := 11) (by kernel_rfl) rfl ?_
        gi_wp2_with fail
        refine ⟨wide_room _, (callsIn_wide.2 (HBK.out _ hx mo)).mono ?_⟩
        rintro e w11 ⟨v11, rfl, o11, h11⟩
        gi_wp2_with fail
        refine onePost_ext (h11) ?_
        replace hx := hx.trans h11
        have HO11 := Lib.hid o11.row
        clear h11 o11
        refine wpAnyG_one (j := 13) (by kernel_rfl) rfl ?_
        gi_wp2_with fail
        refine ⟨wide_room _, (callsIn_wide.2 (turned_any w11 _ t0.kvs (HX8.out.2.2.2.1.ext hx).row (by rw [BT.kvs_len]; exact Nat.le_trans HN.out (by decide)))).mono ?_⟩
        rintro e w12 ⟨v12, rfl, o12, h12⟩
        obtain ⟨ta, tc, rfl⟩ := prow_slice o12.row
        have HO12 := Lib.hid o12
        have HC12 := Lib.hid (pown_cap o12)
        gi_wp2_with fail
        refine onePost_ext (h12) ?_
        replace hx := hx.trans h12
        replace HO11 := Lib.hid (HO11.out.ext h12)
        clear h12 o12
        have hk2 : (mo : Int) ≤ (tc : Int) := Int.ofNat_le.2 (Nat.le_trans (by rw [List.length_reverse]; exact HQ.out) HC12.out)
        refine batchG hfn (fuel := 10) [15] (by kernel_rfl) rfl ?_
        repeat (go_big_quiet_step ((fail)))
        refine wpQuiet_nil ?_
        refine wpAnyG_one (j := 16) (by kernel_rfl) rfl ?_
        gi_wp2_with fail
        refine ⟨wide_room _, (callsIn_wide.2 (samePairs_any w12 _ _ (t0.kvs.reverse.take mo) HO11.out (HO12.out.front (by rw [List.length_reverse]; exact HQ.out)) (by rw [List.length_take]; exact Nat.le_trans (Nat.min_le_right _ _) (by rw [List.length_reverse, BT.kvs_len]; exact Nat.le_trans HN.out (by decide))))).mono ?_⟩
        rintro e w13 ⟨rfl, h13⟩
        gi_wp2_with fail
        refine onePost_ext (h13) ?_
        replace hx := hx.trans h13
        clear h13 HO11 HO12 HC12 hk2
        refine batchG hfn (fuel := 4) [17, 18, 19, 20, 22] (by kernel_rfl) rfl ?_
        repeat (go_big_quiet_step ((fail)))
        refine wpQuiet_nil ?_
        refine wpAnyG_one (j := 21) (by kernel_rfl) rfl ?_
        gi_wp2_with fail
        refine ⟨wide_room _, (callsIn_wide.2 (HA.out _ (HX8.out.2.2.2.2.1.trans hx) 100)).mono ?_⟩
        rw [List.take_of_length_le (show t0.kvs.length ≤ 100 by rw [BT.kvs_len]; exact Nat.le_trans HN.out (by decide))]
        rintro e w14 ⟨v14, rfl, o14, h14⟩
        gi_wp2_with fail
        refine onePost_ext (h14) ?_
        replace hx := hx.trans h14
        have HO14 := Lib.hid o14.row
        clear h14 o14
        refine wpAnyG_one (j := 23) (by kernel_rfl) rfl ?_
        gi_wp2_with fail
        refine ⟨wide_room _, (callsIn_wide.2 (samePairs_any w14 _ _ t0.kvs HO14.out (HX8.out.2.2.2.1.ext hx).row (by rw [BT.kvs_len]; exact Nat.le_trans HN.out (by decide)))).mono ?_⟩
        rintro e w15 ⟨rfl, h15⟩
        gi_wp2_with fail
        refine onePost_ext (h15) ?_
        replace hx := hx.trans h15
        clear h15 HO14 c6 c9 hk1
        refine batchG hfn (fuel := 0) [24, 25] (by kernel_rfl) rfl ?_
        repeat (go_big_quiet_step ((fail)))
        refine wpQuiet_nil ?_
        refine wpAnyG_done (by kernel_rfl) ?_
        refine calmQ_normal ?_
        have HX15 := Lib.hid (And.intro (HX8.out.1.trans hx) (And.intro (show Boxed w15 w.heap.size 4 (.bool false) from hx.get HX8.out.2.1) (And.intro (show Boxed w15 N6 27 (.slice pa t0.kvs.length pc) from hx.get HX8.out.2.2.1) (And.intro (HX8.out.2.2.2.1.ext hx) (And.intro (show Boxed w15 N9 30 (.func (.func 31) #[] #[.pointer (some ⟨bq2, 0, none⟩)]) from hx.get HX8.out.2.2.2.2.2) (And.intro hx (HX8.out.2.2.2.2.1.trans hx)))))))
        clear hx hq'
        gi_wp2_with fail
        have hE16 := (Ext.refl w15).alloc (.cells #[.int .i64 0] 3)
        have hb16 := Boxed.new w15 3 (.int .i64 0)
        have hs16 : (w15.alloc (.cells #[.int .i64 0] 3)).heap.size = w15.heap.size + 1 := by simp
        have HX16 := Lib.hid (And.intro hE16 (And.intro hb16 hs16))
        clear hE16 hb16 hs16
        generalize w15.alloc (.cells #[.int .i64 0] 3) = w16 at *
        refine range_skip (xs := t0.kvs) rfl (enters_of Try.func31 (by kernel_rfl) rfl) ((HIT.out w15 HX15.out.2.2.2.2.2.2 (fun i => i = w15.heap.size) (fun i h => by omega)).more HX16.out.1) ?hM (fun _ => rfl)
          (fun pre V => Boxed V w15.heap.size 3 (.int .i64 (pre.length : Nat)) ∧ Ext w15 V) (fun c pre V => False) ?hI ?hIx ?h0 ?hbody ?hdone ?hstop
        case hM => exact fun j hj h => by have := HX16.out.2.2; omega
        case hI =>
          refine ⟨fun s V V' ⟨h1, h2⟩ e => ⟨e.get h1, h2.trans e⟩, fun s V l o o' ⟨h1, h2⟩ hl ho hc => ?_⟩
          exact ⟨(Keep.putObj (M := fun _ => False) V l o o' ho hc).boxed (fun h => h) h1, ext_putP h2 (by have := HX16.out.2.2; omega) o'⟩
        case hIx => exact fun c => ⟨fun _ _ _ h _ => h, fun _ _ _ _ _ h _ _ _ => h⟩
        case h0 => exact ⟨HX16.out.2.1, HX16.out.1⟩
        case hbody =>
          rintro l2 m pre x V hsz - ⟨hb, hx0⟩ hlen
          have hfn : ∀ f, (Fence.wide.inRound l2).fn f := fun _ => trivial
          have HV := Lib.hid (And.intro hb (And.intro hx0 hlen))
          have hcn : (pre.length : Int) ≤ (t0.kvs.length : Int) := Int.ofNat_le.2 (Nat.le_of_lt hlen)
          have c6 := cell_all (show Boxed V N6 27 (.slice pa t0.kvs.length pc) from hx0.get HX15.out.2.2.1).cell
          have c9 := cell_all (show Boxed V N9 30 _ from hx0.get HX15.out.2.2.2.2.1).cell
          have cn := cell_all hb.cell
          have hx := Ext.drew V
          clear hb hx0 hlen hsz hmo
          gi_wp2_with fail
          refine wpIn_region_G (fun j => !(List.contains (α := Nat) [] j)) (by kernel_rfl) ?_
          refine batchG hfn (fuel := 10) [0, 2] (by kernel_rfl) rfl ?_
          repeat (go_big_quiet_step ((fail)))
          refine wpQuiet_nil ?_
          clear c9
          refine wpAnyG_one (j := 1) (by kernel_rfl) rfl ?_
          gi_wp2_with fail
          refine ⟨fun h => (by cases h), (CallsIn.inRound l2 (callsIn_wide.2 (HBK.out _ (HX15.out.2.2.2.2.2.1.trans (HV.out.2.1.trans hx)) 100))).mono ?_⟩
          rw [List.take_of_length_le (show t0.kvs.reverse.length ≤ 100 by rw [List.length_reverse, BT.kvs_len]; exact Nat.le_trans HN.out (by decide))]
          rintro e w17 ⟨v17, rfl, o17, h17⟩
          gi_wp2_with fail
          refine onePost_ext (h17) ?_
          replace hx := hx.trans h17
          have HO17 := Lib.hid o17.row
          clear h17 o17
          refine wpAnyG_one (j := 3) (by kernel_rfl) rfl ?_
          gi_wp2_with fail
          refine ⟨fun h => (by cases h), (CallsIn.inRound l2 (callsIn_wide.2 (turned_any w17 _ t0.kvs (HX15.out.2.2.2.1.ext (HV.out.2.1.trans hx)).row (by rw [BT.kvs_len]; exact Nat.le_trans HN.out (by decide))))).mono ?_⟩
          rintro e w18 ⟨v18, rfl, o18, h18⟩
          gi_wp2_with fail
          refine onePost_ext (h18) ?_
          replace hx := hx.trans h18
          replace HO17 := Lib.hid (HO17.out.ext h18)
          have HO18 := Lib.hid o18.row
          clear h18 o18
          refine wpAnyG_one (j := 4) (by kernel_rfl) rfl ?_
          gi_wp2_with fail
          refine ⟨fun h => (by cases h), (CallsIn.inRound l2 (callsIn_wide.2 (samePairs_any w18 _ _ t0.kvs.reverse HO17.out HO18.out (by rw [List.length_reverse, BT.kvs_len]; exact Nat.le_trans HN.out (by decide))))).mono ?_⟩
          rintro e w19 ⟨rfl, h19⟩
          gi_wp2_with fail
          refine onePost_ext (h19) ?_
          replace hx := hx.trans h19
          clear h19 HO17 HO18
          have hcd : decide ((t0.kvs.length : Int) < (pre.length : Int)) = false := decide_eq_false (by omega)
          refine batchG hfn (fuel := 3) [5, 6, 7, 8] (by kernel_rfl) rfl ?_
          repeat (go_big_quiet_step ((fail)))
          refine wpQuiet_nil ?_
          clear c6 cn
          refine takeGL hfn 9 (by kernel_rfl) rfl ?_
          repeat (go_big_quiet_step ((fail)))
          refine wpQuiet_nil ?_
          refine batchG hfn (fuel := 0) [10, 11] (by kernel_rfl) rfl ?_
          repeat (go_big_quiet_step ((fail)))
          refine wpQuiet_nil ?_
          refine wpAnyG_done (by kernel_rfl) ?_
          refine calmQ_normal ?_
          have hb19 : Boxed w19 w15.heap.size 3 (.int .i64 (pre.length : Nat)) := hx.get HV.out.1
          have HB19 := Lib.hid (And.intro hb19 hx)
          have hce := hb19.cell
          have hfe := hb19.frozen
          clear hb19 hx
          gi_wp2
          have hs := HB19.out.1.set (.int .i64 (((pre ++ [x]).length : Nat) : Int))
          rw [stop_k HV.out.2.2 HN.out (BT.kvs_len t0) x]
          exact ⟨(keepsFrom_ext HB19.out.2).trans (keepsFrom_set _ _ _), (Keep.ext HB19.out.2).trans (Keep.setCell _ _ _ rfl), hs, (HV.out.2.1.trans HB19.out.2).setCell (p := ⟨w15.heap.size, 0, none⟩) (Nat.le_refl _) _⟩
        case hdone =>
          rintro D V hD ⟨hb, hx⟩ hK
          have hcn := hb.cell
          have c6 := (show Boxed V N6 27 (.slice pa t0.kvs.length pc) from hx.get HX15.out.2.2.1).cell
          have HV := Lib.hid (And.intro hx (And.intro hD hK))
          clear hb hx hD hK
          gi_wp2_with fail
          gi_wp2_with fail
          refine ⟨wide_room _, (callsIn_wide.2 (alive10_any _)).mono ?_⟩
          rintro e w17 ⟨rfl, h17⟩
          have hb17 : Boxed w17 w.heap.size 4 (.bool false) := h17.get (HV.out.1.get HX15.out.2.1)
          have hce := hb17.cell
          have hfe := hb17.frozen
          have HB17 := Lib.hid (And.intro hb17 (And.intro (HX15.out.1.trans (HV.out.1.trans h17)) (h17.get HV.out.2.2)))
          clear hb17 h17 hcn c6
          gi_wp2
          have hk := (KeepsOthers.setCell w17 ⟨w.heap.size, 0, none⟩ (.bool true)).same D _ HB17.out.2.2 rfl
          have hs := HB17.out.1.set (.bool true)
          have hx := HB17.out.2.1.setCell (p := ⟨w.heap.size, 0, none⟩) (Nat.le_refl _) (.bool true)
          have hD := HV.out.2.1
          have h16 := HX16.out.2.2
          have h15 := HX15.out.1.size
          clear hce hfe
          generalize w17.setCell ⟨w.heap.size, 0, none⟩ (.bool true) = V7 at *
          have hb := ((Keep.putObj (M := fun _ => False) V7 D _ (.deferred none) hk rfl).boxed (fun h => h) hs).cell
          refine ⟨by simp, .inl ⟨_, _, rfl, run_takeDeferred hk, ?_⟩⟩
          exact ⟨.bool true, by simp [results, Try.results3, go_sem, loadVar, hb], ⟨rfl, ext_putP hx (by omega) _⟩⟩
        case hstop =>
          rintro D c pre V _ _ h
          exact h.elim
      · subst hq
        have HQ := Lib.hid (Nat.le_refl t0.kvs.length)
        have hq' : True := trivial
        refine callsIn_of_wp_marks Try.func3 rfl trivial ?_ rfl
        simp only [Try.ntmps3, List.size_toArray, List.length_cons, List.length_nil, Nat.reduceAdd, Nat.reduceSub, Array.replicate_succ, Array.replicate_zero, List.push_toArray, List.append_toArray, List.nil_append, List.cons_append]
        gi_wp2_with fail
        generalize w.alloc (.cells #[.bool false] 4) = w1 at *
        gi_wp2_with fail
        refine ⟨wide_room _, (callsIn_wide.2 (HLG.out _ HR.out.1)).mono ?_⟩
        rintro e w2 ⟨rfl, h2⟩
        have HX2 := Lib.hid (And.intro (HR.out.1.trans h2) (show Boxed w2 w.heap.size 4 (.bool false) from h2.get HR.out.2))
        clear h2 HR HLG
        gi_wp2_with fail
        clear h60'
        gi_wp2_with fail
        refine ⟨wide_room _, (callsIn_wide.2 (beadsMake_any t0 w2 _ (HB0.out.ext HX2.out.1) L0.out)).mono ?_⟩
        rintro e w3 ⟨T, rfl, iT, fT, h3⟩
        have HT := Lib.hid (And.intro iT (show T.kvs = t0.kvs from BT.fits_kvs fT))
        have HX3 := Lib.hid (And.intro (HX2.out.1.trans h3) (show Boxed w3 w.heap.size 4 (.bool false) from h3.get HX2.out.2))
        clear h3 HX2 iT fT
        gi_wp2_with fail
        gi_wp2_with fail
        refine ⟨wide_room _, (callsIn_wide.2 (pairs09_any t0 w3 _ (HB0.out.ext HX3.out.1) (Nat.le_trans L0.out (by decide)))).mono ?_⟩
        rintro e w4 ⟨v4, rfl, o4, h4⟩
        obtain ⟨pa, pc, rfl⟩ := prow_slice o4.row
        have hb6 := Boxed.new w4 27 (.slice pa t0.kvs.length pc)
        have hE6 := (Ext.refl w4).alloc (.cells #[.slice pa t0.kvs.length pc] 27)
        have HX5 := Lib.hid (And.intro (HX3.out.1.trans (h4.trans hE6)) (And.intro (show Boxed _ w.heap.size 4 (.bool false) from hE6.get (h4.get HX3.out.2)) (And.intro hb6 (And.intro (HT.out.1.ext (h4.trans hE6)) (o4.ext hE6)))))
        have hcp := hb6.cell
        clear hb6 hE6 h4 o4 HX3
        gi_wp2_with fail
        clear hcp
        generalize w4.alloc (.cells #[.slice pa t0.kvs.length pc] 27) = w5 at *
        generalize w4.heap.size = N6 at *
        gi_wp2_with fail
        refine ⟨wide_room _, (callsIn_wide.2 (all_any w5 T HX5.out.2.2.2.1)).mono ?_⟩
        rintro e w6 ⟨bq, rfl, h6, hs6, hit6⟩
        unfold pairsV
        rw [inl_kvs, HT.out.2] at hit6
        have HA := Lib.hid (fun W (e : Ext w6 W) mo => collect_any W bq mo t0.kvs (goes_use HX5.out.2.2.2.1 hs6 hit6 e) (by rw [BT.kvs_len]; exact Nat.le_trans HN.out (by decide)))
        have HX6 := Lib.hid (And.intro (HX5.out.1.trans h6) (And.intro (show Boxed w6 w.heap.size 4 (.bool false) from h6.get HX5.out.2.1) (And.intro (show Boxed w6 N6 27 (.slice pa t0.kvs.length pc) from h6.get HX5.out.2.2.1) (And.intro (HX5.out.2.2.2.1.ext h6) (HX5.out.2.2.2.2.ext h6)))))
        have HIT := Lib.hid (fun W (e : Ext w6 W) => goes_use HX5.out.2.2.2.1 hs6 hit6 e)
        clear h6 hs6 hit6 HX5
        gi_wp2_with fail
        gi_wp2_with fail
        refine ⟨wide_room _, (callsIn_wide.2 (back_any w6 T HX6.out.2.2.2.1)).mono ?_⟩
        rintro e w7 ⟨bq2, rfl, h7, hs7, hit7⟩
        unfold pairsV
        rw [inr_kvs, HT.out.2] at hit7
        have hE8 := (Ext.refl w7).alloc (.cells #[.func (.func 31) #[] #[.pointer (some ⟨bq2, 0, none⟩)]] 30)
        have hb8 := Boxed.new w7 30 (.func (.func 31) #[] #[.pointer (some ⟨bq2, 0, none⟩)])
        have HBK := Lib.hid (fun W (e : Ext (w7.alloc (.cells #[.func (.func 31) #[] #[.pointer (some ⟨bq2, 0, none⟩)]] 30)) W) mo => collect_any W bq2 mo t0.kvs.reverse (goes_use HX6.out.2.2.2.1 hs7 hit7 (hE8.trans e)) (by rw [List.length_reverse, BT.kvs_len]; exact Nat.le_trans HN.out (by decide)))
        have HX8 := Lib.hid (And.intro (HX6.out.1.trans (h7.trans hE8)) (And.intro (show Boxed _ w.heap.size 4 (.bool false) from hE8.get (h7.get HX6.out.2.1)) (And.intro (show Boxed _ N6 27 (.slice pa t0.kvs.length pc) from hE8.get (h7.get HX6.out.2.2.1)) (And.intro (HX6.out.2.2.2.2.ext (h7.trans hE8)) (And.intro (h7.trans hE8) hb8)))))
        clear h7 hs7 hit7 hE8 hb8 HX6
        gi_wp2_with fail
        generalize w7.alloc (.cells #[.func (.func 31) #[] #[.pointer (some ⟨bq2, 0, none⟩)]] 30) = w8 at *
        generalize w7.heap.size = N9 at *
        have c6 := cell_all HX8.out.2.2.1.cell
        have c9 := cell_all HX8.out.2.2.2.2.2.cell
        have hx := Ext.drew w8
        have hk1 : (t0.kvs.length : Int) ≤ (pc : Int) := Int.ofNat_le.2 (Nat.le_trans HQ.out (pown_cap HX8.out.2.2.2.1))
        refine wpIn_region_G (fun j => !(List.contains (α := Nat) [] j)) (by kernel_rfl) ?_
        refine batchG hfn (fuel := 21) [0, 1, 3, 4, 5] (by kernel_rfl) rfl ?_
        repeat (go_big_quiet_step ((fail)))
        refine wpQuiet_nil ?_
        refine wpAnyG_one (j := 2) (by kernel_rfl) rfl ?_
        gi_wp2_with fail
        refine ⟨wide_room _, (callsIn_wide.2 (HA.out _ (HX8.out.2.2.2.2.1.trans hx) t0.kvs.length)).mono ?_⟩
        rintro e w9 ⟨v9, rfl, o9, h9⟩
        gi_wp2_with fail
        refine onePost_ext (h9) ?_
        replace hx := hx.trans h9
        have HO9 := Lib.hid o9.row
        clear h9 o9
        refine wpAnyG_one (j := 6) (by kernel_rfl) rfl ?_
        gi_wp2_with fail
        refine ⟨wide_room _, (callsIn_wide.2 (samePairs_any w9 _ _ (t0.kvs.take t0.kvs.length) HO9.out ((HX8.out.2.2.2.1.ext hx).front HQ.out) (by rw [List.length_take]; exact Nat.le_trans (Nat.min_le_right _ _) (by rw [BT.kvs_len]; exact Nat.le_trans HN.out (by decide))))).mono ?_⟩
        rintro e w10 ⟨rfl, h10⟩
        gi_wp2_with fail
        refine onePost_ext (h10) ?_
        replace hx := hx.trans h10
        clear h10 HO9
        refine batchG hfn (fuel := 13) [7, 8, 9, 10, 12, 14] (by kernel_rfl) rfl ?_
        repeat (go_big_quiet_step ((fail)))
        refine wpQuiet_nil ?_
        refine wpAnyG_one (j := 11) (by kernel_rfl) rfl ?_
        gi_wp2_with fail
        refine ⟨wide_room _, (callsIn_wide.2 (HBK.out _ hx t0.kvs.length)).mono ?_⟩
        rintro e w11 ⟨v11, rfl, o11, h11⟩
        gi_wp2_with fail
        refine onePost_ext (h11) ?_
        replace hx := hx.trans h11
        have HO11 := Lib.hid o11.row
        clear h11 o11
        refine wpAnyG_one (j := 13) (by kernel_rfl) rfl ?_
        gi_wp2_with fail
        refine ⟨wide_room _, (callsIn_wide.2 (turned_any w11 _ t0.kvs (HX8.out.2.2.2.1.ext hx).row (by rw [BT.kvs_len]; exact Nat.le_trans HN.out (by decide)))).mono ?_⟩
        rintro e w12 ⟨v12, rfl, o12, h12⟩
        obtain ⟨ta, tc, rfl⟩ := prow_slice o12.row
        have HO12 := Lib.hid o12
        have HC12 := Lib.hid (pown_cap o12)
        gi_wp2_with fail
        refine onePost_ext (h12) ?_
        replace hx := hx.trans h12
        replace HO11 := Lib.hid (HO11.out.ext h12)
        clear h12 o12
        have hk2 : (t0.kvs.length : Int) ≤ (tc : Int) := Int.ofNat_le.2 (Nat.le_trans (by rw [List.length_reverse]; exact HQ.out) HC12.out)
        refine batchG hfn (fuel := 10) [15] (by kernel_rfl) rfl ?_
        repeat (go_big_quiet_step ((fail)))
        refine wpQuiet_nil ?_
        refine wpAnyG_one (j := 16) (by kernel_rfl) rfl ?_
        gi_wp2_with fail
        refine ⟨wide_room _, (callsIn_wide.2 (samePairs_any w12 _ _ (t0.kvs.reverse.take t0.kvs.length) HO11.out (HO12.out.front (by rw [List.length_reverse]; exact HQ.out)) (by rw [List.length_take]; exact Nat.le_trans (Nat.min_le_right _ _) (by rw [List.length_reverse, BT.kvs_len]; exact Nat.le_trans HN.out (by decide))))).mono ?_⟩
        rintro e w13 ⟨rfl, h13⟩
        gi_wp2_with fail
        refine onePost_ext (h13) ?_
        replace hx := hx.trans h13
        clear h13 HO11 HO12 HC12 hk2
        refine batchG hfn (fuel := 4) [17, 18, 19, 20, 22] (by kernel_rfl) rfl ?_
        repeat (go_big_quiet_step ((fail)))
        refine wpQuiet_nil ?_
        refine wpAnyG_one (j := 21) (by kernel_rfl) rfl ?_
        gi_wp2_with fail
        refine ⟨wide_room _, (callsIn_wide.2 (HA.out _ (HX8.out.2.2.2.2.1.trans hx) 100)).mono ?_⟩
        rw [List.take_of_length_le (show t0.kvs.length ≤ 100 by rw [BT.kvs_len]; exact Nat.le_trans HN.out (by decide))]
        rintro e w14 ⟨v14, rfl, o14, h14⟩
        gi_wp2_with fail
        refine onePost_ext (h14) ?_
        replace hx := hx.trans h14
        have HO14 := Lib.hid o14.row
        clear h14 o14
        refine wpAnyG_one (j := 23) (by kernel_rfl) rfl ?_
        gi_wp2_with fail
        refine ⟨wide_room _, (callsIn_wide.2 (samePairs_any w14 _ _ t0.kvs HO14.out (HX8.out.2.2.2.1.ext hx).row (by rw [BT.kvs_len]; exact Nat.le_trans HN.out (by decide)))).mono ?_⟩
        rintro e w15 ⟨rfl, h15⟩
        gi_wp2_with fail
        refine onePost_ext (h15) ?_
        replace hx := hx.trans h15
        clear h15 HO14 c6 c9 hk1
        refine batchG hfn (fuel := 0) [24, 25] (by kernel_rfl) rfl ?_
        repeat (go_big_quiet_step ((fail)))
        refine wpQuiet_nil ?_
        refine wpAnyG_done (by kernel_rfl) ?_
        refine calmQ_normal ?_
        have HX15 := Lib.hid (And.intro (HX8.out.1.trans hx) (And.intro (show Boxed w15 w.heap.size 4 (.bool false) from hx.get HX8.out.2.1) (And.intro (show Boxed w15 N6 27 (.slice pa t0.kvs.length pc) from hx.get HX8.out.2.2.1) (And.intro (HX8.out.2.2.2.1.ext hx) (And.intro (show Boxed w15 N9 30 (.func (.func 31) #[] #[.pointer (some ⟨bq2, 0, none⟩)]) from hx.get HX8.out.2.2.2.2.2) (And.intro hx (HX8.out.2.2.2.2.1.trans hx)))))))
        clear hx hq'
        gi_wp2_with fail
        have hE16 := (Ext.refl w15).alloc (.cells #[.int .i64 0] 3)
        have hb16 := Boxed.new w15 3 (.int .i64 0)
        have hs16 : (w15.alloc (.cells #[.int .i64 0] 3)).heap.size = w15.heap.size + 1 := by simp
        have HX16 := Lib.hid (And.intro hE16 (And.intro hb16 hs16))
        clear hE16 hb16 hs16
        generalize w15.alloc (.cells #[.int .i64 0] 3) = w16 at *
        refine range_skip (xs := t0.kvs) rfl (enters_of Try.func31 (by kernel_rfl) rfl) ((HIT.out w15 HX15.out.2.2.2.2.2.2 (fun i => i = w15.heap.size) (fun i h => by omega)).more HX16.out.1) ?hM (fun _ => rfl)
          (fun pre V => Boxed V w15.heap.size 3 (.int .i64 (pre.length : Nat)) ∧ Ext w15 V) (fun c pre V => False) ?hI ?hIx ?h0 ?hbody ?hdone ?hstop
        case hM => exact fun j hj h => by have := HX16.out.2.2; omega
        case hI =>
          refine ⟨fun s V V' ⟨h1, h2⟩ e => ⟨e.get h1, h2.trans e⟩, fun s V l o o' ⟨h1, h2⟩ hl ho hc => ?_⟩
          exact ⟨(Keep.putObj (M := fun _ => False) V l o o' ho hc).boxed (fun h => h) h1, ext_putP h2 (by have := HX16.out.2.2; omega) o'⟩
        case hIx => exact fun c => ⟨fun _ _ _ h _ => h, fun _ _ _ _ _ h _ _ _ => h⟩
        case h0 => exact ⟨HX16.out.2.1, HX16.out.1⟩
        case hbody =>
          rintro l2 m pre x V hsz - ⟨hb, hx0⟩ hlen
          have hfn : ∀ f, (Fence.wide.inRound l2).fn f := fun _ => trivial
          have HV := Lib.hid (And.intro hb (And.intro hx0 hlen))
          have hcn : (pre.length : Int) ≤ (t0.kvs.length : Int) := Int.ofNat_le.2 (Nat.le_of_lt hlen)
          have c6 := cell_all (show Boxed V N6 27 (.slice pa t0.kvs.length pc) from hx0.get HX15.out.2.2.1).cell
          have c9 := cell_all (show Boxed V N9 30 _ from hx0.get HX15.out.2.2.2.2.1).cell
          have cn := cell_all hb.cell
          have hx := Ext.drew V
          clear hb hx0 hlen hsz hmo
          gi_wp2_with fail
          refine wpIn_region_G (fun j => !(List.contains (α := Nat) [] j)) (by kernel_rfl) ?_
          refine batchG hfn (fuel := 10) [0, 2] (by kernel_rfl) rfl ?_
          repeat (go_big_quiet_step ((fail)))
          refine wpQuiet_nil ?_
          clear c9
          refine wpAnyG_one (j := 1) (by kernel_rfl) rfl ?_
          gi_wp2_with fail
          refine ⟨fun h => (by cases h), (CallsIn.inRound l2 (callsIn_wide.2 (HBK.out _ (HX15.out.2.2.2.2.2.1.trans (HV.out.2.1.trans hx)) 100))).mono ?_⟩
          rw [List.take_of_length_le (show t0.kvs.reverse.length ≤ 100 by rw [List.length_reverse, BT.kvs_len]; exact Nat.le_trans HN.out (by decide))]
          rintro e w17 ⟨v17, rfl, o17, h17⟩
          gi_wp2_with fail
          refine onePost_ext (h17) ?_
          replace hx := hx.trans h17
          have HO17 := Lib.hid o17.row
          clear h17 o17
          refine wpAnyG_one (j := 3) (by kernel_rfl) rfl ?_
          gi_wp2_with fail
          refine ⟨fun h => (by cases h), (CallsIn.inRound l2 (callsIn_wide.2 (turned_any w17 _ t0.kvs (HX15.out.2.2.2.1.ext (HV.out.2.1.trans hx)).row (by rw [BT.kvs_len]; exact Nat.le_trans HN.out (by decide))))).mono ?_⟩
          rintro e w18 ⟨v18, rfl, o18, h18⟩
          gi_wp2_with fail
          refine onePost_ext (h18) ?_
          replace hx := hx.trans h18
          replace HO17 := Lib.hid (HO17.out.ext h18)
          have HO18 := Lib.hid o18.row
          clear h18 o18
          refine wpAnyG_one (j := 4) (by kernel_rfl) rfl ?_
          gi_wp2_with fail
          refine ⟨fun h => (by cases h), (CallsIn.inRound l2 (callsIn_wide.2 (samePairs_any w18 _ _ t0.kvs.reverse HO17.out HO18.out (by rw [List.length_reverse, BT.kvs_len]; exact Nat.le_trans HN.out (by decide))))).mono ?_⟩
          rintro e w19 ⟨rfl, h19⟩
          gi_wp2_with fail
          refine onePost_ext (h19) ?_
          replace hx := hx.trans h19
          clear h19 HO17 HO18
          have hcd : decide ((t0.kvs.length : Int) < (pre.length : Int)) = false := decide_eq_false (by omega)
          refine batchG hfn (fuel := 3) [5, 6, 7, 8] (by kernel_rfl) rfl ?_
          repeat (go_big_quiet_step ((fail)))
          refine wpQuiet_nil ?_
          clear c6 cn
          refine takeGL hfn 9 (by kernel_rfl) rfl ?_
          repeat (go_big_quiet_step ((fail)))
          refine wpQuiet_nil ?_
          refine batchG hfn (fuel := 0) [10, 11] (by kernel_rfl) rfl ?_
          repeat (go_big_quiet_step ((fail)))
          refine wpQuiet_nil ?_
          refine wpAnyG_done (by kernel_rfl) ?_
          refine calmQ_normal ?_
          have hb19 : Boxed w19 w15.heap.size 3 (.int .i64 (pre.length : Nat)) := hx.get HV.out.1
          have HB19 := Lib.hid (And.intro hb19 hx)
          have hce := hb19.cell
          have hfe := hb19.frozen
          clear hb19 hx
          gi_wp2
          have hs := HB19.out.1.set (.int .i64 (((pre ++ [x]).length : Nat) : Int))
          rw [stop_k HV.out.2.2 HN.out (BT.kvs_len t0) x]
          exact ⟨(keepsFrom_ext HB19.out.2).trans (keepsFrom_set _ _ _), (Keep.ext HB19.out.2).trans (Keep.setCell _ _ _ rfl), hs, (HV.out.2.1.trans HB19.out.2).setCell (p := ⟨w15.heap.size, 0, none⟩) (Nat.le_refl _) _⟩
        case hdone =>
          rintro D V hD ⟨hb, hx⟩ hK
          have hcn := hb.cell
          have c6 := (show Boxed V N6 27 (.slice pa t0.kvs.length pc) from hx.get HX15.out.2.2.1).cell
          have HV := Lib.hid (And.intro hx (And.intro hD hK))
          clear hb hx hD hK
          gi_wp2_with fail
          gi_wp2_with fail
          refine ⟨wide_room _, (callsIn_wide.2 (alive10_any _)).mono ?_⟩
          rintro e w17 ⟨rfl, h17⟩
          have hb17 : Boxed w17 w.heap.size 4 (.bool false) := h17.get (HV.out.1.get HX15.out.2.1)
          have hce := hb17.cell
          have hfe := hb17.frozen
          have HB17 := Lib.hid (And.intro hb17 (And.intro (HX15.out.1.trans (HV.out.1.trans h17)) (h17.get HV.out.2.2)))
          clear hb17 h17 hcn c6
          gi_wp2
          have hk := (KeepsOthers.setCell w17 ⟨w.heap.size, 0, none⟩ (.bool true)).same D _ HB17.out.2.2 rfl
          have hs := HB17.out.1.set (.bool true)
          have hx := HB17.out.2.1.setCell (p := ⟨w.heap.size, 0, none⟩) (Nat.le_refl _) (.bool true)
          have hD := HV.out.2.1
          have h16 := HX16.out.2.2
          have h15 := HX15.out.1.size
          clear hce hfe
          generalize w17.setCell ⟨w.heap.size, 0, none⟩ (.bool true) = V7 at *
          have hb := ((Keep.putObj (M := fun _ => False) V7 D _ (.deferred none) hk rfl).boxed (fun h => h) hs).cell
          refine ⟨by simp, .inl ⟨_, _, rfl, run_takeDeferred hk, ?_⟩⟩
          exact ⟨.bool true, by simp [results, Try.results3, go_sem, loadVar, hb], ⟨rfl, ext_putP hx (by omega) _⟩⟩
        case hstop =>
          rintro D c pre V _ _ h
          exact h.elim
      · have HQ := Lib.hid (Nat.le_refl t0.kvs.length)
        have hq' : (t0.kvs.length : Int) < (mo : Int) := by omega
        clear hq
        refine callsIn_of_wp_marks Try.func3 rfl trivial ?_ rfl
        simp only [Try.ntmps3, List.size_toArray, List.length_cons, List.length_nil, Nat.reduceAdd, Nat.reduceSub, Array.replicate_succ, Array.replicate_zero, List.push_toArray, List.append_toArray, List.nil_append, List.cons_append]
        gi_wp2_with fail
        generalize w.alloc (.cells #[.bool false] 4) = w1 at *
        gi_wp2_with fail
        refine ⟨wide_room _, (callsIn_wide.2 (HLG.out _ HR.out.1)).mono ?_⟩
        rintro e w2 ⟨rfl, h2⟩
        have HX2 := Lib.hid (And.intro (HR.out.1.trans h2) (show Boxed w2 w.heap.size 4 (.bool false) from h2.get HR.out.2))
        clear h2 HR HLG
        gi_wp2_with fail
        clear h60'
        gi_wp2_with fail
        refine ⟨wide_room _, (callsIn_wide.2 (beadsMake_any t0 w2 _ (HB0.out.ext HX2.out.1) L0.out)).mono ?_⟩
        rintro e w3 ⟨T, rfl, iT, fT, h3⟩
        have HT := Lib.hid (And.intro iT (show T.kvs = t0.kvs from BT.fits_kvs fT))
        have HX3 := Lib.hid (And.intro (HX2.out.1.trans h3) (show Boxed w3 w.heap.size 4 (.bool false) from h3.get HX2.out.2))
        clear h3 HX2 iT fT
        gi_wp2_with fail
        gi_wp2_with fail
        refine ⟨wide_room _, (callsIn_wide.2 (pairs09_any t0 w3 _ (HB0.out.ext HX3.out.1) (Nat.le_trans L0.out (by decide)))).mono ?_⟩
        rintro e w4 ⟨v4, rfl, o4, h4⟩
        obtain ⟨pa, pc, rfl⟩ := prow_slice o4.row
        have hb6 := Boxed.new w4 27 (.slice pa t0.kvs.length pc)
        have hE6 := (Ext.refl w4).alloc (.cells #[.slice pa t0.kvs.length pc] 27)
        have HX5 := Lib.hid (And.intro (HX3.out.1.trans (h4.trans hE6)) (And.intro (show Boxed _ w.heap.size 4 (.bool false) from hE6.get (h4.get HX3.out.2)) (And.intro hb6 (And.intro (HT.out.1.ext (h4.trans hE6)) (o4.ext hE6)))))
        have hcp := hb6.cell
        clear hb6 hE6 h4 o4 HX3
        gi_wp2_with fail
        clear hcp
        generalize w4.alloc (.cells #[.slice pa t0.kvs.length pc] 27) = w5 at *
        generalize w4.heap.size = N6 at *
        gi_wp2_with fail
        refine ⟨wide_room _, (callsIn_wide.2 (all_any w5 T HX5.out.2.2.2.1)).mono ?_⟩
        rintro e w6 ⟨bq, rfl, h6, hs6, hit6⟩
        unfold pairsV
        rw [inl_kvs, HT.out.2] at hit6
        have HA := Lib.hid (fun W (e : Ext w6 W) mo => collect_any W bq mo t0.kvs (goes_use HX5.out.2.2.2.1 hs6 hit6 e) (by rw [BT.kvs_len]; exact Nat.le_trans HN.out (by decide)))
        have HX6 := Lib.hid (And.intro (HX5.out.1.trans h6) (And.intro (show Boxed w6 w.heap.size 4 (.bool false) from h6.get HX5.out.2.1) (And.intro (show Boxed w6 N6 27 (.slice pa t0.kvs.length pc) from h6.get HX5.out.2.2.1) (And.intro (HX5.out.2.2.2.1.ext h6) (HX5.out.2.2.2.2.ext h6)))))
        have HIT := Lib.hid (fun W (e : Ext w6 W) => goes_use HX5.out.2.2.2.1 hs6 hit6 e)
        clear h6 hs6 hit6 HX5
        gi_wp2_with fail
        gi_wp2_with fail
        refine ⟨wide_room _, (callsIn_wide.2 (back_any w6 T HX6.out.2.2.2.1)).mono ?_⟩
        rintro e w7 ⟨bq2, rfl, h7, hs7, hit7⟩
        unfold pairsV
        rw [inr_kvs, HT.out.2] at hit7
        have hE8 := (Ext.refl w7).alloc (.cells #[.func (.func 31) #[] #[.pointer (some ⟨bq2, 0, none⟩)]] 30)
        have hb8 := Boxed.new w7 30 (.func (.func 31) #[] #[.pointer (some ⟨bq2, 0, none⟩)])
        have HBK := Lib.hid (fun W (e : Ext (w7.alloc (.cells #[.func (.func 31) #[] #[.pointer (some ⟨bq2, 0, none⟩)]] 30)) W) mo => collect_any W bq2 mo t0.kvs.reverse (goes_use HX6.out.2.2.2.1 hs7 hit7 (hE8.trans e)) (by rw [List.length_reverse, BT.kvs_len]; exact Nat.le_trans HN.out (by decide)))
        have HX8 := Lib.hid (And.intro (HX6.out.1.trans (h7.trans hE8)) (And.intro (show Boxed _ w.heap.size 4 (.bool false) from hE8.get (h7.get HX6.out.2.1)) (And.intro (show Boxed _ N6 27 (.slice pa t0.kvs.length pc) from hE8.get (h7.get HX6.out.2.2.1)) (And.intro (HX6.out.2.2.2.2.ext (h7.trans hE8)) (And.intro (h7.trans hE8) hb8)))))
        clear h7 hs7 hit7 hE8 hb8 HX6
        gi_wp2_with fail
        generalize w7.alloc (.cells #[.func (.func 31) #[] #[.pointer (some ⟨bq2, 0, none⟩)]] 30) = w8 at *
        generalize w7.heap.size = N9 at *
        have c6 := cell_all HX8.out.2.2.1.cell
        have c9 := cell_all HX8.out.2.2.2.2.2.cell
        have hx := Ext.drew w8
        have hk1 : (t0.kvs.length : Int) ≤ (pc : Int) := Int.ofNat_le.2 (Nat.le_trans HQ.out (pown_cap HX8.out.2.2.2.1))
        refine wpIn_region_G (fun j => !(List.contains (α := Nat) [] j)) (by kernel_rfl) ?_
        refine batchG hfn (fuel := 21) [0, 1, 3, 4, 5] (by kernel_rfl) rfl ?_
        repeat (go_big_quiet_step ((fail)))
        refine wpQuiet_nil ?_
        refine wpAnyG_one (j := 2) (by kernel_rfl) rfl ?_
        gi_wp2_with fail
        refine ⟨wide_room _, (callsIn_wide.2 (HA.out _ (HX8.out.2.2.2.2.1.trans hx) t0.kvs.length)).mono ?_⟩
        rintro e w9 ⟨v9, rfl, o9, h9⟩
        gi_wp2_with fail
        refine onePost_ext (h9) ?_
        replace hx := hx.trans h9
        have HO9 := Lib.hid o9.row
        clear h9 o9
        refine wpAnyG_one (j := 6) (by kernel_rfl) rfl ?_
        gi_wp2_with fail
        refine ⟨wide_room _, (callsIn_wide.2 (samePairs_any w9 _ _ (t0.kvs.take t0.kvs.length) HO9.out ((HX8.out.2.2.2.1.ext hx).front HQ.out) (by rw [List.length_take]; exact Nat.le_trans (Nat.min_le_right _ _) (by rw [BT.kvs_len]; exact Nat.le_trans HN.out (by decide))))).mono ?_⟩
        rintro e w10 ⟨rfl, h10⟩
        gi_wp2_with fail
        refine onePost_ext (h10) ?_
        replace hx := hx.trans h10
        clear h10 HO9
        refine batchG hfn (fuel := 13) [7, 8, 9, 10, 12, 14] (by kernel_rfl) rfl ?_
        repeat (go_big_quiet_step ((fail)))
        refine wpQuiet_nil ?_
        refine wpAnyG_one (j := 11) (by kernel_rfl) rfl ?_
        gi_wp2_with fail
        refine ⟨wide_room _, (callsIn_wide.2 (HBK.out _ hx t0.kvs.length)).mono ?_⟩
        rintro e w11 ⟨v11, rfl, o11, h11⟩
        gi_wp2_with fail
        refine onePost_ext (h11) ?_
        replace hx := hx.trans h11
        have HO11 := Lib.hid o11.row
        clear h11 o11
        refine wpAnyG_one (j := 13) (by kernel_rfl) rfl ?_
        gi_wp2_with fail
        refine ⟨wide_room _, (callsIn_wide.2 (turned_any w11 _ t0.kvs (HX8.out.2.2.2.1.ext hx).row (by rw [BT.kvs_len]; exact Nat.le_trans HN.out (by decide)))).mono ?_⟩
        rintro e w12 ⟨v12, rfl, o12, h12⟩
        obtain ⟨ta, tc, rfl⟩ := prow_slice o12.row
        have HO12 := Lib.hid o12
        have HC12 := Lib.hid (pown_cap o12)
        gi_wp2_with fail
        refine onePost_ext (h12) ?_
        replace hx := hx.trans h12
        replace HO11 := Lib.hid (HO11.out.ext h12)
        clear h12 o12
        have hk2 : (t0.kvs.length : Int) ≤ (tc : Int) := Int.ofNat_le.2 (Nat.le_trans (by rw [List.length_reverse]; exact HQ.out) HC12.out)
        refine batchG hfn (fuel := 10) [15] (by kernel_rfl) rfl ?_
        repeat (go_big_quiet_step ((fail)))
        refine wpQuiet_nil ?_
        refine wpAnyG_one (j := 16) (by kernel_rfl) rfl ?_
        gi_wp2_with fail
        refine ⟨wide_room _, (callsIn_wide.2 (samePairs_any w12 _ _ (t0.kvs.reverse.take t0.kvs.length) HO11.out (HO12.out.front (by rw [List.length_reverse]; exact HQ.out)) (by rw [List.length_take]; exact Nat.le_trans (Nat.min_le_right _ _) (by rw [List.length_reverse, BT.kvs_len]; exact Nat.le_trans HN.out (by decide))))).mono ?_⟩
        rintro e w13 ⟨rfl, h13⟩
        gi_wp2_with fail
        refine onePost_ext (h13) ?_
        replace hx := hx.trans h13
        clear h13 HO11 HO12 HC12 hk2
        refine batchG hfn (fuel := 4) [17, 18, 19, 20, 22] (by kernel_rfl) rfl ?_
        repeat (go_big_quiet_step ((fail)))
        refine wpQuiet_nil ?_
        refine wpAnyG_one (j := 21) (by kernel_rfl) rfl ?_
        gi_wp2_with fail
        refine ⟨wide_room _, (callsIn_wide.2 (HA.out _ (HX8.out.2.2.2.2.1.trans hx) 100)).mono ?_⟩
        rw [List.take_of_length_le (show t0.kvs.length ≤ 100 by rw [BT.kvs_len]; exact Nat.le_trans HN.out (by decide))]
        rintro e w14 ⟨v14, rfl, o14, h14⟩
        gi_wp2_with fail
        refine onePost_ext (h14) ?_
        replace hx := hx.trans h14
        have HO14 := Lib.hid o14.row
        clear h14 o14
        refine wpAnyG_one (j := 23) (by kernel_rfl) rfl ?_
        gi_wp2_with fail
        refine ⟨wide_room _, (callsIn_wide.2 (samePairs_any w14 _ _ t0.kvs HO14.out (HX8.out.2.2.2.1.ext hx).row (by rw [BT.kvs_len]; exact Nat.le_trans HN.out (by decide)))).mono ?_⟩
        rintro e w15 ⟨rfl, h15⟩
        gi_wp2_with fail
        refine onePost_ext (h15) ?_
        replace hx := hx.trans h15
        clear h15 HO14 c6 c9 hk1
        refine batchG hfn (fuel := 0) [24, 25] (by kernel_rfl) rfl ?_
        repeat (go_big_quiet_step ((fail)))
        refine wpQuiet_nil ?_
        refine wpAnyG_done (by kernel_rfl) ?_
        refine calmQ_normal ?_
        have HX15 := Lib.hid (And.intro (HX8.out.1.trans hx) (And.intro (show Boxed w15 w.heap.size 4 (.bool false) from hx.get HX8.out.2.1) (And.intro (show Boxed w15 N6 27 (.slice pa t0.kvs.length pc) from hx.get HX8.out.2.2.1) (And.intro (HX8.out.2.2.2.1.ext hx) (And.intro (show Boxed w15 N9 30 (.func (.func 31) #[] #[.pointer (some ⟨bq2, 0, none⟩)]) from hx.get HX8.out.2.2.2.2.2) (And.intro hx (HX8.out.2.2.2.2.1.trans hx)))))))
        clear hx hq'
        gi_wp2_with fail
        have hE16 := (Ext.refl w15).alloc (.cells #[.int .i64 0] 3)
        have hb16 := Boxed.new w15 3 (.int .i64 0)
        have hs16 : (w15.alloc (.cells #[.int .i64 0] 3)).heap.size = w15.heap.size + 1 := by simp
        have HX16 := Lib.hid (And.intro hE16 (And.intro hb16 hs16))
        clear hE16 hb16 hs16
        generalize w15.alloc (.cells #[.int .i64 0] 3) = w16 at *
        refine range_skip (xs := t0.kvs) rfl (enters_of Try.func31 (by kernel_rfl) rfl) ((HIT.out w15 HX15.out.2.2.2.2.2.2 (fun i => i = w15.heap.size) (fun i h => by omega)).more HX16.out.1) ?hM (fun _ => rfl)
          (fun pre V => Boxed V w15.heap.size 3 (.int .i64 (pre.length : Nat)) ∧ Ext w15 V) (fun c pre V => False) ?hI ?hIx ?h0 ?hbody ?hdone ?hstop
        case hM => exact fun j hj h => by have := HX16.out.2.2; omega
        case hI =>
          refine ⟨fun s V V' ⟨h1, h2⟩ e => ⟨e.get h1, h2.trans e⟩, fun s V l o o' ⟨h1, h2⟩ hl ho hc => ?_⟩
          exact ⟨(Keep.putObj (M := fun _ => False) V l o o' ho hc).boxed (fun h => h) h1, ext_putP h2 (by have := HX16.out.2.2; omega) o'⟩
        case hIx => exact fun c => ⟨fun _ _ _ h _ => h, fun _ _ _ _ _ h _ _ _ => h⟩
        case h0 => exact ⟨HX16.out.2.1, HX16.out.1⟩
        case hbody =>
          rintro l2 m pre x V hsz - ⟨hb, hx0⟩ hlen
          have hfn : ∀ f, (Fence.wide.inRound l2).fn f := fun _ => trivial
          have HV := Lib.hid (And.intro hb (And.intro hx0 hlen))
          have hcn : (pre.length : Int) ≤ (t0.kvs.length : Int) := Int.ofNat_le.2 (Nat.le_of_lt hlen)
          have c6 := cell_all (show Boxed V N6 27 (.slice pa t0.kvs.length pc) from hx0.get HX15.out.2.2.1).cell
          have c9 := cell_all (show Boxed V N9 30 _ from hx0.get HX15.out.2.2.2.2.1).cell
          have cn := cell_all hb.cell
          have hx := Ext.drew V
          clear hb hx0 hlen hsz hmo
          gi_wp2_with fail
          refine wpIn_region_G (fun j => !(List.contains (α := Nat) [] j)) (by kernel_rfl) ?_
          refine batchG hfn (fuel := 10) [0, 2] (by kernel_rfl) rfl ?_
          repeat (go_big_quiet_step ((fail)))
          refine wpQuiet_nil ?_
          clear c9
          refine wpAnyG_one (j := 1) (by kernel_rfl) rfl ?_
          gi_wp2_with fail
          refine ⟨fun h => (by cases h), (CallsIn.inRound l2 (callsIn_wide.2 (HBK.out _ (HX15.out.2.2.2.2.2.1.trans (HV.out.2.1.trans hx)) 100))).mono ?_⟩
          rw [List.take_of_length_le (show t0.kvs.reverse.length ≤ 100 by rw [List.length_reverse, BT.kvs_len]; exact Nat.le_trans HN.out (by decide))]
          rintro e w17 ⟨v17, rfl, o17, h17⟩
          gi_wp2_with fail
          refine onePost_ext (h17) ?_
          replace hx := hx.trans h17
          have HO17 := Lib.hid o17.row
          clear h17 o17
          refine wpAnyG_one (j := 3) (by kernel_rfl) rfl ?_
          gi_wp2_with fail
          refine ⟨fun h => (by cases h), (CallsIn.inRound l2 (callsIn_wide.2 (turned_any w17 _ t0.kvs (HX15.out.2.2.2.1.ext (HV.out.2.1.trans hx)).row (by rw [BT.kvs_len]; exact Nat.le_trans HN.out (by decide))))).mono ?_⟩
          rintro e w18 ⟨v18, rfl, o18, h18⟩
          gi_wp2_with fail
          refine onePost_ext (h18) ?_
          replace hx := hx.trans h18
          replace HO17 := Lib.hid (HO17.out.ext h18)
          have HO18 := Lib.hid o18.row
          clear h18 o18
          refine wpAnyG_one (j := 4) (by kernel_rfl) rfl ?_
          gi_wp2_with fail
          refine ⟨fun h => (by cases h), (CallsIn.inRound l2 (callsIn_wide.2 (samePairs_any w18 _ _ t0.kvs.reverse HO17.out HO18.out (by rw [List.length_reverse, BT.kvs_len]; exact Nat.le_trans HN.out (by decide))))).mono ?_⟩
          rintro e w19 ⟨rfl, h19⟩
          gi_wp2_with fail
          refine onePost_ext (h19) ?_
          replace hx := hx.trans h19
          clear h19 HO17 HO18
          have hcd : decide ((t0.kvs.length : Int) < (pre.length : Int)) = false := decide_eq_false (by omega)
          refine batchG hfn (fuel := 3) [5, 6, 7, 8] (by kernel_rfl) rfl ?_
          repeat (go_big_quiet_step ((fail)))
          refine wpQuiet_nil ?_
          clear c6 cn
          refine takeGL hfn 9 (by kernel_rfl) rfl ?_
          repeat (go_big_quiet_step ((fail)))
          refine wpQuiet_nil ?_
          refine batchG hfn (fuel := 0) [10, 11] (by kernel_rfl) rfl ?_
          repeat (go_big_quiet_step ((fail)))
          refine wpQuiet_nil ?_
          refine wpAnyG_done (by kernel_rfl) ?_
          refine calmQ_normal ?_
          have hb19 : Boxed w19 w15.heap.size 3 (.int .i64 (pre.length : Nat)) := hx.get HV.out.1
          have HB19 := Lib.hid (And.intro hb19 hx)
          have hce := hb19.cell
          have hfe := hb19.frozen
          clear hb19 hx
          gi_wp2
          have hs := HB19.out.1.set (.int .i64 (((pre ++ [x]).length : Nat) : Int))
          rw [stop_k HV.out.2.2 HN.out (BT.kvs_len t0) x]
          exact ⟨(keepsFrom_ext HB19.out.2).trans (keepsFrom_set _ _ _), (Keep.ext HB19.out.2).trans (Keep.setCell _ _ _ rfl), hs, (HV.out.2.1.trans HB19.out.2).setCell (p := ⟨w15.heap.size, 0, none⟩) (Nat.le_refl _) _⟩
        case hdone =>
          rintro D V hD ⟨hb, hx⟩ hK
          have hcn := hb.cell
          have c6 := (show Boxed V N6 27 (.slice pa t0.kvs.length pc) from hx.get HX15.out.2.2.1).cell
          have HV := Lib.hid (And.intro hx (And.intro hD hK))
          clear hb hx hD hK
          gi_wp2_with fail
          gi_wp2_with fail
          refine ⟨wide_room _, (callsIn_wide.2 (alive10_any _)).mono ?_⟩
          rintro e w17 ⟨rfl, h17⟩
          have hb17 : Boxed w17 w.heap.size 4 (.bool false) := h17.get (HV.out.1.get HX15.out.2.1)
          have hce := hb17.cell
          have hfe := hb17.frozen
          have HB17 := Lib.hid (And.intro hb17 (And.intro (HX15.out.1.trans (HV.out.1.trans h17)) (h17.get HV.out.2.2)))
          clear hb17 h17 hcn c6
          gi_wp2
          have hk := (KeepsOthers.setCell w17 ⟨w.heap.size, 0, none⟩ (.bool true)).same D _ HB17.out.2.2 rfl
          have hs := HB17.out.1.set (.bool true)
          have hx := HB17.out.2.1.setCell (p := ⟨w.heap.size, 0, none⟩) (Nat.le_refl _) (.bool true)
          have hD := HV.out.2.1
          have h16 := HX16.out.2.2
          have h15 := HX15.out.1.size
          clear hce hfe
          generalize w17.setCell ⟨w.heap.size, 0, none⟩ (.bool true) = V7 at *
          have hb := ((Keep.putObj (M := fun _ => False) V7 D _ (.deferred none) hk rfl).boxed (fun h => h) hs).cell
          refine ⟨by simp, .inl ⟨_, _, rfl, run_takeDeferred hk, ?_⟩⟩
          exact ⟨.bool true, by simp [results, Try.results3, go_sem, loadVar, hb], ⟨rfl, ext_putP hx (by omega) _⟩⟩
        case hstop =>
          rintro D c pre V _ _ h
          exact h.elim
theorem u8_nat' {c : Int} (h : (Lit.int .u8 c).wf = true) : ∃ m : Nat, c = m ∧ m < 256 := by
  have g0 : 0 ≤ c ∧ c < 256 := by simp [Lit.wf, show IntKind.u8.min = 0 from rfl, show IntKind.u8.max = 255 from rfl] at h; omega
  exact ⟨c.toNat, by omega, by omega⟩
theorem lookStops_row (a0 : Option Addr) (len0 cap0 : Nat) (z0 : List BeadL) (mo : Int) (w : World) (w0 : IsBeads w (.slice a0 len0 cap0) z0) (hm : (Lit.int .u8 mo).wf = true) :
    Calls Try.prog 3 #[.slice a0 len0 cap0, .int .u8 mo] w (Ret (.bool true) w) := by
  obtain ⟨m, rfl, h⟩ := u8_nat' hm
  exact callsIn_wide.1 (lookStops_in 9 a0 len0 cap0 z0 m h w w0)
end Go.Proofs.Ytkbndpemljommaa
