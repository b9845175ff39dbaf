/- joineryref22: Items, Item, Has. joineryref22: Item, Has. joineryref22.Has. joinerylaw22.parted; trees of rows of beads that are parts. The walk of SchemeTells. -/
import Derived.BigQuiet
import Derived.Test.YtoiohjifjmejkaaGreatM8
import Derived.Test.YtoiohjifjmejkaaGreatM28
import Derived.Test.YtoiohjifjmejkaaGreatM34
import Derived.Test.YtoiohjifjmejkaaGreatM38
namespace Go.Proofs.YtoiohjifjmejkaaGreat
open Go Go.RowKit

theorem itemCells_set : ∀ (zs : List (Int × Int × Int)) (k : Nat) (z : Int × Int × Int) (y : Int), zs[k]? = some z → itemCells (zs.set k (z.1, z.2.1, y)) = (itemCells zs).set (k * 3 + 2) (.int .u64 y)
  | [], k, z, y, h => by simp at h
  | x :: zs, 0, z, y, h => by
    obtain rfl : x = z := by simpa using h
    simp [itemCells, icells]
  | x :: zs, k + 1, z, y, h => by
    have ih := itemCells_set zs k z y (by simpa using h)
    show icells x ++ itemCells (zs.set k (z.1, z.2.1, y)) = (icells x ++ itemCells zs).set ((k + 1) * 3 + 2) (.int .u64 y)
    rw [ih, List.set_append_right (h := by show 3 ≤ _; omega)]
    congr 2
    show _ = (k + 1) * 3 + 2 - 3
    omega
theorem IOwn3.blk {B : Nat} {w : World} {v : Value} {zs : List (Int × Int × Int)} (h : IOwn3 B w v zs) (hne : zs ≠ []) : ∃ g cap, v = .slice (some ⟨g, 0, none⟩) zs.length cap ∧ B ≤ g ∧ zs.length ≤ cap ∧
    ∀ W xs, IOwn3 B W v xs → xs.length = zs.length → (∀ i, W.frozen? ⟨g, i, none⟩ = false) ∧ (∀ k z, xs[k]? = some z → W.cell? ⟨g, k * 3, none⟩ = some (.int .i64 z.1) ∧ W.cell? ⟨g, k * 3 + 1, none⟩ = some (.int .i64 z.2.1) ∧ W.cell? ⟨g, k * 3 + 2, none⟩ = some (.int .u64 z.2.2) ∧
      ∀ y, IOwn3 B (W.setCell ⟨g, k * 3 + 2, none⟩ (.int .u64 y)) v (xs.set k (z.1, z.2.1, y))) := by
  obtain ⟨h1, ⟨rfl, h0⟩ | ⟨g, cap, cur, rfl, hb, hg, hc, hm, hs, ht⟩⟩ := h
  · exact (hne (List.eq_nil_of_length_eq_zero h0)).elim
  · refine ⟨g, cap, rfl, hb, hc, fun W xs hx hl => ?_⟩
    have hrow := hx
    obtain ⟨k1, ⟨hv, h0⟩ | ⟨g', cap', cur', hv, hb', hg', hc', hm', hs', ht'⟩⟩ := hx
    · cases hv
    · injection hv with e1 e2 e3
      injection e1 with e1
      injection e1 with e1
      subst e1 e3
      refine ⟨frozen_of hg', fun k z hz => ?_⟩
      have hlt := (List.getElem?_eq_some_iff.1 hz).1
      have hcell : ∀ j u, (icells z)[j]? = some u → W.cell? ⟨g, k * 3 + j, none⟩ = some u := by
        intro j u hj
        have h2 := itemCells_at xs k z j hz (List.getElem?_eq_some_iff.1 hj).1
        rw [hj, ← ht', List.getElem?_take] at h2
        rw [cell_of hg']
        split at h2
        · simpa using h2
        · cases h2
      refine ⟨hcell 0 _ rfl, hcell 1 _ rfl, hcell 2 _ rfl, fun y => ?_⟩
      have hheap : (W.setCell ⟨g, k * 3 + 2, none⟩ (.int .u64 y)).heap[g]? = some (.cells (cur'.setIfInBounds (k * 3 + 2) (.int .u64 y)) 66 (0, 0)) := by
        simp [World.setCell, Array.getElem?_modify, hg']
      refine ⟨by rw [itemCells_len], .inr ⟨g, cap, _, by rw [List.length_set, hl], hb', hheap, by rw [List.length_set]; exact hc', hm', by simp [hs'], ?_⟩⟩
      rw [List.length_set, itemCells_set xs k z y hz, ← ht', Array.toList_setIfInBounds, List.take_set]
theorem IOwn3.sized {B : Nat} {w : World} {v : Value} {zs : List (Int × Int × Int)} (h : IOwn3 B w v zs) : ∃ a c, v = .slice a zs.length c := irow3_slice h.row
/-- a row whose first k items have lost their tags. -/
def untag (c k : Nat) (zs : List (Int × Int × Int)) : List (Int × Int × Int) := (zs.take k).map (itC c) ++ zs.drop k
theorem untag_len (c k : Nat) (zs : List (Int × Int × Int)) : (untag c k zs).length = zs.length := by simp [untag]; omega
theorem untag_at {c k : Nat} {zs : List (Int × Int × Int)} {z : Int × Int × Int} (h : zs[k]? = some z) : (untag c k zs)[k]? = some z := by
  have hlt := (List.getElem?_eq_some_iff.1 h).1
  rw [untag, List.getElem?_append_right (by simp; omega), List.length_map, List.length_take, Nat.min_eq_left (by omega), Nat.sub_self, List.getElem?_drop, Nat.add_zero, h]
theorem untag_set {c k : Nat} (hc : c ≠ 4) {zs : List (Int × Int × Int)} {z : Int × Int × Int} (h : zs[k]? = some z) : (untag c k zs).set k (z.1, z.2.1, 0) = untag c (k + 1) zs := by
  have hlt := (List.getElem?_eq_some_iff.1 h).1
  have hd : zs.drop k = z :: zs.drop (k + 1) := by
    rw [List.drop_eq_getElem_cons hlt]
    congr 1
    exact (List.getElem?_eq_some_iff.1 h).2
  rw [untag, untag, List.set_append_right (h := by simp; omega), List.length_map, List.length_take, Nat.min_eq_left (by omega), Nat.sub_self, hd, List.set_cons_zero, List.take_add_one, h]
  simp [itC, hc]
def BT.itsC (c : Nat) (t : BT) : List (Int × Int × Int) := t.its.map (itC c)
theorem fits_itsC {t : BT} {T : Tr} (c : Nat) (h : t.fits T) : Proofs.YtoiohjifjmejkaaGreat.itsC c T = t.itsC c := by rw [Proofs.YtoiohjifjmejkaaGreat.itsC, BT.itsC, BT.fits_its h]
set_option maxHeartbeats 2000000 in
theorem items22_any (c : Nat) (h4 : 1 ≤ c ∧ c ≤ 4) (t : BT) (w : World) (p : Value) (hb : Beads w p t.enc) (hl : t.enc.length ≤ 2000) :
    Calls Tryz.prog 16 #[.int .u8 c, p] w (GivesI3 (t.itsC c) w) := by
  have H := Lib.hid (items20_any t w p hb hl)
  have hzl : t.its.length ≤ 2000 := by rw [BT.its_len]; exact hl
  rw [BT.itsC]
  generalize hzs : t.its = zs at *
  clear hb hzs hl
  by_cases hc : c = 4
  · subst hc
    have he : zs.map (itC 4) = zs := by
      conv => rhs; rw [← List.map_id zs]
      exact List.map_congr_left fun z _ => rfl
    rw [he]
    clear he
    go_enter Tryz.func16, Tryz.ntmps16
    go_wp2_with fail
    refine H.out.mono ?_
    rintro e w1 ⟨v, rfl, ho, h1⟩
    go_wp2
    go_ret
    exact ⟨_, rfl, ho, h1⟩
  · have hc' : (c : Int) ≠ 4 := by omega
    have HC := Lib.hid hc
    clear hc
    go_enter Tryz.func16, Tryz.ntmps16
    go_wp2_with fail
    refine H.out.mono ?_
    rintro e w1 ⟨v, rfl, ho, h1⟩
    by_cases h0 : zs = []
    · subst h0
      obtain ⟨a, k, rfl⟩ := ho.sized
      rw [show ([] : List (Int × Int × Int)).length = 0 from rfl] at *
      have HO := Lib.hid ho
      clear ho
      go_wp2
      go_loop [6] (fun i => i = .int .i64 0) (fun _ => 0)
      case atStart => rfl
      case round =>
        subst hrel
        go_wp2
        go_ret
        exact ⟨_, rfl, HO.out, h1⟩
    · obtain ⟨g, cap, rfl, hB, hcap, hfact⟩ := ho.blk h0
      have HO := Lib.hid ho
      have HF := Lib.hid hfact
      clear ho hfact h0
      go_wp2
      go_loopw [6] (fun i W => Ext w W ∧ ∃ k : Nat, k ≤ zs.length ∧ i = .int .i64 k ∧ IOwn3 w.heap.size W (.slice (some ⟨g, 0, none⟩) zs.length cap) (untag c k zs)) (fun i _ => zs.length - (intOf i).toNat)
      case atStart => exact ⟨h1, 0, Nat.zero_le _, rfl, by simpa [untag] using HO.out⟩
      case round =>
        obtain ⟨hX, k, hk, rfl, hO⟩ := hrel
        have HO' := Lib.hid hO
        clear hO
        by_cases hlt : k < zs.length
        · obtain ⟨z, hz⟩ : ∃ z, zs[k]? = some z := ⟨_, List.getElem?_eq_getElem hlt⟩
          obtain ⟨hfz, hcs⟩ := HF.out wr _ HO'.out (untag_len c k zs)
          obtain ⟨c0, c1, c2, hset⟩ := hcs k z (untag_at hz)
          have hf2 := hfz (k * 3 + 2)
          have HS := Lib.hid (hset 0)
          have HZ := Lib.hid hz
          clear hfz hcs hset c0 c1 hz
          go_wp2
          go_roundw
          case rel => exact ⟨Below.setCell hX hB _, k + 1, by omega, by go_num, by rw [← untag_set HC.out HZ.out]; exact HS.out⟩
          case measure => simp [intOf]; omega
        · have hk' : k = zs.length := by omega
          have HK := Lib.hid hk'
          clear hk'
          go_wp2
          go_ret
          refine ⟨_, rfl, ?_, hX⟩
          have := HO'.out
          rw [HK.out] at this
          simpa [untag] using this
end Go.Proofs.YtoiohjifjmejkaaGreat
namespace Go.Proofs.YtoiohjifjmejkaaGreat
open Go Go.RowKit
attribute [local go_sem] Oper.semAt_some

theorem put3_other {w : World} {N i : Nat} {o : Obj} (hi : i ≠ N) (h : w.heap[i]? = some o) (a b c : Value) : (put3 w N a b c).heap[i]? = some o := by
  unfold put3
  rw [Below.heap_setCell _ _ _ _ hi, Below.heap_setCell _ _ _ _ hi, Below.heap_setCell _ _ _ _ hi]
  exact h
end Go.Proofs.YtoiohjifjmejkaaGreat
namespace Go.Proofs.YtoiohjifjmejkaaGreat
open Go Go.RowKit
attribute [local go_sem] Oper.semAt_some

theorem map_at {c : Nat} {xs zs : List (Int × Int × Int)} (h : zs.map (itC c) = xs) {k : Nat} {z : Int × Int × Int} (hz : zs[k]? = some z) : xs[k]? = some (itC c z) := by
  rw [← h]; simp [hz]
set_option maxRecDepth 100000 in
set_option maxHeartbeats 4000000 in
theorem has22_any (c : Nat) (h4 : 1 ≤ c ∧ c ≤ 4) (T : Tr) (w : World) (p q : Value) (zs : List (Int × Int × Int)) (hb : Beads w p T.beads) (hq : IRow3 w q zs) (hz : zs.map (itC c) = itsC c T) (hm : MayC c T) (ho : c = 2 → TagsOk T) (hl : T.count ≤ 2000) :
    Calls Tryz.prog 45 #[.int .u8 c, p, q] w (Ret (.bool true) w) := by
  have hund : undef = Value.tuple #[] := rfl
  have hfn : ∀ f, Fence.wide.fn f := fun _ => trivial
  have hbt : Beads w p T.bt.enc := beads_bt hb
  have hlen : T.bt.enc.length ≤ 2000 := by rw [← fits_cnt T.bt_fits]; exact hl
  have H1 := Lib.hid (may22_any c h4 T.bt T w p T.bt_fits ho hbt hlen)
  rw [show ((ckV c T).2 == 0) = true by rw [MayC.ck h4 (by omega) hm]; rfl] at H1
  have H2 := Lib.hid (fun W (e : Ext w W) => of_any T.bt W p (hbt.ext e) hlen)
  rw [← fits_beads T.bt_fits (by omega)] at H2
  have H3 := Lib.hid (fun W (e : Ext w W) u (hu : Beads W u T.beads) => same_any W p u T.beads (hb.ext e) hu (by rw [T.beads_len]; exact hl))
  have H4 := Lib.hid (fun W (e : Ext w W) => items22_any c h4 T.bt W p (hbt.ext e) hlen)
  rw [← fits_itsC c T.bt_fits] at H4
  have hzl : zs.length = T.count := by rw [← itsC_len c, ← hz, List.length_map]
  have HZ := Lib.hid hz
  have hll : (itsC c T).length = zs.length := by rw [← hz, List.length_map]
  obtain ⟨a, k, rfl⟩ := beads_slice hb
  have hzl2 : zs.length ≤ 2000 := by omega
  clear hb hbt hlen hm ho hz hzl hl
  generalize T.beads = bs at *
  generalize bs.length = BL at *
  generalize itsC c T = xs at *
  by_cases h0 : zs = []
  · subst h0
    obtain rfl : xs = [] := by cases xs with | nil => rfl | cons => simp at hll
    obtain ⟨a0, k0, rfl⟩ := irow3_slice hq
    rw [show ([] : List (Int × Int × Int)).length = 0 from rfl] at *
    clear hq HZ hll hzl2
    go_enter Tryz.func45, Tryz.ntmps45
    go_wp2_with fail
    refine H1.out.mono ?_
    rintro e w1 ⟨rfl, h1⟩
    go_wp2_with fail
    refine (H2.out w1 h1).mono ?_
    rintro e w2 ⟨v2, rfl, o2, h2⟩
    have hx2 := h1.trans h2
    have O2 := Lib.hid o2.beads
    obtain ⟨a2, k2, rfl⟩ := beads_slice o2.beads
    clear h1 h2 o2
    go_wp2_with fail
    refine (H3.out w2 hx2 _ O2.out).mono ?_
    rintro e w3 ⟨rfl, h3⟩
    have hx3 := hx2.trans h3
    clear hx2 h3 O2
    go_wp2_with fail
    refine (H4.out w3 hx3).mono ?_
    rintro e w4 ⟨v4, rfl, o4, h4⟩
    have hx4 := hx3.trans h4
    have O4 := Lib.hid o4.row
    obtain ⟨a4, k4, rfl⟩ := irow3_slice o4.row
    clear hx3 h4 o4
    clear O4
    rw [show ([] : List (Int × Int × Int)).length = 0 from rfl]
    go_wp2
    go_loop [8] (fun i => i = .int .i64 0) (fun _ => 0)
    case atStart => rfl
    case round =>
      subst hrel
      go_wp2
      go_ret
      exact Ret.mk hx4
  · have hxne : xs ≠ [] := fun e => by rw [e] at hll; exact h0 (List.eq_nil_of_length_eq_zero hll.symm)
    rcases hq with ⟨h, -⟩ | ⟨b, o, cq, rfl, -, hcq, hr⟩
    · exact (h0 h).elim
    · have HR := Lib.hid hr
      clear hr h0
      by_cases hc : c = 4
      · subst hc
        have hit : ∀ z, itC 4 z = z := fun z => rfl
        go_enter Tryz.func45, Tryz.ntmps45
        go_wp2_with fail
        refine H1.out.mono ?_
        rintro e w1 ⟨rfl, h1⟩
        go_wp2_with fail
        refine (H2.out w1 h1).mono ?_
        rintro e w2 ⟨v2, rfl, o2, h2⟩
        have hx2 := h1.trans h2
        have O2 := Lib.hid o2.beads
        obtain ⟨a2, k2, rfl⟩ := beads_slice o2.beads
        clear h1 h2 o2
        go_wp2_with fail
        refine (H3.out w2 hx2 _ O2.out).mono ?_
        rintro e w3 ⟨rfl, h3⟩
        have hx3 := hx2.trans h3
        clear hx2 h3 O2
        go_wp2_with fail
        refine (H4.out w3 hx3).mono ?_
        rintro e w4 ⟨v4, rfl, o4, h4⟩
        have hx4 := hx3.trans h4
        have O4 := Lib.hid o4.row
        obtain ⟨a4, k4, rfl⟩ := irow3_slice o4.row
        clear hx3 h4 o4
        rcases O4.out with ⟨h, -⟩ | ⟨b2, o2, cq2, hv, -, hcq2, hr2⟩
        · exact (hxne h).elim
        · injection hv with e1 e2 e3
          subst e1 e3
          have HR2 := Lib.hid hr2
          rw [hll] at hcq2 ⊢
          clear hr2 O4 hxne
          go_wp2
          go_loopw [8] (fun i W => (Ext w W ∧ Ext w4 W) ∧ ∃ k : Nat, k ≤ zs.length ∧ i = .int .i64 k) (fun i _ => zs.length - (intOf i).toNat)
          case atStart => exact ⟨⟨hx4, Ext.refl _⟩, 0, Nat.zero_le _, rfl⟩
          case round =>
            obtain ⟨⟨hX, hX4⟩, k, hk, rfl⟩ := hrel
            by_cases hlt : k < zs.length
            · obtain ⟨z, hz⟩ : ∃ z, zs[k]? = some z := ⟨_, List.getElem?_eq_getElem hlt⟩
              obtain ⟨z0, z1, z2⟩ := z
              have hx' := map_at HZ.out hz
              have c0 : wr.cell? ⟨b, o + k * 3, none⟩ = some (.int .i64 z0) := item_cell (rangeAt_ext HR.out hX) hz (j := 0) rfl
              have c1 : wr.cell? ⟨b, o + k * 3 + 1, none⟩ = some (.int .i64 z1) := item_cell (rangeAt_ext HR.out hX) hz (j := 1) rfl
              have c2' : wr.cell? ⟨b, o + k * 3 + 2, none⟩ = some (.int .u64 z2) := item_cell (rangeAt_ext HR.out hX) hz (j := 2) rfl
              have d0 : wr.cell? ⟨b2, o2 + k * 3, none⟩ = some (.int .i64 z0) := item_cell (rangeAt_ext HR2.out hX4) hx' (j := 0) rfl
              have d1 : wr.cell? ⟨b2, o2 + k * 3 + 1, none⟩ = some (.int .i64 z1) := item_cell (rangeAt_ext HR2.out hX4) hx' (j := 1) rfl
              have d2 : wr.cell? ⟨b2, o2 + k * 3 + 2, none⟩ = some (.int .u64 (itC _ (z0, z1, z2)).2.2) := item_cell (rangeAt_ext HR2.out hX4) hx' (j := 2) rfl
              replace c0 := cell_all c0
              replace c1 := cell_all c1
              replace c2' := cell_all c2'
              replace d0 := cell_all d0
              replace d1 := cell_all d1
              replace d2 := cell_all d2
              clear hz hx'
              have hx := Ext.drew wr
              obtain ⟨m⟩ : Nonempty Nat := ⟨0⟩
              go_wp2_with fail
              refine (wpIn_wide (n := m)).1 ?_
              gi_wp2_with fail
              refine wpIn_region_G (fun j => !(List.contains (α := Nat) [] j)) (by kernel_rfl) ?_
              refine batchG hfn (fuel := 0) [0, 1, 2, 3, 4, 5, 6, 7, 8, 9, 10, 11, 12, 13, 14, 15, 16, 17, 18, 19, 20, 21, 22, 23, 24, 25, 26, 27, 28, 29, 30, 31, 32, 33, 34, 35, 36, 37, 38, 39, 40] (by kernel_rfl) rfl ?_
              repeat (go_big_quiet_step ((fail)))
              refine wpQuiet_nil ?_
              refine wpAnyG_done (by kernel_rfl) ?_
              refine calmQ_normal ?_
              go_wp2
              go_roundw
              case rel => exact ⟨⟨by first | exact hX | exact hX.trans (Ext.drew _), by first | exact hX4 | exact hX4.trans (Ext.drew _)⟩, k + 1, by omega, by go_num⟩
              case measure => simp [intOf]; omega
            · go_wp2
              go_ret
              exact Ret.mk hX
      · obtain rfl | rfl | rfl : c = 1 ∨ c = 2 ∨ c = 3 := by omega
        all_goals
          clear hc
          go_enter Tryz.func45, Tryz.ntmps45
          go_wp2_with fail
          refine H1.out.mono ?_
          rintro e w1 ⟨rfl, h1⟩
          go_wp2_with fail
          refine (H2.out w1 h1).mono ?_
          rintro e w2 ⟨v2, rfl, o2, h2⟩
          have hx2 := h1.trans h2
          have O2 := Lib.hid o2.beads
          obtain ⟨a2, k2, rfl⟩ := beads_slice o2.beads
          clear h1 h2 o2
          go_wp2_with fail
          refine (H3.out w2 hx2 _ O2.out).mono ?_
          rintro e w3 ⟨rfl, h3⟩
          have hx3 := hx2.trans h3
          clear hx2 h3 O2
          go_wp2_with fail
          refine (H4.out w3 hx3).mono ?_
          rintro e w4 ⟨v4, rfl, o4, h4⟩
          have hx4 := hx3.trans h4
          have O4 := Lib.hid o4.row
          obtain ⟨a4, k4, rfl⟩ := irow3_slice o4.row
          clear hx3 h4 o4
          rcases O4.out with ⟨h, -⟩ | ⟨b2, o2, cq2, hv, -, hcq2, hr2⟩
          · exact (hxne h).elim
          · injection hv with e1 e2 e3
            subst e1 e3
            have HR2 := Lib.hid hr2
            rw [hll] at hcq2 ⊢
            clear hr2 O4 hxne
            go_wp2
            go_loopw [8] (fun i W => (Ext w W ∧ Ext w4 W) ∧ ∃ k : Nat, k ≤ zs.length ∧ i = .int .i64 k) (fun i _ => zs.length - (intOf i).toNat)
            case atStart => exact ⟨⟨hx4, Ext.refl _⟩, 0, Nat.zero_le _, rfl⟩
            case round =>
              obtain ⟨⟨hX, hX4⟩, k, hk, rfl⟩ := hrel
              by_cases hlt : k < zs.length
              · obtain ⟨z, hz⟩ : ∃ z, zs[k]? = some z := ⟨_, List.getElem?_eq_getElem hlt⟩
                obtain ⟨z0, z1, z2⟩ := z
                have hx' := map_at HZ.out hz
                have c0 : wr.cell? ⟨b, o + k * 3, none⟩ = some (.int .i64 z0) := item_cell (rangeAt_ext HR.out hX) hz (j := 0) rfl
                have c1 : wr.cell? ⟨b, o + k * 3 + 1, none⟩ = some (.int .i64 z1) := item_cell (rangeAt_ext HR.out hX) hz (j := 1) rfl
                have c2' : wr.cell? ⟨b, o + k * 3 + 2, none⟩ = some (.int .u64 z2) := item_cell (rangeAt_ext HR.out hX) hz (j := 2) rfl
                have d0 : wr.cell? ⟨b2, o2 + k * 3, none⟩ = some (.int .i64 z0) := item_cell (rangeAt_ext HR2.out hX4) hx' (j := 0) rfl
                have d1 : wr.cell? ⟨b2, o2 + k * 3 + 1, none⟩ = some (.int .i64 z1) := item_cell (rangeAt_ext HR2.out hX4) hx' (j := 1) rfl
                have d2 : wr.cell? ⟨b2, o2 + k * 3 + 2, none⟩ = some (.int .u64 (itC _ (z0, z1, z2)).2.2) := item_cell (rangeAt_ext HR2.out hX4) hx' (j := 2) rfl
                replace c0 := cell_all c0
                replace c1 := cell_all c1
                replace c2' := cell_all c2'
                replace d0 := cell_all d0
                replace d1 := cell_all d1
                replace d2 := cell_all d2
                clear hz hx'
                have hx := Ext.drew wr
                obtain ⟨m⟩ : Nonempty Nat := ⟨0⟩
                go_wp2_with fail
                refine (wpIn_wide (n := m)).1 ?_
                gi_wp2_with fail
                refine wpIn_region_G (fun j => !(List.contains (α := Nat) [] j)) (by kernel_rfl) ?_
                refine batchG hfn (fuel := 0) [0, 1, 2, 3, 4, 5, 6, 7, 8, 9, 10, 11, 12, 13, 14, 15, 16, 17, 18, 19, 20, 21, 22, 23, 24, 25, 26, 27, 28, 29, 30, 31, 32, 33, 34, 35, 36, 37, 38, 39, 40] (by kernel_rfl) rfl ?_
                repeat (go_big_quiet_step ((fail)))
                refine wpQuiet_nil ?_
                refine wpAnyG_done (by kernel_rfl) ?_
                refine calmQ_normal ?_
                go_wp2
                go_roundw
                case rel => exact ⟨⟨by first | exact hX | exact hX.trans (Ext.drew _), by first | exact hX4 | exact hX4.trans (Ext.drew _)⟩, k + 1, by omega, by go_num⟩
                case measure => simp [intOf]; omega
              · go_wp2
                go_ret
                exact Ret.mk hX
end Go.Proofs.YtoiohjifjmejkaaGreat
namespace Go.Proofs.YtoiohjifjmejkaaGreat
open Go Go.RowKit

theorem itsC_idem (c : Nat) (T : Tr) : (itsC c T).map (itC c) = itsC c T := by
  unfold itsC
  rw [List.map_map]
  exact List.map_congr_left fun z _ => itC_idem c z
theorem itC_if (c : Nat) (k v g : Int) : itC c (k, v, if c = 4 then g else 0) = itC c (k, v, g) := by
  simp only [itC]
  split <;> simp_all
theorem fits_tpH : ∀ {t : BT} {A B : Tr}, t.fits A → t.fits B → (TpH A ↔ TpH B)
  | .nil, .nil, .nil, _, _ => Iff.rfl
  | .nil, .node .., _, h, _ => h.elim
  | .nil, .nil, .node .., _, h => h.elim
  | .node .., .nil, _, h, _ => h.elim
  | .node .., .node .., .nil, _, h => h.elim
  | .node k v s n g l r, .node b1 L k1 v1 g1 R, .node b2 L' k2 v2 g2 R', h, h' => by
    have h1 := fits_tpH h.2.2.2.1 h'.2.2.2.1
    have h2 := fits_tpH h.2.2.2.2 h'.2.2.2.2
    obtain ⟨a1, a2, a3, fl, fr⟩ := h
    obtain ⟨c1, c2, c3, fl', fr'⟩ := h'
    subst a1 a2 a3
    subst c1 c2 c3
    have e1 := under_iff L b1 L k v g R
    have e2 := under_iff L' b2 L' k v g R'
    have e3 := under_iff R b1 L k v g R
    have e4 := under_iff R' b2 L' k v g R'
    rw [overT_fits fl] at e1
    rw [overT_fits fl'] at e2
    rw [overT_fits fr] at e3
    rw [overT_fits fr'] at e4
    rw [TpH, TpH, h1, h2, ← e1, ← e2, ← e3, ← e4]
theorem fits_ptV {c : Nat} (h4 : 1 ≤ c ∧ c ≤ 4) {t : BT} {A B : Tr} (ha : t.fits A) (hb : t.fits B) : ptV c A = ptV c B := by
  obtain rfl | rfl | rfl | rfl := fourC h4
  · exact fits_avlMay ha hb
  · exact (fits_rbPart ha hb).1
  · exact fits_wbMay ha hb
  · show tpMay A = tpMay B
    rw [Bool.eq_iff_iff, tpMay_iff, tpMay_iff, fits_tpH ha hb]
/-- a row of beads of a part, and not too long. -/
def GoodC (c : Nat) (zs : List BeadL) (t : BT) : Prop := t.enc = zs ∧ zs.length ≤ 400 ∧ ptV c t.tr = true
theorem goodC_tree {c : Nat} (h4 : 1 ≤ c ∧ c ≤ 4) {zs : List BeadL} {t : BT} {A : Tr} (hg : GoodC c zs t) (hf : t.fits A) (hz : ∀ z ∈ zs, z.wf) : PartC c A ∧ A.count ≤ 400 ∧ TagsOk A ∧ A.count = zs.length := by
  obtain ⟨rfl, h1, h2⟩ := hg
  have hc := fits_cnt hf
  have ht := fits_tagsOk t A hf hz
  exact ⟨partC_of h4 (by omega) ht (by rw [fits_ptV h4 hf t.tr_fits]; exact h2), by omega, ht, hc⟩
end Go.Proofs.YtoiohjifjmejkaaGreat
namespace Go.Proofs.YtoiohjifjmejkaaGreat
open Go Go.RowKit

theorem itemV_agg (c : Nat) (T : Tr) : ∃ k v g, itemV c T = .agg #[.int .i64 k, .int .i64 v, .int .u64 g] := ⟨_, _, _, rfl⟩
theorem u8_nat {c : Int} (h : (Lit.int .u8 c).wf = true) : ∃ m : Nat, c = m ∧ m < 256 := by
  have g0 : 0 ≤ c ∧ c < 256 := by simp [Lit.wf, show IntKind.u8.min = 0 from rfl, show IntKind.u8.max = 255 from rfl] at h; omega
  obtain ⟨m, rfl⟩ := Int.eq_ofNat_of_zero_le g0.1
  exact ⟨m, rfl, by omega⟩
end Go.Proofs.YtoiohjifjmejkaaGreat
