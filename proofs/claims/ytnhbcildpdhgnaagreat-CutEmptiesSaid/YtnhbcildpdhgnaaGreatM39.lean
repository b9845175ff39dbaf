/- joineryref22.Has. joinerylaw22.parted; trees of rows of beads that are parts. The walk of SchemeTells. joinerylaw22.grown. -/
import Derived.BigQuiet
import Derived.Test.YtnhbcildpdhgnaaGreatM2
import Derived.Test.YtnhbcildpdhgnaaGreatM27
import Derived.Test.YtnhbcildpdhgnaaGreatM33
import Derived.Test.YtnhbcildpdhgnaaGreatM38
namespace Go.Proofs.YtnhbcildpdhgnaaGreat
open Go Go.RowKit
attribute [local go_sem] Oper.semAt_some

theorem map_at {c : Nat} {xs zs : List (Int × Int × Int)} (h : zs.map (itC c) = xs) {k : Nat} {z : Int × Int × Int} (hz : zs[k]? = some z) : xs[k]? = some (itC c z) := by
  rw [← h]; simp [hz]
set_option maxRecDepth 100000 in
set_option maxHeartbeats 4000000 in
theorem has22_any (c : Nat) (h4 : 1 ≤ c ∧ c ≤ 4) (T : Tr) (w : World) (p q : Value) (zs : List (Int × Int × Int)) (hb : Beads w p T.beads) (hq : IRow3 w q zs) (hz : zs.map (itC c) = itsC c T) (hm : MayC c T) (ho : c = 2 → TagsOk T) (hl : T.count ≤ 2000) :
    Calls Tryz.prog 38 #[.int .u8 c, p, q] w (Ret (.bool true) w) := by
  have hund : undef = Value.tuple #[] := rfl
  have hfn : ∀ f, Fence.wide.fn f := fun _ => trivial
  have hbt : Beads w p T.bt.enc := beads_bt hb
  have hlen : T.bt.enc.length ≤ 2000 := by rw [← fits_cnt T.bt_fits]; exact hl
  have H1 := Lib.hid (may22_any c h4 T.bt T w p T.bt_fits ho hbt hlen)
  rw [show ((ckV c T).2 == 0) = true by rw [MayC.ck h4 (by omega) hm]; rfl] at H1
  have H2 := Lib.hid (fun W (e : Ext w W) => of_any T.bt W p (hbt.ext e) hlen)
  rw [← fits_beads T.bt_fits (by omega)] at H2
  have H3 := Lib.hid (fun W (e : Ext w W) u (hu : Beads W u T.beads) => same_any W p u T.beads (hb.ext e) hu (by rw [T.beads_len]; exact hl))
  have H4 := Lib.hid (fun W (e : Ext w W) => items22_any c h4 T.bt W p (hbt.ext e) hlen)
  rw [← fits_itsC c T.bt_fits] at H4
  have hzl : zs.length = T.count := by rw [← itsC_len c, ← hz, List.length_map]
  have HZ := Lib.hid hz
  have hll : (itsC c T).length = zs.length := by rw [← hz, List.length_map]
  obtain ⟨a, k, rfl⟩ := beads_slice hb
  have hzl2 : zs.length ≤ 2000 := by omega
  clear hb hbt hlen hm ho hz hzl hl
  generalize T.beads = bs at *
  generalize bs.length = BL at *
  generalize itsC c T = xs at *
  by_cases h0 : zs = []
  · subst h0
    obtain rfl : xs = [] := by cases xs with | nil => rfl | cons => simp at hll
    obtain ⟨a0, k0, rfl⟩ := irow3_slice hq
    rw [show ([] : List (Int × Int × Int)).length = 0 from rfl] at *
    clear hq HZ hll hzl2
    go_enter Tryz.func38, Tryz.ntmps38
    go_wp2_with fail
    refine H1.out.mono ?_
    rintro e w1 ⟨rfl, h1⟩
    go_wp2_with fail
    refine (H2.out w1 h1).mono ?_
    rintro e w2 ⟨v2, rfl, o2, h2⟩
    have hx2 := h1.trans h2
    have O2 := Lib.hid o2.beads
    obtain ⟨a2, k2, rfl⟩ := beads_slice o2.beads
    clear h1 h2 o2
    go_wp2_with fail
    refine (H3.out w2 hx2 _ O2.out).mono ?_
    rintro e w3 ⟨rfl, h3⟩
    have hx3 := hx2.trans h3
    clear hx2 h3 O2
    go_wp2_with fail
    refine (H4.out w3 hx3).mono ?_
    rintro e w4 ⟨v4, rfl, o4, h4⟩
    have hx4 := hx3.trans h4
    have O4 := Lib.hid o4.row
    obtain ⟨a4, k4, rfl⟩ := irow3_slice o4.row
    clear hx3 h4 o4
    clear O4
    rw [show ([] : List (Int × Int × Int)).length = 0 from rfl]
    go_wp2
    go_loop [8] (fun i => i = .int .i64 0) (fun _ => 0)
    case atStart => rfl
    case round =>
      subst hrel
      go_wp2
      go_ret
      exact Ret.mk hx4
  · have hxne : xs ≠ [] := fun e => by rw [e] at hll; exact h0 (List.eq_nil_of_length_eq_zero hll.symm)
    rcases hq with ⟨h, -⟩ | ⟨b, o, cq, rfl, -, hcq, hr⟩
    · exact (h0 h).elim
    · have HR := Lib.hid hr
      clear hr h0
      by_cases hc : c = 4
      · subst hc
        have hit : ∀ z, itC 4 z = z := fun z => rfl
        go_enter Tryz.func38, Tryz.ntmps38
        go_wp2_with fail
        refine H1.out.mono ?_
        rintro e w1 ⟨rfl, h1⟩
        go_wp2_with fail
        refine (H2.out w1 h1).mono ?_
        rintro e w2 ⟨v2, rfl, o2, h2⟩
        have hx2 := h1.trans h2
        have O2 := Lib.hid o2.beads
        obtain ⟨a2, k2, rfl⟩ := beads_slice o2.beads
        clear h1 h2 o2
        go_wp2_with fail
        refine (H3.out w2 hx2 _ O2.out).mono ?_
        rintro e w3 ⟨rfl, h3⟩
        have hx3 := hx2.trans h3
        clear hx2 h3 O2
        go_wp2_with fail
        refine (H4.out w3 hx3).mono ?_
        rintro e w4 ⟨v4, rfl, o4, h4⟩
        have hx4 := hx3.trans h4
        have O4 := Lib.hid o4.row
        obtain ⟨a4, k4, rfl⟩ := irow3_slice o4.row
        clear hx3 h4 o4
        rcases O4.out with ⟨h, -⟩ | ⟨b2, o2, cq2, hv, -, hcq2, hr2⟩
        · exact (hxne h).elim
        · injection hv with e1 e2 e3
          subst e1 e3
          have HR2 := Lib.hid hr2
          rw [hll] at hcq2 ⊢
          clear hr2 O4 hxne
          go_wp2
          go_loopw [8] (fun i W => (Ext w W ∧ Ext w4 W) ∧ ∃ k : Nat, k ≤ zs.length ∧ i = .int .i64 k) (fun i _ => zs.length - (intOf i).toNat)
          case atStart => exact ⟨⟨hx4, Ext.refl _⟩, 0, Nat.zero_le _, rfl⟩
          case round =>
            obtain ⟨⟨hX, hX4⟩, k, hk, rfl⟩ := hrel
            by_cases hlt : k < zs.length
            · obtain ⟨z, hz⟩ : ∃ z, zs[k]? = some z := ⟨_, List.getElem?_eq_getElem hlt⟩
              obtain ⟨z0, z1, z2⟩ := z
              have hx' := map_at HZ.out hz
              have c0 : wr.cell? ⟨b, o + k * 3, none⟩ = some (.int .i64 z0) := item_cell (rangeAt_ext HR.out hX) hz (j := 0) rfl
              have c1 : wr.cell? ⟨b, o + k * 3 + 1, none⟩ = some (.int .i64 z1) := item_cell (rangeAt_ext HR.out hX) hz (j := 1) rfl
              have c2' : wr.cell? ⟨b, o + k * 3 + 2, none⟩ = some (.int .u64 z2) := item_cell (rangeAt_ext HR.out hX) hz (j := 2) rfl
              have d0 : wr.cell? ⟨b2, o2 + k * 3, none⟩ = some (.int .i64 z0) := item_cell (rangeAt_ext HR2.out hX4) hx' (j := 0) rfl
              have d1 : wr.cell? ⟨b2, o2 + k * 3 + 1, none⟩ = some (.int .i64 z1) := item_cell (rangeAt_ext HR2.out hX4) hx' (j := 1) rfl
              have d2 : wr.cell? ⟨b2, o2 + k * 3 + 2, none⟩ = some (.int .u64 (itC _ (z0, z1, z2)).2.2) := item_cell (rangeAt_ext HR2.out hX4) hx' (j := 2) rfl
              replace c0 := cell_all c0
              replace c1 := cell_all c1
              replace c2' := cell_all c2'
              replace d0 := cell_all d0
              replace d1 := cell_all d1
              replace d2 := cell_all d2
              clear hz hx'
              have hx := Ext.drew wr
              obtain ⟨m⟩ : Nonempty Nat := ⟨0⟩
              go_wp2_with fail
              refine (wpIn_wide (n := m)).1 ?_
              gi_wp2_with fail
              refine wpIn_region_G (fun j => !(List.contains (α := Nat) [] j)) (by kernel_rfl) ?_
              refine batchG hfn (fuel := 0) [0, 1, 2, 3, 4, 5, 6, 7, 8, 9, 10, 11, 12, 13, 14, 15, 16, 17, 18, 19, 20, 21, 22, 23, 24, 25, 26, 27, 28, 29, 30, 31, 32, 33, 34, 35, 36, 37, 38, 39, 40] (by kernel_rfl) rfl ?_
              repeat (go_big_quiet_step ((fail)))
              refine wpQuiet_nil ?_
              refine wpAnyG_done (by kernel_rfl) ?_
              refine calmQ_normal ?_
              go_wp2
              go_roundw
              case rel => exact ⟨⟨by first | exact hX | exact hX.trans (Ext.drew _), by first | exact hX4 | exact hX4.trans (Ext.drew _)⟩, k + 1, by omega, by go_num⟩
              case measure => simp [intOf]; omega
            · go_wp2
              go_ret
              exact Ret.mk hX
      · obtain rfl | rfl | rfl : c = 1 ∨ c = 2 ∨ c = 3 := by omega
        all_goals
          clear hc
          go_enter Tryz.func38, Tryz.ntmps38
          go_wp2_with fail
          refine H1.out.mono ?_
          rintro e w1 ⟨rfl, h1⟩
          go_wp2_with fail
          refine (H2.out w1 h1).mono ?_
          rintro e w2 ⟨v2, rfl, o2, h2⟩
          have hx2 := h1.trans h2
          have O2 := Lib.hid o2.beads
          obtain ⟨a2, k2, rfl⟩ := beads_slice o2.beads
          clear h1 h2 o2
          go_wp2_with fail
          refine (H3.out w2 hx2 _ O2.out).mono ?_
          rintro e w3 ⟨rfl, h3⟩
          have hx3 := hx2.trans h3
          clear hx2 h3 O2
          go_wp2_with fail
          refine (H4.out w3 hx3).mono ?_
          rintro e w4 ⟨v4, rfl, o4, h4⟩
          have hx4 := hx3.trans h4
          have O4 := Lib.hid o4.row
          obtain ⟨a4, k4, rfl⟩ := irow3_slice o4.row
          clear hx3 h4 o4
          rcases O4.out with ⟨h, -⟩ | ⟨b2, o2, cq2, hv, -, hcq2, hr2⟩
          · exact (hxne h).elim
          · injection hv with e1 e2 e3
            subst e1 e3
            have HR2 := Lib.hid hr2
            rw [hll] at hcq2 ⊢
            clear hr2 O4 hxne
            go_wp2
            go_loopw [8] (fun i W => (Ext w W ∧ Ext w4 W) ∧ ∃ k : Nat, k ≤ zs.length ∧ i = .int .i64 k) (fun i _ => zs.length - (intOf i).toNat)
            case atStart => exact ⟨⟨hx4, Ext.refl _⟩, 0, Nat.zero_le _, rfl⟩
            case round =>
              obtain ⟨⟨hX, hX4⟩, k, hk, rfl⟩ := hrel
              by_cases hlt : k < zs.length
              · obtain ⟨z, hz⟩ : ∃ z, zs[k]? = some z := ⟨_, List.getElem?_eq_getElem hlt⟩
                obtain ⟨z0, z1, z2⟩ := z
                have hx' := map_at HZ.out hz
                have c0 : wr.cell? ⟨b, o + k * 3, none⟩ = some (.int .i64 z0) := item_cell (rangeAt_ext HR.out hX) hz (j := 0) rfl
                have c1 : wr.cell? ⟨b, o + k * 3 + 1, none⟩ = some (.int .i64 z1) := item_cell (rangeAt_ext HR.out hX) hz (j := 1) rfl
                have c2' : wr.cell? ⟨b, o + k * 3 + 2, none⟩ = some (.int .u64 z2) := item_cell (rangeAt_ext HR.out hX) hz (j := 2) rfl
                have d0 : wr.cell? ⟨b2, o2 + k * 3, none⟩ = some (.int .i64 z0) := item_cell (rangeAt_ext HR2.out hX4) hx' (j := 0) rfl
                have d1 : wr.cell? ⟨b2, o2 + k * 3 + 1, none⟩ = some (.int .i64 z1) := item_cell (rangeAt_ext HR2.out hX4) hx' (j := 1) rfl
                have d2 : wr.cell? ⟨b2, o2 + k * 3 + 2, none⟩ = some (.int .u64 (itC _ (z0, z1, z2)).2.2) := item_cell (rangeAt_ext HR2.out hX4) hx' (j := 2) rfl
                replace c0 := cell_all c0
                replace c1 := cell_all c1
                replace c2' := cell_all c2'
                replace d0 := cell_all d0
                replace d1 := cell_all d1
                replace d2 := cell_all d2
                clear hz hx'
                have hx := Ext.drew wr
                obtain ⟨m⟩ : Nonempty Nat := ⟨0⟩
                go_wp2_with fail
                refine (wpIn_wide (n := m)).1 ?_
                gi_wp2_with fail
                refine wpIn_region_G (fun j => !(List.contains (α := Nat) [] j)) (by kernel_rfl) ?_
                refine batchG hfn (fuel := 0) [0, 1, 2, 3, 4, 5, 6, 7, 8, 9, 10, 11, 12, 13, 14, 15, 16, 17, 18, 19, 20, 21, 22, 23, 24, 25, 26, 27, 28, 29, 30, 31, 32, 33, 34, 35, 36, 37, 38, 39, 40] (by kernel_rfl) rfl ?_
                repeat (go_big_quiet_step ((fail)))
                refine wpQuiet_nil ?_
                refine wpAnyG_done (by kernel_rfl) ?_
                refine calmQ_normal ?_
                go_wp2
                go_roundw
                case rel => exact ⟨⟨by first | exact hX | exact hX.trans (Ext.drew _), by first | exact hX4 | exact hX4.trans (Ext.drew _)⟩, k + 1, by omega, by go_num⟩
                case measure => simp [intOf]; omega
              · go_wp2
                go_ret
                exact Ret.mk hX
end Go.Proofs.YtnhbcildpdhgnaaGreat
namespace Go.Proofs.YtnhbcildpdhgnaaGreat
open Go Go.RowKit

theorem itsC_idem (c : Nat) (T : Tr) : (itsC c T).map (itC c) = itsC c T := by
  unfold itsC
  rw [List.map_map]
  exact List.map_congr_left fun z _ => itC_idem c z
theorem itC_if (c : Nat) (k v g : Int) : itC c (k, v, if c = 4 then g else 0) = itC c (k, v, g) := by
  simp only [itC]
  split <;> simp_all
theorem fits_tpH : ∀ {t : BT} {A B : Tr}, t.fits A → t.fits B → (TpH A ↔ TpH B)
  | .nil, .nil, .nil, _, _ => Iff.rfl
  | .nil, .node .., _, h, _ => h.elim
  | .nil, .nil, .node .., _, h => h.elim
  | .node .., .nil, _, h, _ => h.elim
  | .node .., .node .., .nil, _, h => h.elim
  | .node k v s n g l r, .node b1 L k1 v1 g1 R, .node b2 L' k2 v2 g2 R', h, h' => by
    have h1 := fits_tpH h.2.2.2.1 h'.2.2.2.1
    have h2 := fits_tpH h.2.2.2.2 h'.2.2.2.2
    obtain ⟨a1, a2, a3, fl, fr⟩ := h
    obtain ⟨c1, c2, c3, fl', fr'⟩ := h'
    subst a1 a2 a3
    subst c1 c2 c3
    have e1 := under_iff L b1 L k v g R
    have e2 := under_iff L' b2 L' k v g R'
    have e3 := under_iff R b1 L k v g R
    have e4 := under_iff R' b2 L' k v g R'
    rw [overT_fits fl] at e1
    rw [overT_fits fl'] at e2
    rw [overT_fits fr] at e3
    rw [overT_fits fr'] at e4
    rw [TpH, TpH, h1, h2, ← e1, ← e2, ← e3, ← e4]
theorem fits_ptV {c : Nat} (h4 : 1 ≤ c ∧ c ≤ 4) {t : BT} {A B : Tr} (ha : t.fits A) (hb : t.fits B) : ptV c A = ptV c B := by
  obtain rfl | rfl | rfl | rfl := fourC h4
  · exact fits_avlMay ha hb
  · exact (fits_rbPart ha hb).1
  · exact fits_wbMay ha hb
  · show tpMay A = tpMay B
    rw [Bool.eq_iff_iff, tpMay_iff, tpMay_iff, fits_tpH ha hb]
/-- a row of beads of a part, and not too long. -/
def GoodC (c : Nat) (zs : List BeadL) (t : BT) : Prop := t.enc = zs ∧ zs.length ≤ 400 ∧ ptV c t.tr = true
theorem goodC_tree {c : Nat} (h4 : 1 ≤ c ∧ c ≤ 4) {zs : List BeadL} {t : BT} {A : Tr} (hg : GoodC c zs t) (hf : t.fits A) (hz : ∀ z ∈ zs, z.wf) : PartC c A ∧ A.count ≤ 400 ∧ TagsOk A ∧ A.count = zs.length := by
  obtain ⟨rfl, h1, h2⟩ := hg
  have hc := fits_cnt hf
  have ht := fits_tagsOk t A hf hz
  exact ⟨partC_of h4 (by omega) ht (by rw [fits_ptV h4 hf t.tr_fits]; exact h2), by omega, ht, hc⟩
end Go.Proofs.YtnhbcildpdhgnaaGreat
namespace Go.Proofs.YtnhbcildpdhgnaaGreat
open Go Go.RowKit

theorem itemV_agg (c : Nat) (T : Tr) : ∃ k v g, itemV c T = .agg #[.int .i64 k, .int .i64 v, .int .u64 g] := ⟨_, _, _, rfl⟩
theorem u8_nat {c : Int} (h : (Lit.int .u8 c).wf = true) : ∃ m : Nat, c = m ∧ m < 256 := by
  have g0 : 0 ≤ c ∧ c < 256 := by simp [Lit.wf, show IntKind.u8.min = 0 from rfl, show IntKind.u8.max = 255 from rfl] at h; omega
  obtain ⟨m, rfl⟩ := Int.eq_ofNat_of_zero_le g0.1
  exact ⟨m, rfl, by omega⟩
end Go.Proofs.YtnhbcildpdhgnaaGreat
namespace Go.Proofs.YtnhbcildpdhgnaaGreat
open Go Go.RowKit

/-- a row of truths. -/
def LRow (w : World) (a : Option Addr) (len cap : Nat) : Prop :=
  len = 0 ∨ ∃ b o, a = some ⟨b, o, none⟩ ∧ len ≤ cap ∧ ∀ i, i < len → ∃ z : Bool, w.cell? ⟨b, o + i, none⟩ = some (.bool z)
/-- its tags fit uint64. -/
def ItOk (zs : List (Int × Int × Int)) : Prop := ∀ z ∈ zs, 0 ≤ z.2.2 ∧ z.2.2 < 18446744073709551616
theorem IOwn3.bt {B : Nat} {L : List Nat} {w w' : World} {v : Value} {zs : List (Int × Int × Int)} (h : IOwn3 B w v zs) (e : Bt L w w') (hL : ∀ P ∈ L, P < B) : IOwn3 B w' v zs := by
  obtain ⟨h1, h | ⟨g, cap, cur, hv, hb, hg, hc⟩⟩ := h
  · exact ⟨h1, .inl h⟩
  · exact ⟨h1, .inr ⟨g, cap, cur, hv, hb, e.get (fun hx => by have := hL g hx; omega) hg, hc⟩⟩
theorem IOwn3.block {B : Nat} {w : World} {v : Value} {zs : List (Int × Int × Int)} (h : IOwn3 B w v zs) {k : Nat} (hk : v.ownBlock = some k) : B ≤ k ∧ ∃ c, w.heap[k]? = some (.cells c 43 (0, 0)) := by
  obtain ⟨h1, ⟨rfl, -⟩ | ⟨g, cap, cur, rfl, hb, hg, hc⟩⟩ := h
  · cases hk
  · simp only [Value.ownBlock, Option.some.injEq] at hk
    subst hk
    exact ⟨hb, _, hg⟩
theorem InH.grown {B : Nat} {w w' : World} {v : Value} {zs : List (Int × Int × Int)} (hv : IOwn3 B w v zs) (hg : w.grownBy w' v.ownBlock) : ∀ {T : Tr}, InH w T → InH w' T
  | .nil, _ => trivial
  | .node b l k x g r, ⟨h0, h1, h2⟩ => ⟨by
      rw [hg.block b (lt_of h0) (fun e => by
        obtain ⟨-, c, hc⟩ := hv.block e.symm
        rw [h0] at hc
        injection hc with hc
        injection hc with _ h2 _
        exact absurd h2 (by decide))]
      exact h0, InH.grown hv hg h1, InH.grown hv hg h2⟩
theorem St.grown {B : Nat} {w W W' : World} {P c : Nat} {n : Int} {v : Value} {zs : List (Int × Int × Int)} (st : St w P c n W) (hv : IOwn3 B W v zs) (hP : P < B) (hg : W.grownBy W' v.ownBlock) : St w P c n W' := by
  have hwB : w.heap.size ≤ B := by have := st.new; omega
  refine ⟨igrown3_ext st.ext (hv.mono hwB) hg, st.new, ?_⟩
  have hp : W'.heap[P]? = W.heap[P]? := hg.block P st.lt (fun e => by have := (hv.block e.symm).1; omega)
  exact ⟨st.sch.1, st.sch.2.1, st.sch.2.2.imp (fun k => by unfold SchAt at k ⊢; rw [hp]; exact k) (fun k => by unfold SchAt at k ⊢; rw [hp]; exact k)⟩
theorem Sch.off {P c : Nat} {n : Int} {w : World} (h : Sch P c n w) {b o : Nat} {x : Int} (hc : w.cell? ⟨b, o, none⟩ = some (.int .i64 x)) : b ≠ P := by
  rintro rfl
  have key : ∀ (d st : Nat) (F : List Value), F = faces0 ∨ F = facesL c → SchAt b w c d st F n → False := by
    intro d st F hF hS
    rw [cell_of hS o] at hc
    have hF8 : ∃ f0 f1 f2 f3 f4 f5 f6 f7, F = [f0, f1, f2, f3, f4, f5, f6, f7] ∧ ∀ f ∈ F, ∀ y, f ≠ .int .i64 y := by
      rcases hF with rfl | rfl
      · exact ⟨_, _, _, _, _, _, _, _, rfl, by simp [faces0]⟩
      · exact ⟨_, _, _, _, _, _, _, _, rfl, by simp [facesL, fnV, joV, rkV]⟩
    obtain ⟨f0, f1, f2, f3, f4, f5, f6, f7, rfl, hf⟩ := hF8
    simp only [schL] at hc
    have hm : Value.int .i64 x ∈ ([.int .u8 c, .int .u32 d, .int .i32 st, .int .u32 0] ++ [f0, f1, f2, f3, f4, f5, f6, f7] ++ [.int .u64 n] : List Value) := by
      rw [List.getElem?_toArray] at hc
      exact List.mem_of_getElem? hc
    simp only [List.mem_append, List.mem_cons, List.not_mem_nil, or_false] at hm
    rcases hm with ((h1 | h1 | h1 | h1) | h1) | h1
    · cases h1
    · cases h1
    · cases h1
    · cases h1
    · exact hf _ (by simp only [List.mem_cons, List.not_mem_nil, or_false]; exact h1) x rfl
    · cases h1
  rcases h.2.2 with h1 | h1
  · exact key _ _ _ (.inl rfl) h1
  · exact key _ _ _ (.inr rfl) h1
theorem Bt.range {P c : Nat} {n : Int} {w w' : World} (e : Bt [P] w w') (h : Sch P c n w) {b o : Nat} {x : Int} {cs : List Value} (hr : w.rangeAt b o (.int .i64 x :: cs)) : w'.rangeAt b o (.int .i64 x :: cs) := by
  have h0 := hr 0 _ rfl
  have hne := h.off h0
  intro j u hj
  rw [World.cell?_of_block (w := w) (e.block b (cell_lt h0) (by simp; exact hne))]
  exact hr j u hj
theorem Beads.sch {P c : Nat} {n : Int} {w w' : World} {v : Value} {zs : List BeadL} (hb : Beads w v zs) (h : Sch P c n w) (e : Bt [P] w w') : Beads w' v zs := by
  rcases hb with hb | ⟨b, o, cp, rfl, hne, hc, hr⟩
  · exact .inl hb
  · cases zs with
    | nil => exact (hne rfl).elim
    | cons z zs => exact .inr ⟨b, o, cp, rfl, hne, hc, e.range h hr⟩
theorem IRow3.sch {P c : Nat} {n : Int} {w w' : World} {v : Value} {zs : List (Int × Int × Int)} (hb : IRow3 w v zs) (h : Sch P c n w) (e : Bt [P] w w') : IRow3 w' v zs := by
  rcases hb with hb | ⟨b, o, cp, rfl, hne, hc, hr⟩
  · exact .inl hb
  · cases zs with
    | nil => exact (hne rfl).elim
    | cons z zs => exact .inr ⟨b, o, cp, rfl, hne, hc, e.range h hr⟩
/-- what grown hands back. -/
def GrownS (w : World) (P c : Nat) (len : Nat) (W0 : World) (e : Ending) (W : World) : Prop :=
  ∃ (T : Tr) (v : Value) (row : List (Int × Int × Int)), e = .returned (.tuple #[.pointer T.ptr, v]) ∧ St w P c (len : Nat) W ∧ InH W T ∧ MayC c T ∧ TagsOk T ∧ itsC c T = row.map (itC c) ∧ T.count = len ∧ IOwn3 W0.heap.size W v row ∧ row.length = len
/-- how far it has come. -/
structure Half (w : World) (P c B k : Nat) (W : World) (T : Tr) (v : Value) (row : List (Int × Int × Int)) : Prop where
  st : St w P c (k : Nat) W
  big : B ≤ W.heap.size
  inh : InH W T
  may : MayC c T
  tags : TagsOk T
  its : itsC c T = row.map (itC c)
  cnt : T.count = k
  own : IOwn3 B W v row
  len : row.length = k
theorem u64_up {k : Nat} (h : k ≤ 1000) : IntKind.u64.wrap ((k : Int) + 1) = ((k + 1 : Nat) : Int) := by rw [u64_mod]; omega
theorem half_left {w : World} {P c B k m : Nat} {W w1 w2 w3 : World} {T u : Tr} {v v' v1 : Value} {row : List (Int × Int × Int)} {z : Int × Int × Int} (H : Half w P c B k W T v row) (hk : k < 100) (hz : 0 ≤ z.2.2 ∧ z.2.2 < 18446744073709551616) (hP : P < B)
    (BB : Bt [P] W w1) (SS : Sch P c (IntKind.u64.wrap ((k : Int) + 1)) w1) (hU : InH w1 u) (ok : JoinC m c .nil T z.1 z.2.1 z.2.2 u) (hE : Ext w1 w2) (hn : IOwn3 w1.heap.size w2 v1 [z]) (hB : B ≤ w1.heap.size) (ho : IOwn3 w1.heap.size w3 v' ([z] ++ row)) (hg : w2.grownBy w3 v1.ownBlock) : Half w P c B (k + 1) w3 u v' (z :: row) := by
  have st1 := (H.st.does BB SS).more hE
  rw [u64_up (by omega)] at st1
  refine ⟨st1.grown hn (by have := hP; omega) hg, Nat.le_trans (Nat.le_trans hB hE.size) hg.size, (hU.ext hE).grown hn hg, ok.may, ok.tags hz.1 hz.2 trivial H.tags (by have := ok.count; have := H.cnt; simp only [show Tr.count Tr.nil = 0 from rfl] at *; omega), ?_, ?_, ho.mono hB, by simp [H.len]⟩
  · rw [ok.its, H.its, itsC_nil]; rfl
  · have := ok.count; have := H.cnt; simp only [show Tr.count Tr.nil = 0 from rfl] at *; omega
theorem half_right {w : World} {P c B k m : Nat} {W w1 w2 w3 : World} {T u : Tr} {v v' v1 : Value} {row : List (Int × Int × Int)} {z : Int × Int × Int} (H : Half w P c B k W T v row) (hk : k < 100) (hz : 0 ≤ z.2.2 ∧ z.2.2 < 18446744073709551616) (hP : P < B)
    (BB : Bt [P] W w1) (SS : Sch P c (IntKind.u64.wrap ((k : Int) + 1)) w1) (hU : InH w1 u) (ok : JoinC m c T .nil z.1 z.2.1 z.2.2 u) (hE : Ext w1 w2) (hn : IOwn3 B w2 v1 row) (ho : IOwn3 B w3 v' (row ++ [z])) (hg : w2.grownBy w3 v1.ownBlock) : Half w P c B (k + 1) w3 u v' (row ++ [z]) := by
  have st1 := (H.st.does BB SS).more hE
  rw [u64_up (by omega)] at st1
  refine ⟨st1.grown hn hP hg, Nat.le_trans (Nat.le_trans (Nat.le_trans H.big BB.size) hE.size) hg.size, (hU.ext hE).grown hn hg, ok.may, ok.tags hz.1 hz.2 H.tags trivial (by have := ok.count; have := H.cnt; simp only [show Tr.count Tr.nil = 0 from rfl] at *; omega), ?_, ?_, ho, by simp [H.len]⟩
  · rw [ok.its, H.its, itsC_nil]; simp
  · have := ok.count; have := H.cnt; simp only [show Tr.count Tr.nil = 0 from rfl] at *; omega
end Go.Proofs.YtnhbcildpdhgnaaGreat
