/- joineryref06.Keep. -/
import Derived.Test.YteibbdieckephaaSift6
namespace Go.Proofs.Yteibbdieckephaa
open Go Go.RowKit

set_option maxRecDepth 100000 in
set_option maxHeartbeats 4000000 in
theorem refKeep_any (w : World) (kd : Nat) (a b : Int) (nt : Bool) (p : Value) (zs : List (Int × Int)) (ha : I64 a) (hb : I64 b) (hp : PRow w p zs) (hl : zs.length ≤ 5000) : Calls Try.prog 15 #[predV kd a b nt, p] w (GivesP (zs.filter (fun z => sTakes kd a b nt z.1 z.2)) w) := by
  have hfn : ∀ f, Fence.wide.fn f := fun _ => trivial
  have HTK := Lib.hid (fun W k v => refTakes_any W kd a b nt k v ha hb)
  have hpv : predV kd a b nt = .agg #[.int .u8 kd, .int .i64 a, .int .i64 b, .bool nt] := rfl
  rw [hpv] at HTK
  rw [hpv]
  have HP := Lib.hid hp
  have HL := Lib.hid hl
  have hcase : zs = [] ∨ ∃ b0 o c, p = .slice (some ⟨b0, o, none⟩) zs.length c ∧ Hid (zs.length ≤ c ∧ w.rangeAt b0 o (pairCells zs)) := by
    rcases hp with ⟨h, _⟩ | ⟨b0, o, c, h, _, h1, h2⟩
    · exact .inl h
    · exact .inr ⟨b0, o, c, h, Lib.hid ⟨h1, h2⟩⟩
  obtain ⟨pa, pc, rfl⟩ := prow_slice hp
  have hbox := alloc_at w (.cells #[.int .u8 kd, .int .i64 a, .int .i64 b, .bool nt] 23) _ rfl
  have hE := (Ext.refl w).alloc (.cells #[.int .u8 kd, .int .i64 a, .int .i64 b, .bool nt] 23)
  clear hp ha hb hl hpv
  obtain ⟨f, hf⟩ : ∃ f : Int × Int → Bool, f = fun z => sTakes kd a b nt z.1 z.2 := ⟨_, rfl⟩
  rw [← hf]
  have HF := Lib.hid hf
  clear hf
  go_enter Try.func15, Try.ntmps15
  go_wp2_with fail
  generalize w.alloc (.cells #[.int .u8 kd, .int .i64 a, .int .i64 b, .bool nt] 23) = w2 at *
  generalize hNw : w.heap.size = N at *
  have HN := Lib.hid hNw
  clear hNw
  have HE2 := Lib.hid hE
  clear hE
  go_loopw [5, 6] (fun v i W => ∃ k : Nat, k ≤ zs.length ∧ i = .int .i64 k ∧ POwn w2.heap.size W v ((zs.take k).filter f) ∧ Ext w2 W) (fun _ i _ => zs.length - (intOf i).toNat)
  case atStart => exact ⟨0, Nat.zero_le _, rfl, POwn.nil _ _, Ext.refl _⟩
  case round =>
    obtain ⟨k, hk, rfl, hap, hX⟩ := hrel
    have HA := Lib.hid hap
    have HX := Lib.hid hX
    by_cases hlt : k < zs.length
    · rcases hcase with rfl | ⟨b0, o, c, hpe, hc⟩
      · simp at hlt
      · obtain ⟨rfl, rfl⟩ : pa = some ⟨b0, o, none⟩ ∧ pc = c := by cases hpe; exact ⟨rfl, rfl⟩
        clear hpe
        obtain ⟨c0, c1⟩ := prow_cells (rangeAt_ext hc.out.2 (HE2.out.trans hX)) k hlt
        obtain ⟨z0, z1, hz⟩ : ∃ z0 z1, zs.getD k (0, 0) = (z0, z1) := ⟨_, _, rfl⟩
        rw [hz] at c0 c1
        have HZ := Lib.hid hz
        have hbr := hX.get hbox
        have p0 := cell_of hbr 0
        have p1 := cell_of hbr 1
        have p2 := cell_of hbr 2
        have p3 := cell_of hbr 3
        simp at p0 p1 p2 p3
        have hft : f (z0, z1) = sTakes kd a b nt z0 z1 := by rw [HF.out]
        have hT1 := take_filter f zs k hlt
        rw [HZ.out, hft] at hT1
        clear hz hap hX hbr hft
        obtain ⟨m⟩ : Nonempty Nat := ⟨0⟩
        refine (wpIn_wide (n := m)).1 ?_
        gi_wp2_with fail
        replace p0 := cell_all p0
        replace p1 := cell_all p1
        replace p2 := cell_all p2
        replace p3 := cell_all p3
        replace c0 := cell_all c0
        replace c1 := cell_all c1
        have hx := Ext.drew wr
        refine wpIn_region_G (fun j => !(List.contains (α := Nat) [5] j)) (by kernel_rfl) ?_
        refine batchG hfn (fuel := 1) [0, 1, 2, 3, 4] (by kernel_rfl) rfl ?_
        repeat (go_big_quiet_step ((fail)))
        refine wpQuiet_nil ?_
        clear p0 p1 p2 p3 c0 c1
        refine wpAnyG_one (j := 5) (by kernel_rfl) rfl ?_
        gi_wp2_with fail
        refine ⟨wide_room _, (callsIn_wide.2 (HTK.out _ z0 z1)).mono ?_⟩
        cases ht : sTakes kd a b nt z0 z1 with
        | true =>
          rw [ht] at hT1
          have HT1 := Lib.hid hT1
          clear ht hT1
          rintro e w4 ⟨rfl, h4⟩
          have h14 := hx.trans h4
          obtain ⟨d0, d1⟩ := prow_cells (rangeAt_ext hc.out.2 (HE2.out.trans (HX.out.trans h14))) k hlt
          rw [HZ.out] at d0 d1
          have hE5 := (Ext.refl w4).alloc (.cells #[.int .i64 z0, .int .i64 z1] 25)
          have HA5 := Lib.hid (HA.out.ext (h14.trans hE5))
          have HX5 := Lib.hid (HX.out.trans (h14.trans hE5))
          have HR5 := Lib.hid ((pown_new (B := w4.heap.size) (w := w4) (z0, z1) (Nat.le_refl _)).row)
          clear h14 h4 hx hE5
          gi_wp2_with fail
          refine onePost_any (by kernel_rfl) ?_
          refine wpAnyG_done (by kernel_rfl) ?_
          refine calmQ_normal ?_
          gi_wp2_with (refine wpListIn_append_pairs (B := w2.heap.size) (zs := (zs.take k).filter f) (ys := [(z0, z1)]) rfl (.tmp 19) (.tmp 24) rfl rfl rfl HA5.out HR5.out ?b1 HX5.out.size hfn ?_)
          case b1 => exact flen f k _ HL.out
          intro v6 w6 ho6 hg6
          have HA6 := Lib.hid ho6
          have HX6 := Lib.hid (pgrown_ext HX5.out HA5.out hg6)
          clear ho6 hg6 d0 d1
          gi_wp2
          go_roundw
          case rel => exact ⟨k + 1, hlt, int_k hlt HL.out, (by rw [HT1.out]; simpa using HA6.out), HX6.out⟩
          case measure => exact meas_k hlt HL.out
        | false =>
          rw [ht] at hT1
          have HT1 := Lib.hid hT1
          clear ht hT1
          rintro e w4 ⟨rfl, h4⟩
          have HX4 := Lib.hid (HX.out.trans (hx.trans h4))
          have HA4 := Lib.hid (HA.out.ext (hx.trans h4))
          clear hx h4
          gi_wp2_with fail
          refine onePost_any (by kernel_rfl) ?_
          refine wpAnyG_done (by kernel_rfl) ?_
          refine calmQ_normal ?_
          gi_wp2
          go_roundw
          case rel => exact ⟨k + 1, hlt, int_k hlt HL.out, (by rw [HT1.out]; simpa using HA4.out), HX4.out⟩
          case measure => exact meas_k hlt HL.out
    · have hke : k = zs.length := Nat.le_antisymm hk (Nat.le_of_not_lt hlt)
      have HK := Lib.hid hke
      clear hap hX hke hcase
      go_wp2
      go_ret
      have hap := HA.out
      rw [HK.out, List.take_length] at hap
      exact ⟨_, rfl, hap.mono HE2.out.size, HE2.out.trans HX.out⟩
set_option maxHeartbeats 1000000 in
theorem samePairs04_any (w : World) (p q : Value) (zs : List (Int × Int)) (hp : PRow w p zs) (hq : PRow w q zs) (hl : zs.length ≤ 5000) : Calls Try.prog 14 #[p, q] w (Ret (.bool true) w) := by
  rcases hp with ⟨h0, a, c, rfl⟩ | ⟨b, o, c, rfl, hne, hc, hr⟩
  · subst h0
    obtain ⟨a2, c2, rfl⟩ := prow_slice hq
    rw [show ([] : List (Int × Int)).length = 0 from rfl]
    clear hq hl
    go_enter Try.func14, Try.ntmps14
    go_wp2
    go_loop [5] (fun i => i = .int .i64 0) (fun _ => 0)
    case atStart => rfl
    case round =>
      subst hrel
      go_wp2
      go_ret
      exact Ret.mk (Ext.refl _)
  · rcases hq with ⟨h0, _⟩ | ⟨b2, o2, c2, rfl, _, hc2, hr2⟩
    · exact (hne h0).elim
    · have H := Lib.hid hr
      have H2 := Lib.hid hr2
      clear hr hr2 hne
      go_enter Try.func14, Try.ntmps14
      go_wp2
      go_loopw [5] (fun i W => Ext w W ∧ ∃ k : Nat, k ≤ zs.length ∧ i = .int .i64 k) (fun i _ => zs.length - (intOf i).toNat)
      case atStart => exact ⟨Ext.refl _, 0, Nat.zero_le _, rfl⟩
      case round =>
        obtain ⟨hX, k, hk, rfl⟩ := hrel
        by_cases hlt : k < zs.length
        · obtain ⟨z, hz⟩ : ∃ z, zs[k]? = some z := ⟨_, List.getElem?_eq_getElem hlt⟩
          obtain ⟨z0, z1⟩ := z
          have c0 : wr.cell? ⟨b, o + k * 2, none⟩ = some (.int .i64 z0) := pair_cell (rangeAt_ext H.out hX) hz (j := 0) rfl
          have c1 : wr.cell? ⟨b, o + k * 2 + 1, none⟩ = some (.int .i64 z1) := pair_cell (rangeAt_ext H.out hX) hz (j := 1) rfl
          have d0 : wr.cell? ⟨b2, o2 + k * 2, none⟩ = some (.int .i64 z0) := pair_cell (rangeAt_ext H2.out hX) hz (j := 0) rfl
          have d1 : wr.cell? ⟨b2, o2 + k * 2 + 1, none⟩ = some (.int .i64 z1) := pair_cell (rangeAt_ext H2.out hX) hz (j := 1) rfl
          clear hz
          go_wp2_with fail
          go_region
          go_wp2
          go_roundw
          case rel => exact ⟨by first | exact hX | exact hX.trans (Ext.drew _), k + 1, by omega, by go_num⟩
          case measure => simp [intOf]; omega
        · go_wp2
          go_ret
          exact Ret.mk hX
end Go.Proofs.Yteibbdieckephaa
