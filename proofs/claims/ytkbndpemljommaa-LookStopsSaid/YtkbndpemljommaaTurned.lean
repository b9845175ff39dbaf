/- joineryref10.Turned: a row of pairs, turned about. -/
import Derived.Test.YtkbndpemljommaaCollect
namespace Go.Proofs.Ytkbndpemljommaa
open Go Go.RowKit

theorem pcells_at {w : World} {b o : Nat} {zs : List (Int × Int)} (hr : w.rangeAt b o (pairCells zs)) {i : Nat} {z : Int × Int} (hi : zs[i]? = some z) :
    w.cell? ⟨b, o + i * 2, none⟩ = some (.int .i64 z.1) ∧ w.cell? ⟨b, o + i * 2 + 1, none⟩ = some (.int .i64 z.2) :=
  ⟨pair_cell hr hi (j := 0) rfl, pair_cell hr hi (j := 1) rfl⟩
theorem turn_step (zs : List (Int × Int)) (j : Nat) (z : Int × Int) (h : zs[j]? = some z) : (zs.drop j).reverse = (zs.drop (j + 1)).reverse ++ [z] := by
  obtain ⟨hl, rfl⟩ := List.getElem?_eq_some_iff.1 h
  rw [List.drop_eq_getElem_cons hl, List.reverse_cons]
theorem turn_int {j n : Nat} (h : j < n) (hn : n ≤ 5000) : Value.int .i64 (wrap64 ((j : Int) - 1)) = .int .i64 ((j : Int) - 1) := by
  rw [show wrap64 ((j : Int) - 1) = (j : Int) - 1 by unfold wrap64; omega]
theorem turn_le {n j : Nat} (h : n ≤ 5000) : n ≤ 9999 + (j + 1) := by omega
theorem turn_meas {j n : Nat} (h : j < n) (hn : n ≤ 5000) : (intOf (.int .i64 (wrap64 ((j : Int) - 1))) + 1).toNat < (intOf (.int .i64 (j : Int)) + 1).toNat := by
  show (wrap64 ((j : Int) - 1) + 1).toNat < ((j : Int) + 1).toNat
  unfold wrap64; omega
set_option maxRecDepth 100000 in
set_option maxHeartbeats 2000000 in
theorem turned_any (w : World) (p : Value) (zs : List (Int × Int)) (hp : PRow w p zs) (hl : zs.length ≤ 5000) : Calls Try.prog 12 #[p] w (GivesP zs.reverse w) := by
  have HL := Lib.hid hl
  have hcase : zs = [] ∨ ∃ b0 o c, p = .slice (some ⟨b0, o, none⟩) zs.length c ∧ Hid (zs.length ≤ c ∧ w.rangeAt b0 o (pairCells zs)) := by
    rcases hp with ⟨h, _⟩ | ⟨b0, o, c, h, _, h1, h2⟩
    · exact .inl h
    · exact .inr ⟨b0, o, c, h, Lib.hid ⟨h1, h2⟩⟩
  obtain ⟨pa, pc, rfl⟩ := prow_slice hp
  have hwl : wrap64 ((zs.length : Int) - 1) = (zs.length : Int) - 1 := by unfold wrap64; omega
  clear hp hl
  go_enter Try.func12, Try.ntmps12
  go_wp2_with fail
  go_loopw [3, 4] (fun v i W => ∃ k : Nat, i = .int .i64 ((k : Int) - 1) ∧ Hid (k ≤ zs.length ∧ POwn w.heap.size W v (zs.drop k).reverse ∧ Ext w W)) (fun _ i _ => (intOf i + 1).toNat)
  case atStart => exact ⟨zs.length, by rw [hwl], Lib.hid ⟨Nat.le_refl _, by rw [List.drop_length]; exact POwn.nil _ _, Ext.refl _⟩⟩
  case round =>
    obtain ⟨k, rfl, HX⟩ := hrel
    clear hwl
    cases k with
    | zero =>
      go_wp2
      go_ret
      exact ⟨_, rfl, by simpa using HX.out.2.1, HX.out.2.2⟩
    | succ j =>
      have hlt : j < zs.length := HX.out.1
      rcases hcase with rfl | ⟨b0, o, c, hpe, hc⟩
      · simp at hlt
      · obtain ⟨rfl, rfl⟩ : pa = some ⟨b0, o, none⟩ ∧ pc = c := by cases hpe; exact ⟨rfl, rfl⟩
        clear hpe
        obtain ⟨z, hz⟩ : ∃ z, zs[j]? = some z := ⟨_, List.getElem?_eq_getElem hlt⟩
        obtain ⟨c0, c1⟩ := pcells_at (rangeAt_ext hc.out.2 HX.out.2.2) hz
        have HZ := Lib.hid (turn_step zs j z hz)
        obtain ⟨z0, z1⟩ := z
        have hE := (Ext.refl wr).alloc (.cells #[.int .i64 z0, .int .i64 z1] 39)
        have HA := Lib.hid (And.intro (HX.out.2.1.ext hE) (HX.out.2.2.trans hE))
        have HR := Lib.hid ((pown_new (B := wr.heap.size) (w := wr) (z0, z1) (Nat.le_refl _)).row)
        have hj1 : ((j + 1 : Nat) : Int) - 1 = (j : Int) := by omega
        rw [hj1]
        have hj2 : (0 : Int) ≤ (j : Int) := Int.natCast_nonneg _
        have hj3 : (j : Int) < (zs.length : Int) := by omega
        have HJ := Lib.hid (turn_int hlt HL.out)
        have HLT := Lib.hid hlt
        clear hz hE hj1 hlt hc
        go_wp2_with (at_builtin; refine wpList_append_pairs (B := w.heap.size) (zs := (zs.drop (j + 1)).reverse) (ys := [(z0, z1)]) rfl (.tmp 12) (.tmp 17) rfl rfl rfl HA.out.1 HR.out ?b1 HA.out.2.size ?_)
        case b1 => exact turn_le HL.out
        intro v6 w6 ho6 hg6
        have HX6 := Lib.hid (pgrown_ext HA.out.2 HA.out.1 hg6)
        have HO6 := Lib.hid ho6
        clear ho6 hg6 c0 c1
        go_wp2
        go_roundw
        case rel => exact ⟨j, HJ.out, Lib.hid ⟨Nat.le_of_lt HLT.out, by rw [HZ.out]; exact HO6.out, HX6.out⟩⟩
        case measure => exact turn_meas HLT.out HL.out
end Go.Proofs.Ytkbndpemljommaa
