/- joinerylaw10.alive. -/
import Derived.Test.YtkbndpemljommaaTurned
import Derived.Test.YtkbndpemljommaaLookDeep
namespace Go.Proofs.Ytkbndpemljommaa
open Go Go.RowKit

/-- what a going over hands back serves collect, whenever that is. -/
theorem goes_use {w w' W : World} {T : Tr} {bq : Nat} {zs : List (Int × Int)} (hT : InH w T) (hsz : w'.heap.size = w.heap.size + 4)
    (hit : ∀ M : Nat → Prop, (∀ i, w.heap.size ≤ i → i < w.heap.size + 4 → ¬ M i) → Off M T → Iter 31 #[.pointer (some ⟨bq, 0, none⟩)] (fun z : Int × Int => #[Value.int .i64 z.1, .int .i64 z.2]) zs 5 M w') (e : Ext w' W) :
    ∀ M : Nat → Prop, (∀ i, M i → W.heap.size ≤ i) → Iter 31 #[.pointer (some ⟨bq, 0, none⟩)] (fun z : Int × Int => #[Value.int .i64 z.1, .int .i64 z.2]) zs 5 M W := fun M hM =>
  (hit M (fun i _ h2 h => by have := hM i h; have := e.size; omega) (InH.off (fun i h => by have := hM i h; have := e.size; omega) hT)).more e
theorem prow_two {w : World} {N : Nat} {a b c d : Int} (h : w.heap[N]? = some (.cells #[.int .i64 a, .int .i64 b, .int .i64 c, .int .i64 d] 39 (0, 0))) : PRow w (.slice (some ⟨N, 0, none⟩) 2 2) [(a, b), (c, d)] :=
  .inr ⟨N, 0, 2, rfl, by simp, by simp, fun j u hj => by
    rw [Nat.zero_add, cell_of h j]
    have e : pairCells [(a, b), (c, d)] = [Value.int .i64 a, .int .i64 b, .int .i64 c, .int .i64 d] := rfl
    rw [e] at hj
    simpa using hj⟩
set_option maxRecDepth 100000 in
set_option maxHeartbeats 4000000 in
theorem alive10_any (w : World) : Calls Try.prog 5 #[] w (Ret (.bool true) w) := by
  have hund : undef = Value.tuple #[] := rfl
  have HN := Lib.hid (fun W => new_any W .nil .nil 1 2 0 trivial trivial)
  simp only [Tr.ptr_nil] at HN
  go_enter Try.func5, Try.ntmps5
  go_wp2_with fail
  refine (HN.out w).mono ?_
  rintro e w1 ⟨b1, rfl, hb1, i1, h1⟩
  have HN2 := Lib.hid (new_any w1 (.node b1 .nil 1 2 0 .nil) .nil 3 4 0 i1 trivial)
  rw [Tr.ptr_nil] at HN2
  go_wp2_with fail
  refine HN2.out.mono ?_
  rintro e w2 ⟨b2, rfl, hb2, i2, h2⟩
  have hx := h1.trans h2
  have hd1 : deepF 1 (.node b2 (.node b1 .nil 1 2 0 .nil) 3 4 0 .nil) = (2, true) := by simp [deepF, wrap64]
  have hh1 : hgt (.node b2 (.node b1 .nil 1 2 0 .nil) 3 4 0 .nil) = 2 := show wrap64 (1 + max (wrap64 (1 + max 0 0)) 0) = 2 from by decide +kernel
  have hi1 : ((Tr.node b2 (.node b1 .nil 1 2 0 .nil) 3 4 0 .nil).inl.map kvT).take 9 = [(1, 2), (3, 4)] := rfl
  have hr1 : ((Tr.node b2 (.node b1 .nil 1 2 0 .nil) 3 4 0 .nil).inr.map kvT).take 9 = [(1, 2), (3, 4)].reverse := rfl
  have hl1 : wrap64 ((Tr.node b2 (.node b1 .nil 1 2 0 .nil) 3 4 0 .nil).inl.length : Nat) = 2 := show wrap64 ((2 : Nat) : Int) = 2 from by decide +kernel
  have hn1 : (Tr.node b2 (.node b1 .nil 1 2 0 .nil) 3 4 0 .nil).inl.length ≤ 5000 ∧ (Tr.node b2 (.node b1 .nil 1 2 0 .nil) 3 4 0 .nil).inr.length ≤ 5000 := ⟨show (2 : Nat) ≤ 5000 by decide, show (2 : Nat) ≤ 5000 by decide⟩
  have HNN := Lib.hid hn1
  clear hn1
  have HV := Lib.hid (And.intro hd1 (And.intro hh1 (And.intro hi1 (And.intro hr1 hl1))))
  have HI2 := Lib.hid i2
  clear hd1 hh1 hi1 hr1 hl1 i1 hb1 hb2 h1 h2 HN2 HN i2
  generalize Tr.node b2 (.node b1 .nil 1 2 0 .nil) 3 4 0 .nil = T at *
  have hp2 := prow_two (alloc_at w2 (.cells #[.int .i64 1, .int .i64 2, .int .i64 3, .int .i64 4] 39) _ rfl)
  have hE := (Ext.refl w2).alloc (.cells #[.int .i64 1, .int .i64 2, .int .i64 3, .int .i64 4] 39)
  have HP := Lib.hid (And.intro hp2 (And.intro (HI2.out.ext hE) (hx.trans hE)))
  clear hp2 hE hx
  go_wp2_with fail
  generalize w2.alloc (.cells #[.int .i64 1, .int .i64 2, .int .i64 3, .int .i64 4] 39) = w3 at *
  generalize w2.heap.size = N at *
  have hdp := deep_any 1 T w3 HP.out.2.1
  rw [HV.out.1] at hdp
  refine hdp.mono ?_
  clear hdp
  rintro e w4 ⟨rfl, h4⟩
  have HX4 := Lib.hid h4
  clear h4
  go_wp2_with fail
  refine (all_any w4 T (HP.out.2.1.ext HX4.out)).mono ?_
  rintro e w5 ⟨bq, rfl, h5, hs5, hit5⟩
  unfold pairsV
  have HC := Lib.hid (collect_any w5 bq 9 _ (goes_use (HP.out.2.1.ext HX4.out) hs5 hit5 (Ext.refl _)) (by rw [List.length_map]; exact HNN.out.1))
  have HX5 := Lib.hid (HX4.out.trans h5)
  rw [HV.out.2.2.1] at HC
  clear h5 hs5 hit5
  go_wp2_with fail
  refine HC.out.mono ?_
  rintro e w6 ⟨v6, rfl, o6, h6⟩
  have HS := Lib.hid (samePairs_any w6 v6 _ [(1, 2), (3, 4)] o6.row (HP.out.1.ext (HX5.out.trans h6)) (by decide))
  have HX6 := Lib.hid (HX5.out.trans h6)
  clear h6 o6 HC
  go_wp2_with fail
  refine HS.out.mono ?_
  rintro e w7 ⟨rfl, h7⟩
  have HX7 := Lib.hid (HX6.out.trans h7)
  clear h7 HS
  go_wp2_with fail
  refine (back_any w7 T (HP.out.2.1.ext HX7.out)).mono ?_
  rintro e w8 ⟨bq2, rfl, h8, hs8, hit8⟩
  unfold pairsV
  have HC := Lib.hid (collect_any w8 bq2 9 _ (goes_use (HP.out.2.1.ext HX7.out) hs8 hit8 (Ext.refl _)) (by rw [List.length_map]; exact HNN.out.2))
  have HX8 := Lib.hid (HX7.out.trans h8)
  rw [HV.out.2.2.2.1] at HC
  clear h8 hs8 hit8
  go_wp2_with fail
  refine HC.out.mono ?_
  rintro e w9 ⟨v9, rfl, o9, h9⟩
  have HX9 := Lib.hid (HX8.out.trans h9)
  have HO9 := Lib.hid o9
  clear h9 o9 HC
  go_wp2_with fail
  refine (turned_any w9 _ [(1, 2), (3, 4)] (HP.out.1.ext HX9.out) (by decide)).mono ?_
  rintro e w10 ⟨v10, rfl, o10, h10⟩
  have HS := Lib.hid (samePairs_any w10 v9 v10 [(1, 2), (3, 4)].reverse (HO9.out.row.ext h10) o10.row (by decide))
  have HX10 := Lib.hid (HX9.out.trans h10)
  clear h10 o10 HO9
  go_wp2_with fail
  refine HS.out.mono ?_
  rintro e w11 ⟨rfl, h11⟩
  have HX11 := Lib.hid (HX10.out.trans h11)
  clear h11 HS
  have HH := Lib.hid (lookHeight_any T w11 (HP.out.2.1.ext HX11.out))
  rw [HV.out.2.1] at HH
  go_wp2_with fail
  refine HH.out.mono ?_
  rintro e w12 ⟨rfl, h12⟩
  have HX12 := Lib.hid (HX11.out.trans h12)
  clear h12 HH
  have HK := Lib.hid (lookCount_any w12 T (HP.out.2.1.ext HX12.out))
  rw [HV.out.2.2.2.2] at HK
  go_wp2_with fail
  refine HK.out.mono ?_
  rintro e w13 ⟨rfl, h13⟩
  go_wp2
  go_ret
  exact Ret.mk (HP.out.2.2.trans (HX12.out.trans h13))
end Go.Proofs.Ytkbndpemljommaa
