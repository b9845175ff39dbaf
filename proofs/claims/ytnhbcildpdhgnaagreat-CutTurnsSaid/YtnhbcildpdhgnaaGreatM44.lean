/- cut: Last, First, Join2, All. cut.All; joinerylaw23: Has, Parted, nothing. -/
import Derived.Test.YtnhbcildpdhgnaaGreatM8
import Derived.Test.YtnhbcildpdhgnaaGreatM39
import Derived.Test.YtnhbcildpdhgnaaGreatM41
import Derived.Test.YtnhbcildpdhgnaaGreatM42
import Derived.Test.YtnhbcildpdhgnaaGreatM43
namespace Go.Proofs.YtnhbcildpdhgnaaGreat
open Go Go.RowKit

/-- what an end gives: its item, and what is left; or that there is none. -/
def TakenL (P c : Nat) (T : Tr) (w : World) (e : Ending) (w' : World) : Prop :=
  ∃ (R : Tr) (z : Int × Int × Int) (m : Int), e = .returned (.tuple #[.pointer R.ptr, itV z.1 z.2.1 z.2.2, .bool true]) ∧ Bt [P] w w' ∧ SchM P c m w' ∧ InH w' R ∧ EndOk c true T R z
def TakenF (P c : Nat) (T : Tr) (w : World) (e : Ending) (w' : World) : Prop :=
  ∃ (R : Tr) (z : Int × Int × Int) (m : Int), e = .returned (.tuple #[itV z.1 z.2.1 z.2.2, .pointer R.ptr, .bool true]) ∧ Bt [P] w w' ∧ SchM P c m w' ∧ InH w' R ∧ EndOk c false T R z
set_option maxHeartbeats 1000000 in
theorem cutLast_no (s : Option Addr) (w : World) : Calls Tryz.prog 17 #[.pointer s, .pointer none] w (Ret (.tuple #[.pointer none, itV 0 0 0, .bool false]) w) := by
  unfold itV
  cases s with
  | none =>
    go_enter Tryz.func17, Tryz.ntmps17
    go_wp2
    obtain ⟨d0, d1, d2, -⟩ := cells3 (alloc_at w (.cells #[.int .i64 0, .int .i64 0, .int .u64 0] 43) _ rfl)
    refine bodyPost_ret (v := .tuple #[.pointer none, .agg #[.int .i64 0, .int .i64 0, .int .u64 0], .bool false]) ?_ rfl ⟨rfl, (Ext.refl w).alloc _⟩
    simp [results, Tryz.results17, go_sem, d0, d1, d2]
  | some s =>
    go_enter Tryz.func17, Tryz.ntmps17
    go_wp2
    obtain ⟨d0, d1, d2, -⟩ := cells3 (alloc_at w (.cells #[.int .i64 0, .int .i64 0, .int .u64 0] 43) _ rfl)
    refine bodyPost_ret (v := .tuple #[.pointer none, .agg #[.int .i64 0, .int .i64 0, .int .u64 0], .bool false]) ?_ rfl ⟨rfl, (Ext.refl w).alloc _⟩
    simp [results, Tryz.results17, go_sem, d0, d1, d2]
set_option maxHeartbeats 1000000 in
theorem cutFirst_no (s : Option Addr) (w : World) : Calls Tryz.prog 18 #[.pointer s, .pointer none] w (Ret (.tuple #[itV 0 0 0, .pointer none, .bool false]) w) := by
  unfold itV
  cases s with
  | none =>
    go_enter Tryz.func18, Tryz.ntmps18
    go_wp2
    obtain ⟨d0, d1, d2, -⟩ := cells3 (alloc_at w (.cells #[.int .i64 0, .int .i64 0, .int .u64 0] 43) _ rfl)
    refine bodyPost_ret (v := .tuple #[.agg #[.int .i64 0, .int .i64 0, .int .u64 0], .pointer none, .bool false]) ?_ rfl ⟨rfl, (Ext.refl w).alloc _⟩
    simp [results, Tryz.results18, go_sem, d0, d1, d2]
  | some s =>
    go_enter Tryz.func18, Tryz.ntmps18
    go_wp2
    obtain ⟨d0, d1, d2, -⟩ := cells3 (alloc_at w (.cells #[.int .i64 0, .int .i64 0, .int .u64 0] 43) _ rfl)
    refine bodyPost_ret (v := .tuple #[.agg #[.int .i64 0, .int .i64 0, .int .u64 0], .pointer none, .bool false]) ?_ rfl ⟨rfl, (Ext.refl w).alloc _⟩
    simp [results, Tryz.results18, go_sem, d0, d1, d2]
set_option maxHeartbeats 1000000 in
theorem cutLast_yes (P c : Nat) (nn : Int) (T : Tr) (w : World) (hS : Sch P c nn w) (hT : InH w T) (hp : PartC c T) (hne : T ≠ .nil) (hc : T.count ≤ 20000) :
    Calls Tryz.prog 17 #[.pointer (some ⟨P, 0, none⟩), .pointer T.ptr] w (TakenL P c T w) := by
  obtain ⟨rp, hrp⟩ : ∃ rp, T.ptr = some rp := by
    cases T with
    | nil => exact (hne rfl).elim
    | node x _ _ _ _ _ => exact ⟨⟨x, 0, none⟩, rfl⟩
  have HS := Lib.hid hS
  have HT := Lib.hid hT
  have HP := Lib.hid (And.intro hp (And.intro hne hc))
  have hlt := hS.lt
  have HRP := Lib.hid hrp
  have HN0 := Lib.hid (alloc_at w (.cells #[.int .i64 0, .int .i64 0, .int .u64 0] 43) _ rfl)
  have HX0 := Lib.hid ((Ext.refl w).alloc (.cells #[.int .i64 0, .int .i64 0, .int .u64 0] 43))
  rw [hrp]
  clear hS hT hp hne hc hrp
  go_enter Tryz.func17, Tryz.ntmps17
  go_wp2_with fail
  generalize w.alloc (.cells #[.int .i64 0, .int .i64 0, .int .u64 0] 43) = w1 at *
  refine (toLast_any P w1).mono ?_
  rintro e w2 ⟨pl, rfl, -, hb, h2⟩
  have HB := Lib.hid hb
  have HX2 := Lib.hid (HX0.out.trans h2)
  have HN2 := Lib.hid (h2.get HN0.out)
  clear h2 hb
  go_wp2_with fail
  rw [← HRP.out]
  refine (endT_any P pl c T w2 nn HP.out.2.1 (HS.out.ext HX2.out) (HT.out.ext HX2.out) HP.out.1 HP.out.2.2 HB.out).mono ?_
  rintro e w3 ⟨R, z, m, rfl, B3, S3, iR, K3⟩
  unfold itV
  have hr3 := B3.get (show w.heap.size ∉ [P] by simp; omega) HN2.out
  obtain ⟨d0, d1, d2, df⟩ := cells3 hr3
  have hnn : NoNode w3 w.heap.size := ⟨_, _, hr3, by decide⟩
  obtain ⟨hr4, h4⟩ := put3_at hr3 (.int .i64 z.1) (.int .i64 z.2.1) (.int .u64 z.2.2)
  have B4 := ((Bt.ext (L := [P]) HX2.out).trans B3).cut h4 (Nat.le_refl _)
  have S4 := S3.bt h4 (by simp; omega)
  have i4 := iR.bt h4 (fun k hk => by rw [List.mem_singleton.1 hk]; exact hnn)
  unfold put3 at hr4 h4 B4 S4 i4
  have HF := Lib.hid (And.intro hr4 (And.intro B4 (And.intro S4 i4)))
  have HK := Lib.hid K3
  clear h4 B4 S4 i4 B3 S3 iR K3 hr3 hnn hr4
  go_wp2_with fail
  clear d0 d1 d2 df
  generalize ((w3.setCell ⟨w.heap.size, 0, none⟩ (.int .i64 z.1)).setCell ⟨w.heap.size, 1, none⟩ (.int .i64 z.2.1)).setCell ⟨w.heap.size, 2, none⟩ (.int .u64 z.2.2) = w4 at *
  have hr4 := HF.out.1
  obtain ⟨d0, d1, d2, df⟩ := cells3 hr4
  go_region
  go_wp2
  obtain ⟨hr5, h5⟩ := put3_at hr4 (.int .i64 z.1) (.int .i64 z.2.1) (.int .u64 z.2.2)
  have B5 := HF.out.2.1.cut h5 (Nat.le_refl _)
  have S5 := HF.out.2.2.1.bt h5 (by simp; omega)
  have i5 := HF.out.2.2.2.bt h5 (fun k hk => by rw [List.mem_singleton.1 hk]; exact ⟨_, _, hr4, by decide⟩)
  unfold put3 at hr5 h5 B5 S5 i5
  clear d0 d1 d2 df h5
  generalize ((w4.setCell ⟨w.heap.size, 0, none⟩ (.int .i64 z.1)).setCell ⟨w.heap.size, 1, none⟩ (.int .i64 z.2.1)).setCell ⟨w.heap.size, 2, none⟩ (.int .u64 z.2.2) = w5 at *
  have hd : Ext w5 w5.drew := by first | exact Ext.refl _ | exact Ext.drew _
  obtain ⟨e0, e1, e2, -⟩ := cells3 (hd.get hr5)
  refine bodyPost_ret (v := .tuple #[.pointer R.ptr, itV z.1 z.2.1 z.2.2, .bool true]) ?_ rfl ⟨R, z, m, rfl, B5.trans (Bt.ext hd), S5.ext hd, i5.ext hd, HK.out⟩
  simp [results, Tryz.results17, go_sem, e0, e1, e2, itV]
set_option maxHeartbeats 1000000 in
theorem cutFirst_yes (P c : Nat) (nn : Int) (T : Tr) (w : World) (hS : Sch P c nn w) (hT : InH w T) (hp : PartC c T) (hne : T ≠ .nil) (hc : T.count ≤ 20000) :
    Calls Tryz.prog 18 #[.pointer (some ⟨P, 0, none⟩), .pointer T.ptr] w (TakenF P c T w) := by
  obtain ⟨rp, hrp⟩ : ∃ rp, T.ptr = some rp := by
    cases T with
    | nil => exact (hne rfl).elim
    | node x _ _ _ _ _ => exact ⟨⟨x, 0, none⟩, rfl⟩
  have HS := Lib.hid hS
  have HT := Lib.hid hT
  have HP := Lib.hid (And.intro hp (And.intro hne hc))
  have hlt := hS.lt
  have HRP := Lib.hid hrp
  have HN0 := Lib.hid (alloc_at w (.cells #[.int .i64 0, .int .i64 0, .int .u64 0] 43) _ rfl)
  have HX0 := Lib.hid ((Ext.refl w).alloc (.cells #[.int .i64 0, .int .i64 0, .int .u64 0] 43))
  rw [hrp]
  clear hS hT hp hne hc hrp
  go_enter Tryz.func18, Tryz.ntmps18
  go_wp2_with fail
  generalize w.alloc (.cells #[.int .i64 0, .int .i64 0, .int .u64 0] 43) = w1 at *
  refine (toFirst_any P w1).mono ?_
  rintro e w2 ⟨pl, rfl, -, hb, h2⟩
  have HB := Lib.hid hb
  have HX2 := Lib.hid (HX0.out.trans h2)
  have HN2 := Lib.hid (h2.get HN0.out)
  clear h2 hb
  go_wp2_with fail
  rw [← HRP.out]
  refine (endB_any P pl c T w2 nn HP.out.2.1 (HS.out.ext HX2.out) (HT.out.ext HX2.out) HP.out.1 HP.out.2.2 HB.out).mono ?_
  rintro e w3 ⟨R, z, m, rfl, B3, S3, iR, K3⟩
  unfold itV
  have hr3 := B3.get (show w.heap.size ∉ [P] by simp; omega) HN2.out
  obtain ⟨d0, d1, d2, df⟩ := cells3 hr3
  have hnn : NoNode w3 w.heap.size := ⟨_, _, hr3, by decide⟩
  obtain ⟨hr4, h4⟩ := put3_at hr3 (.int .i64 z.1) (.int .i64 z.2.1) (.int .u64 z.2.2)
  have B4 := ((Bt.ext (L := [P]) HX2.out).trans B3).cut h4 (Nat.le_refl _)
  have S4 := S3.bt h4 (by simp; omega)
  have i4 := iR.bt h4 (fun k hk => by rw [List.mem_singleton.1 hk]; exact hnn)
  unfold put3 at hr4 h4 B4 S4 i4
  have HF := Lib.hid (And.intro hr4 (And.intro B4 (And.intro S4 i4)))
  have HK := Lib.hid K3
  clear h4 B4 S4 i4 B3 S3 iR K3 hr3 hnn hr4
  go_wp2_with fail
  clear d0 d1 d2 df
  generalize ((w3.setCell ⟨w.heap.size, 0, none⟩ (.int .i64 z.1)).setCell ⟨w.heap.size, 1, none⟩ (.int .i64 z.2.1)).setCell ⟨w.heap.size, 2, none⟩ (.int .u64 z.2.2) = w4 at *
  have hr4 := HF.out.1
  obtain ⟨d0, d1, d2, df⟩ := cells3 hr4
  go_wp2
  obtain ⟨hr5, h5⟩ := put3_at hr4 (.int .i64 z.1) (.int .i64 z.2.1) (.int .u64 z.2.2)
  have B5 := HF.out.2.1.cut h5 (Nat.le_refl _)
  have S5 := HF.out.2.2.1.bt h5 (by simp; omega)
  have i5 := HF.out.2.2.2.bt h5 (fun k hk => by rw [List.mem_singleton.1 hk]; exact ⟨_, _, hr4, by decide⟩)
  unfold put3 at hr5 h5 B5 S5 i5
  clear d0 d1 d2 df h5
  generalize ((w4.setCell ⟨w.heap.size, 0, none⟩ (.int .i64 z.1)).setCell ⟨w.heap.size, 1, none⟩ (.int .i64 z.2.1)).setCell ⟨w.heap.size, 2, none⟩ (.int .u64 z.2.2) = w5 at *
  have hd : Ext w5 w5 := by first | exact Ext.refl _ | exact Ext.drew _
  obtain ⟨e0, e1, e2, -⟩ := cells3 (hd.get hr5)
  refine bodyPost_ret (v := .tuple #[itV z.1 z.2.1 z.2.2, .pointer R.ptr, .bool true]) ?_ rfl ⟨R, z, m, rfl, B5.trans (Bt.ext hd), S5.ext hd, i5.ext hd, HK.out⟩
  simp [results, Tryz.results18, go_sem, e0, e1, e2, itV]
/-- what cut.Join2 gives. -/
def Joined2 (P c : Nat) (L R : Tr) (w : World) (e : Ending) (w' : World) : Prop := ∃ (T : Tr) (m : Int), e = .returned (.pointer T.ptr) ∧ Bt [P] w w' ∧ SchM P c m w' ∧ InH w' T ∧ BothC c L R T
set_option maxHeartbeats 1000000 in
theorem cutJoin2_any (P c : Nat) (nn : Int) (L R : Tr) (w : World) (hS : Sch P c nn w) (hL : InH w L) (hR : InH w R) (pL : PartC c L) (pR : PartC c R) (hc : L.count + R.count ≤ 20000) :
    Calls Tryz.prog 11 #[.pointer (some ⟨P, 0, none⟩), .pointer L.ptr, .pointer R.ptr] w (Joined2 P c L R w) := by
  have HS := Lib.hid hS
  have HL := Lib.hid hL
  have HR := Lib.hid hR
  have HP := Lib.hid (And.intro pL (And.intro pR hc))
  have hlt := hS.lt
  by_cases h0 : L = .nil
  · subst h0
    rw [Tr.ptr_nil]
    clear hS hL hR pL pR hc
    go_enter Tryz.func11, Tryz.ntmps11
    go_wp2_with fail
    refine (cutLast_no _ w).mono ?_
    unfold itV
    rintro e w1 ⟨rfl, h1⟩
    have h2 := h1.trans ((Ext.refl w1).alloc (.cells #[.int .i64 0, .int .i64 0, .int .u64 0] 43))
    go_wp2_with fail
    generalize w1.alloc (.cells #[.int .i64 0, .int .i64 0, .int .u64 0] 43) = w2 at *
    refine (schWholeM_any (HS.out.ext h2) (HR.out.ext h2) HP.out.2.1 (by have := HP.out.2.2; omega) _ (Nat.le_refl _)).mono ?_
    rintro e w3 ⟨x, rfl, B, S, T, rfl, iT, ok⟩
    have HF := Lib.hid (And.intro ((Bt.ext (L := [P]) h2).trans B) (And.intro S (And.intro iT (BothC.whole ok))))
    clear h1 h2 B S iT ok
    go_wp2
    go_ret
    exact ⟨T, _, rfl, HF.out.1, HF.out.2.1, HF.out.2.2.1, HF.out.2.2.2⟩
  · have HC := Lib.hid (cutLast_yes P c nn L w hS hL pL h0 (by omega))
    clear hS hL hR pL pR hc h0
    go_enter Tryz.func11, Tryz.ntmps11
    go_wp2_with fail
    refine HC.out.mono ?_
    rintro e w1 ⟨S, z, m, rfl, B1, S1, iS, K1⟩
    unfold itV
    have hE := (Ext.refl w1).alloc (.cells #[.int .i64 z.1, .int .i64 z.2.1, .int .u64 z.2.2] 43)
    have hb := alloc_at w1 (.cells #[.int .i64 z.1, .int .i64 z.2.1, .int .u64 z.2.2] 43) _ rfl
    obtain ⟨c0, c1, c2, -⟩ := cells3 hb
    have hR2 := (HS.out.inh B1 HR.out).ext hE
    have HJ := Lib.hid (schJoinM_any (S1.ext hE).sch (L := S) (R := R) z.1 z.2.1 z.2.2 (iS.ext hE) hR2 K1.may.part HP.out.2.1 (by have := HP.out.2.2; have := K1.count; omega) _ (Nat.le_refl _) (news_zero (Nat.le_refl _) (iS.ext hE)) (news_zero (Nat.le_refl _) hR2))
    unfold itV at HJ
    have HB := Lib.hid (B1.trans (Bt.ext hE))
    have HK := Lib.hid K1
    clear B1 S1 iS K1 hE hb hR2 HC
    go_wp2_with fail
    refine HJ.out.mono ?_
    rintro e w3 ⟨x, rfl, B, S3, T, rfl, iT, ok⟩
    have HF := Lib.hid (And.intro (HB.out.trans B) (And.intro S3 (And.intro iT (BothC.joined HK.out ok))))
    clear B S3 iT ok c0 c1 c2
    go_wp2
    go_ret
    exact ⟨T, _, rfl, HF.out.1, HF.out.2.1, HF.out.2.2.1, HF.out.2.2.2⟩
end Go.Proofs.YtnhbcildpdhgnaaGreat
namespace Go.Proofs.YtnhbcildpdhgnaaGreat
open Go Go.RowKit

/-- trees made into one. -/
structure AllC (c : Nat) (Ts : List Tr) (T : Tr) : Prop where
  may : MayC c T
  its : itsC c T = Ts.flatMap (itsC c)
  tags : (∀ U ∈ Ts, TagsOk U) → T.count < 100000 → TagsOk T
theorem AllC.nil (c : Nat) : AllC c [] .nil := ⟨MayC.nil c, by rw [itsC_nil]; rfl, fun _ _ => trivial⟩
theorem AllC.count {c : Nat} {Ts : List Tr} {T : Tr} (h : AllC c Ts T) : T.count = (Ts.map Tr.count).sum := by
  have h1 := congrArg List.length h.its
  rw [itsC_len, List.length_flatMap] at h1
  rw [h1]
  congr 1
  exact List.map_congr_left (fun U _ => itsC_len c U)
theorem AllC.snoc {c : Nat} {Ts : List Tr} {T U V : Tr} (h : AllC c Ts T) (k : BothC c T U V) : AllC c (Ts ++ [U]) V := by
  refine ⟨k.may, ?_, fun ht hc => ?_⟩
  · rw [k.its, h.its, List.flatMap_append]
    simp
  · have := k.count
    exact k.tags (h.tags (fun X hX => ht X (List.mem_append_left _ hX)) (by omega)) (ht U (by simp)) hc
theorem cutAll_nil (s : Option Addr) (w : World) : Calls Tryz.prog 15 #[.pointer s, .slice none 0 0] w (Ret (.pointer none) w) := by
  go_enter Tryz.func15, Tryz.ntmps15
  go_wp2
  go_loop [4, 9] (fun t i => t = .pointer none ∧ i = .int .i64 0) (fun _ _ => 0)
  case atStart => exact ⟨rfl, rfl⟩
  case round =>
    obtain ⟨rfl, rfl⟩ := hrel
    go_wp2
    go_ret
    exact Ret.mk (Ext.refl _)
theorem sum_take_le (l : List Nat) (k : Nat) : (l.take k).sum ≤ l.sum := by
  conv => rhs; rw [← List.take_append_drop k l, List.sum_append]
  omega
set_option maxHeartbeats 1000000 in
theorem cutAll_any (P c : Nat) (nn : Int) (Ts : List Tr) (b o cap : Nat) (w : World) (hS : Sch P c nn w) (hb : b ≠ P) (hrow : ∀ (i : Nat) (T : Tr), Ts[i]? = some T → w.cell? ⟨b, o + i, none⟩ = some (.pointer T.ptr)) (hl : Ts.length ≤ 1000)
    (hI : ∀ T ∈ Ts, InH w T) (hp : ∀ T ∈ Ts, PartC c T) (hc : (Ts.map Tr.count).sum ≤ 10000) :
    Calls Tryz.prog 15 #[.pointer (some ⟨P, 0, none⟩), .slice (some ⟨b, o, none⟩) Ts.length cap] w (fun e w' => ∃ (T : Tr) (m : Int), e = .returned (.pointer T.ptr) ∧ Bt [P] w w' ∧ Sch P c m w' ∧ InH w' T ∧ AllC c Ts T) := by
  have HS := Lib.hid hS
  have HR := Lib.hid hrow
  have HI := Lib.hid hI
  have HP := Lib.hid hp
  have HC := Lib.hid hc
  clear hS hrow hI hp hc
  go_enter Tryz.func15, Tryz.ntmps15
  go_wp2
  go_loopw [4, 9] (fun t i W => ∃ (k : Nat) (T : Tr) (m : Int), k ≤ Ts.length ∧ i = .int .i64 k ∧ t = .pointer T.ptr ∧ Hid (Bt [P] w W ∧ Sch P c m W ∧ InH W T ∧ AllC c (Ts.take k) T)) (fun _ i _ => Ts.length - (intOf i).toNat)
  case atStart => exact ⟨0, .nil, nn, Nat.zero_le _, rfl, rfl, Lib.hid ⟨Bt.refl _ _, HS.out, trivial, AllC.nil c⟩⟩
  case round =>
    obtain ⟨k, T, m, hk, rfl, rfl, HX⟩ := hrel
    by_cases hlt : k < Ts.length
    · obtain ⟨U, hU⟩ : ∃ U, Ts[k]? = some U := ⟨_, List.getElem?_eq_getElem hlt⟩
      have hcl : wr.cell? ⟨b, o + k, none⟩ = some (.pointer U.ptr) := by
        have h := HR.out k U hU
        rw [World.cell?_of_block (w := w) (HX.out.1.block b (cell_lt h) (by simp; exact hb))]
        exact h
      have hmem := List.mem_of_getElem? hU
      have hcnt : T.count + U.count ≤ 20000 := by
        have h1 := HX.out.2.2.2.count
        have h2 := sum_take_le (Ts.map Tr.count) (k + 1)
        rw [← List.map_take, List.take_add_one, hU] at h2
        simp only [List.map_append, List.sum_append, Option.toList_some, List.map_cons, List.map_nil, List.sum_cons, List.sum_nil] at h2
        have := HC.out
        omega
      have HJ := Lib.hid (cutJoin2_any P c m T U wr HX.out.2.1 HX.out.2.2.1 (HS.out.inh HX.out.1 (HI.out U hmem)) HX.out.2.2.2.may.part (HP.out U hmem) hcnt)
      have HU := Lib.hid hU
      clear hU hmem hcnt
      go_wp2_with fail
      refine HJ.out.mono ?_
      rintro e w3 ⟨V, m2, rfl, B, S, iV, ok⟩
      have HY := Lib.hid (show Bt [P] w w3 ∧ Sch P c m2 w3 ∧ InH w3 V ∧ AllC c (Ts.take (k + 1)) V from ⟨HX.out.1.trans B, S.sch, iV, by rw [List.take_add_one, HU.out]; exact HX.out.2.2.2.snoc ok⟩)
      clear B S iV ok hcl
      go_wp2
      go_roundw
      case rel => exact ⟨k + 1, V, m2, by omega, by go_num, rfl, HY⟩
      case measure => simp [intOf]; omega
    · have hk' : k = Ts.length := by omega
      have HK := Lib.hid hk'
      clear hk'
      go_wp2
      go_ret
      have h := HX.out
      rw [HK.out, List.take_length] at h
      exact ⟨T, m, rfl, h.1, h.2.1, h.2.2.1, h.2.2.2⟩
theorem has23_any (c : Nat) (h4 : 1 ≤ c ∧ c ≤ 4) (T : Tr) (w : World) (a : Option Addr) (cp : Nat) (zs : List (Int × Int × Int)) (hT : InH w T) (hq : IRow3 w (.slice a zs.length cp) zs) (hz : zs.map (itC c) = itsC c T) (hm : MayC c T) (ho : c = 2 → TagsOk T) (hl : T.count ≤ 2000) :
    Calls Tryz.prog 21 #[.int .u8 c, .pointer T.ptr, .slice a zs.length cp] w (Ret (.bool true) w) := by
  have HS := Lib.hid (see09_any w T hT hl)
  have HH := Lib.hid (fun W (e : Ext w W) p (hb : Beads W p T.beads) => has22_any c h4 T W p _ zs hb (hq.ext e) hz hm ho hl)
  clear hT hq hz hm ho
  go_enter Tryz.func21, Tryz.ntmps21
  go_wp2_with fail
  refine HS.out.mono ?_
  rintro e w1 ⟨v, rfl, ow, h1⟩
  have HB := Lib.hid ow.beads
  obtain ⟨va, vc, rfl⟩ := beads_slice ow.beads
  clear ow
  go_wp2_with fail
  refine (HH.out w1 h1 _ HB.out).mono ?_
  rintro e w2 ⟨rfl, h2⟩
  go_wp2
  go_ret
  exact Ret.mk (h1.trans h2)
theorem parted_no (c : Nat) (h : ¬ (1 ≤ c ∧ c ≤ 4)) (v : Value) (w : World) : Calls Tryz.prog 7 #[.int .u8 c, v] w (Ret (.bool true) w) := by
  have H := Lib.hid (is22_any c w)
  rw [decide_eq_false h] at H
  clear h
  go_enter Tryz.func7, Tryz.ntmps7
  go_wp2_with fail
  refine (H.out).mono ?_
  rintro e w1 ⟨rfl, hS⟩
  go_wp2
  go_ret
  exact Ret.mk hS
theorem parted_long (c : Nat) (h : 1 ≤ c ∧ c ≤ 4) (v : Value) (w : World) (HL : ∀ W, Ext w W → Calls Tryz.prog 26 #[v] W (Ret (.bool true) W)) : Calls Tryz.prog 7 #[.int .u8 c, v] w (Ret (.bool true) w) := by
  have H := Lib.hid (is22_any c w)
  rw [decide_eq_true h] at H
  have HLL := Lib.hid HL
  clear h HL
  have hx := Ext.refl w
  go_enter Tryz.func7, Tryz.ntmps7
  go_wp2_with fail
  refine (H.out).mono ?_
  rintro e w1 ⟨rfl, hS⟩
  replace hx := hx.trans hS
  clear hS
  go_wp2_with fail
  refine (HLL.out w1 hx).mono ?_
  rintro e w2 ⟨rfl, hS⟩
  replace hx := hx.trans hS
  clear hS
  go_wp2
  go_ret
  exact Ret.mk hx
theorem parted_t (c : Nat) (h4 : 1 ≤ c ∧ c ≤ 4) (t : BT) (T : Tr) (v : Value) (w : World) (hf : t.fits T) (ho : c = 2 → TagsOk T) (hb : Beads w v t.enc) (hl : t.enc.length ≤ 2000) (HL : ∀ W, Ext w W → Calls Tryz.prog 26 #[v] W (Ret (.bool false) W)) :
    Calls Tryz.prog 7 #[.int .u8 c, v] w (Ret (.bool (!ptV c T)) w) := by
  have H := Lib.hid (is22_any c w)
  rw [decide_eq_true h4] at H
  have HLL := Lib.hid HL
  have HP := Lib.hid (fun W (e : Ext w W) => part22_any c h4 t T W v hf ho (hb.ext e) hl)
  clear h4 HL hf ho hb
  generalize ptV c T = B at *
  have hx := Ext.refl w
  go_enter Tryz.func7, Tryz.ntmps7
  go_wp2_with fail
  refine (H.out).mono ?_
  rintro e w1 ⟨rfl, hS⟩
  replace hx := hx.trans hS
  clear hS
  go_wp2_with fail
  refine (HLL.out w1 hx).mono ?_
  rintro e w2 ⟨rfl, hS⟩
  replace hx := hx.trans hS
  clear hS
  go_wp2_with fail
  refine (HP.out w2 hx).mono ?_
  rintro e w3 ⟨rfl, hS⟩
  replace hx := hx.trans hS
  clear hS
  go_wp2
  go_ret
  exact Ret.mk hx
set_option maxHeartbeats 1000000 in
theorem itemsNil_any (w : World) : Calls Tryz.prog 12 #[.pointer none, .pointer none] w (Ret (.slice none 0 0) w) := by
  go_enter Tryz.func12, Tryz.ntmps12
  go_wp2
  have d0 := cell_of (alloc_at w (.cells #[.slice none 0 0] 32) _ rfl) 0
  simp only [List.getElem?_toArray, List.getElem?_cons_zero] at d0
  refine bodyPost_ret (v := .slice none 0 0) ?_ rfl ⟨rfl, (Ext.refl w).alloc _⟩
  exact results_box rfl _ _ rfl (fun _ => by kernel_rfl) d0
set_option maxHeartbeats 1000000 in
theorem join2Nil_any (w : World) : Calls Tryz.prog 11 #[.pointer none, .pointer none, .pointer none] w (Ret (.pointer none) w) := by
  have H := Lib.hid (cutLast_no none w)
  unfold itV at H
  go_enter Tryz.func11, Tryz.ntmps11
  go_wp2_with fail
  refine (H.out).mono ?_
  rintro e w1 ⟨rfl, hS⟩
  go_wp2_with fail
  refine (nilWhole_any _ _).mono ?_
  rintro e w2 ⟨rfl, h2⟩
  go_wp2
  go_ret
  exact Ret.mk ((hS.trans ((Ext.refl w1).alloc _)).trans h2)
set_option maxHeartbeats 4000000 in
theorem nothing23_any (w : World) : Calls Tryz.prog 19 #[] w (Ret (.bool true) w) := by
  have H1 := Lib.hid (cutLast_no none w)
  have H2 := Lib.hid (fun W => cutFirst_no none W)
  unfold itV at H1 H2
  go_enter Tryz.func19, Tryz.ntmps19
  go_wp2_with fail
  refine (H1.out).mono ?_
  rintro e w1 ⟨rfl, hS⟩
  have hx := hS.trans ((Ext.refl w1).alloc (.cells #[.int .i64 0, .int .i64 0, .int .u64 0] 43))
  have hb1 := alloc_at w1 (.cells #[.int .i64 0, .int .i64 0, .int .u64 0] 43) _ rfl
  clear hS
  go_wp2_with fail
  generalize w1.alloc (.cells #[.int .i64 0, .int .i64 0, .int .u64 0] 43) = w2 at *
  refine (H2.out w2).mono ?_
  rintro e w3 ⟨rfl, h3⟩
  have hb2 := alloc_at w3 (.cells #[.int .i64 0, .int .i64 0, .int .u64 0] 43) _ rfl
  have hb3 := (h3.trans ((Ext.refl w3).alloc (.cells #[.int .i64 0, .int .i64 0, .int .u64 0] 43))).get hb1
  replace hx := (hx.trans h3).trans ((Ext.refl w3).alloc (.cells #[.int .i64 0, .int .i64 0, .int .u64 0] 43))
  obtain ⟨c0, c1, c2, -⟩ := cells3 hb2
  obtain ⟨d0, d1, d2, -⟩ := cells3 hb3
  clear h3 hb1 hb2 hb3
  go_wp2_with fail
  generalize w3.alloc (.cells #[.int .i64 0, .int .i64 0, .int .u64 0] 43) = w4 at *
  refine (join2Nil_any w4).mono ?_
  rintro e w5 ⟨rfl, h5⟩
  go_wp2_with fail
  refine (cutAll_nil none w5).mono ?_
  rintro e w6 ⟨rfl, h6⟩
  go_wp2_with fail
  refine (itemsNil_any w6).mono ?_
  rintro e w7 ⟨rfl, h7⟩
  go_wp2
  go_ret
  exact Ret.mk (((hx.trans h5).trans h6).trans h7)
end Go.Proofs.YtnhbcildpdhgnaaGreat
