/- cut: Last, First, Join2, All. sift: its kinds, May. -/
import Derived.MapKept
import Derived.Test.YtoiohjifjmejkaaGreatM3
import Derived.Test.YtoiohjifjmejkaaGreatM41
import Derived.Test.YtoiohjifjmejkaaGreatM42
namespace Go.Proofs.YtoiohjifjmejkaaGreat
open Go Go.RowKit

/-- what an end gives: its item, and what is left; or that there is none. -/
def TakenL (P c : Nat) (T : Tr) (w : World) (e : Ending) (w' : World) : Prop :=
  ∃ (R : Tr) (z : Int × Int × Int) (m : Int), e = .returned (.tuple #[.pointer R.ptr, itV z.1 z.2.1 z.2.2, .bool true]) ∧ Bt [P] w w' ∧ SchM P c m w' ∧ InH w' R ∧ EndOk c true T R z
def TakenF (P c : Nat) (T : Tr) (w : World) (e : Ending) (w' : World) : Prop :=
  ∃ (R : Tr) (z : Int × Int × Int) (m : Int), e = .returned (.tuple #[itV z.1 z.2.1 z.2.2, .pointer R.ptr, .bool true]) ∧ Bt [P] w w' ∧ SchM P c m w' ∧ InH w' R ∧ EndOk c false T R z
set_option maxHeartbeats 1000000 in
theorem cutLast_no (s : Option Addr) (w : World) : Calls Tryz.prog 62 #[.pointer s, .pointer none] w (Ret (.tuple #[.pointer none, itV 0 0 0, .bool false]) w) := by
  unfold itV
  cases s with
  | none =>
    go_enter Tryz.func62, Tryz.ntmps62
    go_wp2
    obtain ⟨d0, d1, d2, -⟩ := cells3 (alloc_at w (.cells #[.int .i64 0, .int .i64 0, .int .u64 0] 66) _ rfl)
    refine bodyPost_ret (v := .tuple #[.pointer none, .agg #[.int .i64 0, .int .i64 0, .int .u64 0], .bool false]) ?_ rfl ⟨rfl, (Ext.refl w).alloc _⟩
    simp [results, Tryz.results62, go_sem, d0, d1, d2]
  | some s =>
    go_enter Tryz.func62, Tryz.ntmps62
    go_wp2
    obtain ⟨d0, d1, d2, -⟩ := cells3 (alloc_at w (.cells #[.int .i64 0, .int .i64 0, .int .u64 0] 66) _ rfl)
    refine bodyPost_ret (v := .tuple #[.pointer none, .agg #[.int .i64 0, .int .i64 0, .int .u64 0], .bool false]) ?_ rfl ⟨rfl, (Ext.refl w).alloc _⟩
    simp [results, Tryz.results62, go_sem, d0, d1, d2]
set_option maxHeartbeats 1000000 in
theorem cutLast_yes (P c : Nat) (nn : Int) (T : Tr) (w : World) (hS : Sch P c nn w) (hT : InH w T) (hp : PartC c T) (hne : T ≠ .nil) (hc : T.count ≤ 20000) :
    Calls Tryz.prog 62 #[.pointer (some ⟨P, 0, none⟩), .pointer T.ptr] w (TakenL P c T w) := by
  obtain ⟨rp, hrp⟩ : ∃ rp, T.ptr = some rp := by
    cases T with
    | nil => exact (hne rfl).elim
    | node x _ _ _ _ _ => exact ⟨⟨x, 0, none⟩, rfl⟩
  have HS := Lib.hid hS
  have HT := Lib.hid hT
  have HP := Lib.hid (And.intro hp (And.intro hne hc))
  have hlt := hS.lt
  have HRP := Lib.hid hrp
  have HN0 := Lib.hid (alloc_at w (.cells #[.int .i64 0, .int .i64 0, .int .u64 0] 66) _ rfl)
  have HX0 := Lib.hid ((Ext.refl w).alloc (.cells #[.int .i64 0, .int .i64 0, .int .u64 0] 66))
  rw [hrp]
  clear hS hT hp hne hc hrp
  go_enter Tryz.func62, Tryz.ntmps62
  go_wp2_with fail
  generalize w.alloc (.cells #[.int .i64 0, .int .i64 0, .int .u64 0] 66) = w1 at *
  refine (toLast_any P w1).mono ?_
  rintro e w2 ⟨pl, rfl, -, hb, h2⟩
  have HB := Lib.hid hb
  have HX2 := Lib.hid (HX0.out.trans h2)
  have HN2 := Lib.hid (h2.get HN0.out)
  clear h2 hb
  go_wp2_with fail
  rw [← HRP.out]
  refine (endT_any P pl c T w2 nn HP.out.2.1 (HS.out.ext HX2.out) (HT.out.ext HX2.out) HP.out.1 HP.out.2.2 HB.out).mono ?_
  rintro e w3 ⟨R, z, m, rfl, B3, S3, iR, K3⟩
  unfold itV
  have hr3 := B3.get (show w.heap.size ∉ [P] by simp; omega) HN2.out
  obtain ⟨d0, d1, d2, df⟩ := cells3 hr3
  have hnn : NoNode w3 w.heap.size := ⟨_, _, hr3, by decide⟩
  obtain ⟨hr4, h4⟩ := put3_at hr3 (.int .i64 z.1) (.int .i64 z.2.1) (.int .u64 z.2.2)
  have B4 := ((Bt.ext (L := [P]) HX2.out).trans B3).cut h4 (Nat.le_refl _)
  have S4 := S3.bt h4 (by simp; omega)
  have i4 := iR.bt h4 (fun k hk => by rw [List.mem_singleton.1 hk]; exact hnn)
  unfold put3 at hr4 h4 B4 S4 i4
  have HF := Lib.hid (And.intro hr4 (And.intro B4 (And.intro S4 i4)))
  have HK := Lib.hid K3
  clear h4 B4 S4 i4 B3 S3 iR K3 hr3 hnn hr4
  go_wp2_with fail
  clear d0 d1 d2 df
  generalize ((w3.setCell ⟨w.heap.size, 0, none⟩ (.int .i64 z.1)).setCell ⟨w.heap.size, 1, none⟩ (.int .i64 z.2.1)).setCell ⟨w.heap.size, 2, none⟩ (.int .u64 z.2.2) = w4 at *
  have hr4 := HF.out.1
  obtain ⟨d0, d1, d2, df⟩ := cells3 hr4
  go_region
  go_wp2
  obtain ⟨hr5, h5⟩ := put3_at hr4 (.int .i64 z.1) (.int .i64 z.2.1) (.int .u64 z.2.2)
  have B5 := HF.out.2.1.cut h5 (Nat.le_refl _)
  have S5 := HF.out.2.2.1.bt h5 (by simp; omega)
  have i5 := HF.out.2.2.2.bt h5 (fun k hk => by rw [List.mem_singleton.1 hk]; exact ⟨_, _, hr4, by decide⟩)
  unfold put3 at hr5 h5 B5 S5 i5
  clear d0 d1 d2 df h5
  generalize ((w4.setCell ⟨w.heap.size, 0, none⟩ (.int .i64 z.1)).setCell ⟨w.heap.size, 1, none⟩ (.int .i64 z.2.1)).setCell ⟨w.heap.size, 2, none⟩ (.int .u64 z.2.2) = w5 at *
  have hd : Ext w5 w5.drew := by first | exact Ext.refl _ | exact Ext.drew _
  obtain ⟨e0, e1, e2, -⟩ := cells3 (hd.get hr5)
  refine bodyPost_ret (v := .tuple #[.pointer R.ptr, itV z.1 z.2.1 z.2.2, .bool true]) ?_ rfl ⟨R, z, m, rfl, B5.trans (Bt.ext hd), S5.ext hd, i5.ext hd, HK.out⟩
  simp [results, Tryz.results62, go_sem, e0, e1, e2, itV]
/-- what cut.Join2 gives. -/
def Joined2 (P c : Nat) (L R : Tr) (w : World) (e : Ending) (w' : World) : Prop := ∃ (T : Tr) (m : Int), e = .returned (.pointer T.ptr) ∧ Bt [P] w w' ∧ SchM P c m w' ∧ InH w' T ∧ BothC c L R T
set_option maxHeartbeats 1000000 in
theorem cutJoin2_any (P c : Nat) (nn : Int) (L R : Tr) (w : World) (hS : Sch P c nn w) (hL : InH w L) (hR : InH w R) (pL : PartC c L) (pR : PartC c R) (hc : L.count + R.count ≤ 20000) :
    Calls Tryz.prog 40 #[.pointer (some ⟨P, 0, none⟩), .pointer L.ptr, .pointer R.ptr] w (Joined2 P c L R w) := by
  have HS := Lib.hid hS
  have HL := Lib.hid hL
  have HR := Lib.hid hR
  have HP := Lib.hid (And.intro pL (And.intro pR hc))
  have hlt := hS.lt
  by_cases h0 : L = .nil
  · subst h0
    rw [Tr.ptr_nil]
    clear hS hL hR pL pR hc
    go_enter Tryz.func40, Tryz.ntmps40
    go_wp2_with fail
    refine (cutLast_no _ w).mono ?_
    unfold itV
    rintro e w1 ⟨rfl, h1⟩
    have h2 := h1.trans ((Ext.refl w1).alloc (.cells #[.int .i64 0, .int .i64 0, .int .u64 0] 66))
    go_wp2_with fail
    generalize w1.alloc (.cells #[.int .i64 0, .int .i64 0, .int .u64 0] 66) = w2 at *
    refine (schWholeM_any (HS.out.ext h2) (HR.out.ext h2) HP.out.2.1 (by have := HP.out.2.2; omega) _ (Nat.le_refl _)).mono ?_
    rintro e w3 ⟨x, rfl, B, S, T, rfl, iT, ok⟩
    have HF := Lib.hid (And.intro ((Bt.ext (L := [P]) h2).trans B) (And.intro S (And.intro iT (BothC.whole ok))))
    clear h1 h2 B S iT ok
    go_wp2
    go_ret
    exact ⟨T, _, rfl, HF.out.1, HF.out.2.1, HF.out.2.2.1, HF.out.2.2.2⟩
  · have HC := Lib.hid (cutLast_yes P c nn L w hS hL pL h0 (by omega))
    clear hS hL hR pL pR hc h0
    go_enter Tryz.func40, Tryz.ntmps40
    go_wp2_with fail
    refine HC.out.mono ?_
    rintro e w1 ⟨S, z, m, rfl, B1, S1, iS, K1⟩
    unfold itV
    have hE := (Ext.refl w1).alloc (.cells #[.int .i64 z.1, .int .i64 z.2.1, .int .u64 z.2.2] 66)
    have hb := alloc_at w1 (.cells #[.int .i64 z.1, .int .i64 z.2.1, .int .u64 z.2.2] 66) _ rfl
    obtain ⟨c0, c1, c2, -⟩ := cells3 hb
    have hR2 := (HS.out.inh B1 HR.out).ext hE
    have HJ := Lib.hid (schJoinM_any (S1.ext hE).sch (L := S) (R := R) z.1 z.2.1 z.2.2 (iS.ext hE) hR2 K1.may.part HP.out.2.1 (by have := HP.out.2.2; have := K1.count; omega) _ (Nat.le_refl _) (news_zero (Nat.le_refl _) (iS.ext hE)) (news_zero (Nat.le_refl _) hR2))
    unfold itV at HJ
    have HB := Lib.hid (B1.trans (Bt.ext hE))
    have HK := Lib.hid K1
    clear B1 S1 iS K1 hE hb hR2 HC
    go_wp2_with fail
    refine HJ.out.mono ?_
    rintro e w3 ⟨x, rfl, B, S3, T, rfl, iT, ok⟩
    have HF := Lib.hid (And.intro (HB.out.trans B) (And.intro S3 (And.intro iT (BothC.joined HK.out ok))))
    clear B S3 iT ok c0 c1 c2
    go_wp2
    go_ret
    exact ⟨T, _, rfl, HF.out.1, HF.out.2.1, HF.out.2.2.1, HF.out.2.2.2⟩
end Go.Proofs.YtoiohjifjmejkaaGreat
namespace Go.Proofs.YtoiohjifjmejkaaGreat
open Go Go.RowKit

/-- a store of a key that is not there, into a map keyed by integers. -/
theorem run_mapUpdate_new {P : Program} (w : World) (mty kt et : TypeId) (q : IntKind) (r clock : Nat) (es : Array MapEntry) (k : Int) (val : Value) (hm : P.underlying mty = some (.map kt et)) (hk : P.underlying kt = some (.int q)) (hb : w.heap[r]? = some (.map es clock))
    (hf : Instr.findNow (.int q) (.int q k) es.toList 0 = some none) :
    (Instr.mapUpdate mty (.map (some r)) (.int q k) val).run P w = .ok () { w with heap := w.heap.setIfInBounds r (.map (es.push { key := .int q k, val := val, born := clock }) (clock + 1)) } := by
  have hc : (Instr.checkKey false 10000 kt (.int q k)).run P w = .ok () w := MapKept.run_checkKey hk (by simp [MapKept.IsKey]) false 9999
  have hk' : (Instr.findKey kt (.int q k) es.toList).run P w = .ok none w := MapKept.run_findKey hk hf
  simp [Instr.mapUpdate, run_underlying hm, MapKept.run_getObj_map hb, hc, hk', MapKept.run_setObj_map _ hb, Result.andThen]
theorem World.alloc_set (w : World) (o o' : Obj) : ({ (w.alloc o) with heap := (w.alloc o).heap.setIfInBounds w.heap.size o' } : World) = w.alloc o' := by
  simp only [World.alloc]; congr 1; apply Array.ext_getElem?; intro i; rw [Array.getElem?_setIfInBounds, Array.getElem?_push, Array.getElem?_push]; simp; grind
theorem run_mapUpdate_alloc {P : Program} (w : World) (mty kt et : TypeId) (q : IntKind) (clock : Nat) (es : Array MapEntry) (k : Int) (val : Value) (hm : P.underlying mty = some (.map kt et)) (hk : P.underlying kt = some (.int q))
    (hf : Instr.findNow (.int q) (.int q k) es.toList 0 = some none) (b : Nat) (hb : w.heap.size = b) :
    (Instr.mapUpdate mty (.map (some b)) (.int q k) val).run P (w.alloc (.map es clock)) = .ok () (w.alloc (.map (es.push { key := .int q k, val := val, born := clock }) (clock + 1))) := by
  subst hb
  rw [run_mapUpdate_new _ mty kt et q _ clock es k val hm hk (by show (w.heap.push _)[w.heap.size]? = _; simp) hf, World.alloc_set]
def kindV (b kd : Nat) : Value :=
  if kd = 1 then .agg #[.func (.func 94) #[] #[], .func (.func 95) #[] #[]]
  else if kd = 2 then .agg #[.func (.func 92) #[] #[], .func (.func 96) #[] #[.pointer (some ⟨b, 0, none⟩)]]
  else if kd = 3 then .agg #[.func (.func 92) #[] #[], .func (.func 97) #[] #[.pointer (some ⟨b, 0, none⟩)]]
  else if kd = 4 then .agg #[.func (.func 98) #[] #[], .func (.func 99) #[] #[]]
  else if kd = 5 then .agg #[.func (.func 100) #[] #[], .func (.func 101) #[] #[]]
  else .agg #[.nilFunc, .nilFunc]
def kindsEntries (b : Nat) : Array MapEntry := #[
  { key := .int .u8 1, val := kindV b 1, born := 0 }, { key := .int .u8 2, val := kindV b 2, born := 1 }, { key := .int .u8 3, val := kindV b 3, born := 2 }, { key := .int .u8 4, val := kindV b 4, born := 3 }, { key := .int .u8 5, val := kindV b 5, born := 4 }]
set_option maxHeartbeats 400000 in
theorem kinds_any (w : World) : Calls Tryz.prog 58 #[] w fun e w' => e = .returned (.map (some (w.heap.size + 1))) ∧ w' = (w.alloc (.cells #[.func (.func 93) #[] #[]] 152)).alloc (.map (kindsEntries w.heap.size) 5) := by
  have hmm := @run_makeMap Tryz.prog
  have hup := fun (w : World) (k : Int) (v : Value) (es : Array MapEntry) (c : Nat) (h : Instr.findNow (.int .u8) (.int .u8 k) es.toList 0 = some none) => run_mapUpdate_alloc (P := Tryz.prog) w 128 5 126 .u8 c es k v Tryz.underlying128 Tryz.underlying5 h
  have hf1 : ∀ d k i, Instr.findNow d k [] i = some none := fun _ _ _ => rfl
  have hf2 : ∀ (k a : Int) (v : Value) (n : Nat) (es : List MapEntry) i, (a == k) = false → Instr.findNow (.int .u8) (.int .u8 a) (⟨.int .u8 k, v, n⟩ :: es) i = Instr.findNow (.int .u8) (.int .u8 a) es (i + 1) := fun k a v n es i h => by
    simp [Instr.findNow, Instr.sameNow, h]
  go_enter Tryz.func58, Tryz.ntmps58
  go_wp2
  go_ret
  exact ⟨rfl, rfl⟩
theorem lookup_of (W : World) (r : Nat) (es : Array MapEntry) (c : Nat) (k : Int) (i : Nat) (v : Value) (h : W.heap[r]? = some (.map es c)) (hf : Instr.findNow (.int .u8) (.int .u8 k) es.toList 0 = some (some (i, v))) (commaOk : Bool) :
    (Instr.lookup 128 (.map (some r)) (.int .u8 k) commaOk).run Tryz.prog W = .ok (if commaOk then .tuple #[v, .bool true] else v) W := by
  have hc : (Instr.checkKey es.isEmpty 10000 5 (.int .u8 k)).run Tryz.prog W = .ok () W := MapKept.run_checkKey Tryz.underlying5 (by simp [MapKept.IsKey]) _ 9999
  cases commaOk <;> simp [Instr.lookup, run_underlying Tryz.underlying128, MapKept.run_getObj_map h, hc, MapKept.run_findKey Tryz.underlying5 hf, Result.andThen]
/-- which kinds there are. -/
def isKind (kd : Int) : Bool := decide (1 ≤ kd) && decide (kd ≤ 5)
theorem kind_lookup (W : World) (r b c : Nat) (kd : Nat) (h : W.heap[r]? = some (.map (kindsEntries b) c)) (commaOk : Bool) (hk : commaOk = true ∨ (1 ≤ kd ∧ kd ≤ 5)) :
    (Instr.lookup 128 (.map (some r)) (.int .u8 kd) commaOk).run Tryz.prog W = .ok (if commaOk then .tuple #[kindV b kd, .bool (isKind kd)] else kindV b kd) W := by
  have hcases : kd = 1 ∨ kd = 2 ∨ kd = 3 ∨ kd = 4 ∨ kd = 5 ∨ (kd = 0 ∨ 6 ≤ kd) := by omega
  rcases hcases with rfl | rfl | rfl | rfl | rfl | hk'
  · exact lookup_of W r _ c 1 0 _ h (by kernel_rfl) commaOk
  · exact lookup_of W r _ c 2 1 _ h (by kernel_rfl) commaOk
  · exact lookup_of W r _ c 3 2 _ h (by kernel_rfl) commaOk
  · exact lookup_of W r _ c 4 3 _ h (by kernel_rfl) commaOk
  · exact lookup_of W r _ c 5 4 _ h (by kernel_rfl) commaOk
  · have hc : (Instr.checkKey (kindsEntries b).isEmpty 10000 5 (.int .u8 kd)).run Tryz.prog W = .ok () W := MapKept.run_checkKey Tryz.underlying5 (by simp [MapKept.IsKey]) _ 9999
    have hz : (zeroValue 126).run Tryz.prog W = .ok (.agg #[.nilFunc, .nilFunc]) W := by kernel_rfl
    have hf : Instr.findNow (.int .u8) (.int .u8 (kd : Nat)) (kindsEntries b).toList 0 = some none := by
      have h1 : ((kd : Int) == 1) = false := by simp; omega
      have h2 : ((kd : Int) == 2) = false := by simp; omega
      have h3 : ((kd : Int) == 3) = false := by simp; omega
      have h4 : ((kd : Int) == 4) = false := by simp; omega
      have h5 : ((kd : Int) == 5) = false := by simp; omega
      simp [kindsEntries, Instr.findNow, Instr.sameNow, h1, h2, h3, h4, h5]
    obtain rfl : commaOk = true := by
      rcases hk with h | h
      · exact h
      · omega
    have e1 : kindV b kd = .agg #[.nilFunc, .nilFunc] := by unfold kindV; rw [if_neg (by omega), if_neg (by omega), if_neg (by omega), if_neg (by omega), if_neg (by omega)]
    have e2 : isKind kd = false := by unfold isKind; simp; omega
    rw [e1, e2]
    simp [Instr.lookup, run_underlying Tryz.underlying128, MapKept.run_getObj_map h, hc, hz, MapKept.run_findKey Tryz.underlying5 hf, Result.andThen]
/-- whether a predicate may be. -/
def sMay (kd : Nat) (a b : Int) : Bool :=
  if kd = 1 then a == 0 && b == 0 else if kd = 2 then true else if kd = 3 then true else if kd = 4 then decide (0 < a) && decide (0 ≤ b) && decide (b < a) else if kd = 5 then Go.bits .or .i64 a b == a else false
def predV (kd : Nat) (a b : Int) (nt : Bool) : Value := .agg #[.int .u8 kd, .int .i64 a, .int .i64 b, .bool nt]
/-- which function tells whether it may be. -/
def mayF (kd : Nat) : Nat := if kd = 1 then 94 else if kd = 2 then 92 else if kd = 3 then 92 else if kd = 4 then 98 else 100
theorem mayF_any (kd : Nat) (a b : Int) (w : World) (h1 : 1 ≤ kd) (h5 : kd ≤ 5) : Calls Tryz.prog (mayF kd) #[.int .i64 a, .int .i64 b] w (Ret (.bool (sMay kd a b)) w) := by
  have hcases : kd = 1 ∨ kd = 2 ∨ kd = 3 ∨ kd = 4 ∨ kd = 5 := by omega
  rcases hcases with rfl | rfl | rfl | rfl | rfl
  · rw [show mayF 1 = 94 from rfl, show sMay 1 a b = (a == 0 && b == 0) from rfl]
    go_enter Tryz.func94, Tryz.ntmps94
    go_wp2
    all_goals
      go_ret
      exact ⟨ret_bool (by simp; try omega), Ext.refl _⟩
  · rw [show mayF 2 = 92 from rfl, show sMay 2 a b = true from rfl]
    go_enter Tryz.func92, Tryz.ntmps92
    go_wp2
    go_ret
    exact Ret.mk (Ext.refl _)
  · rw [show mayF 3 = 92 from rfl, show sMay 3 a b = true from rfl]
    go_enter Tryz.func92, Tryz.ntmps92
    go_wp2
    go_ret
    exact Ret.mk (Ext.refl _)
  · rw [show mayF 4 = 98 from rfl, show sMay 4 a b = (decide (0 < a) && decide (0 ≤ b) && decide (b < a)) from rfl]
    go_enter Tryz.func98, Tryz.ntmps98
    go_wp2
    all_goals
      go_ret
      exact ⟨ret_bool (by simp; try omega), Ext.refl _⟩
  · rw [show mayF 5 = 100 from rfl, show sMay 5 a b = (Go.bits .or .i64 a b == a) from rfl]
    go_enter Tryz.func100, Tryz.ntmps100
    go_wp2
    all_goals
      go_ret
      exact ⟨ret_bool (by simp; try omega), Ext.refl _⟩
end Go.Proofs.YtoiohjifjmejkaaGreat
