/- pick.Parts, Keep, Count. pick.Count. -/
import Derived.Test.YtoiohjifjmejkaaGreatM47
import Derived.Test.YtoiohjifjmejkaaGreatM49
namespace Go.Proofs.YtoiohjifjmejkaaGreat
open Go Go.RowKit Go.Shelf
attribute [local go_sem] Oper.semAt_some

theorem pikParts_nil (w : World) (kd : Nat) (a b : Int) (nt : Bool) (p : Value) : Calls Tryz.prog 12 #[.pointer none, .agg #[.int .u8 kd, .int .i64 a, .int .i64 b, .bool nt], p] w (Ret (.tuple #[.pointer none, .pointer none, .int .i64 2]) w) := by
  go_enter Tryz.func12, Tryz.ntmps12
  go_wp2
  exact bodyPost_ret (v := .tuple #[.pointer none, .pointer none, .int .i64 2]) (by simp [results, Tryz.results12, go_sem]) rfl ⟨rfl, ((Ext.refl w).alloc _).alloc _⟩
theorem pikParts_bad (w : World) (s : Addr) (kd : Nat) (a b : Int) (nt : Bool) (hk : kd < 256) (p : Value) (hm : sMay kd a b = false) : Calls Tryz.prog 12 #[.pointer (some s), .agg #[.int .u8 kd, .int .i64 a, .int .i64 b, .bool nt], p] w (Ret (.tuple #[.pointer none, .pointer none, .int .i64 2]) w) := by
  have HM := Lib.hid (fun W => may_v W kd a b nt hk false hm)
  clear hm
  have hE := ((Ext.refl w).alloc (.cells #[.pointer (some s)] 25)).alloc (.cells #[.int .u8 kd, .int .i64 a, .int .i64 b, .bool nt] 23)
  go_enter Tryz.func12, Tryz.ntmps12
  go_wp2_with fail
  refine (HM.out _).mono ?_
  rintro e w1 ⟨rfl, h1⟩
  go_wp2
  exact bodyPost_ret (v := .tuple #[.pointer none, .pointer none, .int .i64 2]) (by simp [results, Tryz.results12, go_sem]) rfl ⟨rfl, hE.trans h1⟩
/-- what Parts gives. -/
def PartsP (P c : Nat) (f : Int × Int × Int → Bool) (T : Tr) (w : World) (e : Ending) (w' : World) : Prop :=
  ∃ (A B : Tr) (m : Int), e = .returned (.tuple #[.pointer A.ptr, .pointer B.ptr, .int .i64 0]) ∧ Bt [P] w w' ∧ Sch P c m w' ∧ InH w' A ∧ InH w' B ∧ PartsC c f T A B
theorem pikParts_any (P c : Nat) (nn : Int) (w : World) (kd : Nat) (a b : Int) (nt : Bool) (hk : kd < 256) (T : Tr) (hm : sMay kd a b = true) (hS : Sch P c nn w) (hT : InH w T) (hp : PartC c T) (hc : T.count ≤ 10000) :
    Calls Tryz.prog 12 #[.pointer (some ⟨P, 0, none⟩), .agg #[.int .u8 kd, .int .i64 a, .int .i64 b, .bool nt], .pointer T.ptr] w (PartsP P c (tkI kd a b nt) T w) := by
  have HM := Lib.hid (fun W => may_v W kd a b nt hk true hm)
  have hE := ((Ext.refl w).alloc (.cells #[.pointer (some ⟨P, 0, none⟩)] 25)).alloc (.cells #[.int .u8 kd, .int .i64 a, .int .i64 b, .bool nt] 23)
  have hbs : Boxed (w.alloc (.cells #[.pointer (some ⟨P, 0, none⟩)] 25)) w.heap.size 25 (.pointer (some ⟨P, 0, none⟩)) := alloc_at _ _ _ rfl
  have hbp := alloc_at (w.alloc (.cells #[.pointer (some ⟨P, 0, none⟩)] 25)) (.cells #[.int .u8 kd, .int .i64 a, .int .i64 b, .bool nt] 23) _ rfl
  have hbs2 := ((Ext.refl _).alloc (.cells #[.int .u8 kd, .int .i64 a, .int .i64 b, .bool nt] 23)).get hbs
  rw [show (w.alloc (.cells #[.pointer (some ⟨P, 0, none⟩)] 25)).heap.size = w.heap.size + 1 by simp] at hbp
  have hsz : ((w.alloc (.cells #[.pointer (some ⟨P, 0, none⟩)] 25)).alloc (.cells #[.int .u8 kd, .int .i64 a, .int .i64 b, .bool nt] 23)).heap.size = w.heap.size + 2 := by simp
  have HB := Lib.hid (And.intro hE (And.intro hbs2 (And.intro hbp hsz)))
  have HS := Lib.hid (And.intro hS (And.intro hT (And.intro hp hc)))
  have hlt := Lib.hid hS.lt
  clear hm hE hbs hbp hbs2 hS hT hp hc hsz
  go_enter Tryz.func12, Tryz.ntmps12
  go_wp2_with fail
  generalize (w.alloc (.cells #[.pointer (some ⟨P, 0, none⟩)] 25)).alloc (.cells #[.int .u8 kd, .int .i64 a, .int .i64 b, .bool nt] 23) = w1 at *
  refine (HM.out w1).mono ?_
  rintro e w2 ⟨rfl, h2⟩
  have hE3 := (HB.out.1.trans h2).alloc (.cells #[.func (.func 35) #[] #[.pointer (some ⟨w2.heap.size, 0, none⟩), .pointer (some ⟨w.heap.size, 0, none⟩), .pointer (some ⟨w.heap.size + 1, 0, none⟩)]] 72)
  have hE4 := (Ext.refl w2).alloc (.cells #[.func (.func 35) #[] #[.pointer (some ⟨w2.heap.size, 0, none⟩), .pointer (some ⟨w.heap.size, 0, none⟩), .pointer (some ⟨w.heap.size + 1, 0, none⟩)]] 72)
  have hPB : PkB P w2.heap.size w.heap.size (w.heap.size + 1) kd a b nt (w2.alloc (.cells #[.func (.func 35) #[] #[.pointer (some ⟨w2.heap.size, 0, none⟩), .pointer (some ⟨w.heap.size, 0, none⟩), .pointer (some ⟨w.heap.size + 1, 0, none⟩)]] 72)) :=
    ⟨by have := hlt.out; have := HB.out.1.size; have := h2.size; omega, by have := hlt.out; omega, by have := hlt.out; omega, alloc_at _ _ _ rfl, hE4.get (h2.get HB.out.2.1), hE4.get (h2.get HB.out.2.2.1)⟩
  have HON := Lib.hid (partsOn_any P c _ _ _ kd a b nt hk T _ nn (HS.out.1.ext hE3) (HS.out.2.1.ext hE3) HS.out.2.2.1 HS.out.2.2.2 hPB)
  have HX := Lib.hid hE3
  have hcf := hPB.on.cell
  clear h2 hE3 hE4 hPB
  go_wp2_with fail
  refine HON.out.mono ?_
  rintro e w4 ⟨A, B, m, rfl, B4, S4, iA, iB, k4⟩
  go_wp2
  exact bodyPost_ret (v := .tuple #[.pointer A.ptr, .pointer B.ptr, .int .i64 0]) (by simp [results, Tryz.results12, go_sem]) rfl ⟨A, B, m, rfl, (Bt.ext HX.out).trans B4, S4, iA, iB, k4⟩
theorem pikKeep_nil (w : World) (kd : Nat) (a b : Int) (nt : Bool) (p : Value) : Calls Tryz.prog 11 #[.pointer none, .agg #[.int .u8 kd, .int .i64 a, .int .i64 b, .bool nt], p] w (Ret (.tuple #[.pointer none, .int .i64 2]) w) := by
  have hE := (Ext.refl w).alloc (.cells #[.int .u8 kd, .int .i64 a, .int .i64 b, .bool nt] 23)
  obtain ⟨p0, p1, p2, p3⟩ := cells4 (alloc_at w (.cells #[.int .u8 kd, .int .i64 a, .int .i64 b, .bool nt] 23) _ rfl)
  go_enter Tryz.func11, Tryz.ntmps11
  go_wp2_with fail
  generalize w.alloc (.cells #[.int .u8 kd, .int .i64 a, .int .i64 b, .bool nt] 23) = w1 at *
  refine (pikParts_nil w1 kd a b nt p).mono ?_
  rintro e w2 ⟨rfl, h2⟩
  go_wp2
  exact bodyPost_ret (v := .tuple #[.pointer none, .int .i64 2]) (by simp [results, Tryz.results11, go_sem]) rfl ⟨rfl, hE.trans h2⟩
theorem pikKeep_bad (w : World) (s : Addr) (kd : Nat) (a b : Int) (nt : Bool) (hk : kd < 256) (p : Value) (hm : sMay kd a b = false) : Calls Tryz.prog 11 #[.pointer (some s), .agg #[.int .u8 kd, .int .i64 a, .int .i64 b, .bool nt], p] w (Ret (.tuple #[.pointer none, .int .i64 2]) w) := by
  have HM := Lib.hid (fun W => pikParts_bad W s kd a b nt hk p hm)
  clear hm
  have hE := (Ext.refl w).alloc (.cells #[.int .u8 kd, .int .i64 a, .int .i64 b, .bool nt] 23)
  obtain ⟨p0, p1, p2, p3⟩ := cells4 (alloc_at w (.cells #[.int .u8 kd, .int .i64 a, .int .i64 b, .bool nt] 23) _ rfl)
  go_enter Tryz.func11, Tryz.ntmps11
  go_wp2_with fail
  generalize w.alloc (.cells #[.int .u8 kd, .int .i64 a, .int .i64 b, .bool nt] 23) = w1 at *
  refine (HM.out w1).mono ?_
  rintro e w2 ⟨rfl, h2⟩
  go_wp2
  exact bodyPost_ret (v := .tuple #[.pointer none, .int .i64 2]) (by simp [results, Tryz.results11, go_sem]) rfl ⟨rfl, hE.trans h2⟩
def KeepP (P c : Nat) (f : Int × Int × Int → Bool) (T : Tr) (w : World) (e : Ending) (w' : World) : Prop :=
  ∃ (A : Tr) (m : Int), e = .returned (.tuple #[.pointer A.ptr, .int .i64 0]) ∧ Bt [P] w w' ∧ Sch P c m w' ∧ InH w' A ∧ MayC c A ∧ itsC c A = (itsC c T).filter f
theorem pikKeep_any (P c : Nat) (nn : Int) (w : World) (kd : Nat) (a b : Int) (nt : Bool) (hk : kd < 256) (T : Tr) (hm : sMay kd a b = true) (hS : Sch P c nn w) (hT : InH w T) (hp : PartC c T) (hc : T.count ≤ 10000) :
    Calls Tryz.prog 11 #[.pointer (some ⟨P, 0, none⟩), .agg #[.int .u8 kd, .int .i64 a, .int .i64 b, .bool nt], .pointer T.ptr] w (KeepP P c (tkI kd a b nt) T w) := by
  have HM := Lib.hid (fun W (e : Ext w W) => pikParts_any P c nn W kd a b nt hk T hm (hS.ext e) (hT.ext e) hp hc)
  clear hm hS hT hp hc
  have hE := (Ext.refl w).alloc (.cells #[.int .u8 kd, .int .i64 a, .int .i64 b, .bool nt] 23)
  obtain ⟨p0, p1, p2, p3⟩ := cells4 (alloc_at w (.cells #[.int .u8 kd, .int .i64 a, .int .i64 b, .bool nt] 23) _ rfl)
  go_enter Tryz.func11, Tryz.ntmps11
  go_wp2_with fail
  generalize w.alloc (.cells #[.int .u8 kd, .int .i64 a, .int .i64 b, .bool nt] 23) = w1 at *
  refine (HM.out w1 hE).mono ?_
  rintro e w2 ⟨A, B, m, rfl, B2, S2, iA, iB, k⟩
  go_wp2
  exact bodyPost_ret (v := .tuple #[.pointer A.ptr, .int .i64 0]) (by simp [results, Tryz.results11, go_sem]) rfl ⟨A, m, rfl, (Bt.ext hE).trans B2, S2, iA, k.mayA, k.itsA⟩
end Go.Proofs.YtoiohjifjmejkaaGreat
namespace Go.Proofs.YtoiohjifjmejkaaGreat
open Go Go.RowKit Go.Shelf
attribute [local go_sem] Oper.semAt_some

/-- which pairs a predicate takes. -/
def tkP (kd : Nat) (a b : Int) (nt : Bool) (z : Int × Int) : Bool := sTakes kd a b nt z.1 z.2
theorem ext_put {w V : World} (h : Ext w V) {l : Nat} (hl : w.heap.size ≤ l) (o : Obj) : Ext w (V.putObj l o) :=
  Bt.out h (L := [l]) (by simpa using hl) ⟨rfl, rfl, rfl, (grownBy_putObj' V l o).size, fun i _ hi => World.putObj_heap_other (by simpa using hi)⟩
theorem count_up (f : Int × Int → Bool) (pre : List (Int × Int)) (x : Int × Int) (h : f x = true) : wrap64 (wrap64 ((pre.filter f).length : Nat) + 1) = wrap64 (((pre ++ [x]).filter f).length : Nat) := by
  rw [wrap64_up, List.filter_append, List.length_append, show [x].filter f = [x] by simp [h]]
  rfl
theorem count_no (f : Int × Int → Bool) (pre : List (Int × Int)) (x : Int × Int) (h : f x = false) : (pre ++ [x]).filter f = pre.filter f := by
  rw [List.filter_append, show [x].filter f = [] by simp [h], List.append_nil]
set_option maxRecDepth 100000 in
set_option maxHeartbeats 2000000 in
theorem pikCount_in (n : Nat) (w : World) (kd : Nat) (a b : Int) (nt : Bool) (hk : kd < 256) (T : Tr) (hm : sMay kd a b = true) (hT : InH w T) :
    CallsIn Fence.wide n Tryz.prog 13 #[.agg #[.int .u8 kd, .int .i64 a, .int .i64 b, .bool nt], .pointer T.ptr] w (Ret (.tuple #[.int .i64 (wrap64 (((T.inl.map kvT).filter (tkP kd a b nt)).length : Nat)), .int .i64 0]) w) := by
  have hfn : ∀ f, Fence.wide.fn f := fun _ => trivial
  have HM := Lib.hid (fun W => may_v W kd a b nt hk true hm)
  have hE := ((Ext.refl w).alloc (.cells #[.int .u8 kd, .int .i64 a, .int .i64 b, .bool nt] 23)).alloc (.cells #[.int .i64 0] 3)
  have hbp := ((Ext.refl _).alloc (.cells #[.int .i64 0] 3)).get (alloc_at w (.cells #[.int .u8 kd, .int .i64 a, .int .i64 b, .bool nt] 23) _ rfl)
  have hbn := alloc_at (w.alloc (.cells #[.int .u8 kd, .int .i64 a, .int .i64 b, .bool nt] 23)) (.cells #[.int .i64 0] 3) _ rfl
  rw [show (w.alloc (.cells #[.int .u8 kd, .int .i64 a, .int .i64 b, .bool nt] 23)).heap.size = w.heap.size + 1 by simp] at hbn
  have hsz : ((w.alloc (.cells #[.int .u8 kd, .int .i64 a, .int .i64 b, .bool nt] 23)).alloc (.cells #[.int .i64 0] 3)).heap.size = w.heap.size + 2 := by simp
  obtain ⟨p0, p1, p2, p3⟩ := cells4 hbp
  have HB := Lib.hid (And.intro hE (And.intro hbp (And.intro hbn hsz)))
  have HT := Lib.hid hT
  clear hm hE hbp hbn hsz hT
  refine callsIn_of_wp_marks Tryz.func13 rfl trivial ?_ rfl
  simp only [Tryz.ntmps13, List.size_toArray, List.length_cons, List.length_nil, Nat.reduceAdd, Nat.reduceSub, Array.replicate_succ, Array.replicate_zero, List.push_toArray, List.append_toArray, List.nil_append, List.cons_append]
  gi_wp2_with fail
  generalize (w.alloc (.cells #[.int .u8 kd, .int .i64 a, .int .i64 b, .bool nt] 23)).alloc (.cells #[.int .i64 0] 3) = w1 at *
  refine ⟨wide_room _, (callsIn_wide.2 (HM.out w1)).mono ?_⟩
  rintro e w2 ⟨rfl, h2⟩
  have HE2 := Lib.hid (HB.out.1.trans h2)
  have HP2 := Lib.hid (And.intro (h2.get HB.out.2.1) (And.intro (h2.get HB.out.2.2.1) (show w.heap.size + 2 ≤ w2.heap.size by have := HB.out.2.2.2; have := h2.size; omega)))
  clear h2 p0 p1 p2 p3
  gi_wp2_with fail
  refine ⟨wide_room _, (callsIn_wide.2 (all_any w2 T (HT.out.ext HE2.out))).mono ?_⟩
  rintro e w3 ⟨bq, rfl, h3, hs3, hit⟩
  unfold pairsV
  have HI := Lib.hid hit
  have HE3 := Lib.hid (HE2.out.trans h3)
  have HP3 := Lib.hid (And.intro (h3.get HP2.out.1) (And.intro (h3.get HP2.out.2.1) (show w.heap.size + 6 ≤ w3.heap.size by have := HP2.out.2.2; omega)))
  have HS3 := Lib.hid hs3
  clear h3 hit hs3
  gi_wp2_with fail
  have hM1 : ∀ i, i = w.heap.size + 1 → w.heap.size ≤ i := fun i h => by omega
  refine range_raw (xs := T.inl.map kvT) rfl (enters_of Tryz.func104 (by kernel_rfl) rfl) (HI.out (fun i => i = w.heap.size + 1) ?m1 (InH.off hM1 HT.out)) ?hM (fun _ => rfl)
    (fun pre V => Boxed V (w.heap.size + 1) 3 (.int .i64 (wrap64 ((pre.filter (tkP kd a b nt)).length : Nat))) ∧ V.heap[w.heap.size]? = some (.cells #[.int .u8 kd, .int .i64 a, .int .i64 b, .bool nt] 23 (0, 0)) ∧ Ext w V) (fun c pre V => False) ?hI ?hIx ?h0
    (fun x a' V => a' = { tmps := #[Value.agg #[.int .u8 kd, .int .i64 a, .int .i64 b, .bool nt], Value.pointer T.ptr, Value.pointer (some ⟨w.heap.size, 0, none⟩), undef, Value.pointer (some ⟨w.heap.size + 1, 0, none⟩), .int .i64 0, .int .i64 x.1, .int .i64 x.2, Value.agg #[.int .u8 kd, .int .i64 a, .int .i64 b, .bool nt], .bool true, .bool false, Value.pointer T.ptr,
      Value.func (Fn.func 104) #[] #[Value.pointer (some ⟨bq, 0, none⟩)], .int .i64 x.1, .int .i64 x.2, undef, undef, undef, undef, undef, undef, undef, undef], defers := [] }) ?hAx ?hassign ?hbody ?hdone ?hstop
  case m1 => exact fun i h1 h2 h => by have := HP2.out.2.2; omega
  case hM => exact fun j hj h => by have := HP3.out.2.2; omega
  case hI =>
    refine ⟨fun s V V' ⟨h1, h2, h3⟩ e => ⟨e.get h1, e.get h2, h3.trans e⟩, fun s V l o o' ⟨h1, h2, h3⟩ hl ho hc => ?_⟩
    have hk := Keep.putObj (M := fun _ => False) V l o o' ho hc
    exact ⟨hk.boxed (fun h => h) h1, hk.cells _ _ _ _ (fun h => h) h2, ext_put h3 (by have := HP3.out.2.2; omega) o'⟩
  case hIx => exact fun c => ⟨fun _ _ _ h _ => h, fun _ _ _ _ _ h _ _ _ => h⟩
  case h0 => exact ⟨(show Boxed w3 (w.heap.size + 1) 3 (.int .i64 (wrap64 ((([] : List (Int × Int)).filter (tkP kd a b nt)).length : Nat))) by rw [show wrap64 ((([] : List (Int × Int)).filter (tkP kd a b nt)).length : Nat) = 0 by simp [wrap64]]; exact HP3.out.2.1), HP3.out.1, HE3.out⟩
  case hAx => exact fun x a' V b o o' h _ _ => h
  case hassign =>
    intro l2 m x V K hsz hK
    gi_wp2
    exact hK _ _ (Ext.refl _) rfl
  case hbody =>
    rintro l2 m pre x a' V hsz - ⟨hb, hp, hx⟩ rfl hlen
    obtain ⟨p0, p1, p2, p3⟩ := cells4 hp
    have HV := Lib.hid (And.intro hb (And.intro hp hx))
    clear hb hp hx hsz hlen
    cases ht : tkP kd a b nt x with
    | true =>
      have HTK := Lib.hid (takes_v V kd a b nt x.1 x.2 hk true ht)
      have HF := Lib.hid ht
      clear ht
      gi_wp2_with fail
      refine ⟨fun h => (by cases h), (CallsIn.inRound l2 (callsIn_wide.2 HTK.out)).mono ?_⟩
      rintro e V1 ⟨rfl, h1⟩
      have hb1 := h1.get HV.out.1
      have hce := (show Boxed V1 (w.heap.size + 1) 3 _ from hb1).cell
      have hfe := (show Boxed V1 (w.heap.size + 1) 3 _ from hb1).frozen
      have H1 := Lib.hid h1
      have HB1 := Lib.hid (show Boxed V1 (w.heap.size + 1) 3 _ from hb1)
      clear p0 p1 p2 p3 h1 hb1
      gi_wp2
      have hs := HB1.out.set (.int .i64 (wrap64 (wrap64 ((pre.filter (tkP kd a b nt)).length : Nat) + 1)))
      rw [count_up _ _ _ HF.out] at hs ⊢
      exact ⟨(keepsFrom_ext H1.out).trans (keepsFrom_set _ _ _), (Keep.ext H1.out).trans (Keep.setCell _ _ _ rfl), hs, (by rw [Below.heap_setCell _ _ _ _ (by simp)]; exact H1.out.get HV.out.2.1), (HV.out.2.2.trans H1.out).setCell (p := ⟨w.heap.size + 1, 0, none⟩) (Nat.le_succ _) _⟩
    | false =>
      have HTK := Lib.hid (takes_v V kd a b nt x.1 x.2 hk false ht)
      have HF := Lib.hid ht
      clear ht
      gi_wp2_with fail
      refine ⟨fun h => (by cases h), (CallsIn.inRound l2 (callsIn_wide.2 HTK.out)).mono ?_⟩
      rintro e V1 ⟨rfl, h1⟩
      have H1 := Lib.hid h1
      clear p0 p1 p2 p3 h1
      gi_wp2
      exact ⟨keepsFrom_ext H1.out, Keep.ext H1.out, (by rw [count_no _ _ _ HF.out]; exact H1.out.get HV.out.1), H1.out.get HV.out.2.1, HV.out.2.2.trans H1.out⟩
  case hdone =>
    rintro D V hD ⟨hb, -, hx⟩ hK
    have hce := hb.cell
    have hfe := hb.frozen
    have HV := Lib.hid (And.intro hb (And.intro hx (And.intro hD hK)))
    clear hb hx hD hK
    gi_wp2
    have hk : (V.setCell ⟨w.heap.size + 1, 0, none⟩ (.int .i64 (wrap64 (((T.inl.map kvT).filter (tkP kd a b nt)).length : Nat)))).heap[D]? = some (.deferred (some [])) := (KeepsOthers.setCell _ _ _).same D _ HV.out.2.2.2 rfl
    have hs := HV.out.1.set (.int .i64 (wrap64 (((T.inl.map kvT).filter (tkP kd a b nt)).length : Nat)))
    have hx := HV.out.2.1.setCell (p := ⟨w.heap.size + 1, 0, none⟩) (Nat.le_succ _) (.int .i64 (wrap64 (((T.inl.map kvT).filter (tkP kd a b nt)).length : Nat)))
    have hD := HV.out.2.2.1
    have hsz := HP3.out.2.2
    clear hce hfe
    generalize V.setCell ⟨w.heap.size + 1, 0, none⟩ (.int .i64 (wrap64 (((T.inl.map kvT).filter (tkP kd a b nt)).length : Nat))) = V7 at *
    have hb := ((Keep.putObj (M := fun _ => False) V7 D _ (.deferred none) hk rfl).boxed (fun h => h) hs).cell
    refine ⟨by simp, .inl ⟨_, _, rfl, run_takeDeferred hk, ?_⟩⟩
    exact ⟨.tuple #[.int .i64 (wrap64 (((T.inl.map kvT).filter (tkP kd a b nt)).length : Nat)), .int .i64 0], by simp [results, Tryz.results13, go_sem, loadVar, hb], ⟨rfl, ext_put hx (by omega) _⟩⟩
  case hstop =>
    rintro D c pre V _ _ h
    exact h.elim
/-- **pick.Count**. -/
theorem pikCount_any (w : World) (kd : Nat) (a b : Int) (nt : Bool) (hk : kd < 256) (T : Tr) (hm : sMay kd a b = true) (hT : InH w T) :
    Calls Tryz.prog 13 #[.agg #[.int .u8 kd, .int .i64 a, .int .i64 b, .bool nt], .pointer T.ptr] w (Ret (.tuple #[.int .i64 (wrap64 (((T.inl.map kvT).filter (tkP kd a b nt)).length : Nat)), .int .i64 0]) w) :=
  callsIn_wide.1 (pikCount_in 9 w kd a b nt hk T hm hT)
theorem pikCount_bad_in (n : Nat) (w : World) (kd : Nat) (a b : Int) (nt : Bool) (hk : kd < 256) (p : Value) (hm : sMay kd a b = false) :
    CallsIn Fence.wide n Tryz.prog 13 #[.agg #[.int .u8 kd, .int .i64 a, .int .i64 b, .bool nt], p] w (Ret (.tuple #[.int .i64 0, .int .i64 2]) w) := by
  have hfn : ∀ f, Fence.wide.fn f := fun _ => trivial
  have HM := Lib.hid (fun W => may_v W kd a b nt hk false hm)
  have hE := ((Ext.refl w).alloc (.cells #[.int .u8 kd, .int .i64 a, .int .i64 b, .bool nt] 23)).alloc (.cells #[.int .i64 0] 3)
  have hbp := ((Ext.refl _).alloc (.cells #[.int .i64 0] 3)).get (alloc_at w (.cells #[.int .u8 kd, .int .i64 a, .int .i64 b, .bool nt] 23) _ rfl)
  have hbn := alloc_at (w.alloc (.cells #[.int .u8 kd, .int .i64 a, .int .i64 b, .bool nt] 23)) (.cells #[.int .i64 0] 3) _ rfl
  rw [show (w.alloc (.cells #[.int .u8 kd, .int .i64 a, .int .i64 b, .bool nt] 23)).heap.size = w.heap.size + 1 by simp] at hbn
  obtain ⟨p0, p1, p2, p3⟩ := cells4 hbp
  have HB := Lib.hid (And.intro hE hbn)
  clear hm hE hbp hbn
  refine callsIn_of_wp_marks Tryz.func13 rfl trivial ?_ rfl
  simp only [Tryz.ntmps13, List.size_toArray, List.length_cons, List.length_nil, Nat.reduceAdd, Nat.reduceSub, Array.replicate_succ, Array.replicate_zero, List.push_toArray, List.append_toArray, List.nil_append, List.cons_append]
  gi_wp2_with fail
  generalize (w.alloc (.cells #[.int .u8 kd, .int .i64 a, .int .i64 b, .bool nt] 23)).alloc (.cells #[.int .i64 0] 3) = w1 at *
  refine ⟨wide_room _, (callsIn_wide.2 (HM.out w1)).mono ?_⟩
  rintro e w2 ⟨rfl, h2⟩
  have HX := Lib.hid (HB.out.1.trans h2)
  have hb : Boxed w2 (w.heap.size + 1) 3 (.int .i64 0) := h2.get HB.out.2
  have HBB := Lib.hid hb
  have hce := hb.cell
  have hfe := hb.frozen
  clear hb h2 p0 p1 p2 p3
  gi_wp2
  have hs := (HBB.out.set (.int .i64 0)).cell
  have hx := HX.out.setCell (p := ⟨w.heap.size + 1, 0, none⟩) (Nat.le_succ _) (.int .i64 0)
  exact ⟨.tuple #[.int .i64 0, .int .i64 2], by simp [results, Tryz.results13, go_sem, loadVar, hs], ⟨rfl, hx⟩⟩
theorem pikCount_bad (w : World) (kd : Nat) (a b : Int) (nt : Bool) (hk : kd < 256) (p : Value) (hm : sMay kd a b = false) :
    Calls Tryz.prog 13 #[.agg #[.int .u8 kd, .int .i64 a, .int .i64 b, .bool nt], p] w (Ret (.tuple #[.int .i64 0, .int .i64 2]) w) :=
  callsIn_wide.1 (pikCount_bad_in 9 w kd a b nt hk p hm)
end Go.Proofs.YtoiohjifjmejkaaGreat
