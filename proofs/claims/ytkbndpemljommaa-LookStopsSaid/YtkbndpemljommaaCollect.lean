/- joinerylaw10.collect: at most so many pairs of what is gone over. -/
import Derived.Test.YtkbndpemljommaaLookAll
import Derived.Test.YtkbndpemljommaaPair
namespace Go.Proofs.Ytkbndpemljommaa
open Go Go.RowKit Go.Shelf
attribute [local go_sem] Oper.semAt_some

theorem pown_block {B : Nat} {w : World} {v : Value} {zs : List (Int × Int)} (h : POwn B w v zs) {k : Nat} (hk : v.ownBlock = some k) : B ≤ k ∧ ∃ c, w.heap[k]? = some (.cells c 39 (0, 0)) := by
  obtain ⟨h1, ⟨rfl, -⟩ | ⟨g, cap, cur, rfl, hb, hg, hc⟩⟩ := h
  · cases hk
  · simp only [Value.ownBlock, Option.some.injEq] at hk
    subst hk
    exact ⟨hb, _, hg⟩
theorem keep_rowP {M : Nat → Prop} {W W' : World} {v : Value} (hg : W.grownBy W' v.ownBlock) (hv : ∀ g, v.ownBlock = some g → M g) : Keep M W W' :=
  ⟨hg.os, hg.tape, hg.output, hg.size, fun i _ _ _ hi hx => (hg.block i (lt_of hx) (fun e => hi (hv i e.symm))).trans hx⟩
theorem keepsFrom_rowP {B : Nat} {W W' : World} {v : Value} (hg : W.grownBy W' v.ownBlock) (hv : ∀ g, v.ownBlock = some g → ∃ c t f, W.heap[g]? = some (.cells c t f)) : KeepsFrom B W W' :=
  ⟨hg.size, fun k o _ hk ho => (hg.block k (lt_of hk) (fun e => by
    obtain ⟨c, t, f, h⟩ := hv k e.symm
    rw [hk] at h
    cases h
    cases ho)).trans hk⟩
theorem ext_rowP {w W W' : World} {v : Value} (h : Ext w W) (hg : W.grownBy W' v.ownBlock) (hv : ∀ g, v.ownBlock = some g → w.heap.size ≤ g) : Ext w W' := RowKit.Below.grown h hg h.size hv
theorem pown_set {B : Nat} {w : World} {v : Value} {zs : List (Int × Int)} (h : POwn B w v zs) (p : Addr) (u : Value) (hp : p.block < B) : POwn B (w.setCell p u) v zs := by
  obtain ⟨h1, h | ⟨g, cap, cur, hv, hb, hg, hc⟩⟩ := h
  · exact ⟨h1, .inl h⟩
  · exact ⟨h1, .inr ⟨g, cap, cur, hv, hb, (Below.heap_setCell _ _ _ _ (by omega)).trans hg, hc⟩⟩
theorem pown_put {B : Nat} {w : World} {v : Value} {zs : List (Int × Int)} (h : POwn B w v zs) {l : Nat} {o o' : Obj} (ho : w.heap[l]? = some o) (hc : o.isCells = false) : POwn B (w.putObj l o') v zs := by
  obtain ⟨h1, h | ⟨g, cap, cur, hv, hb, hg, hcc⟩⟩ := h
  · exact ⟨h1, .inl h⟩
  · exact ⟨h1, .inr ⟨g, cap, cur, hv, hb, (Keep.putObj (M := fun _ => False) w l o o' ho hc).cells _ _ _ _ (fun h => h) hg, hcc⟩⟩
theorem ext_putP {w V : World} (h : Ext w V) {l : Nat} (hl : w.heap.size ≤ l) (o : Obj) : Ext w (V.putObj l o) :=
  ⟨h.os, h.tape, h.output, Nat.le_trans h.size (grownBy_putObj' V l o).size, fun i hi => (World.putObj_heap_other (by omega)).trans (Below.block h i hi)⟩
theorem pairsV_nil (bq : Nat) (w : World) : (binOp .eql 30 (.func (.func 31) #[] #[.pointer (some ⟨bq, 0, none⟩)]) .nilFunc).run Try.prog w = .ok (.bool false) w := by kernel_rfl
/-- what has been put together so far, and how many at most. -/
def ColSt (w : World) (mo : Nat) (pre : List (Int × Int)) (V : World) : Prop :=
  (∃ v, Boxed V (w.heap.size + 1) 27 v ∧ POwn (w.heap.size + 9) V v pre) ∧ Boxed V w.heap.size 3 (.int .i64 mo) ∧ pre.length ≤ mo ∧ Ext w V
theorem ColSt.holds {w : World} {mo : Nat} {B : Nat} (hB : w.heap.size + 2 ≤ B) : Holds B (ColSt w mo) := by
  refine ⟨fun s V V' ⟨⟨v, h1, h2⟩, h3, h4, h5⟩ e => ⟨⟨v, e.get h1, h2.ext e⟩, e.get h3, h4, h5.trans e⟩, fun s V l o o' ⟨⟨v, h1, h2⟩, h3, h4, h5⟩ hl ho hc => ?_⟩
  have hk := Keep.putObj (M := fun _ => False) V l o o' ho hc
  exact ⟨⟨v, hk.boxed (fun h => h) h1, pown_put h2 ho hc⟩, hk.boxed (fun h => h) h3, h4, ext_putP h5 (by omega) o'⟩
theorem col_take {q zs : List (Int × Int)} {mo : Nat} (h : q <+: zs) (hq : q.length = mo + 1) : q.dropLast = zs.take mo := by
  obtain ⟨r, rfl⟩ := h
  rw [List.dropLast_eq_take, hq, Nat.add_sub_cancel, List.take_append_of_le_length (by omega)]
set_option maxRecDepth 100000 in
set_option maxHeartbeats 2000000 in
theorem collect_in (n : Nat) (w : World) (bq mo : Nat) (zs : List (Int × Int)) (hit : ∀ M : Nat → Prop, (∀ i, M i → w.heap.size ≤ i) → Iter 31 #[.pointer (some ⟨bq, 0, none⟩)] (fun z : Int × Int => #[Value.int .i64 z.1, .int .i64 z.2]) zs 5 M w) (hl : zs.length ≤ 5000) :
    CallsIn Fence.wide n Try.prog 11 #[.func (.func 31) #[] #[.pointer (some ⟨bq, 0, none⟩)], .int .i64 mo] w (GivesP (zs.take mo) w) := by
  have hfn : ∀ f, Fence.wide.fn f := fun _ => trivial
  have hnl := pairsV_nil bq
  have hE := ((Ext.refl w).alloc (.cells #[.int .i64 mo] 3)).alloc (.cells #[.slice none 0 0] 27)
  have hbm : Boxed ((w.alloc (.cells #[.int .i64 mo] 3)).alloc (.cells #[.slice none 0 0] 27)) w.heap.size 3 (.int .i64 mo) := ((Ext.refl _).alloc (.cells #[.slice none 0 0] 27)).get (alloc_at w (.cells #[.int .i64 mo] 3) _ rfl)
  have hbo : Boxed ((w.alloc (.cells #[.int .i64 mo] 3)).alloc (.cells #[.slice none 0 0] 27)) (w.heap.size + 1) 27 (.slice none 0 0) := alloc_at _ _ _ (by simp)
  have hsz : ((w.alloc (.cells #[.int .i64 mo] 3)).alloc (.cells #[.slice none 0 0] 27)).heap.size = w.heap.size + 2 := by simp
  have HB := Lib.hid (And.intro hE (And.intro hbm (And.intro hbo hsz)))
  have HI := Lib.hid hit
  have HL := Lib.hid hl
  clear hE hbm hbo hsz hit hl
  refine callsIn_of_wp_marks Try.func11 rfl trivial ?_ rfl
  simp only [Try.ntmps11, List.size_toArray, List.length_cons, List.length_nil, Nat.reduceAdd, Nat.reduceSub, Array.replicate_succ, Array.replicate_zero, List.push_toArray, List.append_toArray, List.nil_append, List.cons_append]
  gi_wp2_with fail
  generalize (w.alloc (.cells #[.int .i64 mo] 3)).alloc (.cells #[.slice none 0 0] 27) = w1 at *
  refine range_raw (xs := zs) rfl (enters_of Try.func31 (by kernel_rfl) rfl) ((HI.out (fun i => i = w.heap.size + 1 ∨ w.heap.size + 9 ≤ i) (fun i h => by omega)).more HB.out.1) ?hM (fun _ => rfl)
    (ColSt w mo) (fun c q V => c = .exit 0 ∧ ColSt w mo q.dropLast V ∧ q.length = mo + 1) ?hI ?hIx ?h0
    (fun x a' V => a' = { tmps := #[Value.func (Fn.func 31) #[] #[Value.pointer (some ⟨bq, 0, none⟩)], .int .i64 mo, undef, Value.pointer (some ⟨w.heap.size, 0, none⟩), .slice none 0 0, Value.pointer (some ⟨w.heap.size + 1, 0, none⟩), .int .i64 x.1, .int .i64 x.2,
      Value.func (Fn.func 31) #[] #[Value.pointer (some ⟨bq, 0, none⟩)], .bool false, Value.func (Fn.func 31) #[] #[Value.pointer (some ⟨bq, 0, none⟩)], .int .i64 x.1, .int .i64 x.2, undef, undef, undef, undef, undef, undef, undef, undef, undef, undef, undef], defers := [] }) ?hAx ?hassign ?hbody ?hdone ?hstop
  case hM => exact fun j hj h => by have := HB.out.2.2.2; omega
  case hI => exact ColSt.holds (Nat.le_of_eq HB.out.2.2.2.symm)
  case hIx =>
    have hh := ColSt.holds (w := w) (mo := mo) (Nat.le_of_eq HB.out.2.2.2.symm)
    exact fun c => ⟨fun q V V' ⟨h1, h2, h3⟩ e => ⟨h1, hh.ext _ _ _ h2 e, h3⟩, fun q V l o o' ⟨h1, h2, h3⟩ hl ho hc => ⟨h1, hh.put _ _ _ _ _ h2 hl ho hc, h3⟩⟩
  case h0 => exact ⟨⟨_, HB.out.2.2.1, POwn.nil _ _⟩, HB.out.2.1, Nat.zero_le _, HB.out.1⟩
  case hAx => exact fun x a' V b o o' h _ _ => h
  case hassign =>
    intro l2 m x V K hsz hK
    gi_wp2
    exact hK _ _ (Ext.refl _) rfl
  case hbody =>
    rintro l2 m pre x a' V hsz - ⟨⟨v, hb, ho⟩, hbm, hle, hx⟩ rfl hlen
    have hfn2 : ∀ f, (Fence.wide.inRound l2).fn f := fun _ => trivial
    obtain ⟨va, vc, rfl⟩ := prow_slice ho.row
    have hce := hb.cell
    have hfe := hb.frozen
    have hcm := hbm.cell
    have HV := Lib.hid (And.intro hb (And.intro ho (And.intro hbm (And.intro hx hsz))))
    have HLE := Lib.hid hle
    have HLN := Lib.hid hlen
    clear hb ho hbm hx hsz hle hlen
    rcases Nat.lt_or_ge pre.length mo with hq | hq
    · have hq' : (pre.length : Int) < (mo : Int) := by omega
      have HQ := Lib.hid hq
      have HE := Lib.hid ((Ext.refl V).alloc (.cells #[.int .i64 x.1, .int .i64 x.2] 39))
      have HO := Lib.hid (HV.out.2.1.ext HE.out)
      have HR := Lib.hid ((pown_new (B := V.heap.size) (w := V) x (Nat.le_refl _)).row)
      have HLL := Lib.hid (show pre.length + [x].length ≤ 10000 by have := HLN.out; have := HL.out; simp; omega)
      have HSZ := Lib.hid (show w.heap.size + 9 ≤ (V.alloc (.cells #[.int .i64 x.1, .int .i64 x.2] 39)).heap.size by have := HV.out.2.2.2.2; have := HB.out.2.2.2; simp; omega)
      clear hq
      gi_wp2_with (refine wpListIn_append_pairs (B := w.heap.size + 9) (zs := pre) (ys := [x]) rfl (.tmp 17) (.tmp 21) rfl rfl rfl HO.out HR.out HLL.out HSZ.out hfn2 ?_)
      intro v6 w6 ho6 hg6
      have hge : ∀ g, (Value.slice va pre.length vc).ownBlock = some g → w.heap.size + 9 ≤ g := fun g e => (pown_block HO.out e).1
      have hb6 : Boxed w6 (w.heap.size + 1) 27 (.slice va pre.length vc) := by
        have h := HE.out.get HV.out.1
        exact (hg6.block _ (lt_of h) (fun e => by have := hge _ e.symm; omega)).trans h
      have hm6 : Boxed w6 w.heap.size 3 (.int .i64 mo) := by
        have h := HE.out.get HV.out.2.2.1
        exact (hg6.block _ (lt_of h) (fun e => by have := hge _ e.symm; omega)).trans h
      have HK6 := Lib.hid (And.intro ((keepsFrom_ext (B := w1.heap.size) HE.out).trans (keepsFrom_rowP hg6 (fun g e => by obtain ⟨-, cc, h⟩ := pown_block HO.out e; exact ⟨cc, _, _, h⟩))) ((Keep.ext (M := fun i => i = w.heap.size + 1 ∨ w.heap.size + 9 ≤ i) HE.out).trans (keep_rowP hg6 (fun g e => .inr (hge g e)))))
      have HX6 := Lib.hid (ext_rowP (HV.out.2.2.2.1.trans HE.out) hg6 (fun g e => by have := hge g e; omega))
      obtain ⟨vb, vd, rfl⟩ := prow_slice ho6.row
      have HO6 := Lib.hid ho6
      have HB6 := Lib.hid (And.intro hb6 hm6)
      have hce6 := hb6.cell
      have hfe6 := hb6.frozen
      clear hge hb6 hm6 ho6 hg6 hce hfe hcm
      gi_wp2
      have ho := HO6.out
      rw [show (pre ++ [x]).length = pre.length + 1 by simp] at ho
      exact ⟨HK6.out.1.trans (keepsFrom_set _ _ _), HK6.out.2.trans (Keep.setCell _ _ _ (.inl rfl)), ⟨_, HB6.out.1.set _, pown_set ho _ _ (by show w.heap.size + 1 < w.heap.size + 9; omega)⟩, HB6.out.2.other (by omega) _, by rw [List.length_append]; exact HQ.out, HX6.out.setCell (p := ⟨w.heap.size + 1, 0, none⟩) (Nat.le_succ _) _⟩
    · have hq' : (mo : Int) ≤ (pre.length : Int) := by omega
      have HQ := Lib.hid hq
      clear hq
      gi_wp2
      exact ⟨KeepsFrom.refl _ _, rfl, by rw [List.dropLast_concat]; exact ⟨⟨_, HV.out.1, HV.out.2.1⟩, HV.out.2.2.1, HLE.out, HV.out.2.2.2.1⟩, by rw [List.length_append]; have := HLE.out; have := HQ.out; simp; omega⟩
  case hdone =>
    rintro D V hD ⟨⟨v, hb, ho⟩, -, hle, hx⟩ hK
    have hce := hb.cell
    have HV := Lib.hid (And.intro ho (And.intro hle (And.intro hx (And.intro hD hK))))
    clear hb ho hle hx hD hK
    gi_wp2
    have hs1 := HB.out.2.2.2
    have hD := HV.out.2.2.2.1
    refine ⟨by simp, .inl ⟨_, _, rfl, run_takeDeferred HV.out.2.2.2.2, ?_⟩⟩
    refine ⟨v, by simp [results, Try.results11, go_sem], v, rfl, ?_, ext_putP HV.out.2.2.1 (by omega) _⟩
    rw [List.take_of_length_le HV.out.2.1]
    exact (pown_put HV.out.1 HV.out.2.2.2.2 rfl).mono (by omega)
  case hstop =>
    rintro D c q V hD hp ⟨rfl, ⟨⟨v, hb, ho⟩, -, hle, hx⟩, hq⟩ hK
    have hce := hb.cell
    have HV := Lib.hid (And.intro ho (And.intro hle (And.intro hx (And.intro hD (And.intro hK (And.intro hp hq))))))
    clear hb ho hle hx hD hK hp hq
    gi_wp2
    have hs1 := HB.out.2.2.2
    have hD := HV.out.2.2.2.1
    refine ⟨by simp, .inl ⟨_, _, rfl, run_takeDeferred HV.out.2.2.2.2.1, ?_⟩⟩
    refine ⟨v, by simp [results, Try.results11, go_sem], v, rfl, ?_, ext_putP HV.out.2.2.1 (by omega) _⟩
    rw [← col_take HV.out.2.2.2.2.2.1 HV.out.2.2.2.2.2.2]
    exact (pown_put HV.out.1 HV.out.2.2.2.2.1 rfl).mono (by omega)
/-- **collect**, of what goes over a tree's pairs. -/
theorem collect_any (w : World) (bq mo : Nat) (zs : List (Int × Int)) (hit : ∀ M : Nat → Prop, (∀ i, M i → w.heap.size ≤ i) → Iter 31 #[.pointer (some ⟨bq, 0, none⟩)] (fun z : Int × Int => #[Value.int .i64 z.1, .int .i64 z.2]) zs 5 M w) (hl : zs.length ≤ 5000) :
    Calls Try.prog 11 #[.func (.func 31) #[] #[.pointer (some ⟨bq, 0, none⟩)], .int .i64 mo] w (GivesP (zs.take mo) w) :=
  callsIn_wide.1 (collect_in 9 w bq mo zs hit hl)
end Go.Proofs.Ytkbndpemljommaa
