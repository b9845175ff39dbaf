/- Arguments that are predicates, or pairs, by value: opened, and shut. joinerylaw10.collect: at most so many pairs of what is gone over. joineryref30.Val; the law's own function (PickEach$1), which asks for pairs. pick.Each's going down (Each$1). pick.Each. joineryref30.Each. The walk of PickEach. -/
import Derived.Lib.SmallJoins
import Derived.ChangeArms
import Derived.ChangeShapes
import Derived.Test.YtoiohjifjmejkaaGreatM13
import Derived.Test.YtoiohjifjmejkaaGreatM45
import Derived.Test.YtoiohjifjmejkaaGreatM49
import Derived.Test.YtoiohjifjmejkaaGreatM51
import Derived.Test.YtoiohjifjmejkaaGreatM52
namespace Go.Proofs.YtoiohjifjmejkaaGreat
open Go Go.ChangeShapes Go.WideShapes Go.ChangeAt Go.RowKit Go.Joins

theorem aggCells23 : Tryz.prog.cellsOf 23 = 4 := by kernel_rfl
theorem aggCells25 : Tryz.prog.cellsOf 52 = 2 := by kernel_rfl
set_option maxRecDepth 100000 in
theorem open_pred {H : Type} {enc : TypeId × Value → H} {w : World} {base b0 : Nat} {spare : Nat → Bool} {held : Bool} {r : Reach} {v : Value} {d : DataW H} {p : List MemPlace}
    (hv : Value.okWide Tryz.prog w r b0 23 v) (h : DataW.Trod enc Tryz.prog w base spare held 23 v d p) :
    ∃ (kd : Nat) (a b : Int) (nt : Bool), v = .agg #[.int .u8 kd, .int .i64 a, .int .i64 b, .bool nt] ∧ p = [] ∧ kd < 256 ∧ I64 a ∧ I64 b ∧
      ∀ (W : World) (sp : Nat → Bool), DataW.Trod enc Tryz.prog W base sp held 23 v d [] := by
  obtain ⟨v0, v1, v2, v3, y0, y1, y2, y3, n, rfl, rfl, rfl, h0, h1, h2, h3⟩ := open_agg4 Tryz.underlying23 (by kernel_rfl) aggCells23 hv h
  obtain ⟨n0, e0, rfl, f0⟩ := DataW.trod_int (k := .u8) Tryz.underlying5 h0
  obtain ⟨n1, e1, rfl, f1⟩ := DataW.trod_int (k := .i64) Tryz.underlying2 h1
  obtain ⟨n2, e2, rfl, f2⟩ := DataW.trod_int (k := .i64) Tryz.underlying2 h2
  obtain ⟨bb, e3, rfl⟩ := DataW.trod_bool Tryz.underlying4 h3
  simp only [List.cons.injEq, and_true] at e0 e1 e2 e3
  subst e0 e1 e2 e3
  have g0 : 0 ≤ n0 ∧ n0 < 256 := by simp [Lit.wf, show IntKind.u8.min = 0 from rfl, show IntKind.u8.max = 255 from rfl] at f0; omega
  have g1 : I64 n1 := by simp [Lit.wf, show IntKind.i64.min = -9223372036854775808 from rfl, show IntKind.i64.max = 9223372036854775807 from rfl] at f1; unfold I64; omega
  have g2 : I64 n2 := by simp [Lit.wf, show IntKind.i64.min = -9223372036854775808 from rfl, show IntKind.i64.max = 9223372036854775807 from rfl] at f2; unfold I64; omega
  obtain ⟨m, rfl⟩ := Int.eq_ofNat_of_zero_le g0.1
  refine ⟨m, n1, n2, bb, rfl, rfl, by omega, g1, g2, fun W sp => ?_⟩
  exact shut_agg4 (y0 := (.lit (.int .u8 m), [])) (y1 := (.lit (.int .i64 n1), [])) (y2 := (.lit (.int .i64 n2), [])) (y3 := (.lit (.bool bb), [])) Tryz.underlying23 (by kernel_rfl) aggCells23
    ⟨1, by simp [DataW.trod, Tryz.underlying5, f0]⟩ ⟨1, by simp [DataW.trod, Tryz.underlying2, f1]⟩ ⟨1, by simp [DataW.trod, Tryz.underlying2, f2]⟩ ⟨1, by simp [DataW.trod, Tryz.underlying4]⟩
set_option maxRecDepth 100000 in
theorem open_pair {H : Type} {enc : TypeId × Value → H} {w : World} {base b0 : Nat} {spare : Nat → Bool} {held : Bool} {r : Reach} {v : Value} {d : DataW H} {p : List MemPlace}
    (hv : Value.okWide Tryz.prog w r b0 52 v) (h : DataW.Trod enc Tryz.prog w base spare held 52 v d p) :
    ∃ (a b : Int), v = .agg #[.int .i64 a, .int .i64 b] ∧ p = [] ∧ ∀ (W : World) (sp : Nat → Bool), DataW.Trod enc Tryz.prog W base sp held 52 v d [] := by
  obtain ⟨v1, v2, y1, y2, n, rfl, rfl, rfl, h1, h2⟩ := open_agg2 Tryz.underlying52 (by kernel_rfl) aggCells25 hv h
  obtain ⟨n1, e1, rfl, f1⟩ := DataW.trod_int (k := .i64) Tryz.underlying2 h1
  obtain ⟨n2, e2, rfl, f2⟩ := DataW.trod_int (k := .i64) Tryz.underlying2 h2
  simp only [List.cons.injEq, and_true] at e1 e2
  subst e1 e2
  refine ⟨n1, n2, rfl, rfl, fun W sp => ?_⟩
  exact shut_agg2 (y0 := (.lit (.int .i64 n1), [])) (y1 := (.lit (.int .i64 n2), [])) Tryz.underlying52 (by kernel_rfl) aggCells25
    ⟨1, by simp [DataW.trod, Tryz.underlying2, f1]⟩ ⟨1, by simp [DataW.trod, Tryz.underlying2, f2]⟩
end Go.Proofs.YtoiohjifjmejkaaGreat
namespace Go.Proofs.YtoiohjifjmejkaaGreat
open Go Go.RowKit Go.Shelf
attribute [local go_sem] Oper.semAt_some

theorem pown_block {B : Nat} {w : World} {v : Value} {zs : List (Int × Int)} (h : POwn B w v zs) {k : Nat} (hk : v.ownBlock = some k) : B ≤ k ∧ ∃ c, w.heap[k]? = some (.cells c 52 (0, 0)) := by
  obtain ⟨h1, ⟨rfl, -⟩ | ⟨g, cap, cur, rfl, hb, hg, hc⟩⟩ := h
  · cases hk
  · simp only [Value.ownBlock, Option.some.injEq] at hk
    subst hk
    exact ⟨hb, _, hg⟩
theorem keep_rowP {M : Nat → Prop} {W W' : World} {v : Value} (hg : W.grownBy W' v.ownBlock) (hv : ∀ g, v.ownBlock = some g → M g) : Keep M W W' :=
  ⟨hg.os, hg.tape, hg.output, hg.size, fun i _ _ _ hi hx => (hg.block i (lt_of hx) (fun e => hi (hv i e.symm))).trans hx⟩
theorem keepsFrom_rowP {B : Nat} {W W' : World} {v : Value} (hg : W.grownBy W' v.ownBlock) (hv : ∀ g, v.ownBlock = some g → ∃ c t f, W.heap[g]? = some (.cells c t f)) : KeepsFrom B W W' :=
  ⟨hg.size, fun k o _ hk ho => (hg.block k (lt_of hk) (fun e => by
    obtain ⟨c, t, f, h⟩ := hv k e.symm
    rw [hk] at h
    cases h
    cases ho)).trans hk⟩
theorem ext_rowP {w W W' : World} {v : Value} (h : Ext w W) (hg : W.grownBy W' v.ownBlock) (hv : ∀ g, v.ownBlock = some g → w.heap.size ≤ g) : Ext w W' := RowKit.Below.grown h hg h.size hv
theorem pown_set {B : Nat} {w : World} {v : Value} {zs : List (Int × Int)} (h : POwn B w v zs) (p : Addr) (u : Value) (hp : p.block < B) : POwn B (w.setCell p u) v zs := by
  obtain ⟨h1, h | ⟨g, cap, cur, hv, hb, hg, hc⟩⟩ := h
  · exact ⟨h1, .inl h⟩
  · exact ⟨h1, .inr ⟨g, cap, cur, hv, hb, (Below.heap_setCell _ _ _ _ (by omega)).trans hg, hc⟩⟩
theorem pown_put {B : Nat} {w : World} {v : Value} {zs : List (Int × Int)} (h : POwn B w v zs) {l : Nat} {o o' : Obj} (ho : w.heap[l]? = some o) (hc : o.isCells = false) : POwn B (w.putObj l o') v zs := by
  obtain ⟨h1, h | ⟨g, cap, cur, hv, hb, hg, hcc⟩⟩ := h
  · exact ⟨h1, .inl h⟩
  · exact ⟨h1, .inr ⟨g, cap, cur, hv, hb, (Keep.putObj (M := fun _ => False) w l o o' ho hc).cells _ _ _ _ (fun h => h) hg, hcc⟩⟩
theorem ext_putP {w V : World} (h : Ext w V) {l : Nat} (hl : w.heap.size ≤ l) (o : Obj) : Ext w (V.putObj l o) :=
  ⟨h.os, h.tape, h.output, Nat.le_trans h.size (grownBy_putObj' V l o).size, fun i hi => (World.putObj_heap_other (by omega)).trans (Below.block h i hi)⟩
theorem pairsV_nil (bq : Nat) (w : World) : (binOp .eql 79 (.func (.func 104) #[] #[.pointer (some ⟨bq, 0, none⟩)]) .nilFunc).run Tryz.prog w = .ok (.bool false) w := by kernel_rfl
/-- what has been put together so far, and how many at most. -/
def ColSt (w : World) (mo : Nat) (pre : List (Int × Int)) (V : World) : Prop :=
  (∃ v, Boxed V (w.heap.size + 1) 49 v ∧ POwn (w.heap.size + 9) V v pre) ∧ Boxed V w.heap.size 3 (.int .i64 mo) ∧ pre.length ≤ mo ∧ Ext w V
theorem ColSt.holds {w : World} {mo : Nat} {B : Nat} (hB : w.heap.size + 2 ≤ B) : Holds B (ColSt w mo) := by
  refine ⟨fun s V V' ⟨⟨v, h1, h2⟩, h3, h4, h5⟩ e => ⟨⟨v, e.get h1, h2.ext e⟩, e.get h3, h4, h5.trans e⟩, fun s V l o o' ⟨⟨v, h1, h2⟩, h3, h4, h5⟩ hl ho hc => ?_⟩
  have hk := Keep.putObj (M := fun _ => False) V l o o' ho hc
  exact ⟨⟨v, hk.boxed (fun h => h) h1, pown_put h2 ho hc⟩, hk.boxed (fun h => h) h3, h4, ext_putP h5 (by omega) o'⟩
theorem col_take {q zs : List (Int × Int)} {mo : Nat} (h : q <+: zs) (hq : q.length = mo + 1) : q.dropLast = zs.take mo := by
  obtain ⟨r, rfl⟩ := h
  rw [List.dropLast_eq_take, hq, Nat.add_sub_cancel, List.take_append_of_le_length (by omega)]
end Go.Proofs.YtoiohjifjmejkaaGreat
namespace Go.Proofs.YtoiohjifjmejkaaGreat
open Go Go.RowKit

/-- what becomes of a value. -/
def valI (m n k v : Int) : Int := wrap64 (wrap64 (m * v) + wrap64 (n * k))
theorem cells2 {w : World} {N : Nat} {x y : Value} {t : TypeId} (h : w.heap[N]? = some (.cells #[x, y] t (0, 0))) : w.cell? ⟨N, 0, none⟩ = some x ∧ w.cell? ⟨N, 1, none⟩ = some y := ⟨cell_of h 0, cell_of h 1⟩
theorem val30_any (w : World) (k v m n : Int) : Calls Tryz.prog 22 #[.agg #[.int .i64 k, .int .i64 v], .int .i64 m, .int .i64 n] w (Ret (.int .i64 (valI m n k v)) w) := by
  obtain ⟨c0, c1⟩ := cells2 (alloc_at w (.cells #[.int .i64 k, .int .i64 v] 52) _ rfl)
  have hE := (Ext.refl w).alloc (.cells #[.int .i64 k, .int .i64 v] 52)
  unfold valI
  go_enter Tryz.func22, Tryz.ntmps22
  go_wp2
  go_ret
  exact Ret.mk hE
/-- whatever has no pairs in it, but one block, is as it was. -/
structure KB (P : Nat) (W W' : World) : Prop where
  size : W.heap.size ≤ W'.heap.size
  same : ∀ (i : Nat) (c : Array Value) (t : TypeId) (f : Nat × Nat), i ≠ P → t ≠ 52 → t ≠ 49 → W.heap[i]? = some (.cells c t f) → W'.heap[i]? = some (.cells c t f)
theorem KB.refl (P : Nat) (W : World) : KB P W W := ⟨Nat.le_refl _, fun _ _ _ _ _ _ _ h => h⟩
theorem KB.trans {P : Nat} {a b c : World} (h : KB P a b) (k : KB P b c) : KB P a c := ⟨Nat.le_trans h.size k.size, fun i x t f h1 h2 h3 h4 => k.same i x t f h1 h2 h3 (h.same i x t f h1 h2 h3 h4)⟩
theorem KB.ext (P : Nat) {a b : World} (h : Ext a b) : KB P a b := ⟨h.size, fun _ _ _ _ _ _ _ hx => h.get hx⟩
theorem KB.bt {P : Nat} {a b : World} (h : Bt [P] a b) : KB P a b := ⟨h.size, fun i _ _ _ hi _ _ hx => h.get (by simpa using hi) hx⟩
theorem KB.inh {P c : Nat} {n : Int} {a b : World} (h : KB P a b) (hS : Sch P c n a) : ∀ {T : Tr}, InH a T → InH b T
  | .nil, _ => trivial
  | .node x l k v g r, ⟨h0, h1, h2⟩ => ⟨h.same _ _ _ _ (fun e => by
      subst e
      obtain ⟨cs, hc⟩ := hS.cells'
      rw [h0] at hc
      injection hc with hc
      injection hc with _ h2 _
      exact absurd h2 (by decide)) (by decide) (by decide) h0, KB.inh h hS h1, KB.inh h hS h2⟩
/-- what stands while the law's function asks: the row of pairs that were asked for; all that was there ahead of the law. -/
structure EJ (w : World) (P A bm bn B0 : Nat) (m n : Int) (pre : List (Int × Int)) (W : World) : Prop where
  ext : Ext w W
  row : ∃ v, Boxed W A 49 v ∧ POwn B0 W v pre
  cm : Boxed W bm 2 (.int .i64 m)
  cn : Boxed W bn 2 (.int .i64 n)
  nP : w.heap.size ≤ P ∧ P < B0
  nA : w.heap.size ≤ A ∧ A < B0 ∧ A ≠ P
  nB : bm ≠ P ∧ bn ≠ P ∧ bm ≠ A ∧ bn ≠ A ∧ bm < B0 ∧ bn < B0
  big : B0 ≤ W.heap.size
theorem EJ.more {w : World} {P A bm bn B0 : Nat} {m n : Int} {pre : List (Int × Int)} {W W' : World} (h : EJ w P A bm bn B0 m n pre W) (e : Ext W W') : EJ w P A bm bn B0 m n pre W' := by
  obtain ⟨v, h1, h2⟩ := h.row
  exact ⟨h.ext.trans e, ⟨v, e.get h1, h2.ext e⟩, e.get h.cm, e.get h.cn, h.nP, h.nA, h.nB, Nat.le_trans h.big e.size⟩
theorem pown_bt {B : Nat} {L : List Nat} {w w' : World} {v : Value} {zs : List (Int × Int)} (h : POwn B w v zs) (e : Bt L w w') (hL : ∀ P ∈ L, P < B) : POwn B w' v zs := by
  obtain ⟨h1, h | ⟨g, cap, cur, hv, hb, hg, hc⟩⟩ := h
  · exact ⟨h1, .inl h⟩
  · exact ⟨h1, .inr ⟨g, cap, cur, hv, hb, e.get (fun hm => by have := hL _ hm; omega) hg, hc⟩⟩
theorem EJ.bt {w : World} {P A bm bn B0 : Nat} {m n : Int} {pre : List (Int × Int)} {W W' : World} (h : EJ w P A bm bn B0 m n pre W) (e : Bt [P] W W') : EJ w P A bm bn B0 m n pre W' := by
  obtain ⟨v, h1, h2⟩ := h.row
  exact ⟨Bt.out h.ext (by simpa using h.nP.1) e, ⟨v, e.get (by simpa using h.nA.2.2) h1, pown_bt h2 e (by simpa using h.nP.2)⟩, e.get (by simpa using h.nB.1) h.cm, e.get (by simpa using h.nB.2.1) h.cn, h.nP, h.nA, h.nB, Nat.le_trans h.big e.size⟩
/-- what asking for a pair gives. -/
def AsksP (w : World) (P A bm bn B0 : Nat) (m n : Int) (pre : List (Int × Int)) (k v : Int) (W : World) (e : Ending) (W' : World) : Prop :=
  e = .returned (.int .i64 (valI m n k v)) ∧ EJ w P A bm bn B0 m n (pre ++ [(k, v)]) W' ∧ KB P W W' ∧ W'.heap[P]? = W.heap[P]?
set_option maxRecDepth 100000 in
set_option maxHeartbeats 1000000 in
theorem eachOf_any (w : World) (P A bm bn B0 : Nat) (m n : Int) (pre : List (Int × Int)) (k v : Int) (W : World) (h : EJ w P A bm bn B0 m n pre W) (hl : pre.length ≤ 5000) :
    Calls Tryz.prog 21 #[.agg #[.int .i64 k, .int .i64 v], .pointer (some ⟨A, 0, none⟩), .pointer (some ⟨bm, 0, none⟩), .pointer (some ⟨bn, 0, none⟩)] W (AsksP w P A bm bn B0 m n pre k v W) := by
  have hb := alloc_at W (.cells #[.int .i64 k, .int .i64 v] 52) _ rfl
  have hE := (Ext.refl W).alloc (.cells #[.int .i64 k, .int .i64 v] 52)
  have hE2 := (Ext.refl (W.alloc (.cells #[.int .i64 k, .int .i64 v] 52))).alloc (.cells #[.int .i64 k, .int .i64 v] 52)
  obtain ⟨u, hu, ho⟩ := h.row
  obtain ⟨va, vc, rfl⟩ := prow_slice ho.row
  have hlt := fun g (e : (Value.slice va pre.length vc).ownBlock = some g) => (And.intro (pown_block ho e).1 (And.intro (World.ownsRow.lt ho g e) (pown_block ho e).2))
  obtain ⟨c0, c1⟩ := cells2 hb
  have hca := (show Boxed _ A 49 _ from hE.get hu).cell
  have hr := (pown_new (B := B0) (w := W.alloc (.cells #[.int .i64 k, .int .i64 v] 52)) (k, v) (Nat.le_trans h.big hE.size)).row
  rw [World.size_alloc] at hr
  have HR := Lib.hid hr
  have HL := Lib.hid hl
  have HJ := Lib.hid (And.intro h (And.intro hu (ho.ext (hE.trans hE2))))
  have HE := Lib.hid (And.intro (hE.trans hE2) (hE2.get hb))
  have HG := Lib.hid hlt
  have HBG := Lib.hid (Nat.le_trans h.big (hE.trans hE2).size)
  have hfa := (show Boxed _ A 49 _ from (hE.trans hE2).get hu).frozen
  clear hb hE hE2 hu ho h hl hr hlt
  go_enter Tryz.func21, Tryz.ntmps21
  go_wp2_with (at_builtin; refine wpList_append_pairs (B := B0) (zs := pre) (ys := [(k, v)]) rfl (.tmp 6) (.tmp 8) rfl rfl rfl HJ.out.2.2 HR.out ?b1 HBG.out ?_)
  case b1 => exact Nat.le_trans HL.out (by decide)
  intro v6 w6 ho6 hg6
  clear c0 c1 hca hfa
  obtain ⟨vb, vd, rfl⟩ := prow_slice ho6.row
  rw [show (pre ++ [(k, v)]).length = pre.length + 1 by simp] at ho6 ⊢
  have hJ := HJ.out.1
  have hne : ∀ i, i < B0 → (Value.slice va pre.length vc).ownBlock ≠ some i := fun i hi e => by have := (HG.out i e).1; omega
  have hA6 : w6.heap[A]? = _ := (hg6.block A (lt_of (HE.out.1.get HJ.out.2.1)) (fun e => hne A hJ.nA.2.1 e.symm)).trans (HE.out.1.get HJ.out.2.1)
  have hm6 : w6.heap[bm]? = _ := (hg6.block bm (lt_of (HE.out.1.get hJ.cm)) (fun e => hne bm hJ.nB.2.2.2.2.1 e.symm)).trans (HE.out.1.get hJ.cm)
  have hn6 : w6.heap[bn]? = _ := (hg6.block bn (lt_of (HE.out.1.get hJ.cn)) (fun e => hne bn hJ.nB.2.2.2.2.2 e.symm)).trans (HE.out.1.get hJ.cn)
  have hx6 : w6.heap[W.heap.size]? = _ := (hg6.block W.heap.size (lt_of HE.out.2) (fun e => by have := (HG.out _ e.symm).2.1; omega)).trans HE.out.2
  have he6 := ext_rowP (hJ.ext.trans HE.out.1) hg6 (fun g e => by have := (HG.out g e).1; have := hJ.nP; omega)
  have hlA : A < W.heap.size := lt_of HJ.out.2.1
  have HF := Lib.hid (And.intro ho6 (And.intro hA6 (And.intro hm6 (And.intro hn6 (And.intro hx6 (And.intro he6 (And.intro hg6 hlA)))))))
  have hcA := (show Boxed w6 A 49 _ from hA6).cell
  have hfA := (show Boxed w6 A 49 _ from hA6).frozen
  have hx7 : (w6.setCell ⟨A, 0, none⟩ (.slice vb (pre.length + 1) vd)).heap[W.heap.size]? = _ := (Below.heap_setCell _ _ _ _ (by show W.heap.size ≠ A; omega)).trans hx6
  obtain ⟨x0, x1⟩ := cells2 hx7
  have m7 := (Boxed.other (show Boxed w6 bm 2 _ from hm6) hJ.nB.2.2.1 (.slice vb (pre.length + 1) vd)).cell
  have n7 := (Boxed.other (show Boxed w6 bn 2 _ from hn6) hJ.nB.2.2.2.1 (.slice vb (pre.length + 1) vd)).cell
  clear hA6 hm6 hn6 hx6 he6 hg6 ho6 hx7 hlA hJ hne
  go_wp2_with fail
  clear hcA hfA x0 x1 m7 n7
  refine (val30_any _ k v m n).mono ?_
  rintro e w8 ⟨rfl, h8⟩
  go_wp2
  go_ret
  have hJ := HJ.out.1
  obtain ⟨ho6, hA6, hm6, hn6, hx6, he6, hg6, hlA⟩ := HF.out
  have hs := (show Boxed w6 A 49 _ from hA6).set (.slice vb (pre.length + 1) vd)
  have ho7 := pown_set ho6 ⟨A, 0, none⟩ (.slice vb (pre.length + 1) vd) hJ.nA.2.1
  have hm7 := Boxed.other (show Boxed w6 bm 2 _ from hm6) hJ.nB.2.2.1 (.slice vb (pre.length + 1) vd)
  have hn7 := Boxed.other (show Boxed w6 bn 2 _ from hn6) hJ.nB.2.2.2.1 (.slice vb (pre.length + 1) vd)
  have he7 := he6.setCell (p := ⟨A, 0, none⟩) hJ.nA.1 (.slice vb (pre.length + 1) vd)
  have hz7 : W.heap.size ≤ (w6.setCell ⟨A, 0, none⟩ (.slice vb (pre.length + 1) vd)).heap.size := Nat.le_trans HE.out.1.size (Nat.le_trans hg6.size (by simp [World.setCell]))
  have hk7 : KB P W (w6.setCell ⟨A, 0, none⟩ (.slice vb (pre.length + 1) vd)) := ⟨hz7, fun i c t f hi h1 h2 hx => by
    have hx2 := HE.out.1.get hx
    rw [Below.heap_setCell _ _ _ _ (fun e => by
      subst e
      have hh := HJ.out.2.1
      rw [show _ = _ from hh] at hx
      injection hx with hx
      injection hx with _ hx _
      exact h2 hx.symm)]
    refine (hg6.block i (lt_of hx2) (fun e => ?_)).trans hx2
    obtain ⟨-, -, cc, hcc⟩ := HG.out i e.symm
    rw [hx] at hcc
    injection hcc with hcc
    injection hcc with _ hcc _
    exact h1 hcc⟩
  have hp7 : (w6.setCell ⟨A, 0, none⟩ (.slice vb (pre.length + 1) vd)).heap[P]? = W.heap[P]? := by
    have hPl : P < W.heap.size := Nat.lt_of_lt_of_le hJ.nP.2 hJ.big
    rw [Below.heap_setCell _ _ _ _ (Ne.symm hJ.nA.2.2), hg6.block P (Nat.lt_of_lt_of_le hPl HE.out.1.size) (fun e => by have := (HG.out P e.symm).1; have := hJ.nP.2; omega)]
    exact Below.block HE.out.1 P hPl
  refine ⟨rfl, ⟨(show Ext w _ from he7).trans h8, ⟨_, h8.get hs, ho7.ext h8⟩, h8.get hm7, h8.get hn7, hJ.nP, hJ.nA, hJ.nB, Nat.le_trans hJ.big (Nat.le_trans hz7 h8.size)⟩, hk7.trans (KB.ext P h8), ?_⟩
  rw [← hp7]
  exact Below.block h8 P (Nat.lt_of_lt_of_le (Nat.lt_of_lt_of_le hJ.nP.2 hJ.big) hz7)
end Go.Proofs.YtoiohjifjmejkaaGreat
namespace Go.Proofs.YtoiohjifjmejkaaGreat
open Go Go.RowKit

/-- a tree whose values are others. -/
structure EachC (c : Nat) (f : Int → Int → Int) (T U : Tr) : Prop where
  may : MayC c U
  its : itsC c U = (itsC c T).map (fun z => (z.1, f z.1 z.2.1, z.2.2))
theorem EachC.nil (c : Nat) (f : Int → Int → Int) : EachC c f .nil .nil := ⟨MayC.nil c, by rw [itsC_nil]; rfl⟩
theorem EachC.count {c : Nat} {f : Int → Int → Int} {T U : Tr} (h : EachC c f T U) : U.count = T.count := by
  rw [← itsC_len c U, h.its, List.length_map, itsC_len]
theorem EachC.node {c n b : Nat} {f : Int → Int → Int} {l r L R U : Tr} {k v g : Int} (hl : EachC c f l L) (hr : EachC c f r R)
    (hU : JoinC n c L R (rootIt c (.node b l k v g r)).1 (f (rootIt c (.node b l k v g r)).1 (rootIt c (.node b l k v g r)).2.1) (rootIt c (.node b l k v g r)).2.2 U) : EachC c f (.node b l k v g r) U := by
  refine ⟨hU.may, ?_⟩
  rw [hU.its, hl.its, hr.its, itsC_node, ← rootIt_it c b l k v g r, List.map_append, List.map_cons]
  congr 2
  unfold itC rootIt
  split <;> rfl
/-- the boxes of the going down. -/
structure EB (P bo bs bf A bm bn : Nat) (W : World) : Prop where
  no : bo ≠ P
  ns : bs ≠ P
  nf : bf ≠ P
  on : Boxed W bo 87 (.func (.func 48) #[] #[.pointer (some ⟨bo, 0, none⟩), .pointer (some ⟨bs, 0, none⟩), .pointer (some ⟨bf, 0, none⟩)])
  sc : Boxed W bs 25 (.pointer (some ⟨P, 0, none⟩))
  fn : Boxed W bf 54 (.func (.func 21) #[] #[.pointer (some ⟨A, 0, none⟩), .pointer (some ⟨bm, 0, none⟩), .pointer (some ⟨bn, 0, none⟩)])
theorem EB.kb {P bo bs bf A bm bn : Nat} {W W' : World} (h : EB P bo bs bf A bm bn W) (e : KB P W W') : EB P bo bs bf A bm bn W' :=
  ⟨h.no, h.ns, h.nf, e.same _ _ _ _ h.no (by decide) (by decide) h.on, e.same _ _ _ _ h.ns (by decide) (by decide) h.sc, e.same _ _ _ _ h.nf (by decide) (by decide) h.fn⟩
theorem KB.cut {P : Nat} {w W : World} (h : KB P w W) {b : Nat} (hb : w.heap.size ≤ b) (j : Nat) (u : Value) : KB P w (W.setCell ⟨b, j, none⟩ u) :=
  ⟨Nat.le_trans h.size (by simp [World.setCell]), fun i c t f h1 h2 h3 hx => (Below.heap_setCell _ _ _ _ (by have := lt_of hx; show i ≠ b; omega)).trans (h.same i c t f h1 h2 h3 hx)⟩
theorem ty_ne {W : World} {i j : Nat} {c c' : Array Value} {t t' : TypeId} {f f' : Nat × Nat} (h : W.heap[i]? = some (.cells c t f)) (h' : W.heap[j]? = some (.cells c' t' f')) (ht : t ≠ t') : i ≠ j := by
  rintro rfl
  rw [h] at h'
  injection h' with h'
  injection h' with _ h' _
  exact ht h'
theorem EJ.item {w : World} {P A bm bn B0 : Nat} {m n : Int} {pre : List (Int × Int)} {W : World} (h : EJ w P A bm bn B0 m n pre W) {bx : Nat} {cs : Array Value} {f : Nat × Nat} (hb : W.heap[bx]? = some (.cells cs 66 f)) (hw : w.heap.size ≤ bx) (j : Nat) (u : Value) :
    EJ w P A bm bn B0 m n pre (W.setCell ⟨bx, j, none⟩ u) := by
  obtain ⟨v, h1, h2⟩ := h.row
  have keep : ∀ {i : Nat} {c : Array Value} {t : TypeId}, t ≠ 66 → W.heap[i]? = some (.cells c t (0, 0)) → (W.setCell ⟨bx, j, none⟩ u).heap[i]? = some (.cells c t (0, 0)) := fun ht hx => (Below.heap_setCell _ _ _ _ (ty_ne hx hb ht)).trans hx
  refine ⟨h.ext.setCell (p := ⟨bx, j, none⟩) hw u, ⟨v, keep (by decide) h1, ?_⟩, keep (by decide) h.cm, keep (by decide) h.cn, h.nP, h.nA, h.nB, Nat.le_trans h.big (by simp [World.setCell])⟩
  obtain ⟨k1, k2 | ⟨g, cap, cur, hv, hb2, hg, hc⟩⟩ := h2
  · exact ⟨k1, .inl k2⟩
  · exact ⟨k1, .inr ⟨g, cap, cur, hv, hb2, keep (by decide) hg, hc⟩⟩
theorem Kp.kb {P : Nat} {K : List Nat} {W W' : World} (h : KB P W W') (hk : ∀ i ∈ K, i ≠ P ∧ ∃ (c : Array Value) (t : TypeId) (f : Nat × Nat), t ≠ 52 ∧ t ≠ 49 ∧ W.heap[i]? = some (.cells c t f)) : Kp K W W' := fun i hi o ho => by
  obtain ⟨h1, c, t, f, h2, h3, hc⟩ := hk i hi
  rw [hc] at ho
  cases ho
  exact h.same i c t f h1 h2 h3 hc
/-- what the going down gives. -/
def EachPost (w0 : World) (P c A bm bn B0 : Nat) (m n : Int) (pre : List (Int × Int)) (T : Tr) (w : World) (e : Ending) (w' : World) : Prop :=
  ∃ (U : Tr) (q : Int), e = .returned (.pointer U.ptr) ∧ Sch P c q w' ∧ InH w' U ∧ EachC c (valI m n) T U ∧ EJ w0 P A bm bn B0 m n (pre ++ T.inl.map kvT) w' ∧ KB P w w'
set_option maxRecDepth 100000 in
set_option maxHeartbeats 4000000 in
theorem eachOn_any (w0 : World) (P c A bm bn B0 bo bs bf : Nat) (m n : Int) (T : Tr) : ∀ (w : World) (nn : Int) (pre : List (Int × Int)), Sch P c nn w → InH w T → PartC c T → T.count ≤ 2000 → EB P bo bs bf A bm bn w → EJ w0 P A bm bn B0 m n pre w → pre.length + T.count ≤ 5000 →
    Calls Tryz.prog 48 #[.pointer T.ptr, .pointer (some ⟨bo, 0, none⟩), .pointer (some ⟨bs, 0, none⟩), .pointer (some ⟨bf, 0, none⟩)] w (EachPost w0 P c A bm bn B0 m n pre T w) := by
  have hfn : ∀ f, Fence.wide.fn f := fun _ => trivial
  induction T with
  | nil =>
    intro w nn pre hS _ _ _ _ hJ _
    rw [Tr.ptr_nil]
    have HS := Lib.hid (And.intro hS hJ)
    clear hS hJ
    go_enter Tryz.func48, Tryz.ntmps48
    go_wp2
    go_ret
    exact ⟨.nil, nn, rfl, HS.out.1, trivial, EachC.nil _ _, by simpa [Tr.inl] using HS.out.2, KB.refl _ _⟩
  | node bb l k v g r ihl ihr =>
    intro w nn pre hS hT hp hc hB hJ hl
    have Hl := Lib.hid ihl
    have Hr := Lib.hid ihr
    have HS := Lib.hid (And.intro hS (And.intro hT (And.intro hB hJ)))
    have HP := Lib.hid (And.intro (partC_sides hS.four hp) (show l.count + r.count + 1 ≤ 2000 ∧ pre.length + l.count + r.count + 1 ≤ 5000 by rw [Tr.count_node] at hc hl; omega))
    have hco := cell_all hB.on.cell
    clear ihl ihr hB hS hT hp hc hJ hl
    have hx := Ext.drew w
    obtain ⟨mm⟩ : Nonempty Nat := ⟨0⟩
    rw [Tr.ptr_node]
    go_enter Tryz.func48, Tryz.ntmps48
    go_wp2_with fail
    refine (wpIn_wide (n := mm)).1 ?_
    gi_wp2_with fail
    refine wpIn_region_G (fun j => !(List.contains (α := Nat) [3] j)) (by kernel_rfl) ?_
    refine batchG hfn (fuel := 3) [0, 1] (by kernel_rfl) rfl ?_
    repeat (go_big_quiet_step ((fail)))
    refine wpQuiet_nil ?_
    clear hco
    refine wpAnyG_one (j := 2) (by kernel_rfl) rfl ?_
    gi_wp2_with fail
    rw [← Tr.ptr_node bb l k v g r]
    refine ⟨wide_room _, (callsIn_wide.2 (left_any _ _ (HS.out.2.1.ext hx))).mono ?_⟩
    rintro e w1 ⟨rfl, h1⟩
    gi_wp2_with fail
    refine onePost_ext (h1) ?_
    replace hx := hx.trans h1
    clear h1
    refine wpAnyG_one (j := 3) (by kernel_rfl) rfl ?_
    gi_wp2_with fail
    simp only [Tr.left_node]
    refine ⟨wide_room _, (callsIn_wide.2 (Hl.out w1 nn pre (HS.out.1.ext hx) (HS.out.2.1.ext hx).2.1 HP.out.1.1 (by have := HP.out.2; omega) (HS.out.2.2.1.kb (KB.ext P hx)) (HS.out.2.2.2.more hx) (by have := HP.out.2; omega))).mono ?_⟩
    rintro e w2 ⟨U1, q2, rfl, S2, i2, k2, J2, K2⟩
    gi_wp2_with fail
    refine onePost_any (by kernel_rfl) ?_
    refine batchG hfn (fuel := 0) [4] (by kernel_rfl) rfl ?_
    repeat (go_big_quiet_step ((fail)))
    refine wpQuiet_nil ?_
    refine wpAnyG_done (by kernel_rfl) ?_
    refine calmQ_normal ?_
    have HK2 := Lib.hid ((KB.ext P hx).trans K2)
    have H2 := Lib.hid (And.intro S2 (And.intro (HK2.out.inh HS.out.1 HS.out.2.1) (And.intro i2 (And.intro k2 (And.intro J2 (HS.out.2.2.1.kb HK2.out))))))
    clear hx S2 i2 k2 J2 K2
    have hcs := H2.out.2.2.2.2.2.sc.cell
    rw [Tr.ptr_node]
    go_wp2_with fail
    rw [← Tr.ptr_node bb l k v g r]
    refine (schItemM_any H2.out.1 H2.out.2.1 (fun h => by cases h)).mono ?_
    rw [rootIt_item]
    unfold itV
    rintro e w3 ⟨x, rfl, B3, S3, rfl⟩
    rw [Tr.ptr_node]
    have HZ := Lib.hid (show ∀ (n' : Nat) (R U : Tr), EachC c (valI m n) r R → JoinC n' c U1 R (rootIt c (.node bb l k v g r)).1 (valI m n (rootIt c (.node bb l k v g r)).1 (rootIt c (.node bb l k v g r)).2.1) (rootIt c (.node bb l k v g r)).2.2 U → EachC c (valI m n) (.node bb l k v g r) U from fun n' R U hR hU => EachC.node H2.out.2.2.2.1 hR hU)
    have HZ1 := Lib.hid (show (rootIt c (.node bb l k v g r)).1 = k ∧ (rootIt c (.node bb l k v g r)).2.1 = v from ⟨rfl, rfl⟩)
    generalize rootIt c (.node bb l k v g r) = z at *
    obtain ⟨z0, z1, z2⟩ := z
    have hE := (Ext.refl w3).alloc (.cells #[.int .i64 z0, .int .i64 z1, .int .u64 z2] 66)
    have hb := alloc_at w3 (.cells #[.int .i64 z0, .int .i64 z1, .int .u64 z2] 66) _ rfl
    obtain ⟨d0, d1, d2, -⟩ := cells3 hb
    have hk4 := (KB.bt B3).trans (KB.ext P hE)
    have H4 := Lib.hid (And.intro (S3.ext hE) (And.intro (hk4.inh H2.out.1 H2.out.2.1) (And.intro (hk4.inh H2.out.1 H2.out.2.2.1) (And.intro ((H2.out.2.2.2.2.1.bt B3).more hE) (And.intro (H2.out.2.2.2.2.2.kb hk4) (And.intro (HK2.out.trans hk4) hb))))))
    have HBX := Lib.hid (show w.heap.size ≤ w3.heap.size ∧ P < w3.heap.size from ⟨Nat.le_trans HK2.out.size (KB.bt B3).size, S3.sch.lt⟩)
    have hcf := H4.out.2.2.2.2.1.fn.cell
    clear hE hb hk4 B3 S3 hcs
    go_wp2_with fail
    clear d0 d1 d2 hcf
    generalize w3.alloc (.cells #[.int .i64 z0, .int .i64 z1, .int .u64 z2] 66) = w4 at *
    generalize w3.heap.size = bx at *
    have HLP := Lib.hid (show (pre ++ l.inl.map kvT).length ≤ 5000 ∧ (pre ++ l.inl.map kvT ++ [(z0, z1)]).length + r.count ≤ 5000 by
      have := HP.out.2.2
      rw [List.length_append, List.length_append, List.length_append, List.length_map, inl_len]
      simp; omega)
    refine (eachOf_any w0 P A bm bn B0 m n _ z0 z1 w4 H4.out.2.2.2.1 HLP.out.1).mono ?_
    rintro e w5 ⟨rfl, J5, K5, hP5⟩
    have hx5 := K5.same bx _ _ _ (by have := HBX.out.2; omega) (by decide) (by decide) H4.out.2.2.2.2.2.2
    obtain ⟨d0, d1, d2, df⟩ := cells3 hx5
    have hw0 : w0.heap.size ≤ bx := Nat.le_trans HS.out.2.2.2.ext.size HBX.out.1
    have hbt6 : Bt [bx] w5 (w5.setCell ⟨bx, 1, none⟩ (.int .i64 (valI m n z0 z1))) := (Bt.refl _ _).set _ _ (by simp)
    have hnn : ∀ k ∈ [bx], NoNode w5 k := fun k hk => by rw [List.mem_singleton.1 hk]; exact ⟨_, _, hx5, by decide⟩
    have hx6 : (w5.setCell ⟨bx, 1, none⟩ (.int .i64 (valI m n z0 z1))).heap[bx]? = some (.cells #[.int .i64 z0, .int .i64 (valI m n z0 z1), .int .u64 z2] 66 (0, 0)) := by
      simp [World.setCell, Array.getElem?_modify, hx5]
    have hS6 : SchM P c q2 (w5.setCell ⟨bx, 1, none⟩ (.int .i64 (valI m n z0 z1))) := ⟨H4.out.1.1, H4.out.1.2.1, by
      have h := H4.out.1.2.2
      unfold SchAt at h ⊢
      rw [Below.heap_setCell _ _ _ _ (by show P ≠ bx; have := HBX.out.2; omega), hP5]
      exact h⟩
    have hk6 := (H4.out.2.2.2.2.2.1.trans K5).cut HBX.out.1 1 (.int .i64 (valI m n z0 z1))
    have H6 := Lib.hid (And.intro hS6 (And.intro ((K5.inh H4.out.1.sch H4.out.2.1).bt hbt6 hnn) (And.intro ((K5.inh H4.out.1.sch H4.out.2.2.1).bt hbt6 hnn) (And.intro (J5.item hx5 hw0 1 (.int .i64 (valI m n z0 z1))) (And.intro (HS.out.2.2.1.kb hk6) (And.intro hk6 hx6))))))
    clear J5 K5 hP5 hx5 hw0 hbt6 hnn hx6 hS6 hk6 H4
    go_wp2_with fail
    clear d0 d1 d2 df
    generalize w5.setCell ⟨bx, 1, none⟩ (.int .i64 (valI m n z0 z1)) = w6 at *
    refine (wpIn_wide (n := mm)).1 ?_
    gi_wp2_with fail
    obtain ⟨d0, d1, d2, -⟩ := cells3 H6.out.2.2.2.2.2.2
    have c0 := cell_allK (K := [bs, bx, bo]) (by simp) H6.out.2.2.2.2.1.sc.cell
    have c1 := cell_allK (K := [bs, bx, bo]) (by simp) H6.out.2.2.2.2.1.on.cell
    replace d0 := cell_allK (K := [bs, bx, bo]) (by simp) d0
    replace d1 := cell_allK (K := [bs, bx, bo]) (by simp) d1
    replace d2 := cell_allK (K := [bs, bx, bo]) (by simp) d2
    have hx := Kp.drew [bs, bx, bo] w6
    refine wpIn_region_GK (fun j => !(List.contains (α := Nat) [] j)) [bs, bx, bo] (by kernel_rfl) ?_
    refine batchGK hfn (fuel := 4) [0, 1, 2, 3, 4] (by kernel_rfl) rfl ?_
    repeat (go_big_quiet_step ((fail)))
    refine wpQuiet_nil ?_
    clear c0 c1 d0 d1 d2 hx
    have hxd := Ext.drew w6
    refine wpAnyG_oneK (j := 5) (by kernel_rfl) rfl ?_
    gi_wp2_with fail
    rw [← Tr.ptr_node bb l k v g r]
    refine ⟨wide_room _, (callsIn_wide.2 (right_any _ _ (H6.out.2.1.ext hxd))).mono ?_⟩
    rintro e w7 ⟨rfl, h7⟩
    gi_wp2_with fail
    refine onePost_extK (Kp.ext _ h7) ?_
    replace hxd := hxd.trans h7
    clear h7
    refine wpAnyG_oneK (j := 6) (by kernel_rfl) rfl ?_
    gi_wp2_with fail
    simp only [Tr.right_node]
    refine ⟨wide_room _, (callsIn_wide.2 (Hr.out w7 q2 _ (H6.out.1.ext hxd).sch (H6.out.2.1.ext hxd).2.2 HP.out.1.2 (by have := HP.out.2.1; omega) (H6.out.2.2.2.2.1.kb (KB.ext P hxd)) (H6.out.2.2.2.1.more hxd) HLP.out.2)).mono ?_⟩
    rintro e w8 ⟨U2, q8, rfl, S8, i8, k8, J8, K8⟩
    have hEB7 := H6.out.2.2.2.2.1.kb (KB.ext P hxd)
    have hKp : Kp [bs, bx, bo] w7 w8 := Kp.kb K8 (fun i hi => by
      simp only [List.mem_cons, List.not_mem_nil, or_false] at hi
      rcases hi with rfl | rfl | rfl
      · exact ⟨hEB7.ns, _, _, _, by decide, by decide, hEB7.sc⟩
      · exact ⟨by have := HBX.out.2; omega, _, _, _, by decide, by decide, hxd.get H6.out.2.2.2.2.2.2⟩
      · exact ⟨hEB7.no, _, _, _, by decide, by decide, hEB7.on⟩)
    gi_wp2_with fail
    refine onePost_extK (hKp) ?_
    clear hKp hEB7
    have hi1 := K8.inh (H6.out.1.ext hxd).sch (H6.out.2.2.1.ext hxd)
    have HJ := schJoinM_any S8 (L := U1) (R := U2) z0 (valI m n z0 z1) z2 hi1 i8 H2.out.2.2.2.1.may.part k8.may.part (by rw [H2.out.2.2.2.1.count, k8.count]; have := HP.out.2.1; omega) _ (Nat.le_refl _) (news_zero (Nat.le_refl _) hi1) (news_zero (Nat.le_refl _) i8)
    unfold itV at HJ
    refine wpAnyG_oneK (j := 7) (by kernel_rfl) rfl ?_
    gi_wp2_with fail
    refine ⟨wide_room _, (callsIn_wide.2 HJ).mono ?_⟩
    rintro e w9 ⟨x, rfl, B9, S9, U, rfl, iU, okU⟩
    gi_wp2_with fail
    refine onePost_extK (Kp.bt B9 (fun i hi => by simp only [List.mem_cons, List.not_mem_nil, or_false] at hi; rcases hi with rfl | rfl | rfl <;> simp <;> first | exact H6.out.2.2.2.2.1.ns | exact H6.out.2.2.2.2.1.no | (have := HBX.out.2; omega))) ?_
    clear HJ hi1
    have HF := Lib.hid (And.intro S9.sch (And.intro iU (And.intro (HZ.out _ U2 U k8 okU) (And.intro (J8.bt B9) (((H6.out.2.2.2.2.2.1.trans (KB.ext P hxd)).trans K8).trans (KB.bt B9))))))
    clear S8 i8 k8 J8 K8 B9 S9 iU okU hxd
    refine batchGK hfn (fuel := 0) [8] (by kernel_rfl) rfl ?_
    repeat (go_big_quiet_step ((fail)))
    refine wpQuiet_nil ?_
    refine wpAnyG_doneK (by kernel_rfl) ?_
    refine calmQ_normal ?_
    go_wp2
    go_ret
    obtain ⟨e0, e1⟩ := HZ1.out
    have e0' : z0 = k := e0
    have e1' : z1 = v := e1
    exact ⟨U, _, rfl, HF.out.1, HF.out.2.1, HF.out.2.2.1, by have h := HF.out.2.2.2.1; rw [e0', e1'] at h; simpa [Tr.inl, kvT, Tr.key, Tr.val, List.append_assoc] using h, HF.out.2.2.2.2⟩
end Go.Proofs.YtoiohjifjmejkaaGreat
namespace Go.Proofs.YtoiohjifjmejkaaGreat
open Go Go.RowKit

theorem each_fne (A bm bn : Nat) (w : World) : (binOp .eql 54 (.func (.func 21) #[] #[.pointer (some ⟨A, 0, none⟩), .pointer (some ⟨bm, 0, none⟩), .pointer (some ⟨bn, 0, none⟩)]) .nilFunc).run Tryz.prog w = .ok (.bool false) w := by kernel_rfl
set_option maxRecDepth 100000 in
set_option maxHeartbeats 4000000 in
theorem pikEach_any (w0 : World) (P c A bm bn B0 : Nat) (m n : Int) (T : Tr) (w : World) (nn : Int) (hS : Sch P c nn w) (hT : InH w T) (hp : PartC c T) (hc : T.count ≤ 2000) (hJ : EJ w0 P A bm bn B0 m n [] w) :
    Calls Tryz.prog 20 #[.pointer (some ⟨P, 0, none⟩), .pointer T.ptr, .func (.func 21) #[] #[.pointer (some ⟨A, 0, none⟩), .pointer (some ⟨bm, 0, none⟩), .pointer (some ⟨bn, 0, none⟩)]] w (EachPost w0 P c A bm bn B0 m n [] T w) := by
  have hfe := each_fne A bm bn
  have hE := ((Ext.refl w).alloc (.cells #[.pointer (some ⟨P, 0, none⟩)] 25)).alloc (.cells #[.func (.func 21) #[] #[.pointer (some ⟨A, 0, none⟩), .pointer (some ⟨bm, 0, none⟩), .pointer (some ⟨bn, 0, none⟩)]] 54)
  have hbs := ((Ext.refl _).alloc (.cells #[.func (.func 21) #[] #[.pointer (some ⟨A, 0, none⟩), .pointer (some ⟨bm, 0, none⟩), .pointer (some ⟨bn, 0, none⟩)]] 54)).get (alloc_at w (.cells #[.pointer (some ⟨P, 0, none⟩)] 25) _ rfl)
  have hbf := alloc_at (w.alloc (.cells #[.pointer (some ⟨P, 0, none⟩)] 25)) (.cells #[.func (.func 21) #[] #[.pointer (some ⟨A, 0, none⟩), .pointer (some ⟨bm, 0, none⟩), .pointer (some ⟨bn, 0, none⟩)]] 54) _ rfl
  rw [World.size_alloc] at hbf
  have hsz : ((w.alloc (.cells #[.pointer (some ⟨P, 0, none⟩)] 25)).alloc (.cells #[.func (.func 21) #[] #[.pointer (some ⟨A, 0, none⟩), .pointer (some ⟨bm, 0, none⟩), .pointer (some ⟨bn, 0, none⟩)]] 54)).heap.size = w.heap.size + 1 + 1 := by simp
  have HB := Lib.hid (And.intro hE (And.intro hbs (And.intro hbf hsz)))
  have HS := Lib.hid (And.intro hS (And.intro hT (And.intro hp (And.intro hc hJ))))
  have hlt := Lib.hid hS.lt
  clear hE hbs hbf hS hT hp hc hJ
  have hE3 := (Ext.refl ((w.alloc (.cells #[.pointer (some ⟨P, 0, none⟩)] 25)).alloc (.cells #[.func (.func 21) #[] #[.pointer (some ⟨A, 0, none⟩), .pointer (some ⟨bm, 0, none⟩), .pointer (some ⟨bn, 0, none⟩)]] 54))).alloc (.cells #[.func (.func 48) #[] #[.pointer (some ⟨w.heap.size + 1 + 1, 0, none⟩), .pointer (some ⟨w.heap.size, 0, none⟩), .pointer (some ⟨w.heap.size + 1, 0, none⟩)]] 87)
  have hbo := alloc_at ((w.alloc (.cells #[.pointer (some ⟨P, 0, none⟩)] 25)).alloc (.cells #[.func (.func 21) #[] #[.pointer (some ⟨A, 0, none⟩), .pointer (some ⟨bm, 0, none⟩), .pointer (some ⟨bn, 0, none⟩)]] 54)) (.cells #[.func (.func 48) #[] #[.pointer (some ⟨w.heap.size + 1 + 1, 0, none⟩), .pointer (some ⟨w.heap.size, 0, none⟩), .pointer (some ⟨w.heap.size + 1, 0, none⟩)]] 87) _ rfl
  rw [hsz] at hbo
  have hEB : EB P (w.heap.size + 1 + 1) w.heap.size (w.heap.size + 1) A bm bn (((w.alloc (.cells #[.pointer (some ⟨P, 0, none⟩)] 25)).alloc (.cells #[.func (.func 21) #[] #[.pointer (some ⟨A, 0, none⟩), .pointer (some ⟨bm, 0, none⟩), .pointer (some ⟨bn, 0, none⟩)]] 54)).alloc (.cells #[.func (.func 48) #[] #[.pointer (some ⟨w.heap.size + 1 + 1, 0, none⟩), .pointer (some ⟨w.heap.size, 0, none⟩), .pointer (some ⟨w.heap.size + 1, 0, none⟩)]] 87)) :=
    ⟨by have := hlt.out; omega, by have := hlt.out; omega, by have := hlt.out; omega, hbo, hE3.get HB.out.2.1, hE3.get HB.out.2.2.1⟩
  have HON := Lib.hid (eachOn_any w0 P c A bm bn B0 _ _ _ m n T _ nn [] (HS.out.1.ext (HB.out.1.trans hE3)) (HS.out.2.1.ext (HB.out.1.trans hE3)) HS.out.2.2.1 HS.out.2.2.2.1 hEB (HS.out.2.2.2.2.more (HB.out.1.trans hE3)) (by have := HS.out.2.2.2.1; simp; omega))
  have HX := Lib.hid (HB.out.1.trans hE3)
  have hco := hEB.on.cell
  clear hE3 hbo hEB hsz
  go_enter Tryz.func20, Tryz.ntmps20
  go_wp2_with fail
  refine HON.out.mono ?_
  rintro e w4 ⟨U, q, rfl, S4, i4, k4, J4, K4⟩
  go_wp2
  go_ret
  exact ⟨U, q, rfl, S4, i4, k4, J4, (KB.ext P HX.out).trans K4⟩
end Go.Proofs.YtoiohjifjmejkaaGreat
namespace Go.Proofs.YtoiohjifjmejkaaGreat
open Go Go.RowKit

/-- items whose values are others. -/
def eachI (m n : Int) (z : Int × Int × Int) : Int × Int × Int := (z.1, valI m n z.1 z.2.1, z.2.2)
theorem each_step (m n : Int) (zs : List (Int × Int × Int)) (k : Nat) (z : Int × Int × Int) (h : zs[k]? = some z) : (zs.take (k + 1)).map (eachI m n) = (zs.take k).map (eachI m n) ++ [eachI m n z] := by
  rw [List.take_add_one, h, List.map_append]
  rfl
theorem each_le {k : Nat} {zs : List (Int × Int × Int)} {m : Int} {q : Int} (h : zs.length ≤ 5000) (z : Int × Int × Int) : ((zs.take k).map (eachI m q)).length + [z].length ≤ 10000 := by
  rw [List.length_map, List.length_take]
  simp; omega
set_option maxRecDepth 100000 in
set_option maxHeartbeats 4000000 in
theorem refEach_any (w : World) (m n : Int) (p : Value) (zs : List (Int × Int × Int)) (hp : IRow3 w p zs) (hl : zs.length ≤ 5000) :
    Calls Tryz.prog 23 #[p, .int .i64 m, .int .i64 n] w (fun e w' => ∃ v, e = .returned v ∧ IOwn3 w.heap.size w' v (zs.map (eachI m n)) ∧ Ext w w') := by
  have HL := Lib.hid hl
  have hcase : zs = [] ∨ ∃ b0 o c, p = .slice (some ⟨b0, o, none⟩) zs.length c ∧ Hid (zs.length ≤ c ∧ w.rangeAt b0 o (itemCells zs)) := by
    rcases hp with ⟨h, _⟩ | ⟨b0, o, c, h, _, h1, h2⟩
    · exact .inl h
    · exact .inr ⟨b0, o, c, h, Lib.hid ⟨h1, h2⟩⟩
  obtain ⟨pa, pc, rfl⟩ := irow3_slice hp
  clear hp hl
  go_enter Tryz.func23, Tryz.ntmps23
  go_wp2_with fail
  go_loopw [7, 8] (fun v i W => ∃ k : Nat, k ≤ zs.length ∧ i = .int .i64 k ∧ Hid (IOwn3 w.heap.size W v ((zs.take k).map (eachI m n)) ∧ Ext w W)) (fun _ i _ => zs.length - (intOf i).toNat)
  case atStart => exact ⟨0, Nat.zero_le _, rfl, Lib.hid ⟨IOwn3.nil _ _, Ext.refl _⟩⟩
  case round =>
    obtain ⟨k, hk, rfl, HX⟩ := hrel
    by_cases hlt : k < zs.length
    · rcases hcase with rfl | ⟨b0, o, c, hpe, hc⟩
      · simp at hlt
      · obtain ⟨rfl, rfl⟩ : pa = some ⟨b0, o, none⟩ ∧ pc = c := by cases hpe; exact ⟨rfl, rfl⟩
        clear hpe
        obtain ⟨z, hz⟩ : ∃ z, zs[k]? = some z := ⟨_, List.getElem?_eq_getElem hlt⟩
        obtain ⟨c0, c1, c2⟩ := icells_at (rangeAt_ext hc.out.2 HX.out.2) hz
        have HZ := Lib.hid (each_step m n zs k z hz)
        obtain ⟨z0, z1, z2⟩ := z
        obtain ⟨mm⟩ : Nonempty Nat := ⟨0⟩
        have hfn : ∀ f, Fence.wide.fn f := fun _ => trivial
        have hk0 : (0 : Int) ≤ (k : Int) := Int.natCast_nonneg _
        have hk1 : (k : Int) < (zs.length : Int) := by omega
        have HLT := Lib.hid hlt
        clear hz hc
        go_wp2_with fail
        refine (wpIn_wide (n := mm)).1 ?_
        gi_wp2_with fail
        replace c0 := cell_all c0
        replace c1 := cell_all c1
        replace c2 := cell_all c2
        have hx := Ext.drew wr
        refine wpIn_region_G (fun j => !(List.contains (α := Nat) [27] j)) (by kernel_rfl) ?_
        refine batchG hfn (fuel := 5) [0, 1, 2, 3, 4, 5, 6, 7, 8, 9, 10, 11, 12, 13, 14, 15, 16, 17, 18, 20, 21, 22, 23, 24] (by kernel_rfl) rfl ?_
        repeat (go_big_quiet_step ((fail)))
        refine wpQuiet_nil ?_
        clear c0 c1 c2
        refine wpAnyG_one (j := 19) (by kernel_rfl) rfl ?_
        gi_wp2_with fail
        refine ⟨wide_room _, (callsIn_wide.2 (val30_any _ z0 z1 m n)).mono ?_⟩
        rintro e w4 ⟨rfl, h4⟩
        gi_wp2_with fail
        refine onePost_ext (h4) ?_
        replace hx := hx.trans h4
        clear h4
        refine batchG hfn (fuel := 3) [25] (by kernel_rfl) rfl ?_
        repeat (go_big_quiet_step ((fail)))
        refine wpQuiet_nil ?_
        refine wpAnyG_one (j := 26) (by kernel_rfl) rfl ?_
        gi_wp2_with fail
        have hE5 := (Ext.refl w4).alloc (.cells #[.int .i64 z0, .int .i64 (valI m n z0 z1), .int .u64 z2] 66)
        have hX5 := HX.out.2.trans (hx.trans hE5)
        have hA5 := HX.out.1.ext (hx.trans hE5)
        have hR5 := (iown3_new (B := w4.heap.size) (w := w4) (z0, valI m n z0 z1, z2) (Nat.le_refl _)).row
        refine onePost_ext hE5 ?_
        (try simp only at hR5)
        clear hx hE5
        generalize w4.alloc (.cells #[.int .i64 z0, .int .i64 (valI m n z0 z1), .int .u64 z2] 66) = w5 at *
        generalize w4.heap.size = N4 at *
        refine wpAnyG_one (j := 27) (by kernel_rfl) rfl ?_
        refine wpListIn_append_items (B := w.heap.size) (zs := (zs.take k).map (eachI m n)) (ys := [(z0, valI m n z0 z1, z2)]) rfl (.tmp 15) (.tmp 41) rfl rfl rfl hA5 hR5 (each_le HL.out _) hX5.size hfn ?_
        intro v6 w6 ho6 hg6
        have HX6 := Lib.hid (igrown3_ext hX5 hA5 hg6)
        have HO6 := Lib.hid ho6
        simp only [Act.put, List.setIfInBounds_toArray, List.set_cons_zero, List.set_cons_succ]
        refine wpListIn_nil ?_
        refine onePost_any (by kernel_rfl) ?_
        clear hX5 hA5 hR5 ho6 hg6
        refine batchG hfn (fuel := 0) [28] (by kernel_rfl) rfl ?_
        repeat (go_big_quiet_step ((fail)))
        refine wpQuiet_nil ?_
        refine wpAnyG_done (by kernel_rfl) ?_
        refine calmQ_normal ?_
        go_wp2
        go_roundw
        case rel => exact ⟨k + 1, HLT.out, int_k HLT.out HL.out, Lib.hid ⟨by rw [HZ.out]; exact HO6.out, HX6.out⟩⟩
        case measure => exact meas_k HLT.out HL.out
    · have hke : k = zs.length := Nat.le_antisymm hk (Nat.le_of_not_lt hlt)
      have HK := Lib.hid hke
      clear hke hcase
      go_wp2
      go_ret
      have h := HX.out
      rw [HK.out, List.take_length] at h
      exact ⟨_, rfl, h.1, h.2⟩
end Go.Proofs.YtoiohjifjmejkaaGreat
namespace Go.Proofs.YtoiohjifjmejkaaGreat
open Go Go.RowKit

theorem inl_kvs' : ∀ T : Tr, T.inl.map kvT = T.kvs
  | .nil => rfl
  | .node b l k v g r => by rw [Tr.inl, Tr.kvs, List.map_append, List.map_cons, inl_kvs' l, inl_kvs' r]; rfl
theorem has_of' {c : Nat} {A : Tr} {zs : List (Int × Int × Int)} (h : itsC c A = zs) : zs.map (itC c) = itsC c A := by rw [← h]; exact itsC_idem c A
set_option maxRecDepth 100000 in
set_option maxHeartbeats 4000000 in
theorem pickEach_walk (c : Nat) (hc : c < 256) (a0 : Option Addr) (len0 cap0 : Nat) (z0 : List BeadL) (m n : Int) (w : World) (w0 : IsBeads w (.slice a0 len0 cap0) z0) :
    Calls Tryz.prog 4 #[.int .u8 c, .slice a0 len0 cap0, .int .i64 m, .int .i64 n] w (Ret (.bool true) w) := by
  have hund : undef = Value.tuple #[] := rfl
  by_cases h4 : 1 ≤ c ∧ c ≤ 4
  · have HOF := Lib.hid (fun W => of22_yes c h4 W)
    have H4 := Lib.hid h4
    have q0 := parted_or h4 w0
    clear h4 w0
    rcases q0 with q0 | ⟨t0, -, rfl, l0, p0, b0, v0, q0⟩
    · have Q0 := Lib.hid q0
      clear q0
      have hE := ((Ext.refl w).alloc (.cells #[.int .i64 m] 2)).alloc (.cells #[.int .i64 n] 2)
      have hm1 : Boxed ((w.alloc (.cells #[.int .i64 m] 2)).alloc (.cells #[.int .i64 n] 2)) w.heap.size 2 (.int .i64 m) := ((Ext.refl _).alloc (.cells #[.int .i64 n] 2)).get (alloc_at w (.cells #[.int .i64 m] 2) _ rfl)
      have hn1 : Boxed ((w.alloc (.cells #[.int .i64 m] 2)).alloc (.cells #[.int .i64 n] 2)) (w.heap.size + 1) 2 (.int .i64 n) := alloc_at _ _ _ (by simp)
      have hs1 : ((w.alloc (.cells #[.int .i64 m] 2)).alloc (.cells #[.int .i64 n] 2)).heap.size = w.heap.size + 2 := by simp
      go_enter Tryz.func4, Tryz.ntmps4
      go_wp2_with fail
      have HE1 := Lib.hid (And.intro hE (And.intro hm1 (And.intro hn1 hs1)))
      clear hE hm1 hn1 hs1
      generalize (w.alloc (.cells #[.int .i64 m] 2)).alloc (.cells #[.int .i64 n] 2) = w1 at *
      refine (HOF.out w1).mono ?_
      rintro e w2 ⟨P, rfl, st⟩
      have hx := HE1.out.1.trans st.ext
      clear st
      go_wp2_with fail
      refine (Q0.out w2 hx).mono ?_
      rintro e w3 ⟨rfl, hS⟩
      replace hx := hx.trans hS
      clear hS
      go_wp2_with fail
      refine (is22_any c _).mono ?_
      rw [decide_eq_true H4.out]
      rintro e w21 ⟨rfl, hS⟩
      replace hx := hx.trans hS
      clear hS
      go_wp2_with fail
      refine (nothing30_any _).mono ?_
      rintro e w22 ⟨rfl, hS⟩
      replace hx := hx.trans hS
      clear hS
      go_wp2_with fail
      refine (alive30_any _).mono ?_
      rintro e w23 ⟨rfl, hS⟩
      replace hx := hx.trans hS
      clear hS
      go_wp2
      go_ret
      exact Ret.mk hx
    · have Q0 := Lib.hid q0
      have Lt0 := Lib.hid l0
      have Pt0 := Lib.hid p0
      have HB0 := Lib.hid b0
      have Wt0 := Lib.hid v0
      clear q0 l0 p0 b0 v0
      have hE := ((Ext.refl w).alloc (.cells #[.int .i64 m] 2)).alloc (.cells #[.int .i64 n] 2)
      have hm1 : Boxed ((w.alloc (.cells #[.int .i64 m] 2)).alloc (.cells #[.int .i64 n] 2)) w.heap.size 2 (.int .i64 m) := ((Ext.refl _).alloc (.cells #[.int .i64 n] 2)).get (alloc_at w (.cells #[.int .i64 m] 2) _ rfl)
      have hn1 : Boxed ((w.alloc (.cells #[.int .i64 m] 2)).alloc (.cells #[.int .i64 n] 2)) (w.heap.size + 1) 2 (.int .i64 n) := alloc_at _ _ _ (by simp)
      have hs1 : ((w.alloc (.cells #[.int .i64 m] 2)).alloc (.cells #[.int .i64 n] 2)).heap.size = w.heap.size + 2 := by simp
      go_enter Tryz.func4, Tryz.ntmps4
      go_wp2_with fail
      have HE1 := Lib.hid (And.intro hE (And.intro hm1 (And.intro hn1 hs1)))
      clear hE hm1 hn1 hs1
      generalize (w.alloc (.cells #[.int .i64 m] 2)).alloc (.cells #[.int .i64 n] 2) = w1 at *
      refine (HOF.out w1).mono ?_
      rintro e w2 ⟨P, rfl, st0⟩
      have st : St w P c 0 w2 := ⟨HE1.out.1.trans st0.ext, Nat.le_trans HE1.out.1.size st0.new, st0.sch⟩
      have HNP := Lib.hid (show w.heap.size + 2 ≤ P by have := st0.new; have := HE1.out.2.2.2; omega)
      have HMN := Lib.hid (show Boxed w2 w.heap.size 2 (.int .i64 m) ∧ Boxed w2 (w.heap.size + 1) 2 (.int .i64 n) from ⟨st0.ext.get HE1.out.2.1, st0.ext.get HE1.out.2.2.1⟩)
      clear st0
      go_wp2_with fail
      refine (Q0.out w2 st.ext).mono ?_
      rintro e w3 ⟨rfl, hS⟩
      replace st := st.more hS
      replace HMN := Lib.hid (show Boxed w3 w.heap.size 2 (.int .i64 m) ∧ Boxed w3 (w.heap.size + 1) 2 (.int .i64 n) from ⟨hS.get HMN.out.1, hS.get HMN.out.2⟩)
      clear hS
      go_wp2_with fail
      refine (beadsMakeD_any t0 w3 _ (HB0.out.ext st.ext) Lt0.out).mono ?_
      rintro e w4 ⟨T, rfl, iT, sT, hS⟩
      replace st := st.more hS
      have SF := Lib.hid sT.1
      have MT := Lib.hid (made_part H4.out sT.1 Wt0.out Lt0.out Pt0.out)
      have CT := Lib.hid (show T.count ≤ 400 by rw [MT.out.2.2]; exact Lt0.out)
      have hE5 := (Ext.refl w4).alloc (.cells #[.slice none 0 0] 49)
      have hA5 := Boxed.new w4 49 (.slice none 0 0)
      have hs5 : (w4.alloc (.cells #[.slice none 0 0] 49)).heap.size = w4.heap.size + 1 := by simp
      have hJ5 : EJ w P w4.heap.size w.heap.size (w.heap.size + 1) (w4.alloc (.cells #[.slice none 0 0] 49)).heap.size m n [] (w4.alloc (.cells #[.slice none 0 0] 49)) := by
        have h1 := st.lt
        have h2 := HNP.out
        have h3 := st.ext.size
        refine ⟨st.ext.trans hE5, ⟨_, hA5, POwn.nil _ _⟩, hE5.get (hS.get HMN.out.1), hE5.get (hS.get HMN.out.2), ⟨by omega, by omega⟩, ⟨by omega, by omega, by omega⟩, ⟨by omega, by omega, by omega, by omega, by omega, by omega⟩, Nat.le_refl _⟩
      have HEA := Lib.hid (pikEach_any w P c _ _ _ _ m n T _ _ (st.sch.ext hE5) (iT.ext hE5) MT.out.1 (Nat.le_trans CT.out (by decide)) hJ5)
      have HS5 := Lib.hid (And.intro (st.sch.ext hE5) (iT.ext hE5))
      clear hS sT st iT hE5 hA5 hs5 hJ5 HMN
      go_wp2_with fail
      generalize w4.alloc (.cells #[.slice none 0 0] 49) = w5 at *
      generalize w4.heap.size = A at *
      refine HEA.out.mono ?_
      rintro e w6 ⟨U, q, rfl, S6, i6, k6, J6, K6⟩
      obtain ⟨va, hva, hoa⟩ := J6.row
      rw [List.nil_append, inl_kvs', BT.fits_kvs SF.out] at hoa
      have HI := Lib.hid (And.intro J6.ext (And.intro (K6.inh HS5.out.1 HS5.out.2) (And.intro i6 (And.intro hoa.row k6))))
      have hca := hva.cell
      have hcm := J6.cm.cell
      have hcn := J6.cn.cell
      have hfn : ∀ f, Fence.wide.fn f := fun _ => trivial
      obtain ⟨mm⟩ : Nonempty Nat := ⟨0⟩
      clear S6 i6 k6 J6 K6 hva hoa HEA
      go_wp2_with fail
      refine (wpIn_wide (n := mm)).1 ?_
      gi_wp2_with fail
      replace hca := cell_all hca
      replace hcm := cell_all hcm
      replace hcn := cell_all hcn
      have hx := Ext.drew w6
      refine wpIn_region_G (fun j => !(List.contains (α := Nat) [] j)) (by kernel_rfl) ?_
      refine batchG hfn (fuel := 19) [0, 1, 2, 3, 5, 6] (by kernel_rfl) rfl ?_
      repeat (go_big_quiet_step ((fail)))
      refine wpQuiet_nil ?_
      clear hcm hcn
      refine wpAnyG_one (j := 4) (by kernel_rfl) rfl ?_
      gi_wp2_with fail
      refine ⟨wide_room _, (callsIn_wide.2 (items22_any c H4.out t0 _ _ (HB0.out.ext (HI.out.1.trans hx)) (Nat.le_trans Lt0.out (by decide)))).mono ?_⟩
      rw [← fits_itsC c SF.out]
      rintro e w7 ⟨v7, rfl, o7, h7⟩
      gi_wp2_with fail
      refine onePost_ext (h7) ?_
      replace hx := hx.trans h7
      clear h7
      refine wpAnyG_one (j := 7) (by kernel_rfl) rfl ?_
      gi_wp2_with fail
      refine ⟨wide_room _, (callsIn_wide.2 (refEach_any w7 m n v7 (itsC c T) o7.row (by rw [itsC_len]; exact Nat.le_trans CT.out (by decide)))).mono ?_⟩
      rintro e w8 ⟨v8, rfl, o8, h8⟩
      obtain ⟨ea, ec, rfl⟩ := o8.sized
      gi_wp2_with fail
      refine onePost_ext (h8) ?_
      replace hx := hx.trans h8
      clear h8 o7
      have HH := Lib.hid (has23_any c H4.out U _ _ ec _ (HI.out.2.2.1.ext hx) o8.row (has_of' HI.out.2.2.2.2.its) HI.out.2.2.2.2.may (fun h => HI.out.2.2.2.2.may.part.tags (by omega) H4.out (by rw [HI.out.2.2.2.2.count]; exact Nat.lt_of_le_of_lt CT.out (by decide))) (by rw [HI.out.2.2.2.2.count]; exact Nat.le_trans CT.out (by decide)))
      rw [List.length_map] at HH
      refine wpAnyG_one (j := 8) (by kernel_rfl) rfl ?_
      gi_wp2_with fail
      refine ⟨wide_room _, (callsIn_wide.2 HH.out).mono ?_⟩
      rintro e w9 ⟨rfl, h9⟩
      gi_wp2_with fail
      refine onePost_ext (h9) ?_
      replace hx := hx.trans h9
      clear h9 o8 HH
      refine batchG hfn (fuel := 13) [9, 10, 11] (by kernel_rfl) rfl ?_
      repeat (go_big_quiet_step ((fail)))
      refine wpQuiet_nil ?_
      clear hca
      refine wpAnyG_one (j := 12) (by kernel_rfl) rfl ?_
      gi_wp2_with fail
      refine ⟨wide_room _, (callsIn_wide.2 (pairs09_any t0 _ _ (HB0.out.ext (HI.out.1.trans hx)) (Nat.le_trans Lt0.out (by decide)))).mono ?_⟩
      rintro e w10 ⟨v10, rfl, o10, h10⟩
      gi_wp2_with fail
      refine onePost_ext (h10) ?_
      replace hx := hx.trans h10
      clear h10
      refine wpAnyG_one (j := 13) (by kernel_rfl) rfl ?_
      gi_wp2_with fail
      refine ⟨wide_room _, (callsIn_wide.2 (samePairs_any w10 _ _ t0.kvs (HI.out.2.2.2.1.ext hx) o10.row (by rw [BT.kvs_len]; exact Nat.le_trans Lt0.out (by decide)))).mono ?_⟩
      rintro e w11 ⟨rfl, h11⟩
      gi_wp2_with fail
      refine onePost_ext (h11) ?_
      replace hx := hx.trans h11
      clear h11 o10
      refine batchG hfn (fuel := 7) [14, 15, 16, 17] (by kernel_rfl) rfl ?_
      repeat (go_big_quiet_step ((fail)))
      refine wpQuiet_nil ?_
      refine wpAnyG_one (j := 18) (by kernel_rfl) rfl ?_
      gi_wp2_with fail
      refine ⟨wide_room _, (callsIn_wide.2 (of_any t0 _ _ (HB0.out.ext (HI.out.1.trans hx)) (Nat.le_trans Lt0.out (by decide)))).mono ?_⟩
      rintro e w12 ⟨v12, rfl, o12, h12⟩
      gi_wp2_with fail
      refine onePost_ext (h12) ?_
      replace hx := hx.trans h12
      have O12 := Lib.hid o12.beads
      clear h12 o12
      refine wpAnyG_one (j := 19) (by kernel_rfl) rfl ?_
      gi_wp2_with fail
      refine ⟨wide_room _, (callsIn_wide.2 (is_any w12 T v12 (HI.out.2.1.ext hx) (by rw [fits_beads SF.out (Nat.le_trans Lt0.out (by decide))]; exact O12.out) (Nat.le_trans CT.out (by decide)))).mono ?_⟩
      rintro e w13 ⟨rfl, h13⟩
      gi_wp2_with fail
      refine onePost_ext (h13) ?_
      replace hx := hx.trans h13
      clear h13
      refine batchG hfn (fuel := 3) [20, 21] (by kernel_rfl) rfl ?_
      repeat (go_big_quiet_step ((fail)))
      refine wpQuiet_nil ?_
      refine wpAnyG_one (j := 22) (by kernel_rfl) rfl ?_
      gi_wp2_with fail
      refine ⟨wide_room _, (callsIn_wide.2 (alive30_any w13)).mono ?_⟩
      rintro e w14 ⟨rfl, h14⟩
      gi_wp2_with fail
      refine onePost_ext (h14) ?_
      have HX := Lib.hid (HI.out.1.trans (hx.trans h14))
      clear h14 hx
      refine batchG hfn (fuel := 0) [23, 24] (by kernel_rfl) rfl ?_
      repeat (go_big_quiet_step ((fail)))
      refine wpQuiet_nil ?_
      refine wpAnyG_done (by kernel_rfl) ?_
      refine calmQ_normal ?_
      go_wp2
      go_ret
      exact Ret.mk HX.out
  · have HOF := Lib.hid (fun W => of22_no c hc h4 W)
    have HPP := Lib.hid (fun W => parted_no c h4 (.slice a0 len0 cap0) W)
    have H4 := Lib.hid h4
    clear h4 w0
    have hE := ((Ext.refl w).alloc (.cells #[.int .i64 m] 2)).alloc (.cells #[.int .i64 n] 2)
    have hm1 : Boxed ((w.alloc (.cells #[.int .i64 m] 2)).alloc (.cells #[.int .i64 n] 2)) w.heap.size 2 (.int .i64 m) := ((Ext.refl _).alloc (.cells #[.int .i64 n] 2)).get (alloc_at w (.cells #[.int .i64 m] 2) _ rfl)
    have hn1 : Boxed ((w.alloc (.cells #[.int .i64 m] 2)).alloc (.cells #[.int .i64 n] 2)) (w.heap.size + 1) 2 (.int .i64 n) := alloc_at _ _ _ (by simp)
    have hs1 : ((w.alloc (.cells #[.int .i64 m] 2)).alloc (.cells #[.int .i64 n] 2)).heap.size = w.heap.size + 2 := by simp
    go_enter Tryz.func4, Tryz.ntmps4
    go_wp2_with fail
    have HE1 := Lib.hid (And.intro hE (And.intro hm1 (And.intro hn1 hs1)))
    clear hE hm1 hn1 hs1
    generalize (w.alloc (.cells #[.int .i64 m] 2)).alloc (.cells #[.int .i64 n] 2) = w1 at *
    refine (HOF.out w1).mono ?_
    rintro e w2 ⟨rfl, hS⟩
    have hx := HE1.out.1.trans hS
    clear hS
    go_wp2_with fail
    refine (HPP.out w2).mono ?_
    rintro e w3 ⟨rfl, hS⟩
    replace hx := hx.trans hS
    clear hS
    go_wp2_with fail
    refine (is22_any c _).mono ?_
    rw [decide_eq_false H4.out]
    rintro e w21 ⟨rfl, hS⟩
    replace hx := hx.trans hS
    clear hS
    go_wp2_with fail
    refine (nothing30_any _).mono ?_
    rintro e w22 ⟨rfl, hS⟩
    replace hx := hx.trans hS
    clear hS
    go_wp2_with fail
    refine (alive30_any _).mono ?_
    rintro e w23 ⟨rfl, hS⟩
    replace hx := hx.trans hS
    clear hS
    go_wp2
    go_ret
    exact Ret.mk hx
theorem pickEach_row (c : Int) (a0 : Option Addr) (len0 cap0 : Nat) (z0 : List BeadL) (m n : Int) (w : World) (hc : (Lit.int .u8 c).wf = true) (w0 : IsBeads w (.slice a0 len0 cap0) z0) (_hm : (Lit.int .i64 m).wf = true) (_hn : (Lit.int .i64 n).wf = true) :
    Calls Tryz.prog 4 #[.int .u8 c, .slice a0 len0 cap0, .int .i64 m, .int .i64 n] w (Ret (.bool true) w) := by
  obtain ⟨k, rfl, hk⟩ := u8_nat hc
  exact pickEach_walk k hk a0 len0 cap0 z0 m n w w0
end Go.Proofs.YtoiohjifjmejkaaGreat
