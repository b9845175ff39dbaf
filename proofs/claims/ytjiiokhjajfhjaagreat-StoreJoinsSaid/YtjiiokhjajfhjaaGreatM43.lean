/- Arguments that are slices of structs, opened to cells: the theorem of the kit's page 'extra-structs', and a row of beads by it. sift: its kinds, May. sift.May. sift.Takes, and what its kinds take. joineryref06: May, takes, Takes, Not; joinerylaw06.pair. An argument that is an item, by value: opened, and shut. -/
import Derived.Deep.Slices
import Derived.Deep.Fields
import Derived.ChangeSame
import Derived.OpenShut
import Derived.ProofKit
import Derived.MapKept
import Derived.Lib.SmallJoins
import Derived.ChangeArms
import Derived.ChangeShapes
import Derived.Test.YtjiiokhjajfhjaaGreatM2
import Derived.Test.YtjiiokhjajfhjaaGreatM3
import Derived.Test.YtjiiokhjajfhjaaGreatM30
namespace Go.Proofs.YtjiiokhjajfhjaaGreat
open Go Go.ChangeShapes Go.WideShapes Go.Deep
section
variable {H : Type} {enc : TypeId × Value → H} {P : Program} {w : World} {base : Nat} {spare : Nat → Bool} {held : Bool}
theorem open_slice_fields {t e : TypeId} {fs : Array Field} {fuel : Nat} {cs : List Value} {x : DataW H × List MemPlace} (ht : P.underlying t = some (.slice e)) (he : P.underlying e = some (.struct fs))
    (hone : oneCellFields P fs = true) (hC : P.cellsOf e = fs.size) (h : DataW.trod enc P w base spare held fuel t cs = some x) :
    (cs = [.slice none 0 0] ∧ x = (.nil, [])) ∨
    ∃ (a : Addr) (len cap m : Nat) (D : Nat → DataW H) (Pl : Nat → List MemPlace), cs = [.slice (some a) len cap] ∧ base ≤ a.block ∧ len ≤ cap ∧ cap ≤ maxLen ∧ m = (if spare a.block then cap else len) ∧
      x = (.slice ((List.range len).map D) ((List.range (m - len)).map fun j => D (len + j)), MemPlace.row a (m * fs.size) ++ (List.range m).flatMap Pl) ∧
      ∀ i, i < m → ∃ (ys : List (DataW H × List MemPlace)) (n : Nat), D i = .agg (ys.map (·.1)) ∧ Pl i = ys.flatMap (·.2) ∧ ys.length = fs.size ∧
        ∀ (j : Nat) (f : Field), fs[j]? = some f → ∃ (v : Value) (y : DataW H × List MemPlace), w.cell? (a.add (i * fs.size + j)) = some v ∧ ys[j]? = some y ∧ DataW.trod enc P w base spare held n f.type [v] = some y := by
  rcases open_slice ht h with h0 | ⟨a, len, cap, m, n, D, Pl, hcs, hb, hl, hm, hmm, hx, hi⟩
  · exact .inl h0
  · refine .inr ⟨a, len, cap, m, D, Pl, hcs, hb, hl, hm, hmm, by rw [hC] at hx; exact hx, fun i him => ?_⟩
    obtain ⟨cs', hc, ht'⟩ := hi i him
    rw [hC] at hc
    obtain ⟨ys, n', hn', hy, hlen, hyl, hf⟩ := DataW.trod_struct he ht'
    obtain ⟨_, hcl, hat⟩ := World.cells?_some hc
    simp only [Prod.mk.injEq] at hy
    refine ⟨ys, n', hy.1, hy.2, hyl, fun j f hj => ?_⟩
    obtain ⟨ho, hk⟩ := hone_of hone j f hj
    have hjl : j < fs.size := (Array.getElem?_eq_some_iff.1 hj).1
    have hcell := hat j hjl
    have hv : cs'[j]? = some (cs'[j]'(by omega)) := List.getElem?_eq_getElem (by omega)
    have h1 := hf j f hj
    rw [ho, hk] at h1
    have hone' : (cs'.drop j).take 1 = [cs'[j]'(by omega)] := by
      rw [List.drop_eq_getElem_cons (by omega)]
      rfl
    rw [hone'] at h1
    have hys : ys[j]? = some (ys[j]'(by omega)) := List.getElem?_eq_getElem (by omega)
    refine ⟨_, _, ?_, hys, h1.trans hys⟩
    rw [← Go.Deep.add_add, hcell, hv]
end

theorem open_beads {H : Type} {enc : TypeId × Value → H} {w : World} {base : Nat} {spare : Nat → Bool} {held : Bool} {a : Option Addr} {len cap : Nat} {d : DataW H} {q : List MemPlace}
    (h : DataW.Trod enc Tryz.prog w base spare held 22 (.slice a len cap) d q) : ∃ zs, IsBeads w (.slice a len cap) zs := by
  obtain ⟨fuel, hf⟩ := h
  rcases open_slice_fields Tryz.underlying22 Tryz.underlying71 (by kernel_rfl) (by kernel_rfl) hf with ⟨hcs, _⟩ | ⟨x, l, c, m, D, Pl, hcs, _, hl, hm, hmm, _, hi⟩
  · simp [Value.cells] at hcs
    obtain ⟨rfl, rfl, rfl⟩ := hcs
    exact ⟨[], .inl ⟨rfl, _, _, rfl⟩, by simp⟩
  · simp [Value.cells] at hcs
    obtain ⟨rfl, rfl, rfl⟩ := hcs
    have hlm : len ≤ m := by rw [hmm]; split <;> omega
    have hz : ∀ i, ∃ z : BeadL, z.wf ∧ (i < len → ∀ j u, z.cells[j]? = some u → w.cell? (x.add (i * 7 + j)) = some u) := by
      intro i
      by_cases hil : i < len
      · obtain ⟨ys, n, _, _, _, hfi⟩ := hi i (by omega)
        obtain ⟨v0, y0, c0, _, t0⟩ := hfi 0 _ rfl
        obtain ⟨v1, y1, c1, _, t1⟩ := hfi 1 _ rfl
        obtain ⟨v2, y2, c2, _, t2⟩ := hfi 2 _ rfl
        obtain ⟨v3, y3, c3, _, t3⟩ := hfi 3 _ rfl
        obtain ⟨v4, y4, c4, _, t4⟩ := hfi 4 _ rfl
        obtain ⟨v5, y5, c5, _, t5⟩ := hfi 5 _ rfl
        obtain ⟨v6, y6, c6, _, t6⟩ := hfi 6 _ rfl
        obtain ⟨n0, h0, -, f0⟩ := DataW.trod_int (k := .i64) Tryz.underlying2 t0
        obtain ⟨n1, h1, -, f1⟩ := DataW.trod_int (k := .i64) Tryz.underlying2 t1
        obtain ⟨n2, h2, -, f2⟩ := DataW.trod_int (k := .i64) Tryz.underlying2 t2
        obtain ⟨n3, h3, -, f3⟩ := DataW.trod_int (k := .i64) Tryz.underlying3 t3
        obtain ⟨n4, h4, -, f4⟩ := DataW.trod_int (k := .u64) Tryz.underlying56 t4
        obtain ⟨n5, h5, -⟩ := DataW.trod_bool Tryz.underlying4 t5
        obtain ⟨n6, h6, -⟩ := DataW.trod_bool Tryz.underlying4 t6
        simp only [List.cons.injEq, and_true] at h0 h1 h2 h3 h4 h5 h6
        subst h0 h1 h2 h3 h4 h5 h6
        refine ⟨⟨n0, n1, n2, n3, n4, n5, n6⟩, ⟨f0, f1, f2, f3, f4⟩, fun _ j u hj => ?_⟩
        match j, hj with
        | 0, hj => cases hj; exact c0
        | 1, hj => cases hj; exact c1
        | 2, hj => cases hj; exact c2
        | 3, hj => cases hj; exact c3
        | 4, hj => cases hj; exact c4
        | 5, hj => cases hj; exact c5
        | 6, hj => cases hj; exact c6
        | j + 7, hj => simp [BeadL.cells] at hj
      · exact ⟨⟨0, 0, 0, 0, 0, false, false⟩, ⟨by decide, by decide, by decide, by decide, by decide⟩, fun h => absurd h hil⟩
    obtain ⟨f, hfz⟩ := Classical.axiomOfChoice hz
    by_cases h0 : len = 0
    · subst h0
      exact ⟨[], .inl ⟨rfl, _, _, rfl⟩, by simp⟩
    · obtain ⟨b, off, spot⟩ := x
      have hsp := (hfz 0).2 (by omega) 0 _ rfl
      obtain rfl : spot = none := by simpa [Addr.add] using World.cell?_spot hsp
      refine ⟨(List.range len).map f, .inr ⟨b, off, cap, by simp, by simp; omega, by simpa using hl, ?_⟩, ?_⟩
      rotate_left
      · intro z hz
        obtain ⟨i, _, rfl⟩ := List.mem_map.1 hz
        exact (hfz i).1
      intro q u hq
      have hlt : q < (beadCells ((List.range len).map f)).length := (List.getElem?_eq_some_iff.1 hq).1
      rw [beadCells_len, List.length_map, List.length_range] at hlt
      obtain ⟨i, j, rfl, hj⟩ : ∃ i j, q = i * 7 + j ∧ j < 7 := ⟨q / 7, q % 7, by omega, by omega⟩
      have hil : i < len := by omega
      rw [beadCells_at _ i (f i) j (by simp [hil]) hj] at hq
      have := (hfz i).2 hil j u hq
      rwa [Addr.add_mid] at this
end Go.Proofs.YtjiiokhjajfhjaaGreat
namespace Go.Proofs.YtjiiokhjajfhjaaGreat
open Go Go.RowKit

/-- a store of a key that is not there, into a map keyed by integers. -/
theorem run_mapUpdate_new {P : Program} (w : World) (mty kt et : TypeId) (q : IntKind) (r clock : Nat) (es : Array MapEntry) (k : Int) (val : Value) (hm : P.underlying mty = some (.map kt et)) (hk : P.underlying kt = some (.int q)) (hb : w.heap[r]? = some (.map es clock))
    (hf : Instr.findNow (.int q) (.int q k) es.toList 0 = some none) :
    (Instr.mapUpdate mty (.map (some r)) (.int q k) val).run P w = .ok () { w with heap := w.heap.setIfInBounds r (.map (es.push { key := .int q k, val := val, born := clock }) (clock + 1)) } := by
  have hc : (Instr.checkKey false 10000 kt (.int q k)).run P w = .ok () w := MapKept.run_checkKey hk (by simp [MapKept.IsKey]) false 9999
  have hk' : (Instr.findKey kt (.int q k) es.toList).run P w = .ok none w := MapKept.run_findKey hk hf
  simp [Instr.mapUpdate, run_underlying hm, MapKept.run_getObj_map hb, hc, hk', MapKept.run_setObj_map _ hb, Result.andThen]
theorem World.alloc_set (w : World) (o o' : Obj) : ({ (w.alloc o) with heap := (w.alloc o).heap.setIfInBounds w.heap.size o' } : World) = w.alloc o' := by
  simp only [World.alloc]; congr 1; apply Array.ext_getElem?; intro i; rw [Array.getElem?_setIfInBounds, Array.getElem?_push, Array.getElem?_push]; simp; grind
theorem run_mapUpdate_alloc {P : Program} (w : World) (mty kt et : TypeId) (q : IntKind) (clock : Nat) (es : Array MapEntry) (k : Int) (val : Value) (hm : P.underlying mty = some (.map kt et)) (hk : P.underlying kt = some (.int q))
    (hf : Instr.findNow (.int q) (.int q k) es.toList 0 = some none) (b : Nat) (hb : w.heap.size = b) :
    (Instr.mapUpdate mty (.map (some b)) (.int q k) val).run P (w.alloc (.map es clock)) = .ok () (w.alloc (.map (es.push { key := .int q k, val := val, born := clock }) (clock + 1))) := by
  subst hb
  rw [run_mapUpdate_new _ mty kt et q _ clock es k val hm hk (by show (w.heap.push _)[w.heap.size]? = _; simp) hf, World.alloc_set]
/-- which kinds there are. -/
def isKind (kd : Int) : Bool := decide (1 ≤ kd) && decide (kd ≤ 5)
/-- whether a predicate may be. -/
def sMay (kd : Nat) (a b : Int) : Bool :=
  if kd = 1 then a == 0 && b == 0 else if kd = 2 then true else if kd = 3 then true else if kd = 4 then decide (0 < a) && decide (0 ≤ b) && decide (b < a) else if kd = 5 then Go.bits .or .i64 a b == a else false
def predV (kd : Nat) (a b : Int) (nt : Bool) : Value := .agg #[.int .u8 kd, .int .i64 a, .int .i64 b, .bool nt]
end Go.Proofs.YtjiiokhjajfhjaaGreat
namespace Go.Proofs.YtjiiokhjajfhjaaGreat
open Go Go.RowKit

def tkC (b kd : Nat) : Array Value := if kd = 2 then #[.pointer (some ⟨b, 0, none⟩)] else if kd = 3 then #[.pointer (some ⟨b, 0, none⟩)] else #[]
theorem sset2 {w : World} {N : Nat} {T : TypeId} {a0 a1 : Value} (h : w.heap[N]? = some (.cells #[a0, a1] T (0, 0))) (b0 b1 : Value) :
    ((w.setCell ⟨N, 0, none⟩ b0).setCell ⟨N, 1, none⟩ b1).heap[N]? = some (.cells #[b0, b1] T (0, 0)) := by
  simp [World.setCell, Array.getElem?_modify, h]
theorem put_own {w w1 : World} (h : Ext w w1) {N : Nat} (hN : w.heap.size ≤ N) (j : Nat) (u : Value) : Ext w (w1.setCell ⟨N, j, none⟩ u) := Below.setCell (B := w.heap.size) h hN u
end Go.Proofs.YtjiiokhjajfhjaaGreat
namespace Go.Proofs.YtjiiokhjajfhjaaGreat
open Go Go.RowKit

/-- what a predicate takes, the right way round. -/
def sTk (kd : Nat) (a b k v : Int) : Bool :=
  if kd = 1 then true else if kd = 2 then decide (a ≤ k) && decide (k ≤ b) else if kd = 3 then decide (a ≤ v) && decide (v ≤ b) else if kd = 4 then k.tmod a == b || wrap64 (k.tmod a + a) == b else Go.bits .and .i64 k a == b
def sTakes (kd : Nat) (a b : Int) (nt : Bool) (k v : Int) : Bool := sMay kd a b && (sTk kd a b k v != nt)
def pairV (k v : Int) : Value := .agg #[.int .i64 k, .int .i64 v]
theorem sMay_kind {kd : Nat} {a b : Int} (h : sMay kd a b = true) : 1 ≤ kd ∧ kd ≤ 5 := by
  unfold sMay at h
  rcases Nat.lt_or_ge 5 kd with h5 | h5
  · rw [if_neg (by omega), if_neg (by omega), if_neg (by omega), if_neg (by omega), if_neg (by omega)] at h; cases h
  · rcases Nat.eq_zero_or_pos kd with h0 | h0
    · subst h0; simp at h
    · omega
end Go.Proofs.YtjiiokhjajfhjaaGreat
namespace Go.Proofs.YtjiiokhjajfhjaaGreat
open Go Go.RowKit

theorem bv_or {A B : BitVec 64} : (A ||| B = A) ↔ (B &&& ~~~A = 0#64) := by
  constructor
  · intro h
    apply BitVec.eq_of_getLsbD_eq
    intro i hi
    have := congrArg (fun x => x.getLsbD i) h
    simp [hi] at this ⊢
    exact this
  · intro h
    apply BitVec.eq_of_getLsbD_eq
    intro i hi
    have := congrArg (fun x => x.getLsbD i) h
    simp [hi] at this ⊢
    exact this
theorem wrap_toNat (X : BitVec 64) : IntKind.i64.wrap (X.toNat : Int) = X.toInt := by
  have := X.isLt
  simp [IntKind.wrap, IntKind.bits, IntKind.signed, BitVec.toInt_eq_toNat_cond]
  omega
theorem ofInt_self {a : Int} (h : -9223372036854775808 ≤ a) (h' : a ≤ 9223372036854775807) : (BitVec.ofInt 64 a).toInt = a := by
  rw [BitVec.toInt_ofInt, Int.bmod_def]
  omega
theorem ofInt_wrap (a : Int) : BitVec.ofInt 64 (IntKind.u64.wrap a) = BitVec.ofInt 64 a := by
  apply BitVec.eq_of_toInt_eq
  rw [BitVec.toInt_ofInt, BitVec.toInt_ofInt, IntKind.wrap_u64, Int.bmod_def, Int.bmod_def]
  omega
theorem ofInt_toNat (a : Int) : ((BitVec.ofInt 64 a).toNat : Int) = IntKind.u64.wrap a := by
  rw [BitVec.toNat_ofInt, IntKind.wrap_u64]
  omega
theorem bits64 (a b : Int) (ha : -9223372036854775808 ≤ a) (ha' : a ≤ 9223372036854775807) :
    (Go.bits .or .i64 a b == a) = (Go.bits .andNot .u64 (IntKind.u64.wrap b) (IntKind.u64.wrap a) == 0) := by
  rw [Bool.eq_iff_iff, beq_iff_eq, beq_iff_eq]
  show IntKind.i64.wrap ((BitVec.ofInt 64 a ||| BitVec.ofInt 64 b).toNat : Int) = a ↔ IntKind.u64.wrap ((BitVec.ofInt 64 (IntKind.u64.wrap b) &&& ~~~BitVec.ofInt 64 (IntKind.u64.wrap a)).toNat : Int) = 0
  rw [wrap_toNat, ofInt_wrap, ofInt_wrap]
  have e1 : ((BitVec.ofInt 64 a ||| BitVec.ofInt 64 b).toInt = a) ↔ (BitVec.ofInt 64 a ||| BitVec.ofInt 64 b = BitVec.ofInt 64 a) := by
    constructor
    · intro h
      apply BitVec.eq_of_toInt_eq
      rw [h, ofInt_self ha ha']
    · intro h
      rw [h, ofInt_self ha ha']
  rw [e1, bv_or]
  generalize BitVec.ofInt 64 b &&& ~~~BitVec.ofInt 64 a = X
  have := X.isLt
  rw [IntKind.wrap_u64]
  constructor
  · intro h; subst h; rfl
  · intro h
    apply BitVec.eq_of_toNat_eq
    simp
    omega
theorem bits64' (k a b : Int) (hb : -9223372036854775808 ≤ b) (hb' : b ≤ 9223372036854775807) :
    (Go.bits .and .i64 k a == b) = (Go.bits .and .u64 (IntKind.u64.wrap k) (IntKind.u64.wrap a) == IntKind.u64.wrap b) := by
  rw [Bool.eq_iff_iff, beq_iff_eq, beq_iff_eq]
  show IntKind.i64.wrap ((BitVec.ofInt 64 k &&& BitVec.ofInt 64 a).toNat : Int) = b ↔ IntKind.u64.wrap ((BitVec.ofInt 64 (IntKind.u64.wrap k) &&& BitVec.ofInt 64 (IntKind.u64.wrap a)).toNat : Int) = IntKind.u64.wrap b
  rw [wrap_toNat, ofInt_wrap, ofInt_wrap]
  generalize BitVec.ofInt 64 k &&& BitVec.ofInt 64 a = X
  have hX := X.isLt
  rw [IntKind.wrap_u64]
  have e : ((X.toNat : Int) % 18446744073709551616) = X.toNat := by omega
  rw [e, ← ofInt_toNat b]
  constructor
  · intro h
    rw [← h, BitVec.ofInt_toInt]
  · intro h
    have : X = BitVec.ofInt 64 b := BitVec.eq_of_toNat_eq (by omega)
    rw [this, ofInt_self hb hb']
/-- numbers of 64 bits. -/
def I64 (a : Int) : Prop := -9223372036854775808 ≤ a ∧ a ≤ 9223372036854775807
/-- what a key leaves. -/
def restV (k a : Int) : Int := if k.tmod a < 0 then wrap64 (k.tmod a + a) else k.tmod a
theorem tmod_range (k a : Int) (ha : 0 < a) : -a < k.tmod a ∧ k.tmod a < a := by
  refine ⟨?_, Int.tmod_lt_of_pos k ha⟩
  have h := Int.tmod_lt_of_pos (-k) ha
  rw [Int.neg_tmod] at h
  omega
theorem rest_law (k a b : Int) (ha : 0 < a) (ha' : a ≤ 9223372036854775807) (hb : 0 ≤ b) (hba : b < a) : (k.tmod a == b || wrap64 (k.tmod a + a) == b) = (restV k a == b) := by
  obtain ⟨h1, h2⟩ := tmod_range k a ha
  unfold restV
  generalize k.tmod a = r at *
  rw [Bool.eq_iff_iff, Bool.or_eq_true, beq_iff_eq, beq_iff_eq, beq_iff_eq]
  unfold wrap64
  split <;> omega
end Go.Proofs.YtjiiokhjajfhjaaGreat
namespace Go.Proofs.YtjiiokhjajfhjaaGreat
open Go Go.ChangeShapes Go.WideShapes Go.ChangeAt Go.RowKit Go.Joins

theorem aggCellsItem : Tryz.prog.cellsOf 58 = 3 := by kernel_rfl
set_option maxRecDepth 100000 in
theorem open_item {H : Type} {enc : TypeId × Value → H} {w : World} {base b0 : Nat} {spare : Nat → Bool} {held : Bool} {r : Reach} {v : Value} {d : DataW H} {p : List MemPlace}
    (hv : Value.okWide Tryz.prog w r b0 58 v) (h : DataW.Trod enc Tryz.prog w base spare held 58 v d p) :
    ∃ (a b g : Int), v = itV a b g ∧ p = [] ∧ (0 ≤ g ∧ g < 18446744073709551616) ∧
      ∀ (W : World) (sp : Nat → Bool), DataW.Trod enc Tryz.prog W base sp held 58 v d [] := by
  obtain ⟨v0, v1, v2, y0, y1, y2, n, rfl, rfl, rfl, h0, h1, h2⟩ := open_agg3 Tryz.underlying58 (by kernel_rfl) aggCellsItem hv h
  obtain ⟨n0, e0, rfl, f0⟩ := DataW.trod_int (k := .i64) Tryz.underlying2 h0
  obtain ⟨n1, e1, rfl, f1⟩ := DataW.trod_int (k := .i64) Tryz.underlying2 h1
  obtain ⟨n2, e2, rfl, f2⟩ := DataW.trod_int (k := .u64) Tryz.underlying56 h2
  simp only [List.cons.injEq, and_true] at e0 e1 e2
  subst e0 e1 e2
  have f2' := f2
  simp only [Lit.wf, Bool.and_eq_true, decide_eq_true_eq] at f2'
  rw [show IntKind.u64.min = 0 from rfl, show IntKind.u64.max = 18446744073709551615 from rfl] at f2'
  have g2 : 0 ≤ n2 ∧ n2 < 18446744073709551616 := by omega
  refine ⟨n0, n1, n2, rfl, rfl, g2, fun W sp => ?_⟩
  exact shut_agg3 (y0 := (.lit (.int .i64 n0), [])) (y1 := (.lit (.int .i64 n1), [])) (y2 := (.lit (.int .u64 n2), [])) Tryz.underlying58 (by kernel_rfl) aggCellsItem
    ⟨1, by simp [DataW.trod, Tryz.underlying2, f0]⟩ ⟨1, by simp [DataW.trod, Tryz.underlying2, f1]⟩ ⟨1, by simp [DataW.trod, Tryz.underlying56, f2]⟩
end Go.Proofs.YtjiiokhjajfhjaaGreat
