/- Arguments that are rows of items, and rows of truths, opened to cells. -/
import Derived.Deep.Slices
import Derived.Deep.Fields
import Derived.ChangeSame
import Derived.Test.YtkkdobolloojjaaGreatM43
import Derived.Test.YtkkdobolloojjaaGreatM44
namespace Go.Proofs.YtkkdobolloojjaaGreat
open Go Go.ChangeShapes Go.WideShapes Go.Deep

theorem open_items {H : Type} {enc : TypeId × Value → H} {w : World} {base : Nat} {spare : Nat → Bool} {held : Bool} {a : Option Addr} {len cap : Nat} {d : DataW H} {q : List MemPlace}
    (h : DataW.Trod enc Tryz.prog w base spare held 22 (.slice a len cap) d q) : ∃ zs, (IRow3 w (.slice a len cap) zs ∧ ItOk zs) ∧ zs.length = len := by
  obtain ⟨fuel, hf⟩ := h
  rcases open_slice_fields Tryz.underlying22 Tryz.underlying51 (by kernel_rfl) (by kernel_rfl) hf with ⟨hcs, _⟩ | ⟨x, l, c, m, D, Pl, hcs, _, hl, hm, hmm, _, hi⟩
  · simp [Value.cells] at hcs
    obtain ⟨rfl, rfl, rfl⟩ := hcs
    exact ⟨[], ⟨.inl ⟨rfl, _, _, rfl⟩, fun z hz => by cases hz⟩, rfl⟩
  · simp [Value.cells] at hcs
    obtain ⟨rfl, rfl, rfl⟩ := hcs
    have hlm : len ≤ m := by rw [hmm]; split <;> omega
    have hz : ∀ i, ∃ z : Int × Int × Int, i < len → (0 ≤ z.2.2 ∧ z.2.2 < 18446744073709551616) ∧ ∀ j u, (icells z)[j]? = some u → w.cell? (x.add (i * 3 + j)) = some u := by
      intro i
      by_cases hil : i < len
      · obtain ⟨ys, n, _, _, _, hfi⟩ := hi i (by omega)
        obtain ⟨v0, y0, c0, _, t0⟩ := hfi 0 _ rfl
        obtain ⟨v1, y1, c1, _, t1⟩ := hfi 1 _ rfl
        obtain ⟨v2, y2, c2, _, t2⟩ := hfi 2 _ rfl
        obtain ⟨n0, h0, -, f0⟩ := DataW.trod_int (k := .i64) Tryz.underlying2 t0
        obtain ⟨n1, h1, -, f1⟩ := DataW.trod_int (k := .i64) Tryz.underlying2 t1
        obtain ⟨n2, h2, -, f2⟩ := DataW.trod_int (k := .u64) Tryz.underlying38 t2
        simp only [List.cons.injEq, and_true] at h0 h1 h2
        subst h0 h1 h2
        simp only [Lit.wf, Bool.and_eq_true, decide_eq_true_eq] at f2
        rw [show IntKind.u64.min = 0 from rfl, show IntKind.u64.max = 18446744073709551615 from rfl] at f2
        refine ⟨(n0, n1, n2), fun _ => ⟨show 0 ≤ n2 ∧ n2 < 18446744073709551616 by omega, fun j u hj => ?_⟩⟩
        match j, hj with
        | 0, hj => cases hj; exact c0
        | 1, hj => cases hj; exact c1
        | 2, hj => cases hj; exact c2
        | j + 3, hj => simp [icells] at hj
      · exact ⟨(0, 0, 0), fun h => absurd h hil⟩
    obtain ⟨f, hfz⟩ := Classical.axiomOfChoice hz
    by_cases h0 : len = 0
    · subst h0
      exact ⟨[], ⟨.inl ⟨rfl, _, _, rfl⟩, fun z hz => by cases hz⟩, rfl⟩
    · obtain ⟨b, off, spot⟩ := x
      have hsp := (hfz 0 (by omega)).2 0 _ rfl
      obtain rfl : spot = none := by simpa [Addr.add] using World.cell?_spot hsp
      refine ⟨(List.range len).map f, ⟨.inr ⟨b, off, cap, by simp, by simp; omega, by simpa using hl, ?_⟩, ?_⟩, by simp⟩
      · intro q u hq
        have hlt : q < (itemCells ((List.range len).map f)).length := (List.getElem?_eq_some_iff.1 hq).1
        rw [itemCells_len, List.length_map, List.length_range] at hlt
        obtain ⟨i, j, rfl, hj⟩ : ∃ i j, q = i * 3 + j ∧ j < 3 := ⟨q / 3, q % 3, by omega, by omega⟩
        have hil : i < len := by omega
        rw [itemCells_at _ i (f i) j (by simp [hil]) hj] at hq
        have := (hfz i hil).2 j u hq
        rwa [Addr.add_mid] at this
      · intro z hz
        obtain ⟨i, hi, rfl⟩ := List.mem_map.1 hz
        exact (hfz i (List.mem_range.1 hi)).1
theorem open_truths {H : Type} {enc : TypeId × Value → H} {w : World} {base : Nat} {spare : Nat → Bool} {held : Bool} {a : Option Addr} {len cap : Nat} {d : DataW H} {q : List MemPlace}
    (h : DataW.Trod enc Tryz.prog w base spare held 23 (.slice a len cap) d q) : ∃ _u : Unit, LRow w a len cap := by
  refine ⟨(), ?_⟩
  obtain ⟨fuel, hf⟩ := h
  rcases open_slice Tryz.underlying23 hf with ⟨hcs, _⟩ | ⟨x, l, c, m, n, D, Pl, hcs, _, hl, hm, hmm, _, hi⟩
  · simp [Value.cells] at hcs
    obtain ⟨rfl, rfl, rfl⟩ := hcs
    exact .inl rfl
  · simp [Value.cells] at hcs
    obtain ⟨rfl, rfl, rfl⟩ := hcs
    rw [show Tryz.prog.cellsOf 4 = 1 by kernel_rfl] at hi
    have hlm : len ≤ m := by rw [hmm]; split <;> omega
    have hz : ∀ i, i < len → ∃ z : Bool, w.cell? (x.add i) = some (.bool z) := by
      intro i hil
      obtain ⟨cs', hc, ht⟩ := hi i (by omega)
      obtain ⟨_, _, hat⟩ := World.cells?_some hc
      obtain ⟨z, h0, -⟩ := DataW.trod_bool Tryz.underlying4 ht
      subst h0
      refine ⟨z, ?_⟩
      have := hat 0 (by decide)
      rw [Nat.mul_one, show (x.add i).add 0 = x.add i by simp [Addr.add]] at this
      exact this
    by_cases h0 : len = 0
    · exact .inl h0
    · obtain ⟨b, off, spot⟩ := x
      obtain ⟨z0, hsp⟩ := hz 0 (by omega)
      obtain rfl : spot = none := by simpa [Addr.add] using World.cell?_spot hsp
      refine .inr ⟨b, off, rfl, by simpa using hl, fun i hi => ?_⟩
      obtain ⟨z, h2⟩ := hz i hi
      refine ⟨z, ?_⟩
      rwa [Addr.add_mid] at h2
end Go.Proofs.YtkkdobolloojjaaGreat
