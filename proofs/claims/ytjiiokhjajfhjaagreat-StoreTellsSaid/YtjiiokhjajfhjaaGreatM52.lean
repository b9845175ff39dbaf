/- Arguments that are rows of joineryref13.Node, and rows of bytes, opened to cells. -/
import Derived.Deep.Slices
import Derived.Test.YtjiiokhjajfhjaaGreatM14
import Derived.Test.YtjiiokhjajfhjaaGreatM45
import Derived.Test.YtjiiokhjajfhjaaGreatM51
namespace Go.Proofs.YtjiiokhjajfhjaaGreat
open Go Go.ChangeShapes Go.WideShapes Go.Deep

theorem open_dags {H : Type} {enc : TypeId × Value → H} {w : World} {base : Nat} {spare : Nat → Bool} {held : Bool} {a : Option Addr} {len cap : Nat} {d : DataW H} {q : List MemPlace}
    (h : DataW.Trod enc Tryz.prog w base spare held 41 (.slice a len cap) d q) : ∃ zs, PRow w (.slice a len cap) zs := by
  obtain ⟨fuel, hf⟩ := h
  rcases open_slice_fields Tryz.underlying41 Tryz.underlying102 (by kernel_rfl) (by kernel_rfl) hf with ⟨hcs, _⟩ | ⟨x, l, c, m, D, Pl, hcs, _, hl, hm, hmm, _, hi⟩
  · simp [Value.cells] at hcs
    obtain ⟨rfl, rfl, rfl⟩ := hcs
    exact ⟨[], .inl ⟨rfl, _, _, rfl⟩⟩
  · simp [Value.cells] at hcs
    obtain ⟨rfl, rfl, rfl⟩ := hcs
    have hlm : len ≤ m := by rw [hmm]; split <;> omega
    have hz : ∀ i, ∃ z : Int × Int, i < len → ∀ j u, (pcells z)[j]? = some u → w.cell? (x.add (i * 2 + j)) = some u := by
      intro i
      by_cases hil : i < len
      · obtain ⟨ys, n, _, _, _, hfi⟩ := hi i (by omega)
        obtain ⟨v0, y0, c0, _, t0⟩ := hfi 0 _ rfl
        obtain ⟨v1, y1, c1, _, t1⟩ := hfi 1 _ rfl
        obtain ⟨n0, h0, -, f0⟩ := DataW.trod_int (k := .i64) Tryz.underlying3 t0
        obtain ⟨n1, h1, -, f1⟩ := DataW.trod_int (k := .i64) Tryz.underlying3 t1
        simp only [List.cons.injEq, and_true] at h0 h1
        subst h0 h1
        refine ⟨(n0, n1), fun _ j u hj => ?_⟩
        match j, hj with
        | 0, hj => cases hj; exact c0
        | 1, hj => cases hj; exact c1
        | j + 2, hj => simp [pcells] at hj
      · exact ⟨(0, 0), fun h => absurd h hil⟩
    obtain ⟨f, hfz⟩ := Classical.axiomOfChoice hz
    by_cases h0 : len = 0
    · subst h0
      exact ⟨[], .inl ⟨rfl, _, _, rfl⟩⟩
    · obtain ⟨b, off, spot⟩ := x
      have hsp := hfz 0 (by omega) 0 _ rfl
      obtain rfl : spot = none := by simpa [Addr.add] using World.cell?_spot hsp
      refine ⟨(List.range len).map f, .inr ⟨b, off, cap, by simp, by simp; omega, by simpa using hl, ?_⟩⟩
      intro q u hq
      have hlt : q < (pairCells ((List.range len).map f)).length := (List.getElem?_eq_some_iff.1 hq).1
      rw [pairCells_len, List.length_map, List.length_range] at hlt
      obtain ⟨i, j, rfl, hj⟩ : ∃ i j, q = i * 2 + j ∧ j < 2 := ⟨q / 2, q % 2, by omega, by omega⟩
      have hil : i < len := by omega
      rw [pairCells_at _ i (f i) j (by simp [hil]) hj] at hq
      have := hfz i hil j u hq
      rwa [Addr.add_mid] at this
theorem open_u8s {H : Type} {enc : TypeId × Value → H} {w : World} {base : Nat} {spare : Nat → Bool} {held : Bool} {a : Option Addr} {len cap : Nat} {d : DataW H} {q : List MemPlace}
    (h : DataW.Trod enc Tryz.prog w base spare held 42 (.slice a len cap) d q) : ∃ ys, YRow w (.slice a len cap) ys := by
  obtain ⟨fuel, hf⟩ := h
  rcases open_slice Tryz.underlying42 hf with ⟨hcs, _⟩ | ⟨x, l, c, m, n, D, Pl, hcs, _, hl, hm, hmm, _, hi⟩
  · simp [Value.cells] at hcs
    obtain ⟨rfl, rfl, rfl⟩ := hcs
    exact ⟨[], _, _, rfl, fun y hy => (by cases hy), fun h => (h rfl).elim⟩
  · simp [Value.cells] at hcs
    obtain ⟨rfl, rfl, rfl⟩ := hcs
    rw [show Tryz.prog.cellsOf 5 = 1 by kernel_rfl] at hi
    have hlm : len ≤ m := by rw [hmm]; split <;> omega
    have hz : ∀ i, ∃ z : Nat, z < 256 ∧ (i < len → w.cell? (x.add i) = some (.int .u8 (z : Nat))) := by
      intro i
      by_cases hil : i < len
      · obtain ⟨cs', hc, ht⟩ := hi i (by omega)
        obtain ⟨_, _, hat⟩ := World.cells?_some hc
        obtain ⟨z, h0, -, f0⟩ := DataW.trod_int (k := .u8) Tryz.underlying5 ht
        subst h0
        obtain ⟨k, rfl, hk⟩ := u8_nat f0
        refine ⟨k, hk, fun _ => ?_⟩
        have := hat 0 (by decide)
        rw [Nat.mul_one, show (x.add i).add 0 = x.add i by simp [Addr.add]] at this
        simpa using this
      · exact ⟨0, by decide, fun h => absurd h hil⟩
    obtain ⟨f, hfz⟩ := Classical.axiomOfChoice hz
    by_cases h0 : len = 0
    · subst h0
      exact ⟨[], _, _, rfl, fun y hy => (by cases hy), fun h => (h rfl).elim⟩
    · obtain ⟨b, off, spot⟩ := x
      have hsp := (hfz 0).2 (by omega)
      obtain rfl : spot = none := by simpa [Addr.add] using World.cell?_spot hsp
      refine ⟨(List.range len).map f, _, _, by rw [List.length_map, List.length_range], fun y hy => ?_, fun _ => ⟨b, off, rfl, by simpa using hl, fun i y hi => ?_⟩⟩
      · obtain ⟨i, -, rfl⟩ := List.mem_map.1 hy
        exact (hfz i).1
      · have hil : i < len := by
          have := (List.getElem?_eq_some_iff.1 hi).1
          simpa using this
        rw [List.getElem?_map, List.getElem?_range hil] at hi
        simp only [Option.map_some, Option.some.injEq] at hi
        subst hi
        have := (hfz i).2 hil
        rwa [Addr.add_mid] at this
end Go.Proofs.YtjiiokhjajfhjaaGreat
