/- Arguments that are rows of pairs, opened to cells. -/
import Derived.Test.YteibbdieckephaaOpen
import Derived.Test.YteibbdieckephaaPair
namespace Go.Proofs.Yteibbdieckephaa
open Go Go.ChangeShapes Go.WideShapes Go.Deep

theorem open_pairs {H : Type} {enc : TypeId × Value → H} {w : World} {base : Nat} {spare : Nat → Bool} {held : Bool} {a : Option Addr} {len cap : Nat} {d : DataW H} {q : List MemPlace}
    (h : DataW.Trod enc Try.prog w base spare held 26 (.slice a len cap) d q) : ∃ zs, PRow w (.slice a len cap) zs := by
  obtain ⟨fuel, hf⟩ := h
  rcases open_slice_fields Try.underlying26 Try.underlying25 (by kernel_rfl) (by kernel_rfl) hf with ⟨hcs, _⟩ | ⟨x, l, c, m, D, Pl, hcs, _, hl, hm, hmm, _, hi⟩
  · simp [Value.cells] at hcs
    obtain ⟨rfl, rfl, rfl⟩ := hcs
    exact ⟨[], .inl ⟨rfl, _, _, rfl⟩⟩
  · simp [Value.cells] at hcs
    obtain ⟨rfl, rfl, rfl⟩ := hcs
    have hlm : len ≤ m := by rw [hmm]; split <;> omega
    have hz : ∀ i, ∃ z : Int × Int, i < len → ∀ j u, (pcells z)[j]? = some u → w.cell? (x.add (i * 2 + j)) = some u := by
      intro i
      by_cases hil : i < len
      · obtain ⟨ys, n, _, _, _, hfi⟩ := hi i (by omega)
        obtain ⟨v0, y0, c0, _, t0⟩ := hfi 0 _ rfl
        obtain ⟨v1, y1, c1, _, t1⟩ := hfi 1 _ rfl
        obtain ⟨n0, h0, -, f0⟩ := DataW.trod_int (k := .i64) Try.underlying2 t0
        obtain ⟨n1, h1, -, f1⟩ := DataW.trod_int (k := .i64) Try.underlying2 t1
        simp only [List.cons.injEq, and_true] at h0 h1
        subst h0 h1
        refine ⟨(n0, n1), fun _ j u hj => ?_⟩
        match j, hj with
        | 0, hj => cases hj; exact c0
        | 1, hj => cases hj; exact c1
        | j + 2, hj => simp [pcells] at hj
      · exact ⟨(0, 0), fun h => absurd h hil⟩
    obtain ⟨f, hfz⟩ := Classical.axiomOfChoice hz
    by_cases h0 : len = 0
    · subst h0
      exact ⟨[], .inl ⟨rfl, _, _, rfl⟩⟩
    · obtain ⟨b, off, spot⟩ := x
      have hsp := hfz 0 (by omega) 0 _ rfl
      obtain rfl : spot = none := by simpa [Addr.add] using World.cell?_spot hsp
      refine ⟨(List.range len).map f, .inr ⟨b, off, cap, by simp, by simp; omega, by simpa using hl, ?_⟩⟩
      intro q u hq
      have hlt : q < (pairCells ((List.range len).map f)).length := (List.getElem?_eq_some_iff.1 hq).1
      rw [pairCells_len, List.length_map, List.length_range] at hlt
      obtain ⟨i, j, rfl, hj⟩ : ∃ i j, q = i * 2 + j ∧ j < 2 := ⟨q / 2, q % 2, by omega, by omega⟩
      have hil : i < len := by omega
      rw [pairCells_at _ i (f i) j (by simp [hil]) hj] at hq
      have := hfz i hil j u hq
      rwa [Addr.add_mid] at this
end Go.Proofs.Yteibbdieckephaa
