/- Arguments that are slices of structs, opened to cells: the theorem of the kit's page 'extra-structs', and a row of beads by it. -/
import Derived.Test.YtkbndpemljommaaBead
import Derived.Deep.Slices
import Derived.Deep.Fields
import Derived.ChangeSame
import Derived.OpenShut
import Derived.ProofKit
namespace Go.Proofs.Ytkbndpemljommaa
open Go Go.ChangeShapes Go.WideShapes Go.Deep
section
variable {H : Type} {enc : TypeId × Value → H} {P : Program} {w : World} {base : Nat} {spare : Nat → Bool} {held : Bool}
theorem open_slice_fields {t e : TypeId} {fs : Array Field} {fuel : Nat} {cs : List Value} {x : DataW H × List MemPlace} (ht : P.underlying t = some (.slice e)) (he : P.underlying e = some (.struct fs))
    (hone : oneCellFields P fs = true) (hC : P.cellsOf e = fs.size) (h : DataW.trod enc P w base spare held fuel t cs = some x) :
    (cs = [.slice none 0 0] ∧ x = (.nil, [])) ∨
    ∃ (a : Addr) (len cap m : Nat) (D : Nat → DataW H) (Pl : Nat → List MemPlace), cs = [.slice (some a) len cap] ∧ base ≤ a.block ∧ len ≤ cap ∧ cap ≤ maxLen ∧ m = (if spare a.block then cap else len) ∧
      x = (.slice ((List.range len).map D) ((List.range (m - len)).map fun j => D (len + j)), MemPlace.row a (m * fs.size) ++ (List.range m).flatMap Pl) ∧
      ∀ i, i < m → ∃ (ys : List (DataW H × List MemPlace)) (n : Nat), D i = .agg (ys.map (·.1)) ∧ Pl i = ys.flatMap (·.2) ∧ ys.length = fs.size ∧
        ∀ (j : Nat) (f : Field), fs[j]? = some f → ∃ (v : Value) (y : DataW H × List MemPlace), w.cell? (a.add (i * fs.size + j)) = some v ∧ ys[j]? = some y ∧ DataW.trod enc P w base spare held n f.type [v] = some y := by
  rcases open_slice ht h with h0 | ⟨a, len, cap, m, n, D, Pl, hcs, hb, hl, hm, hmm, hx, hi⟩
  · exact .inl h0
  · refine .inr ⟨a, len, cap, m, D, Pl, hcs, hb, hl, hm, hmm, by rw [hC] at hx; exact hx, fun i him => ?_⟩
    obtain ⟨cs', hc, ht'⟩ := hi i him
    rw [hC] at hc
    obtain ⟨ys, n', hn', hy, hlen, hyl, hf⟩ := DataW.trod_struct he ht'
    obtain ⟨_, hcl, hat⟩ := World.cells?_some hc
    simp only [Prod.mk.injEq] at hy
    refine ⟨ys, n', hy.1, hy.2, hyl, fun j f hj => ?_⟩
    obtain ⟨ho, hk⟩ := hone_of hone j f hj
    have hjl : j < fs.size := (Array.getElem?_eq_some_iff.1 hj).1
    have hcell := hat j hjl
    have hv : cs'[j]? = some (cs'[j]'(by omega)) := List.getElem?_eq_getElem (by omega)
    have h1 := hf j f hj
    rw [ho, hk] at h1
    have hone' : (cs'.drop j).take 1 = [cs'[j]'(by omega)] := by
      rw [List.drop_eq_getElem_cons (by omega)]
      rfl
    rw [hone'] at h1
    have hys : ys[j]? = some (ys[j]'(by omega)) := List.getElem?_eq_getElem (by omega)
    refine ⟨_, _, ?_, hys, h1.trans hys⟩
    rw [← Go.Deep.add_add, hcell, hv]
end

theorem open_beads {H : Type} {enc : TypeId × Value → H} {w : World} {base : Nat} {spare : Nat → Bool} {held : Bool} {a : Option Addr} {len cap : Nat} {d : DataW H} {q : List MemPlace}
    (h : DataW.Trod enc Try.prog w base spare held 22 (.slice a len cap) d q) : ∃ zs, IsBeads w (.slice a len cap) zs := by
  obtain ⟨fuel, hf⟩ := h
  rcases open_slice_fields Try.underlying22 Try.underlying44 (by kernel_rfl) (by kernel_rfl) hf with ⟨hcs, _⟩ | ⟨x, l, c, m, D, Pl, hcs, _, hl, hm, hmm, _, hi⟩
  · simp [Value.cells] at hcs
    obtain ⟨rfl, rfl, rfl⟩ := hcs
    exact ⟨[], .inl ⟨rfl, _, _, rfl⟩, by simp⟩
  · simp [Value.cells] at hcs
    obtain ⟨rfl, rfl, rfl⟩ := hcs
    have hlm : len ≤ m := by rw [hmm]; split <;> omega
    have hz : ∀ i, ∃ z : BeadL, z.wf ∧ (i < len → ∀ j u, z.cells[j]? = some u → w.cell? (x.add (i * 7 + j)) = some u) := by
      intro i
      by_cases hil : i < len
      · obtain ⟨ys, n, _, _, _, hfi⟩ := hi i (by omega)
        obtain ⟨v0, y0, c0, _, t0⟩ := hfi 0 _ rfl
        obtain ⟨v1, y1, c1, _, t1⟩ := hfi 1 _ rfl
        obtain ⟨v2, y2, c2, _, t2⟩ := hfi 2 _ rfl
        obtain ⟨v3, y3, c3, _, t3⟩ := hfi 3 _ rfl
        obtain ⟨v4, y4, c4, _, t4⟩ := hfi 4 _ rfl
        obtain ⟨v5, y5, c5, _, t5⟩ := hfi 5 _ rfl
        obtain ⟨v6, y6, c6, _, t6⟩ := hfi 6 _ rfl
        obtain ⟨n0, h0, -, f0⟩ := DataW.trod_int (k := .i64) Try.underlying2 t0
        obtain ⟨n1, h1, -, f1⟩ := DataW.trod_int (k := .i64) Try.underlying2 t1
        obtain ⟨n2, h2, -, f2⟩ := DataW.trod_int (k := .i64) Try.underlying2 t2
        obtain ⟨n3, h3, -, f3⟩ := DataW.trod_int (k := .i64) Try.underlying3 t3
        obtain ⟨n4, h4, -, f4⟩ := DataW.trod_int (k := .u64) Try.underlying37 t4
        obtain ⟨n5, h5, -⟩ := DataW.trod_bool Try.underlying4 t5
        obtain ⟨n6, h6, -⟩ := DataW.trod_bool Try.underlying4 t6
        simp only [List.cons.injEq, and_true] at h0 h1 h2 h3 h4 h5 h6
        subst h0 h1 h2 h3 h4 h5 h6
        refine ⟨⟨n0, n1, n2, n3, n4, n5, n6⟩, ⟨f0, f1, f2, f3, f4⟩, fun _ j u hj => ?_⟩
        match j, hj with
        | 0, hj => cases hj; exact c0
        | 1, hj => cases hj; exact c1
        | 2, hj => cases hj; exact c2
        | 3, hj => cases hj; exact c3
        | 4, hj => cases hj; exact c4
        | 5, hj => cases hj; exact c5
        | 6, hj => cases hj; exact c6
        | j + 7, hj => simp [BeadL.cells] at hj
      · exact ⟨⟨0, 0, 0, 0, 0, false, false⟩, ⟨by decide, by decide, by decide, by decide, by decide⟩, fun h => absurd h hil⟩
    obtain ⟨f, hfz⟩ := Classical.axiomOfChoice hz
    by_cases h0 : len = 0
    · subst h0
      exact ⟨[], .inl ⟨rfl, _, _, rfl⟩, by simp⟩
    · obtain ⟨b, off, spot⟩ := x
      have hsp := (hfz 0).2 (by omega) 0 _ rfl
      obtain rfl : spot = none := by simpa [Addr.add] using World.cell?_spot hsp
      refine ⟨(List.range len).map f, .inr ⟨b, off, cap, by simp, by simp; omega, by simpa using hl, ?_⟩, ?_⟩
      rotate_left
      · intro z hz
        obtain ⟨i, _, rfl⟩ := List.mem_map.1 hz
        exact (hfz i).1
      intro q u hq
      have hlt : q < (beadCells ((List.range len).map f)).length := (List.getElem?_eq_some_iff.1 hq).1
      rw [beadCells_len, List.length_map, List.length_range] at hlt
      obtain ⟨i, j, rfl, hj⟩ : ∃ i j, q = i * 7 + j ∧ j < 7 := ⟨q / 7, q % 7, by omega, by omega⟩
      have hil : i < len := by omega
      rw [beadCells_at _ i (f i) j (by simp [hil]) hj] at hq
      have := (hfz i).2 hil j u hq
      rwa [Addr.add_mid] at this
end Go.Proofs.Ytkbndpemljommaa
