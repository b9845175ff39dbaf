/- Arguments that are numbers of words, opened to cells. -/
import Derived.Test.YtkkapmkhnmoeaaaNat
import Derived.Deep.Slices
import Derived.Deep.Fields
import Derived.ChangeSame
import Derived.OpenShut
import Derived.ProofKit
namespace Go.Proofs.Ytkkapmkhnmoeaaa
open Go Go.ChangeShapes Go.WideShapes Go.Deep

theorem open_nats {H : Type} {enc : TypeId × Value → H} {w : World} {base : Nat} {spare : Nat → Bool} {held : Bool} {a : Option Addr} {len cap : Nat} {d : DataW H} {q : List MemPlace}
    (h : DataW.Trod enc Try.prog w base spare held 23 (.slice a len cap) d q) : ∃ xs, URow w (.slice a len cap) xs ∧ Words xs := by
  obtain ⟨fuel, hf⟩ := h
  rcases open_slice Try.underlying23 hf with ⟨hcs, _⟩ | ⟨x, l, c, m, n, D, Pl, hcs, _, hl, hm, hmm, _, hi⟩
  · simp [Value.cells] at hcs
    obtain ⟨rfl, rfl, rfl⟩ := hcs
    exact ⟨[], .inl ⟨rfl, _, _, rfl⟩, fun d hd => by cases hd⟩
  · simp [Value.cells] at hcs
    obtain ⟨rfl, rfl, rfl⟩ := hcs
    rw [show Try.prog.cellsOf 48 = 1 by kernel_rfl] at hi
    have hlm : len ≤ m := by rw [hmm]; split <;> omega
    have hz : ∀ i, ∃ z : Nat, z < beta ∧ (i < len → w.cell? (x.add i) = some (u32 z)) := by
      intro i
      by_cases hil : i < len
      · obtain ⟨cs', hc, ht⟩ := hi i (by omega)
        obtain ⟨_, _, hat⟩ := World.cells?_some hc
        obtain ⟨n0, h0, -, f0⟩ := DataW.trod_int (k := .u32) Try.underlying48 ht
        subst h0
        simp only [Lit.wf, Bool.and_eq_true, decide_eq_true_eq] at f0
        rw [show IntKind.u32.min = 0 from rfl, show IntKind.u32.max = 4294967295 from rfl] at f0
        obtain ⟨z, rfl⟩ := Int.eq_ofNat_of_zero_le f0.1
        refine ⟨z, by unfold beta; omega, fun _ => ?_⟩
        have := hat 0 (by decide)
        rw [Nat.mul_one, show (x.add i).add 0 = x.add i by simp [Addr.add]] at this
        exact this
      · exact ⟨0, by decide, fun h => absurd h hil⟩
    obtain ⟨f, hfz⟩ := Classical.axiomOfChoice hz
    by_cases h0 : len = 0
    · subst h0
      exact ⟨[], .inl ⟨rfl, _, _, rfl⟩, fun d hd => by cases hd⟩
    · obtain ⟨b, off, spot⟩ := x
      have hsp := (hfz 0).2 (by omega)
      obtain rfl : spot = none := by simpa [Addr.add] using World.cell?_spot hsp
      refine ⟨(List.range len).map f, .inr ⟨b, off, cap, by simp, by simp; omega, by simpa using hl, ?_⟩, ?_⟩
      · intro q u hq
        simp only [List.map_map, List.getElem?_map] at hq
        obtain ⟨y, hy, rfl⟩ := Option.map_eq_some_iff.1 hq
        have hlt : q < len := by have := (List.getElem?_eq_some_iff.1 hy).1; simpa using this
        rw [List.getElem?_range hlt] at hy
        cases hy
        have := (hfz q).2 hlt
        rwa [Addr.add_mid] at this
      · intro d hd
        obtain ⟨i, _, rfl⟩ := List.mem_map.1 hd
        exact (hfz i).1
end Go.Proofs.Ytkkapmkhnmoeaaa
