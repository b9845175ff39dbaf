/- Beads in memory: rows of api.Bead; joineryref09.ends, May, and what a row of beads parses to. -/
import Derived.Test.YteibbdieckephaaIter
import Derived.Deep.MidRow
namespace Go.Proofs.Yteibbdieckephaa
open Go Go.RowKit

/-- a bead's seven cells, in Go's order. -/
structure BeadL where
  (key val sum size tag : Int) (left right : Bool)
def BeadL.cells (b : BeadL) : List Value := [.int .i64 b.key, .int .i64 b.val, .int .i64 b.sum, .int .i64 b.size, .int .u64 b.tag, .bool b.left, .bool b.right]
/-- a row's cells. -/
def beadCells (zs : List BeadL) : List Value := zs.flatMap BeadL.cells
theorem beadCells_len : ∀ zs : List BeadL, (beadCells zs).length = zs.length * 7
  | [] => rfl
  | z :: zs => by
    have := beadCells_len zs
    rw [beadCells] at this ⊢
    rw [List.flatMap_cons, List.length_append, this, List.length_cons]
    show 7 + _ = _
    omega
theorem beadCells_at : ∀ (zs : List BeadL) (i : Nat) (z : BeadL) (j : Nat), zs[i]? = some z → j < 7 → (beadCells zs)[i * 7 + j]? = z.cells[j]?
  | [], i, z, j, h, _ => by simp at h
  | y :: zs, 0, z, j, h, hj => by
    obtain rfl : y = z := by simpa using h
    rw [beadCells, List.flatMap_cons, List.getElem?_append_left (show 0 * 7 + j < 7 by omega), Nat.zero_mul, Nat.zero_add]
  | y :: zs, i + 1, z, j, h, hj => by
    have ih := beadCells_at zs i z j (by simpa using h) hj
    rw [beadCells] at ih ⊢
    rw [List.flatMap_cons, List.getElem?_append_right (show 7 ≤ (i + 1) * 7 + j by omega), show (i + 1) * 7 + j - y.cells.length = i * 7 + j from by show _ - 7 = _; omega, ih]
/-- a row of beads: empty, whatever its address; or laid at an address. -/
def Beads (w : World) (v : Value) (zs : List BeadL) : Prop :=
  (zs = [] ∧ ∃ a c, v = .slice a 0 c) ∨ ∃ b o c, v = .slice (some ⟨b, o, none⟩) zs.length c ∧ zs ≠ [] ∧ zs.length ≤ c ∧ w.rangeAt b o (beadCells zs)
theorem rangeAt_cell {w : World} {b o : Nat} {zs : List BeadL} (h : w.rangeAt b o (beadCells zs)) {i : Nat} {z : BeadL} (hi : zs[i]? = some z) {j : Nat} {u : Value} (hj : z.cells[j]? = some u) : w.cell? ⟨b, o + i * 7 + j, none⟩ = some u := by
  have hlt : j < 7 := (List.getElem?_eq_some_iff.1 hj).1
  rw [Nat.add_assoc]
  exact h (i * 7 + j) u (by rw [beadCells_at zs i z j hi hlt, hj])
theorem cell_lt {w : World} {a : Addr} {v : Value} (h : w.cell? a = some v) : a.block < w.heap.size := by
  rcases Nat.lt_or_ge a.block w.heap.size with hl | hl
  · exact hl
  · simp [World.cell?, Array.getElem?_eq_none hl] at h
theorem rangeAt_ext {w w' : World} {b o : Nat} {cs : List Value} (h : w.rangeAt b o cs) (e : Ext w w') : w'.rangeAt b o cs := by
  intro j v hj
  have hc := h j v hj
  rw [e.cell (cell_lt hc)]; exact hc
theorem Beads.ext {w w' : World} {v : Value} {zs : List BeadL} (h : Beads w v zs) (e : Ext w w') : Beads w' v zs := by
  rcases h with h | ⟨b, o, c, rfl, h1, h2, h3⟩
  · exact .inl h
  · exact .inr ⟨b, o, c, rfl, h1, h2, rangeAt_ext h3 e⟩

/-- its numbers fit their kinds. -/
def BeadL.wf (b : BeadL) : Prop := (Lit.int .i64 b.key).wf = true ∧ (Lit.int .i64 b.val).wf = true ∧ (Lit.int .i64 b.sum).wf = true ∧ (Lit.int .i64 b.size).wf = true ∧ (Lit.int .u64 b.tag).wf = true
/-- a row of beads that came in. -/
def IsBeads (w : World) (v : Value) (zs : List BeadL) : Prop := Beads w v zs ∧ ∀ z ∈ zs, z.wf
/-- how many beads the tree has that begins a row. -/
def endsL : Nat → List BeadL → Option Nat
  | 0, _ => none
  | _ + 1, [] => none
  | f + 1, b :: r =>
    match (if b.left then endsL f r else some 0) with
    | none => none
    | some k =>
      match (if b.right then endsL f (r.drop k) else some 0) with
      | none => none
      | some m => some (1 + k + m)
theorem endsL_le : ∀ (f : Nat) (l : List BeadL) (k : Nat), endsL f l = some k → 1 ≤ k ∧ k ≤ l.length
  | 0, l, k, h => by simp [endsL] at h
  | f + 1, [], k, h => by simp [endsL] at h
  | f + 1, b :: r, k, h => by
    unfold endsL at h
    split at h
    · cases h
    · rename_i n hn
      split at h
      · cases h
      · rename_i m hm
        obtain rfl : 1 + n + m = k := by simpa using h
        have h1 : n ≤ r.length := by
          split at hn
          · exact (endsL_le f r n hn).2
          · simp at hn; omega
        have h2 : m ≤ (r.drop n).length := by
          split at hm
          · exact (endsL_le f _ m hm).2
          · simp at hm; omega
        rw [List.length_drop] at h2
        simp only [List.length_cons]
        omega
/-- the answer of 'ends'. -/
def endsV (o : Option Nat) : Int := match o with | none => -1 | some k => k

end Go.Proofs.Yteibbdieckephaa
