/- Beads in memory: rows of api.Bead; joineryref09.ends, May, and what a row of beads parses to. -/
import Derived.Test.YtkbndpemljommaaIter
import Derived.Deep.MidRow
namespace Go.Proofs.Ytkbndpemljommaa
open Go Go.RowKit

/-- a bead's seven cells, in Go's order. -/
structure BeadL where
  (key val sum size tag : Int) (left right : Bool)
def BeadL.cells (b : BeadL) : List Value := [.int .i64 b.key, .int .i64 b.val, .int .i64 b.sum, .int .i64 b.size, .int .u64 b.tag, .bool b.left, .bool b.right]
/-- a row's cells. -/
def beadCells (zs : List BeadL) : List Value := zs.flatMap BeadL.cells
theorem beadCells_len : ∀ zs : List BeadL, (beadCells zs).length = zs.length * 7
  | [] => rfl
  | z :: zs => by
    have := beadCells_len zs
    rw [beadCells] at this ⊢
    rw [List.flatMap_cons, List.length_append, this, List.length_cons]
    show 7 + _ = _
    omega
theorem beadCells_at : ∀ (zs : List BeadL) (i : Nat) (z : BeadL) (j : Nat), zs[i]? = some z → j < 7 → (beadCells zs)[i * 7 + j]? = z.cells[j]?
  | [], i, z, j, h, _ => by simp at h
  | y :: zs, 0, z, j, h, hj => by
    obtain rfl : y = z := by simpa using h
    rw [beadCells, List.flatMap_cons, List.getElem?_append_left (show 0 * 7 + j < 7 by omega), Nat.zero_mul, Nat.zero_add]
  | y :: zs, i + 1, z, j, h, hj => by
    have ih := beadCells_at zs i z j (by simpa using h) hj
    rw [beadCells] at ih ⊢
    rw [List.flatMap_cons, List.getElem?_append_right (show 7 ≤ (i + 1) * 7 + j by omega), show (i + 1) * 7 + j - y.cells.length = i * 7 + j from by show _ - 7 = _; omega, ih]
/-- a row of beads: empty, whatever its address; or laid at an address. -/
def Beads (w : World) (v : Value) (zs : List BeadL) : Prop :=
  (zs = [] ∧ ∃ a c, v = .slice a 0 c) ∨ ∃ b o c, v = .slice (some ⟨b, o, none⟩) zs.length c ∧ zs ≠ [] ∧ zs.length ≤ c ∧ w.rangeAt b o (beadCells zs)
theorem rangeAt_cell {w : World} {b o : Nat} {zs : List BeadL} (h : w.rangeAt b o (beadCells zs)) {i : Nat} {z : BeadL} (hi : zs[i]? = some z) {j : Nat} {u : Value} (hj : z.cells[j]? = some u) : w.cell? ⟨b, o + i * 7 + j, none⟩ = some u := by
  have hlt : j < 7 := (List.getElem?_eq_some_iff.1 hj).1
  rw [Nat.add_assoc]
  exact h (i * 7 + j) u (by rw [beadCells_at zs i z j hi hlt, hj])
theorem cell_lt {w : World} {a : Addr} {v : Value} (h : w.cell? a = some v) : a.block < w.heap.size := by
  rcases Nat.lt_or_ge a.block w.heap.size with hl | hl
  · exact hl
  · simp [World.cell?, Array.getElem?_eq_none hl] at h
theorem rangeAt_ext {w w' : World} {b o : Nat} {cs : List Value} (h : w.rangeAt b o cs) (e : Ext w w') : w'.rangeAt b o cs := by
  intro j v hj
  have hc := h j v hj
  rw [e.cell (cell_lt hc)]; exact hc
theorem Beads.ext {w w' : World} {v : Value} {zs : List BeadL} (h : Beads w v zs) (e : Ext w w') : Beads w' v zs := by
  rcases h with h | ⟨b, o, c, rfl, h1, h2, h3⟩
  · exact .inl h
  · exact .inr ⟨b, o, c, rfl, h1, h2, rangeAt_ext h3 e⟩

/-- its numbers fit their kinds. -/
def BeadL.wf (b : BeadL) : Prop := (Lit.int .i64 b.key).wf = true ∧ (Lit.int .i64 b.val).wf = true ∧ (Lit.int .i64 b.sum).wf = true ∧ (Lit.int .i64 b.size).wf = true ∧ (Lit.int .u64 b.tag).wf = true
/-- a row of beads that came in. -/
def IsBeads (w : World) (v : Value) (zs : List BeadL) : Prop := Beads w v zs ∧ ∀ z ∈ zs, z.wf
/-- how many beads the tree has that begins a row. -/
def endsL : Nat → List BeadL → Option Nat
  | 0, _ => none
  | _ + 1, [] => none
  | f + 1, b :: r =>
    match (if b.left then endsL f r else some 0) with
    | none => none
    | some k =>
      match (if b.right then endsL f (r.drop k) else some 0) with
      | none => none
      | some m => some (1 + k + m)
theorem endsL_le : ∀ (f : Nat) (l : List BeadL) (k : Nat), endsL f l = some k → 1 ≤ k ∧ k ≤ l.length
  | 0, l, k, h => by simp [endsL] at h
  | f + 1, [], k, h => by simp [endsL] at h
  | f + 1, b :: r, k, h => by
    unfold endsL at h
    split at h
    · cases h
    · rename_i n hn
      split at h
      · cases h
      · rename_i m hm
        obtain rfl : 1 + n + m = k := by simpa using h
        have h1 : n ≤ r.length := by
          split at hn
          · exact (endsL_le f r n hn).2
          · simp at hn; omega
        have h2 : m ≤ (r.drop n).length := by
          split at hm
          · exact (endsL_le f _ m hm).2
          · simp at hm; omega
        rw [List.length_drop] at h2
        simp only [List.length_cons]
        omega
/-- the answer of 'ends'. -/
def endsV (o : Option Nat) : Int := match o with | none => -1 | some k => k

set_option maxHeartbeats 400000 in
theorem ends_any (b o c : Nat) (zs : List BeadL) : ∀ (f at_ deep : Nat) (w : World), w.rangeAt b o (beadCells zs) → zs.length ≤ 2000 → zs.length - at_ ≤ f → deep + f ≤ 2500 → 
    Calls Try.prog 24 #[.slice (some ⟨b, o, none⟩) zs.length c, .int .i64 at_, .int .i64 deep] w (Ret (.int .i64 (endsV (endsL f (zs.drop at_)))) w) := by
  intro f
  induction f with
  | zero =>
    intro at_ deep w hr hl hf hd
    have h1 : (zs.length : Int) ≤ at_ := by omega
    rw [show endsL 0 (zs.drop at_) = none from rfl]
    clear hr
    go_enter Try.func24, Try.ntmps24
    go_wp2
    go_ret
    exact Ret.mk (Ext.refl _)
  | succ f ih =>
    intro at_ deep w hr hl hf hd
    by_cases h1 : zs.length ≤ at_
    · rw [List.drop_eq_nil_of_le h1, show endsL (f + 1) [] = none from rfl]
      clear hr ih
      go_enter Try.func24, Try.ntmps24
      go_wp2
      go_ret
      exact Ret.mk (Ext.refl _)
    · have h1 : at_ < zs.length := by omega
      have hdrop : zs.drop at_ = zs[at_] :: zs.drop (at_ + 1) := List.drop_eq_getElem_cons h1
      have hz : zs[at_]? = some zs[at_] := List.getElem?_eq_getElem h1
      generalize zs[at_] = z at hdrop hz
      have hcl := rangeAt_cell hr hz (j := 5) rfl
      have hcr := rangeAt_cell hr hz (j := 6) rfl
      obtain ⟨zk, zv, zs_, zn, zg, zl, zr⟩ := z
      have hlen : (zs.drop (at_ + 1)).length = zs.length - (at_ + 1) := List.length_drop
      have R := Lib.hid hr
      have IH := Lib.hid ih
      obtain ⟨T, hT⟩ : ∃ T, T = endsV (endsL (f + 1) (zs.drop at_)) := ⟨_, rfl⟩
      rw [← hT]
      rw [hdrop] at hT
      have HT := Lib.hid hT
      clear hr ih hdrop hz hT
      cases zl with
      | false =>
        cases zr with
        | false =>
          go_enter Try.func24, Try.ntmps24
          go_wp2
          go_ret
          exact ⟨ret_int (by rw [HT.out]; rfl), Ext.refl _⟩
        | true =>
          go_enter Try.func24, Try.ntmps24
          go_wp2_with fail
          rw [show (at_ : Int) + 1 = ((at_ + 1 : Nat) : Int) by omega, show (deep : Int) + 1 = ((deep + 1 : Nat) : Int) by omega]
          refine (IH.out (at_ + 1) (deep + 1) w R.out hl (by omega) (by omega)).mono ?_
          cases hm : endsL f (zs.drop (at_ + 1)) with
          | none =>
            have HM := Lib.hid hm
            clear hm
            rintro e w1 ⟨rfl, h1⟩
            rw [show endsV none = -1 from rfl]
            go_wp2
            go_ret
            exact ⟨ret_int (by rw [HT.out]; simp [endsL, HM.out, endsV]), h1⟩
          | some m =>
            have HM := Lib.hid hm
            have hle := (endsL_le _ _ _ hm).2
            clear hm
            rintro e w1 ⟨rfl, h1⟩
            rw [show endsV (some m) = m from rfl]
            go_wp2
            go_ret
            exact ⟨ret_int (by rw [HT.out]; simp [endsL, HM.out, endsV]), h1⟩
      | true =>
        go_enter Try.func24, Try.ntmps24
        go_wp2_with fail
        rw [show (at_ : Int) + 1 = ((at_ + 1 : Nat) : Int) by omega, show (deep : Int) + 1 = ((deep + 1 : Nat) : Int) by omega]
        refine (IH.out (at_ + 1) (deep + 1) w R.out hl (by omega) (by omega)).mono ?_
        cases hk : endsL f (zs.drop (at_ + 1)) with
        | none =>
          have HK := Lib.hid hk
          clear hk
          rintro e w1 ⟨rfl, h1⟩
          rw [show endsV none = -1 from rfl]
          go_wp2
          go_ret
          exact ⟨ret_int (by rw [HT.out]; simp [endsL, HK.out, endsV]), h1⟩
        | some k =>
          have HK := Lib.hid hk
          have hle := (endsL_le _ _ _ hk)
          clear hk
          rintro e w1 ⟨rfl, h1⟩
          rw [show endsV (some k) = k from rfl]
          have hcr1 : w1.cell? ⟨b, o + at_ * 7 + 6, none⟩ = some (.bool zr) := by rw [h1.cell (cell_lt hcr)]; exact hcr
          clear hcl hcr
          cases zr with
          | false =>
            go_wp2
            go_ret
            exact ⟨ret_int (by rw [HT.out]; simp [endsL, HK.out, endsV]), h1⟩
          | true =>
            go_wp2_with fail
            rw [show (at_ : Int) + (1 + (k : Int)) = ((at_ + 1 + k : Nat) : Int) by omega, show (deep : Int) + 1 = ((deep + 1 : Nat) : Int) by omega]
            refine (IH.out (at_ + 1 + k) (deep + 1) w1 (rangeAt_ext R.out h1) hl (by omega) (by omega)).mono ?_
            have hlen2 : (zs.drop (at_ + 1 + k)).length = zs.length - (at_ + 1 + k) := List.length_drop
            have e2 : (zs.drop (at_ + 1)).drop k = zs.drop (at_ + 1 + k) := by rw [List.drop_drop]
            cases hm : endsL f (zs.drop (at_ + 1 + k)) with
            | none =>
              have HM := Lib.hid hm
              have E2 := Lib.hid e2
              clear hm e2
              rintro e w2 ⟨rfl, h2⟩
              rw [show endsV none = -1 from rfl]
              go_wp2
              go_ret
              exact ⟨ret_int (by rw [HT.out]; simp [endsL, HK.out, E2.out, HM.out, endsV]), h1.trans h2⟩
            | some m =>
              have HM := Lib.hid hm
              have E2 := Lib.hid e2
              have hle := (endsL_le _ _ _ hm).2
              clear hm e2
              rintro e w2 ⟨rfl, h2⟩
              rw [show endsV (some m) = m from rfl]
              go_wp2
              go_ret
              exact ⟨ret_int (by rw [HT.out]; simp [endsL, HK.out, E2.out, HM.out, endsV]), h1.trans h2⟩
end Go.Proofs.Ytkbndpemljommaa
