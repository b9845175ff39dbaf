/- What a going over a tree keeps: all cells but those of some blocks of the caller's own. Beads in memory: rows of api.Bead; joineryref09.ends, May, and what a row of beads parses to. -/
import Derived.RangeFuncNested
import Derived.RangeFuncBound
import Derived.RangeFuncCalls
import Derived.RangeFuncLeaves
import Derived.Shelf.Abstract
import Derived.Shelf.RegionOpen
import Derived.OwnWalkIn
import Derived.TacticsInMore
import Derived.LoopNIn
import Derived.LoopIn
import Derived.Deep.MidRow
import Derived.Test.YtoiohjifjmejkaaGreatM1
namespace Go.Proofs.YtoiohjifjmejkaaGreat
open Go Go.RowKit Go.Shelf

theorem ret_int {k : IntKind} {a b : Int} (h : a = b) : Ending.returned (.int k a) = .returned (.int k b) := by rw [h]
theorem ret_bool {a b : Bool} (h : a = b) : Ending.returned (.bool a) = .returned (.bool b) := by rw [h]
theorem ret_two {k l : IntKind} {a b c d : Int} (h : a = c) (h' : b = d) : Ending.returned (.tuple #[.int k a, .int l b]) = .returned (.tuple #[.int k c, .int l d]) := by rw [h, h']
/-- all cells stay, but those of the blocks in M; and so do the streams. -/
structure Keep (M : Nat → Prop) (w w' : World) : Prop where
  os : w'.os = w.os
  tape : w'.tape = w.tape
  output : w'.output = w.output
  size : w.heap.size ≤ w'.heap.size
  cells : ∀ (i : Nat) (c : Array Value) (t : TypeId) (f : Nat × Nat), ¬ M i → w.heap[i]? = some (.cells c t f) → w'.heap[i]? = some (.cells c t f)
theorem Keep.refl (M : Nat → Prop) (w : World) : Keep M w w := ⟨rfl, rfl, rfl, Nat.le_refl _, fun _ _ _ _ _ h => h⟩
theorem Keep.trans {M : Nat → Prop} {a b c : World} (h : Keep M a b) (k : Keep M b c) : Keep M a c :=
  ⟨k.os.trans h.os, k.tape.trans h.tape, k.output.trans h.output, Nat.le_trans h.size k.size, fun i x t f hi hx => k.cells i x t f hi (h.cells i x t f hi hx)⟩
theorem Keep.ext {M : Nat → Prop} {a b : World} (h : Ext a b) : Keep M a b := ⟨h.os, h.tape, h.output, Below.size h, fun _ _ _ _ _ hx => Ext.get h hx⟩
theorem Keep.putObj {M : Nat → Prop} (W : World) (l : Nat) (o o' : Obj) (h : W.heap[l]? = some o) (ho : o.isCells = false) : Keep M W (W.putObj l o') :=
  ⟨rfl, rfl, rfl, (grownBy_putObj' W l o').size, fun i c t f _ hx => by
    rw [World.putObj_heap_other (fun e => by subst e; rw [h] at hx; cases hx; cases ho)]; exact hx⟩
theorem Keep.setCell {M : Nat → Prop} (W : World) (p : Addr) (v : Value) (h : M p.block) : Keep M W (W.setCell p v) :=
  ⟨rfl, rfl, rfl, (KeepsWalks.setCell W _ v).size, fun i c t f hi hx => by
    rw [Below.heap_setCell _ _ _ i (fun e => hi (e ▸ h))]; exact hx⟩
theorem Keep.alloc {M : Nat → Prop} (W : World) (o : Obj) : Keep M W (W.alloc o) := Keep.ext ((Ext.refl W).alloc o)
theorem Keep.drew {M : Nat → Prop} (W : World) : Keep M W W.drew := ⟨rfl, rfl, rfl, Nat.le_refl _, fun _ _ _ _ _ hx => hx⟩
theorem Keep.boxed {M : Nat → Prop} {a b : World} (h : Keep M a b) {B : Nat} {t : TypeId} {v : Value} (hB : ¬ M B) (k : Boxed a B t v) : Boxed b B t v := h.cells _ _ _ _ hB k

/-- none of the tree's nodes lies in M. -/
def Off (M : Nat → Prop) : Tr → Prop
  | .nil => True
  | .node b l _ _ _ r => ¬ M b ∧ Off M l ∧ Off M r
theorem InH.keep {M : Nat → Prop} {a b : World} (h : Keep M a b) : ∀ {t : Tr}, Off M t → InH a t → InH b t
  | .nil, _, _ => trivial
  | .node _ _ _ _ _ _, ⟨o0, o1, o2⟩, ⟨h0, h1, h2⟩ => ⟨h.cells _ _ _ _ o0 h0, InH.keep h o1 h1, InH.keep h o2 h2⟩
/-- what lies in the heap lies off whatever lies beyond it. -/
theorem InH.off {w : World} {M : Nat → Prop} (hM : ∀ i, M i → w.heap.size ≤ i) : ∀ {t : Tr}, InH w t → Off M t
  | .nil, _ => trivial
  | .node b _ _ _ _ _, ⟨h0, h1, h2⟩ => ⟨fun hb => by have := hM b hb; have := lt_of h0; omega, InH.off hM h1, InH.off hM h2⟩
theorem keepK_b {M : Nat → Prop} {w : World} (W : World) (l : Nat) (o o' : Obj) (_ : w.heap.size ≤ l) (h : W.heap[l]? = some o) (ho : o.isCells = false) (_ : o.isWalk = false) : Keep M W (W.putObj l o') := Keep.putObj W l o o' h ho

theorem wide_room (k : Nat) : (Fence.wide.depth.isSome = true → 1 ≤ k) := fun h => by cases h
theorem RoundIn.any {m m' : Nat} {P : Program} {l : Nat} {f : FuncId} {tmps : Array Value} {assign body : Code} {w : World} {R : Ending → World → Prop}
    (h : RoundIn Fence.wide m P l f tmps assign body w R) : RoundIn Fence.wide m' P l f tmps assign body w R := ⟨h.1, fun c cs _ => h.2 c cs (fun d h => by cases h)⟩
theorem YieldAt.any {m : Nat} (m' : Nat) {P : Program} {l : Nat} {args : Array Value} {W : World} {R : Ending → World → Prop} (h : YieldAt Fence.wide m P l args W R) : YieldAt Fence.wide m' P l args W R := by
  obtain ⟨fn, tmps, assign, body, hy, hR⟩ := h
  exact ⟨fn, tmps, assign, body, hy, RoundIn.any hR⟩
theorem CallsIn.any {m : Nat} (m' : Nat) {P : Program} {f : FuncId} {args : Array Value} {w : World} {R : Ending → World → Prop} (h : CallsIn Fence.wide m P f args w R) : CallsIn Fence.wide m' P f args w R :=
  callsIn_wide.2 (callsIn_wide.1 h)
/-- what the law on ranges over functions does besides turns no cells. -/
theorem boxed_grown {W W' : World} {row : Option Nat} {B C : Nat} {t : TypeId} {v : Value} (h : Boxed W B t v) (hg : W.grownBy W' row) (hr : ∀ r, row = some r → C ≤ r ∧ ∃ o : Obj, W.heap[r]? = some o ∧ o.isCells = false) : Boxed W' B t v :=
  h.kept hg (fun e => by obtain ⟨_, o, ho, hc⟩ := hr B e.symm; rw [show W.heap[B]? = _ from h] at ho; cases ho; cases hc)
theorem keep_grown {M : Nat → Prop} {W0 W W' : World} {row : Option Nat} {C : Nat} (h : Keep M W0 W) (hg : W.grownBy W' row) (hr : ∀ r, row = some r → C ≤ r ∧ ∃ o : Obj, W.heap[r]? = some o ∧ o.isCells = false) : Keep M W0 W' :=
  h.trans ⟨hg.os, hg.tape, hg.output, hg.size, fun i c t f _ hx => by
    rw [hg.block i (Array.getElem?_eq_some_iff.1 hx).1 (fun e => by obtain ⟨_, o, ho, hc⟩ := hr i e.symm; rw [hx] at ho; cases ho; cases hc)]; exact hx⟩
theorem below_grown {n₀ C : Nat} {w₀ W W' : World} {row : Option Nat} (hn : n₀ ≤ w₀.heap.size) (hC : n₀ ≤ C) (h : Below n₀ w₀ W) (hg : W.grownBy W' row) (hr : ∀ r, row = some r → C ≤ r ∧ ∃ o : Obj, W.heap[r]? = some o ∧ o.isCells = false) : Below n₀ w₀ W' :=
  h.grown hg (Nat.le_trans hn h.size) (fun k e => Nat.le_trans hC (hr k e).1)
theorem keepsFrom_ext {B : Nat} {a b : World} (h : Ext a b) : KeepsFrom B a b := ⟨Below.size h, fun _ _ _ hk _ => Ext.get h hk⟩
theorem keepsFrom_set {B : Nat} (W : World) (p : Addr) (v : Value) : KeepsFrom B W (W.setCell p v) := (KeepsOthers.setCell W p v).from B
/-- a function's end, whose two results lie in boxes of its own that have been written once more, behind a range over a function. -/
theorem two_end {w W0 W : World} {N D : Nat} {t u : TypeId} {a b : Value} (hN : w.heap.size = N) (hE : Ext w W0) (hb : Below N W0 W) (hD : W0.heap.size ≤ D) (hK : W.heap[D]? = some (.deferred (some []))) (h1 : Boxed W N t a) (h2 : Boxed W (N + 1) u b) (hs : N + 2 ≤ W0.heap.size) :
    (((W.setCell ⟨N, 0, none⟩ a).setCell ⟨N + 1, 0, none⟩ b).drew).heap[D]? = some (.deferred (some [])) ∧
    ((((W.setCell ⟨N, 0, none⟩ a).setCell ⟨N + 1, 0, none⟩ b).drew).putObj D (.deferred none)).cell? ⟨N, 0, none⟩ = some a ∧
    ((((W.setCell ⟨N, 0, none⟩ a).setCell ⟨N + 1, 0, none⟩ b).drew).putObj D (.deferred none)).cell? ⟨N + 1, 0, none⟩ = some b ∧
    Ext w ((((W.setCell ⟨N, 0, none⟩ a).setCell ⟨N + 1, 0, none⟩ b).drew).putObj D (.deferred none)) := by
  have hk : (((W.setCell ⟨N, 0, none⟩ a).setCell ⟨N + 1, 0, none⟩ b).drew).heap[D]? = some (.deferred (some [])) := ((KeepsOthers.setCell _ _ _).trans (KeepsOthers.setCell _ _ _)).same D _ hK rfl
  have e1 : Boxed (((W.setCell ⟨N, 0, none⟩ a).setCell ⟨N + 1, 0, none⟩ b).drew) N t a := Boxed.other (h1.set a) (by omega) b
  have e2 : Boxed (((W.setCell ⟨N, 0, none⟩ a).setCell ⟨N + 1, 0, none⟩ b).drew) (N + 1) u b := Boxed.set b (h2.other (by omega) a)
  refine ⟨hk, (Boxed.kept e1 (grownBy_putObj' _ D _) (by simp; omega)).cell, (Boxed.kept e2 (grownBy_putObj' _ D _) (by simp; omega)).cell, ?_⟩
  have hB : Below N w W0 := by have := hE; unfold Ext at this; rwa [hN] at this
  have hB2 := ((((hB.trans hb).setCell (p := ⟨N, 0, none⟩) (Nat.le_refl N) a).setCell (p := ⟨N + 1, 0, none⟩) (Nat.le_succ N) b).drew)
  have := hB2.trans (belowK_b (w := W0) (n₀ := N) (by omega) _ D _ (.deferred none) hD hk rfl rfl)
  unfold Ext
  rwa [hN]
/-- a scope through which the run goes without a jump to its labels. -/
theorem wpIn_scope_wide {n : Nat} {P : Program} {c : Code} {Q : Exit → Act → World → Prop} {a : Act} {w : World} (h : c.wpIn Fence.wide n P (Exit.noGoto Q) a w) : (Code.scope c).wpIn Fence.wide n P Q a w :=
  wpIn_wide.2 (wp_scope_straight (wpIn_wide.1 h))
end Go.Proofs.YtoiohjifjmejkaaGreat
namespace Go.Proofs.YtoiohjifjmejkaaGreat
open Go Go.RowKit

/-- a bead's seven cells, in Go's order. -/
structure BeadL where
  (key val sum size tag : Int) (left right : Bool)
def BeadL.cells (b : BeadL) : List Value := [.int .i64 b.key, .int .i64 b.val, .int .i64 b.sum, .int .i64 b.size, .int .u64 b.tag, .bool b.left, .bool b.right]
/-- a row's cells. -/
def beadCells (zs : List BeadL) : List Value := zs.flatMap BeadL.cells
theorem beadCells_len : ∀ zs : List BeadL, (beadCells zs).length = zs.length * 7
  | [] => rfl
  | z :: zs => by
    have := beadCells_len zs
    rw [beadCells] at this ⊢
    rw [List.flatMap_cons, List.length_append, this, List.length_cons]
    show 7 + _ = _
    omega
theorem beadCells_at : ∀ (zs : List BeadL) (i : Nat) (z : BeadL) (j : Nat), zs[i]? = some z → j < 7 → (beadCells zs)[i * 7 + j]? = z.cells[j]?
  | [], i, z, j, h, _ => by simp at h
  | y :: zs, 0, z, j, h, hj => by
    obtain rfl : y = z := by simpa using h
    rw [beadCells, List.flatMap_cons, List.getElem?_append_left (show 0 * 7 + j < 7 by omega), Nat.zero_mul, Nat.zero_add]
  | y :: zs, i + 1, z, j, h, hj => by
    have ih := beadCells_at zs i z j (by simpa using h) hj
    rw [beadCells] at ih ⊢
    rw [List.flatMap_cons, List.getElem?_append_right (show 7 ≤ (i + 1) * 7 + j by omega), show (i + 1) * 7 + j - y.cells.length = i * 7 + j from by show _ - 7 = _; omega, ih]
/-- a row of beads: empty, whatever its address; or laid at an address. -/
def Beads (w : World) (v : Value) (zs : List BeadL) : Prop :=
  (zs = [] ∧ ∃ a c, v = .slice a 0 c) ∨ ∃ b o c, v = .slice (some ⟨b, o, none⟩) zs.length c ∧ zs ≠ [] ∧ zs.length ≤ c ∧ w.rangeAt b o (beadCells zs)
theorem rangeAt_cell {w : World} {b o : Nat} {zs : List BeadL} (h : w.rangeAt b o (beadCells zs)) {i : Nat} {z : BeadL} (hi : zs[i]? = some z) {j : Nat} {u : Value} (hj : z.cells[j]? = some u) : w.cell? ⟨b, o + i * 7 + j, none⟩ = some u := by
  have hlt : j < 7 := (List.getElem?_eq_some_iff.1 hj).1
  rw [Nat.add_assoc]
  exact h (i * 7 + j) u (by rw [beadCells_at zs i z j hi hlt, hj])
theorem cell_lt {w : World} {a : Addr} {v : Value} (h : w.cell? a = some v) : a.block < w.heap.size := by
  rcases Nat.lt_or_ge a.block w.heap.size with hl | hl
  · exact hl
  · simp [World.cell?, Array.getElem?_eq_none hl] at h
theorem rangeAt_ext {w w' : World} {b o : Nat} {cs : List Value} (h : w.rangeAt b o cs) (e : Ext w w') : w'.rangeAt b o cs := by
  intro j v hj
  have hc := h j v hj
  rw [e.cell (cell_lt hc)]; exact hc
theorem Beads.ext {w w' : World} {v : Value} {zs : List BeadL} (h : Beads w v zs) (e : Ext w w') : Beads w' v zs := by
  rcases h with h | ⟨b, o, c, rfl, h1, h2, h3⟩
  · exact .inl h
  · exact .inr ⟨b, o, c, rfl, h1, h2, rangeAt_ext h3 e⟩

/-- its numbers fit their kinds. -/
def BeadL.wf (b : BeadL) : Prop := (Lit.int .i64 b.key).wf = true ∧ (Lit.int .i64 b.val).wf = true ∧ (Lit.int .i64 b.sum).wf = true ∧ (Lit.int .i64 b.size).wf = true ∧ (Lit.int .u64 b.tag).wf = true
/-- a row of beads that came in. -/
def IsBeads (w : World) (v : Value) (zs : List BeadL) : Prop := Beads w v zs ∧ ∀ z ∈ zs, z.wf
/-- how many beads the tree has that begins a row. -/
def endsL : Nat → List BeadL → Option Nat
  | 0, _ => none
  | _ + 1, [] => none
  | f + 1, b :: r =>
    match (if b.left then endsL f r else some 0) with
    | none => none
    | some k =>
      match (if b.right then endsL f (r.drop k) else some 0) with
      | none => none
      | some m => some (1 + k + m)
theorem endsL_le : ∀ (f : Nat) (l : List BeadL) (k : Nat), endsL f l = some k → 1 ≤ k ∧ k ≤ l.length
  | 0, l, k, h => by simp [endsL] at h
  | f + 1, [], k, h => by simp [endsL] at h
  | f + 1, b :: r, k, h => by
    unfold endsL at h
    split at h
    · cases h
    · rename_i n hn
      split at h
      · cases h
      · rename_i m hm
        obtain rfl : 1 + n + m = k := by simpa using h
        have h1 : n ≤ r.length := by
          split at hn
          · exact (endsL_le f r n hn).2
          · simp at hn; omega
        have h2 : m ≤ (r.drop n).length := by
          split at hm
          · exact (endsL_le f _ m hm).2
          · simp at hm; omega
        rw [List.length_drop] at h2
        simp only [List.length_cons]
        omega
/-- the answer of 'ends'. -/
def endsV (o : Option Nat) : Int := match o with | none => -1 | some k => k

set_option maxHeartbeats 400000 in
theorem ends_any (b o c : Nat) (zs : List BeadL) : ∀ (f at_ deep : Nat) (w : World), w.rangeAt b o (beadCells zs) → zs.length ≤ 2000 → zs.length - at_ ≤ f → deep + f ≤ 2500 → 
    Calls Tryz.prog 55 #[.slice (some ⟨b, o, none⟩) zs.length c, .int .i64 at_, .int .i64 deep] w (Ret (.int .i64 (endsV (endsL f (zs.drop at_)))) w) := by
  intro f
  induction f with
  | zero =>
    intro at_ deep w hr hl hf hd
    have h1 : (zs.length : Int) ≤ at_ := by omega
    rw [show endsL 0 (zs.drop at_) = none from rfl]
    clear hr
    go_enter Tryz.func55, Tryz.ntmps55
    go_wp2
    go_ret
    exact Ret.mk (Ext.refl _)
  | succ f ih =>
    intro at_ deep w hr hl hf hd
    by_cases h1 : zs.length ≤ at_
    · rw [List.drop_eq_nil_of_le h1, show endsL (f + 1) [] = none from rfl]
      clear hr ih
      go_enter Tryz.func55, Tryz.ntmps55
      go_wp2
      go_ret
      exact Ret.mk (Ext.refl _)
    · have h1 : at_ < zs.length := by omega
      have hdrop : zs.drop at_ = zs[at_] :: zs.drop (at_ + 1) := List.drop_eq_getElem_cons h1
      have hz : zs[at_]? = some zs[at_] := List.getElem?_eq_getElem h1
      generalize zs[at_] = z at hdrop hz
      have hcl := rangeAt_cell hr hz (j := 5) rfl
      have hcr := rangeAt_cell hr hz (j := 6) rfl
      obtain ⟨zk, zv, zs_, zn, zg, zl, zr⟩ := z
      have hlen : (zs.drop (at_ + 1)).length = zs.length - (at_ + 1) := List.length_drop
      have R := Lib.hid hr
      have IH := Lib.hid ih
      obtain ⟨T, hT⟩ : ∃ T, T = endsV (endsL (f + 1) (zs.drop at_)) := ⟨_, rfl⟩
      rw [← hT]
      rw [hdrop] at hT
      have HT := Lib.hid hT
      clear hr ih hdrop hz hT
      cases zl with
      | false =>
        cases zr with
        | false =>
          go_enter Tryz.func55, Tryz.ntmps55
          go_wp2
          go_ret
          exact ⟨ret_int (by rw [HT.out]; rfl), Ext.refl _⟩
        | true =>
          go_enter Tryz.func55, Tryz.ntmps55
          go_wp2_with fail
          rw [show (at_ : Int) + 1 = ((at_ + 1 : Nat) : Int) by omega, show (deep : Int) + 1 = ((deep + 1 : Nat) : Int) by omega]
          refine (IH.out (at_ + 1) (deep + 1) w R.out hl (by omega) (by omega)).mono ?_
          cases hm : endsL f (zs.drop (at_ + 1)) with
          | none =>
            have HM := Lib.hid hm
            clear hm
            rintro e w1 ⟨rfl, h1⟩
            rw [show endsV none = -1 from rfl]
            go_wp2
            go_ret
            exact ⟨ret_int (by rw [HT.out]; simp [endsL, HM.out, endsV]), h1⟩
          | some m =>
            have HM := Lib.hid hm
            have hle := (endsL_le _ _ _ hm).2
            clear hm
            rintro e w1 ⟨rfl, h1⟩
            rw [show endsV (some m) = m from rfl]
            go_wp2
            go_ret
            exact ⟨ret_int (by rw [HT.out]; simp [endsL, HM.out, endsV]), h1⟩
      | true =>
        go_enter Tryz.func55, Tryz.ntmps55
        go_wp2_with fail
        rw [show (at_ : Int) + 1 = ((at_ + 1 : Nat) : Int) by omega, show (deep : Int) + 1 = ((deep + 1 : Nat) : Int) by omega]
        refine (IH.out (at_ + 1) (deep + 1) w R.out hl (by omega) (by omega)).mono ?_
        cases hk : endsL f (zs.drop (at_ + 1)) with
        | none =>
          have HK := Lib.hid hk
          clear hk
          rintro e w1 ⟨rfl, h1⟩
          rw [show endsV none = -1 from rfl]
          go_wp2
          go_ret
          exact ⟨ret_int (by rw [HT.out]; simp [endsL, HK.out, endsV]), h1⟩
        | some k =>
          have HK := Lib.hid hk
          have hle := (endsL_le _ _ _ hk)
          clear hk
          rintro e w1 ⟨rfl, h1⟩
          rw [show endsV (some k) = k from rfl]
          have hcr1 : w1.cell? ⟨b, o + at_ * 7 + 6, none⟩ = some (.bool zr) := by rw [h1.cell (cell_lt hcr)]; exact hcr
          clear hcl hcr
          cases zr with
          | false =>
            go_wp2
            go_ret
            exact ⟨ret_int (by rw [HT.out]; simp [endsL, HK.out, endsV]), h1⟩
          | true =>
            go_wp2_with fail
            rw [show (at_ : Int) + (1 + (k : Int)) = ((at_ + 1 + k : Nat) : Int) by omega, show (deep : Int) + 1 = ((deep + 1 : Nat) : Int) by omega]
            refine (IH.out (at_ + 1 + k) (deep + 1) w1 (rangeAt_ext R.out h1) hl (by omega) (by omega)).mono ?_
            have hlen2 : (zs.drop (at_ + 1 + k)).length = zs.length - (at_ + 1 + k) := List.length_drop
            have e2 : (zs.drop (at_ + 1)).drop k = zs.drop (at_ + 1 + k) := by rw [List.drop_drop]
            cases hm : endsL f (zs.drop (at_ + 1 + k)) with
            | none =>
              have HM := Lib.hid hm
              have E2 := Lib.hid e2
              clear hm e2
              rintro e w2 ⟨rfl, h2⟩
              rw [show endsV none = -1 from rfl]
              go_wp2
              go_ret
              exact ⟨ret_int (by rw [HT.out]; simp [endsL, HK.out, E2.out, HM.out, endsV]), h1.trans h2⟩
            | some m =>
              have HM := Lib.hid hm
              have E2 := Lib.hid e2
              have hle := (endsL_le _ _ _ hm).2
              clear hm e2
              rintro e w2 ⟨rfl, h2⟩
              rw [show endsV (some m) = m from rfl]
              go_wp2
              go_ret
              exact ⟨ret_int (by rw [HT.out]; simp [endsL, HK.out, E2.out, HM.out, endsV]), h1.trans h2⟩
end Go.Proofs.YtoiohjifjmejkaaGreat
