/- Trees of beads: what May says of a row; joineryref09.May, Parts; joinerylaw09.Long, Make. -/
import Derived.Test.YteibbdieckephaaBead
import Derived.Test.YteibbdieckephaaDraw
import Derived.BigRegion
namespace Go.Proofs.Yteibbdieckephaa
open Go Go.RowKit

/-- a tree of beads: key, value, sum, size, tag. -/
inductive BT where
  | nil
  | node (k v s n g : Int) (l r : BT)
namespace BT
def isNil : BT → Bool
  | nil => true
  | node .. => false
def enc : BT → List BeadL
  | nil => []
  | node k v s n g l r => ⟨k, v, s, n, g, !l.isNil, !r.isNil⟩ :: (l.enc ++ r.enc)
theorem enc_nil_iff : ∀ t : BT, t.enc.length = 0 ↔ t.isNil = true
  | nil => by simp [enc, isNil]
  | node .. => by simp [enc, isNil]
end BT

theorem ends_sound : ∀ (f : Nat) (zs : List BeadL) (k : Nat), endsL f zs = some k → ∃ t : BT, t.isNil = false ∧ t.enc = zs.take k
  | 0, zs, k, h => by simp [endsL] at h
  | f + 1, [], k, h => by simp [endsL] at h
  | f + 1, b :: r, k, h => by
    unfold endsL at h
    split at h
    · cases h
    · rename_i n hn
      split at h
      · cases h
      · rename_i m hm
        obtain rfl : 1 + n + m = k := by simpa using h
        obtain ⟨l, hl0, hl⟩ : ∃ l : BT, l.isNil = !b.left ∧ l.enc = r.take n := by
          split at hn
          · rename_i hb
            obtain ⟨t, h1, h2⟩ := ends_sound f r n hn
            exact ⟨t, by simp [h1, hb], h2⟩
          · rename_i hb
            obtain rfl : 0 = n := by simpa using hn
            exact ⟨.nil, by simpa [BT.isNil] using hb, by simp [BT.enc]⟩
        obtain ⟨q, hq0, hq⟩ : ∃ q : BT, q.isNil = !b.right ∧ q.enc = (r.drop n).take m := by
          split at hm
          · rename_i hb
            obtain ⟨t, h1, h2⟩ := ends_sound f _ m hm
            exact ⟨t, by simp [h1, hb], h2⟩
          · rename_i hb
            obtain rfl : 0 = m := by simpa using hm
            exact ⟨.nil, by simpa [BT.isNil] using hb, by simp [BT.enc]⟩
        refine ⟨.node b.key b.val b.sum b.size b.tag l q, rfl, ?_⟩
        rw [BT.enc, hl0, hq0, hl, hq, show 1 + n + m = (n + m) + 1 by omega, List.take_succ_cons, List.take_add]
        simp
theorem ends_whole : ∀ (t : BT) (f : Nat) (rest : List BeadL), t.isNil = false → t.enc.length ≤ f → endsL f (t.enc ++ rest) = some t.enc.length
  | .nil, f, rest, h, _ => by simp [BT.isNil] at h
  | .node k v s n g l r, 0, rest, _, hf => by simp [BT.enc] at hf
  | .node k v s n g l r, f + 1, rest, _, hf => by
    have hlen : l.enc.length + r.enc.length ≤ f := by simp [BT.enc] at hf; omega
    have h1 : (if !l.isNil then endsL f (l.enc ++ (r.enc ++ rest)) else some 0) = some l.enc.length := by
      cases hn : l.isNil with
      | true => simp [(BT.enc_nil_iff l).2 hn]
      | false => simpa using ends_whole l f (r.enc ++ rest) hn (by omega)
    have h2 : (if !r.isNil then endsL f ((l.enc ++ (r.enc ++ rest)).drop l.enc.length) else some 0) = some r.enc.length := by
      rw [List.drop_left]
      cases hn : r.isNil with
      | true => simp [(BT.enc_nil_iff r).2 hn]
      | false => simpa using ends_whole r f rest hn (by omega)
    rw [BT.enc, List.cons_append, endsL, List.append_assoc]
    simp only [h1, h2]
    simp [List.length_append]
    omega

theorem beads_slice {w : World} {v : Value} {zs : List BeadL} (h : Beads w v zs) : ∃ a c, v = .slice a zs.length c := by
  rcases h with ⟨rfl, a, c, rfl⟩ | ⟨b, o, c, rfl, hne, hc, hr⟩
  · exact ⟨a, c, rfl⟩
  · exact ⟨_, c, rfl⟩
/-- what May says of a row. -/
def mayB (zs : List BeadL) : Bool := zs.length == 0 || endsV (endsL 400 zs) == zs.length
theorem mayB_tree {zs : List BeadL} (h : mayB zs = true) : ∃ t : BT, t.enc = zs := by
  by_cases h0 : zs.length = 0
  · exact ⟨.nil, by rw [List.eq_nil_of_length_eq_zero h0]; rfl⟩
  · have h1 : endsV (endsL 400 zs) = zs.length := by
      have : (zs.length == 0) = false := by simpa using h0
      unfold mayB at h
      rw [this, Bool.false_or] at h
      exact eq_of_beq h
    rcases hz : endsL 400 zs with _ | k
    · rw [hz] at h1
      simp only [endsV] at h1
      omega
    · rw [hz] at h1
      simp only [endsV] at h1
      obtain ⟨t, _, ht⟩ := ends_sound _ _ _ hz
      exact ⟨t, by rw [ht, show k = zs.length by omega, List.take_length]⟩

theorem rangeAt_head {w : World} {b o : Nat} {z : BeadL} {zs : List BeadL} (h : w.rangeAt b o (beadCells (z :: zs))) : w.rangeAt b o z.cells := by
  intro j u hj
  refine h j u ?_
  have hlt : j < z.cells.length := (List.getElem?_eq_some_iff.1 hj).1
  rw [beadCells, List.flatMap_cons, List.getElem?_append_left hlt, hj]
theorem rangeAt_sub {w : World} {b o : Nat} {zs : List BeadL} (h : w.rangeAt b o (beadCells zs)) (i m : Nat) : w.rangeAt b (o + i * 7) (beadCells ((zs.drop i).take m)) := by
  intro j u hj
  have hlt : j < (beadCells ((zs.drop i).take m)).length := (List.getElem?_eq_some_iff.1 hj).1
  rw [beadCells_len, List.length_take, List.length_drop] at hlt
  rw [Nat.add_assoc]
  refine h (i * 7 + j) u ?_
  obtain ⟨q, t, rfl, ht⟩ : ∃ q t, j = q * 7 + t ∧ t < 7 := ⟨j / 7, j % 7, by omega, by omega⟩
  have hi : i + q < zs.length := by omega
  have hq : q < m := by omega
  have hz : zs[i + q]? = some zs[i + q] := List.getElem?_eq_getElem hi
  have hz2 : ((zs.drop i).take m)[q]? = some zs[i + q] := by
    rw [List.getElem?_take_of_lt hq, List.getElem?_drop, hz]
  generalize zs[i + q] = z at hz hz2
  have a1 := beadCells_at zs (i + q) z t hz ht
  have a2 := beadCells_at _ q z t hz2 ht
  rw [hj] at a2
  rw [show i * 7 + (q * 7 + t) = (i + q) * 7 + t by omega, a1, ← a2]
theorem beads_sub {w : World} {b o c : Nat} {zs : List BeadL} (h : w.rangeAt b o (beadCells zs)) (hc : zs.length ≤ c) (i m c' : Nat) (him : i + m ≤ zs.length) (hc' : m ≤ c') (A : Option Addr) (hA : i < c → A = some ⟨b, o + i * 7, none⟩) :
    Beads w (.slice A m c') ((zs.drop i).take m) := by
  by_cases hm : m = 0
  · subst hm; exact .inl ⟨by simp, _, _, rfl⟩
  · have hlen : ((zs.drop i).take m).length = m := by rw [List.length_take, List.length_drop]; omega
    refine .inr ⟨b, o + i * 7, c', ?_, ?_, by omega, rangeAt_sub h i m⟩
    · rw [hA (by omega), hlen]
    · intro e
      rw [e] at hlen
      simp at hlen
      omega
theorem set7 {w : World} {N : Nat} {T : TypeId} {a0 a1 a2 a3 a4 a5 a6 : Value} (h : w.heap[N]? = some (.cells #[a0, a1, a2, a3, a4, a5, a6] T (0, 0))) (b0 b1 b2 b3 b4 b5 b6 : Value) :
    (((((((w.setCell ⟨N, 0, none⟩ b0).setCell ⟨N, 1, none⟩ b1).setCell ⟨N, 2, none⟩ b2).setCell ⟨N, 3, none⟩ b3).setCell ⟨N, 4, none⟩ b4).setCell ⟨N, 5, none⟩ b5).setCell ⟨N, 6, none⟩ b6).heap[N]? = some (.cells #[b0, b1, b2, b3, b4, b5, b6] T (0, 0)) := by
  simp [World.setCell, Array.getElem?_modify, h]
theorem Ext.put {w w1 : World} (h : Ext w w1) (j : Nat) (u : Value) : Ext w (w1.setCell ⟨w.heap.size, j, none⟩ u) := Below.setCell (B := w.heap.size) h (Nat.le_refl _) u
theorem set7_ext {w w1 : World} (h : Ext w w1) {T : TypeId} {a0 a1 a2 a3 a4 a5 a6 : Value} (hn : w1.heap[w.heap.size]? = some (.cells #[a0, a1, a2, a3, a4, a5, a6] T (0, 0))) (b0 b1 b2 b3 b4 b5 b6 : Value) :
    Ext w (World.drew (((((((w1.setCell ⟨w.heap.size, 0, none⟩ b0).setCell ⟨w.heap.size, 1, none⟩ b1).setCell ⟨w.heap.size, 2, none⟩ b2).setCell ⟨w.heap.size, 3, none⟩ b3).setCell ⟨w.heap.size, 4, none⟩ b4).setCell ⟨w.heap.size, 5, none⟩ b5).setCell ⟨w.heap.size, 6, none⟩ b6)) ∧ (World.drew (((((((w1.setCell ⟨w.heap.size, 0, none⟩ b0).setCell ⟨w.heap.size, 1, none⟩ b1).setCell ⟨w.heap.size, 2, none⟩ b2).setCell ⟨w.heap.size, 3, none⟩ b3).setCell ⟨w.heap.size, 4, none⟩ b4).setCell ⟨w.heap.size, 5, none⟩ b5).setCell ⟨w.heap.size, 6, none⟩ b6)).heap[w.heap.size]? = some (.cells #[b0, b1, b2, b3, b4, b5, b6] T (0, 0)) := by
  have e : ∀ W : World, (World.drew W).heap = W.heap := fun _ => rfl
  refine ⟨?_, by rw [e]; exact set7 hn b0 b1 b2 b3 b4 b5 b6⟩
  refine Below.drew ?_
  exact Ext.put (Ext.put (Ext.put (Ext.put (Ext.put (Ext.put (Ext.put h 0 b0) 1 b1) 2 b2) 3 b3) 4 b4) 5 b5) 6 b6
theorem results_row_tmp2 {fn : Func} {p t u : Tmp} {ty : TypeId} (h : fn.results = #[.cell p ty, .tmp t, .tmp u]) (tmps : Array Value) (w : World) {x : Value} {a : Addr} (hp : tmps.getD p undef = .pointer (some a))
    (hl : (loadVar ty a).run Try.prog w = .ok x w) : (results fn tmps).run Try.prog w = .ok (.tuple #[x, tmps.getD t undef, tmps.getD u undef]) w := by
  simp only [Array.getD_eq_getD_getElem?] at hp
  simp [results, h, hp, hl, asAddr]
/-- what Parts hands back. -/
def PartsOf (k v s n g : Int) (l r : BT) (w : World) (e : Ending) (w' : World) : Prop :=
  ∃ v1 v2, e = .returned (.tuple #[.agg #[.int .i64 k, .int .i64 v, .int .i64 s, .int .i64 n, .int .u64 g, .bool (!l.isNil), .bool (!r.isNil)], v1, v2]) ∧ Beads w' v1 l.enc ∧ Beads w' v2 r.enc ∧ Ext w w'
end Go.Proofs.Yteibbdieckephaa
