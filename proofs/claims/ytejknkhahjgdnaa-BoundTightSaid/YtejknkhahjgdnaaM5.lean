/- Trees of beads: what May says of a row; joineryref09.May, Parts; joinerylaw09.Long, Make. Rows of beads that a call owns: append onto them. joineryref09.Of and Node. joineryref34: node, even, full, spine, Lean. The going over a tree, each node ahead of its sides (avl.beads). The package avl, but for Check and May. avl.beads, as what goes over a tree; avl.Check, avl.May. avl.Check, avl.May. Plain facts of AVL trees; least trees; the examples of layer 14. joinerylaw14.least, joineryref14.Least, joinerylaw14.alive, and the walk of joinerylaw14.AvlLeast. joinerylaw09.Make: the tree in memory of a tree of beads. joineryref09.Same at equal rows; joinerylaw09.see, See, Is. Trees in memory and trees of beads: height, pairs, sides, and what one tells of the other (plain). joineryref14: Tag, one, Check, May of a row of beads, as avl's own of the tree in memory. The walk of joinerylaw14.AvlTells. -/
import Derived.Test.YtejknkhahjgdnaaM4
import Derived.BigRegion
import Derived.Maps.AppendAt
import Derived.Deep.Upon
import Derived.BigQuiet
namespace Go.Proofs.Ytejknkhahjgdnaa
open Go Go.RowKit

/-- a tree of beads: key, value, sum, size, tag. -/
inductive BT where
  | nil
  | node (k v s n g : Int) (l r : BT)
namespace BT
def isNil : BT → Bool
  | nil => true
  | node .. => false
def enc : BT → List BeadL
  | nil => []
  | node k v s n g l r => ⟨k, v, s, n, g, !l.isNil, !r.isNil⟩ :: (l.enc ++ r.enc)
theorem enc_nil_iff : ∀ t : BT, t.enc.length = 0 ↔ t.isNil = true
  | nil => by simp [enc, isNil]
  | node .. => by simp [enc, isNil]
end BT

theorem ends_sound : ∀ (f : Nat) (zs : List BeadL) (k : Nat), endsL f zs = some k → ∃ t : BT, t.isNil = false ∧ t.enc = zs.take k
  | 0, zs, k, h => by simp [endsL] at h
  | f + 1, [], k, h => by simp [endsL] at h
  | f + 1, b :: r, k, h => by
    unfold endsL at h
    split at h
    · cases h
    · rename_i n hn
      split at h
      · cases h
      · rename_i m hm
        obtain rfl : 1 + n + m = k := by simpa using h
        obtain ⟨l, hl0, hl⟩ : ∃ l : BT, l.isNil = !b.left ∧ l.enc = r.take n := by
          split at hn
          · rename_i hb
            obtain ⟨t, h1, h2⟩ := ends_sound f r n hn
            exact ⟨t, by simp [h1, hb], h2⟩
          · rename_i hb
            obtain rfl : 0 = n := by simpa using hn
            exact ⟨.nil, by simpa [BT.isNil] using hb, by simp [BT.enc]⟩
        obtain ⟨q, hq0, hq⟩ : ∃ q : BT, q.isNil = !b.right ∧ q.enc = (r.drop n).take m := by
          split at hm
          · rename_i hb
            obtain ⟨t, h1, h2⟩ := ends_sound f _ m hm
            exact ⟨t, by simp [h1, hb], h2⟩
          · rename_i hb
            obtain rfl : 0 = m := by simpa using hm
            exact ⟨.nil, by simpa [BT.isNil] using hb, by simp [BT.enc]⟩
        refine ⟨.node b.key b.val b.sum b.size b.tag l q, rfl, ?_⟩
        rw [BT.enc, hl0, hq0, hl, hq, show 1 + n + m = (n + m) + 1 by omega, List.take_succ_cons, List.take_add]
        simp
theorem ends_whole : ∀ (t : BT) (f : Nat) (rest : List BeadL), t.isNil = false → t.enc.length ≤ f → endsL f (t.enc ++ rest) = some t.enc.length
  | .nil, f, rest, h, _ => by simp [BT.isNil] at h
  | .node k v s n g l r, 0, rest, _, hf => by simp [BT.enc] at hf
  | .node k v s n g l r, f + 1, rest, _, hf => by
    have hlen : l.enc.length + r.enc.length ≤ f := by simp [BT.enc] at hf; omega
    have h1 : (if !l.isNil then endsL f (l.enc ++ (r.enc ++ rest)) else some 0) = some l.enc.length := by
      cases hn : l.isNil with
      | true => simp [(BT.enc_nil_iff l).2 hn]
      | false => simpa using ends_whole l f (r.enc ++ rest) hn (by omega)
    have h2 : (if !r.isNil then endsL f ((l.enc ++ (r.enc ++ rest)).drop l.enc.length) else some 0) = some r.enc.length := by
      rw [List.drop_left]
      cases hn : r.isNil with
      | true => simp [(BT.enc_nil_iff r).2 hn]
      | false => simpa using ends_whole r f rest hn (by omega)
    rw [BT.enc, List.cons_append, endsL, List.append_assoc]
    simp only [h1, h2]
    simp [List.length_append]
    omega

theorem beads_slice {w : World} {v : Value} {zs : List BeadL} (h : Beads w v zs) : ∃ a c, v = .slice a zs.length c := by
  rcases h with ⟨rfl, a, c, rfl⟩ | ⟨b, o, c, rfl, hne, hc, hr⟩
  · exact ⟨a, c, rfl⟩
  · exact ⟨_, c, rfl⟩
/-- what May says of a row. -/
def mayB (zs : List BeadL) : Bool := zs.length == 0 || endsV (endsL 400 zs) == zs.length
theorem mayB_tree {zs : List BeadL} (h : mayB zs = true) : ∃ t : BT, t.enc = zs := by
  by_cases h0 : zs.length = 0
  · exact ⟨.nil, by rw [List.eq_nil_of_length_eq_zero h0]; rfl⟩
  · have h1 : endsV (endsL 400 zs) = zs.length := by
      have : (zs.length == 0) = false := by simpa using h0
      unfold mayB at h
      rw [this, Bool.false_or] at h
      exact eq_of_beq h
    rcases hz : endsL 400 zs with _ | k
    · rw [hz] at h1
      simp only [endsV] at h1
      omega
    · rw [hz] at h1
      simp only [endsV] at h1
      obtain ⟨t, _, ht⟩ := ends_sound _ _ _ hz
      exact ⟨t, by rw [ht, show k = zs.length by omega, List.take_length]⟩

theorem rangeAt_head {w : World} {b o : Nat} {z : BeadL} {zs : List BeadL} (h : w.rangeAt b o (beadCells (z :: zs))) : w.rangeAt b o z.cells := by
  intro j u hj
  refine h j u ?_
  have hlt : j < z.cells.length := (List.getElem?_eq_some_iff.1 hj).1
  rw [beadCells, List.flatMap_cons, List.getElem?_append_left hlt, hj]
theorem rangeAt_sub {w : World} {b o : Nat} {zs : List BeadL} (h : w.rangeAt b o (beadCells zs)) (i m : Nat) : w.rangeAt b (o + i * 7) (beadCells ((zs.drop i).take m)) := by
  intro j u hj
  have hlt : j < (beadCells ((zs.drop i).take m)).length := (List.getElem?_eq_some_iff.1 hj).1
  rw [beadCells_len, List.length_take, List.length_drop] at hlt
  rw [Nat.add_assoc]
  refine h (i * 7 + j) u ?_
  obtain ⟨q, t, rfl, ht⟩ : ∃ q t, j = q * 7 + t ∧ t < 7 := ⟨j / 7, j % 7, by omega, by omega⟩
  have hi : i + q < zs.length := by omega
  have hq : q < m := by omega
  have hz : zs[i + q]? = some zs[i + q] := List.getElem?_eq_getElem hi
  have hz2 : ((zs.drop i).take m)[q]? = some zs[i + q] := by
    rw [List.getElem?_take_of_lt hq, List.getElem?_drop, hz]
  generalize zs[i + q] = z at hz hz2
  have a1 := beadCells_at zs (i + q) z t hz ht
  have a2 := beadCells_at _ q z t hz2 ht
  rw [hj] at a2
  rw [show i * 7 + (q * 7 + t) = (i + q) * 7 + t by omega, a1, ← a2]
theorem beads_sub {w : World} {b o c : Nat} {zs : List BeadL} (h : w.rangeAt b o (beadCells zs)) (hc : zs.length ≤ c) (i m c' : Nat) (him : i + m ≤ zs.length) (hc' : m ≤ c') (A : Option Addr) (hA : i < c → A = some ⟨b, o + i * 7, none⟩) :
    Beads w (.slice A m c') ((zs.drop i).take m) := by
  by_cases hm : m = 0
  · subst hm; exact .inl ⟨by simp, _, _, rfl⟩
  · have hlen : ((zs.drop i).take m).length = m := by rw [List.length_take, List.length_drop]; omega
    refine .inr ⟨b, o + i * 7, c', ?_, ?_, by omega, rangeAt_sub h i m⟩
    · rw [hA (by omega), hlen]
    · intro e
      rw [e] at hlen
      simp at hlen
      omega
theorem set7 {w : World} {N : Nat} {T : TypeId} {a0 a1 a2 a3 a4 a5 a6 : Value} (h : w.heap[N]? = some (.cells #[a0, a1, a2, a3, a4, a5, a6] T (0, 0))) (b0 b1 b2 b3 b4 b5 b6 : Value) :
    (((((((w.setCell ⟨N, 0, none⟩ b0).setCell ⟨N, 1, none⟩ b1).setCell ⟨N, 2, none⟩ b2).setCell ⟨N, 3, none⟩ b3).setCell ⟨N, 4, none⟩ b4).setCell ⟨N, 5, none⟩ b5).setCell ⟨N, 6, none⟩ b6).heap[N]? = some (.cells #[b0, b1, b2, b3, b4, b5, b6] T (0, 0)) := by
  simp [World.setCell, Array.getElem?_modify, h]
theorem Ext.put {w w1 : World} (h : Ext w w1) (j : Nat) (u : Value) : Ext w (w1.setCell ⟨w.heap.size, j, none⟩ u) := Below.setCell (B := w.heap.size) h (Nat.le_refl _) u
theorem set7_ext {w w1 : World} (h : Ext w w1) {T : TypeId} {a0 a1 a2 a3 a4 a5 a6 : Value} (hn : w1.heap[w.heap.size]? = some (.cells #[a0, a1, a2, a3, a4, a5, a6] T (0, 0))) (b0 b1 b2 b3 b4 b5 b6 : Value) :
    Ext w (World.drew (((((((w1.setCell ⟨w.heap.size, 0, none⟩ b0).setCell ⟨w.heap.size, 1, none⟩ b1).setCell ⟨w.heap.size, 2, none⟩ b2).setCell ⟨w.heap.size, 3, none⟩ b3).setCell ⟨w.heap.size, 4, none⟩ b4).setCell ⟨w.heap.size, 5, none⟩ b5).setCell ⟨w.heap.size, 6, none⟩ b6)) ∧ (World.drew (((((((w1.setCell ⟨w.heap.size, 0, none⟩ b0).setCell ⟨w.heap.size, 1, none⟩ b1).setCell ⟨w.heap.size, 2, none⟩ b2).setCell ⟨w.heap.size, 3, none⟩ b3).setCell ⟨w.heap.size, 4, none⟩ b4).setCell ⟨w.heap.size, 5, none⟩ b5).setCell ⟨w.heap.size, 6, none⟩ b6)).heap[w.heap.size]? = some (.cells #[b0, b1, b2, b3, b4, b5, b6] T (0, 0)) := by
  have e : ∀ W : World, (World.drew W).heap = W.heap := fun _ => rfl
  refine ⟨?_, by rw [e]; exact set7 hn b0 b1 b2 b3 b4 b5 b6⟩
  refine Below.drew ?_
  exact Ext.put (Ext.put (Ext.put (Ext.put (Ext.put (Ext.put (Ext.put h 0 b0) 1 b1) 2 b2) 3 b3) 4 b4) 5 b5) 6 b6
theorem results_row_tmp2 {fn : Func} {p t u : Tmp} {ty : TypeId} (h : fn.results = #[.cell p ty, .tmp t, .tmp u]) (tmps : Array Value) (w : World) {x : Value} {a : Addr} (hp : tmps.getD p undef = .pointer (some a))
    (hl : (loadVar ty a).run Try.prog w = .ok x w) : (results fn tmps).run Try.prog w = .ok (.tuple #[x, tmps.getD t undef, tmps.getD u undef]) w := by
  simp only [Array.getD_eq_getD_getElem?] at hp
  simp [results, h, hp, hl, asAddr]
theorem load_cells {w : World} {N : Nat} {z : BeadL} (h : w.heap[N]? = some (.cells z.cells.toArray 66 (0, 0))) : (loadVar 66 ⟨N, 0, none⟩).run Try.prog w = .ok (.agg z.cells.toArray) w := by
  refine run_loadVar_mid w N 0 _ z.cells _ (fun j v hj => ?_) Try.underlying66 rfl (by kernel_rfl)
  rw [Nat.zero_add, cell_of h j]
  simpa using hj
/-- what Parts hands back. -/
def PartsOf (k v s n g : Int) (l r : BT) (w : World) (e : Ending) (w' : World) : Prop :=
  ∃ v1 v2, e = .returned (.tuple #[.agg #[.int .i64 k, .int .i64 v, .int .i64 s, .int .i64 n, .int .u64 g, .bool (!l.isNil), .bool (!r.isNil)], v1, v2]) ∧ Beads w' v1 l.enc ∧ Beads w' v2 r.enc ∧ Ext w w'
set_option maxHeartbeats 400000 in
theorem parts_any (w : World) (p : Value) (k v s n g : Int) (l r : BT) (hb : Beads w p (BT.node k v s n g l r).enc) (hl : (BT.node k v s n g l r).enc.length ≤ 2000) :
    Calls Try.prog 38 #[p] w (PartsOf k v s n g l r w) := by
  rcases hb with ⟨h, _⟩ | ⟨b, o, c, rfl, hne, hc, hr⟩
  · simp [BT.enc] at h
  have hcl : w.cell? ⟨b, o + 5, none⟩ = some (.bool (!l.isNil)) := rangeAt_cell hr (i := 0) rfl (j := 5) rfl
  have hh := rangeAt_head hr
  have hcs : ∀ W', Ext w W' → W'.rangeAt b o (BeadL.cells ⟨k, v, s, n, g, !l.isNil, !r.isNil⟩) := fun W' e => rangeAt_ext hh e
  clear hh
  have hlen : (BT.node k v s n g l r).enc.length = 1 + l.enc.length + r.enc.length := by simp [BT.enc]; omega
  have H := Lib.hid hr
  have HC := Lib.hid hcs
  clear hr hne hcs
  have hfn : ∀ f, Fence.wide.fn f := fun _ => trivial
  cases hn : l.isNil with
  | true =>
    rw [hn] at hcl
    have hl0 := (BT.enc_nil_iff l).2 hn
    have hcl1 : (w.alloc (.cells #[.int .i64 0, .int .i64 0, .int .i64 0, .int .i64 0, .int .u64 0, .bool false, .bool false] 66)).cell? ⟨b, o + 5, none⟩ = some (.bool false) := by
      rw [((Ext.refl w).alloc _).cell (cell_lt hcl)]; exact hcl
    have hE := (Ext.refl w).alloc (.cells #[.int .i64 0, .int .i64 0, .int .i64 0, .int .i64 0, .int .u64 0, .bool false, .bool false] 66)
    have hnew := alloc_at w (.cells #[.int .i64 0, .int .i64 0, .int .i64 0, .int .i64 0, .int .u64 0, .bool false, .bool false] 66) _ rfl
    go_enter Try.func38, Try.ntmps38
    go_wp2_with fail
    generalize w.alloc (.cells #[.int .i64 0, .int .i64 0, .int .i64 0, .int .i64 0, .int .u64 0, .bool false, .bool false] 66) = w1 at *
    have hc0 : w1.cell? ⟨b, o, none⟩ = some (.int .i64 k) := HC.out w1 hE 0 _ rfl
    have hc1 : w1.cell? ⟨b, o + 1, none⟩ = some (.int .i64 v) := HC.out w1 hE 1 _ rfl
    have hc2 : w1.cell? ⟨b, o + 2, none⟩ = some (.int .i64 s) := HC.out w1 hE 2 _ rfl
    have hc3 : w1.cell? ⟨b, o + 3, none⟩ = some (.int .i64 n) := HC.out w1 hE 3 _ rfl
    have hc4 : w1.cell? ⟨b, o + 4, none⟩ = some (.int .u64 g) := HC.out w1 hE 4 _ rfl
    have hc5 : w1.cell? ⟨b, o + 5, none⟩ = some (.bool (!l.isNil)) := HC.out w1 hE 5 _ rfl
    have hc6 : w1.cell? ⟨b, o + 6, none⟩ = some (.bool (!r.isNil)) := HC.out w1 hE 6 _ rfl
    have hn0 := cell_of hnew 0
    have hn1 := cell_of hnew 1
    have hn2 := cell_of hnew 2
    have hn3 := cell_of hnew 3
    have hn4 := cell_of hnew 4
    have hn5 := cell_of hnew 5
    have hn6 := cell_of hnew 6
    have hf0 := frozen_of hnew 0
    have hf1 := frozen_of hnew 1
    have hf2 := frozen_of hnew 2
    have hf3 := frozen_of hnew 3
    have hf4 := frozen_of hnew 4
    have hf5 := frozen_of hnew 5
    have hf6 := frozen_of hnew 6
    simp at hn0 hn1 hn2 hn3 hn4 hn5 hn6
    have hlen1 : 1 ≤ (BT.node k v s n g l r).enc.length := by omega
    clear hcl hn hcl1
    have HLEN := Lib.hid hlen
    clear hlen
    have hlt : b < w.heap.size := cell_lt (HC.out w (Ext.refl w) 0 _ rfl)
    generalize hLL : (BT.node k v s n g l r).enc.length = LL at *
    have HLL := Lib.hid hLL
    clear hLL
    go_region
    generalize hA : (if c = 1 then some (⟨b, o, none⟩ : Addr) else some ⟨b, o + 7, none⟩) = A
    have HA := Lib.hid hA
    clear hA
    go_wp2
    obtain ⟨hb, hh⟩ := set7_ext hE hnew (.int .i64 k) (.int .i64 v) (.int .i64 s) (.int .i64 n) (.int .u64 g) (.bool (!l.isNil)) (.bool (!r.isNil))
    generalize World.drew (((((((w1.setCell ⟨w.heap.size, 0, none⟩ (.int .i64 k)).setCell ⟨w.heap.size, 1, none⟩ (.int .i64 v)).setCell ⟨w.heap.size, 2, none⟩ (.int .i64 s)).setCell ⟨w.heap.size, 3, none⟩ (.int .i64 n)).setCell ⟨w.heap.size, 4, none⟩ (.int .u64 g)).setCell ⟨w.heap.size, 5, none⟩ (.bool (!l.isNil))).setCell ⟨w.heap.size, 6, none⟩ (.bool (!r.isNil))) = W at *
    have hh : W.heap[w.heap.size]? = some (.cells (BeadL.cells ⟨k, v, s, n, g, !l.isNil, !r.isNil⟩).toArray 66 (0, 0)) := hh
    have hres := load_cells hh
    (try simp only [Exit.inBlock, Exit.then])
    refine bodyPost_ret (results_row_tmp2 rfl _ _ rfl hres) rfl ?_
    have h1 := HA.out
    have h2 := HLEN.out
    have h4 := HLL.out
    have h3 := rangeAt_ext H.out hb
    refine ⟨_, _, rfl, ?_, ?_, hb⟩
    · refine .inl ⟨List.eq_nil_of_length_eq_zero hl0, _, _, rfl⟩
    · have := beads_sub (c := c) h3 (by omega) 1 (LL - 1) (c - 1) (by omega) (by omega) A (fun hc => by rw [← h1, if_neg (by omega)])
      rw [show (BT.node k v s n g l r).enc = ⟨k, v, s, n, g, !l.isNil, !r.isNil⟩ :: (l.enc ++ r.enc) from rfl, List.drop_succ_cons, List.drop_zero, List.eq_nil_of_length_eq_zero hl0, List.nil_append, List.take_of_length_le (by omega)] at this
      exact this
  | false =>
    rw [hn] at hcl
    have hl0 : 1 ≤ l.enc.length := by
      have h1 := (BT.enc_nil_iff l).1
      rw [hn] at h1
      rcases Nat.eq_zero_or_pos l.enc.length with h2 | h2
      · simp [h2] at h1
      · exact h2
    have hends : endsL 2000 ((BT.node k v s n g l r).enc.drop 1) = some l.enc.length := ends_whole l 2000 r.enc hn (by omega)
    have hcl1 : (w.alloc (.cells #[.int .i64 0, .int .i64 0, .int .i64 0, .int .i64 0, .int .u64 0, .bool false, .bool false] 66)).cell? ⟨b, o + 5, none⟩ = some (.bool true) := by
      rw [((Ext.refl w).alloc _).cell (cell_lt hcl)]; exact hcl
    have hE := (Ext.refl w).alloc (.cells #[.int .i64 0, .int .i64 0, .int .i64 0, .int .i64 0, .int .u64 0, .bool false, .bool false] 66)
    have hnew := alloc_at w (.cells #[.int .i64 0, .int .i64 0, .int .i64 0, .int .i64 0, .int .u64 0, .bool false, .bool false] 66) _ rfl
    have hcall := ends_any b o c (BT.node k v s n g l r).enc 2000 1 0 (w.alloc (.cells #[.int .i64 0, .int .i64 0, .int .i64 0, .int .i64 0, .int .u64 0, .bool false, .bool false] 66)) (rangeAt_ext H.out hE) hl (by omega) (by omega)
    rw [hends] at hcall
    have HCALL := Lib.hid hcall
    have HLEN := Lib.hid hlen
    have hlL : l.enc.length + 1 ≤ (BT.node k v s n g l r).enc.length := by omega
    clear hn hends hcall hlen
    generalize hLL : (BT.node k v s n g l r).enc.length = LL at *
    have HLL := Lib.hid hLL
    clear hLL
    generalize hL : l.enc.length = L at *
    have HL := Lib.hid hL
    clear hL
    go_enter Try.func38, Try.ntmps38
    go_wp2_with fail
    refine HCALL.out.mono ?_
    rw [show endsV (some L) = L from rfl]
    rintro e w1 ⟨rfl, h01⟩
    have hE1 : Ext w w1 := hE.trans h01
    have hnew1 : w1.heap[w.heap.size]? = _ := (h01.block w.heap.size (by simp)).trans hnew
    have hc0 : w1.cell? ⟨b, o, none⟩ = some (.int .i64 k) := HC.out w1 hE1 0 _ rfl
    have hc1 : w1.cell? ⟨b, o + 1, none⟩ = some (.int .i64 v) := HC.out w1 hE1 1 _ rfl
    have hc2 : w1.cell? ⟨b, o + 2, none⟩ = some (.int .i64 s) := HC.out w1 hE1 2 _ rfl
    have hc3 : w1.cell? ⟨b, o + 3, none⟩ = some (.int .i64 n) := HC.out w1 hE1 3 _ rfl
    have hc4 : w1.cell? ⟨b, o + 4, none⟩ = some (.int .u64 g) := HC.out w1 hE1 4 _ rfl
    have hc5 : w1.cell? ⟨b, o + 5, none⟩ = some (.bool (!l.isNil)) := HC.out w1 hE1 5 _ rfl
    have hc6 : w1.cell? ⟨b, o + 6, none⟩ = some (.bool (!r.isNil)) := HC.out w1 hE1 6 _ rfl
    have hn0 := cell_of hnew1 0
    have hn1 := cell_of hnew1 1
    have hn2 := cell_of hnew1 2
    have hn3 := cell_of hnew1 3
    have hn4 := cell_of hnew1 4
    have hn5 := cell_of hnew1 5
    have hn6 := cell_of hnew1 6
    have hf0 := frozen_of hnew1 0
    have hf1 := frozen_of hnew1 1
    have hf2 := frozen_of hnew1 2
    have hf3 := frozen_of hnew1 3
    have hf4 := frozen_of hnew1 4
    have hf5 := frozen_of hnew1 5
    have hf6 := frozen_of hnew1 6
    simp at hn0 hn1 hn2 hn3 hn4 hn5 hn6
    have hlt : b < w.heap.size := cell_lt hcl
    clear hcl hcl1 hE hnew h01
    go_wp2_with fail
    go_region
    generalize hA : (if c = 1 + L then some (⟨b, o, none⟩ : Addr) else some ⟨b, o + (1 + L) * 7, none⟩) = A
    have HA := Lib.hid hA
    clear hA
    go_wp2
    obtain ⟨hb, hh⟩ := set7_ext hE1 hnew1 (.int .i64 k) (.int .i64 v) (.int .i64 s) (.int .i64 n) (.int .u64 g) (.bool (!l.isNil)) (.bool (!r.isNil))
    generalize World.drew (((((((w1.setCell ⟨w.heap.size, 0, none⟩ (.int .i64 k)).setCell ⟨w.heap.size, 1, none⟩ (.int .i64 v)).setCell ⟨w.heap.size, 2, none⟩ (.int .i64 s)).setCell ⟨w.heap.size, 3, none⟩ (.int .i64 n)).setCell ⟨w.heap.size, 4, none⟩ (.int .u64 g)).setCell ⟨w.heap.size, 5, none⟩ (.bool (!l.isNil))).setCell ⟨w.heap.size, 6, none⟩ (.bool (!r.isNil))) = W at *
    have hh : W.heap[w.heap.size]? = some (.cells (BeadL.cells ⟨k, v, s, n, g, !l.isNil, !r.isNil⟩).toArray 66 (0, 0)) := hh
    have hres := load_cells hh
    (try simp only [Exit.inBlock, Exit.then])
    refine bodyPost_ret (results_row_tmp2 rfl _ _ rfl hres) rfl ?_
    have h1 := HA.out
    have h2 := HLEN.out
    have h4 := HLL.out
    have h5 := HL.out
    have h3 := rangeAt_ext H.out hb
    have hd : (BT.node k v s n g l r).enc.drop 1 = l.enc ++ r.enc := rfl
    have hd2 : (BT.node k v s n g l r).enc.drop (1 + L) = r.enc := by
      rw [← List.drop_drop, hd, ← h5, List.drop_left]
    refine ⟨_, _, rfl, ?_, ?_, hb⟩
    · have := beads_sub (c := c) h3 (by omega) 1 (1 + L - 1) (c - 1) (by omega) (by omega) (some ⟨b, o + 7, none⟩) (fun _ => by rw [Nat.one_mul])
      rw [hd, show 1 + L - 1 = l.enc.length by omega, List.take_left] at this
      rw [show 1 + L - 1 = l.enc.length by omega]
      exact this
    · have := beads_sub (c := c) h3 (by omega) (1 + L) (LL - (1 + L)) (c - (1 + L)) (by omega) (by omega) A (fun hc => by rw [← h1, if_neg (by omega)])
      rw [hd2, List.take_of_length_le (by omega)] at this
      exact this
end Go.Proofs.Ytejknkhahjgdnaa
namespace Go.Proofs.Ytejknkhahjgdnaa
open Go Go.RowKit

/-- a row that was made since the heap had B blocks. -/
def Own (B : Nat) (w : World) (v : Value) (zs : List BeadL) : Prop := w.ownsRow B 66 7 v zs.length (beadCells zs)
theorem Own.beads {B : Nat} {w : World} {v : Value} {zs : List BeadL} (h : Own B w v zs) : Beads w v zs := by
  obtain ⟨h1, ⟨rfl, h0⟩ | ⟨g, cap, cur, rfl, hb, hg, hc, hm, hs, ht⟩⟩ := h
  · exact .inl ⟨List.eq_nil_of_length_eq_zero h0, _, 0, rfl⟩
  · by_cases h0 : zs = []
    · subst h0; exact .inl ⟨rfl, _, _, rfl⟩
    · refine .inr ⟨g, 0, cap, rfl, h0, hc, fun j u hj => ?_⟩
      rw [Nat.zero_add, cell_of hg j]
      rw [← ht, List.getElem?_take] at hj
      split at hj
      · simpa using hj
      · cases hj
theorem Own.nil (B : Nat) (w : World) : Own B w (.slice none 0 0) [] := ⟨rfl, .inl ⟨rfl, rfl⟩⟩
theorem Own.ext {B : Nat} {w w' : World} {v : Value} {zs : List BeadL} (h : Own B w v zs) (e : Ext w w') : Own B w' v zs := by
  obtain ⟨h1, h | ⟨g, cap, cur, hv, hb, hg, hc⟩⟩ := h
  · exact ⟨h1, .inl h⟩
  · exact ⟨h1, .inr ⟨g, cap, cur, hv, hb, (e.block g (lt_of hg)).trans hg, hc⟩⟩
theorem Own.mono {B B' : Nat} {w : World} {v : Value} {zs : List BeadL} (h : Own B w v zs) (e : B' ≤ B) : Own B' w v zs := by
  obtain ⟨h1, h | ⟨g, cap, cur, hv, hb, hg, hc⟩⟩ := h
  · exact ⟨h1, .inl h⟩
  · exact ⟨h1, .inr ⟨g, cap, cur, hv, Nat.le_trans e hb, hg, hc⟩⟩
theorem bead_info : ∃ i : TypeInfo, Try.prog.info? 66 = some i ∧ i.zero = some (.agg #[.int .i64 0, .int .i64 0, .int .i64 0, .int .i64 0, .int .u64 0, .bool false, .bool false]) ∧ i.size = 7 ∧ i.bytes = 48 := by
  have h : (Try.prog.info? 66).map (fun i => (i.zero, i.size, i.bytes)) = some (some (.agg #[.int .i64 0, .int .i64 0, .int .i64 0, .int .i64 0, .int .u64 0, .bool false, .bool false]), 7, 48) := by kernel_rfl
  cases hi : Try.prog.info? 66 with
  | none => rw [hi] at h; cases h
  | some i =>
    rw [hi] at h
    simp only [Option.map_some, Option.some.injEq, Prod.mk.injEq] at h
    exact ⟨i, rfl, h.1, h.2.1, h.2.2⟩
theorem beadCells_one : ∀ (zs : List BeadL), ∀ u ∈ beadCells zs, u.oneCell' = true
  | [], u, h => by simp [beadCells] at h
  | z :: zs, u, h => by
    rw [beadCells, List.flatMap_cons, List.mem_append] at h
    rcases h with h | h
    · simp only [BeadL.cells, List.mem_cons, List.not_mem_nil, or_false] at h
      rcases h with rfl | rfl | rfl | rfl | rfl | rfl | rfl <;> rfl
    · exact beadCells_one zs u h
theorem beadCells_append (a b : List BeadL) : beadCells (a ++ b) = beadCells a ++ beadCells b := by simp [beadCells]
/-- append, onto a row of one's own. -/
theorem append_own {B : Nat} {w : World} {v u : Value} {zs ys : List BeadL} (ty : TypeId) (hv : Own B w v zs) (hu : Beads w u ys) (hlen : zs.length + ys.length ≤ 10000) (hB : B ≤ w.heap.size) :
    ∃ v' w', (Builtin.append_ #[45, 45] ty #[v, u]).run Try.prog w = .ok v' w' ∧ Own B w' v' (zs ++ ys) ∧ w.grownBy w' v.ownBlock := by
  obtain ⟨i, hi, hz, hs, hb⟩ := bead_info
  have hml : (10000 : Nat) ≤ maxLen := by decide
  by_cases h0 : ys = []
  · subst h0
    have hu' : ∃ a c, u = .slice a 0 c := by
      obtain ⟨a, c, rfl⟩ := beads_slice hu
      exact ⟨a, c, rfl⟩
    obtain ⟨a, c, rfl⟩ := hu'
    have hsrc : Src Try.prog i.size 45 (.slice a 0 c) 0 [] w := by
      cases a with
      | none => exact Src.ofNil w Try.underlying45 c
      | some a => exact Src.ofSlice w Try.underlying45 a 0 c [] (by simp) (by simp) (by simp)
    have hv' : ∃ p l c', v = .slice p l c' ∧ l ≤ c' := by
      rcases hv with ⟨_, ⟨rfl, h0⟩ | ⟨g, cap, cur, rfl, _, _, hc, _⟩⟩
      · exact ⟨_, _, _, rfl, Nat.le_refl _⟩
      · exact ⟨_, _, _, rfl, hc⟩
    obtain ⟨p, l, c', rfl, hlc⟩ := hv'
    refine ⟨_, w, run_append_nothing w _ _ ty _ i Try.underlying45 hi p l c' hlc _ hsrc, by simpa using hv, ⟨rfl, rfl, rfl, Nat.le_refl _, fun _ _ _ => rfl⟩⟩
  · rcases hu with ⟨h, _⟩ | ⟨b, o, c, rfl, _, hc, hr⟩
    · exact (h0 h).elim
    · obtain ⟨v', w', hrun, hown, hg, _, _⟩ := run_append_own_at (P := Try.prog) w B _ ty _ i _ 7 48 Try.underlying45 hi hz hs hb rfl (by omega) v zs.length (beadCells zs) hv ⟨b, o, none⟩ ys.length c (beadCells ys) (beadCells_len ys)
        (fun j u hj => by rw [Addr.add_mid]; exact hr j u hj) (beadCells_one ys) (by omega) (by omega) hB
      refine ⟨v', w', hrun, ?_, hg⟩
      show w'.ownsRow _ _ _ _ _ _
      rw [List.length_append, beadCells_append]
      exact hown
/-- what append leaves alone. -/
theorem grown_ext {w0 w w' : World} {v : Value} {zs : List BeadL} (hw : Ext w0 w) (hv : Own w0.heap.size w v zs) (hg : w.grownBy w' v.ownBlock) : Ext w0 w' := by
  refine RowKit.Below.grown hw hg hw.size ?_
  intro k hk
  rcases hv with ⟨_, ⟨rfl, h0⟩ | ⟨g, cap, cur, rfl, hb, _⟩⟩
  · cases hk
  · simp only [Value.ownBlock, Option.some.injEq] at hk
    omega

/-- a new row of one bead. -/
theorem own_new {B : Nat} {w : World} (z : BeadL) (h : B ≤ w.heap.size) : Own B (w.alloc (.cells #[.int .i64 z.key, .int .i64 z.val, .int .i64 z.sum, .int .i64 z.size, .int .u64 z.tag, .bool z.left, .bool z.right] 66)) (.slice (some ⟨w.heap.size, 0, none⟩) 1 1) [z] :=
  ⟨rfl, .inr ⟨w.heap.size, 1, _, rfl, h, alloc_at _ _ _ rfl, Nat.le_refl _, by decide, rfl, rfl⟩⟩
section
variable {F : Fence} {n : Nat} {ops : Array Oper} {rest : List Oper} {o : Oper} {a : Act} {Q : Exit → Act → World → Prop}
theorem wpList_append_beads (hgd : o.guard = none) (s x : Operand) (ho : o.op = .call { callee := .builtin .append, args := #[s, x], argTypes := #[45, 45] })
    {B : Nat} {w : World} {v u : Value} {zs ys : List BeadL} (hs : a.eval s = v) (hx : a.eval x = u) (hv : Own B w v zs) (hu : Beads w u ys) (hlen : zs.length + ys.length ≤ 10000) (hB : B ≤ w.heap.size)
    (h : ∀ v' w', Own B w' v' (zs ++ ys) → w.grownBy w' v.ownBlock → wpList Try.prog ops Q rest (a.put o.dst v') w') : wpList Try.prog ops Q (o :: rest) a w := by
  refine wpList_plain hgd fun K hK => ?_
  obtain ⟨v', w', hr, h2, h3⟩ := append_own o.type hv hu hlen hB
  unfold Oper.wp execOp
  simp only [ho, resolve, invoke, builtin, Sem.run_bind, Sem.run_pure, Result.andThen_ok, List.map_toArray, List.map_cons, List.map_nil, hs, hx, hr]
  exact hK _ _ (h v' w' h2 h3)
theorem wpListIn_append_beads (hgd : o.guard = none) (s x : Operand) (ho : o.op = .call { callee := .builtin .append, args := #[s, x], argTypes := #[45, 45] })
    {B : Nat} {w : World} {v u : Value} {zs ys : List BeadL} (hs : a.eval s = v) (hx : a.eval x = u) (hv : Own B w v zs) (hu : Beads w u ys) (hlen : zs.length + ys.length ≤ 10000) (hB : B ≤ w.heap.size)
    (hfn : ∀ f, F.fn f)
    (h : ∀ v' w', Own B w' v' (zs ++ ys) → w.grownBy w' v.ownBlock → wpListIn F n Try.prog ops Q rest (a.put o.dst v') w') : wpListIn F n Try.prog ops Q (o :: rest) a w := by
  refine wpListIn_plain hgd fun K hK => ?_
  obtain ⟨v', w', hr, h2, h3⟩ := append_own o.type hv hu hlen hB
  unfold Oper.wpIn
  refine ⟨fun f _ => hfn f, ?_⟩
  rw [Oper.semAt_eq _ _ _ (fun c => by rw [ho]; simp)]
  unfold execOp
  simp only [ho, resolve, invoke, builtin, Sem.run_bind, Sem.run_pure, Result.andThen_ok, List.map_toArray, List.map_cons, List.map_nil, hs, hx, hr]
  exact hK _ _ (h v' w' h2 h3)
end
/-- beads with their sizes and sums. -/
def sumL (zs : List BeadL) : Int := zs.foldl (fun n z => wrap64 (n + z.val)) 0
def BT.of : BT → BT
  | .nil => .nil
  | .node k v s n g l r => .node k v (sumL (BT.node k v s n g l r).enc) (BT.node k v s n g l r).enc.length g l.of r.of
set_option maxHeartbeats 400000 in
theorem sum09_any (w : World) (p : Value) (zs : List BeadL) (hb : Beads w p zs) (hl : zs.length ≤ 2000) : Calls Try.prog 106 #[p] w (Ret (.int .i64 (sumL zs)) w) := by
  rcases hb with ⟨rfl, a, c, rfl⟩ | ⟨b, o, c, rfl, hne, hc, hr⟩
  · rw [show sumL [] = 0 from rfl]
    go_enter Try.func106, Try.ntmps106
    go_wp2
    go_loop [3, 4] (fun n i => n = .int .i64 0 ∧ i = .int .i64 0) (fun _ _ => 0)
    case atStart => exact ⟨rfl, rfl⟩
    case round =>
      obtain ⟨rfl, rfl⟩ := hrel
      go_wp2
      go_ret
      exact Ret.mk (Ext.refl _)
  · have H := Lib.hid hr
    clear hr hne
    go_enter Try.func106, Try.ntmps106
    go_wp2
    go_loop [3, 4] (fun n i => ∃ k : Nat, k ≤ zs.length ∧ i = .int .i64 k ∧ n = .int .i64 (sumL (zs.take k))) (fun _ i => zs.length - (intOf i).toNat)
    case atStart => exact ⟨0, Nat.zero_le _, rfl, rfl⟩
    case round =>
      obtain ⟨k, hk, rfl, rfl⟩ := hrel
      by_cases hlt : k < zs.length
      · obtain ⟨z, hz⟩ : ∃ z, zs[k]? = some z := ⟨_, List.getElem?_eq_getElem hlt⟩
        have hcv := rangeAt_cell H.out hz (j := 1) rfl
        have hsum : wrap64 (sumL (zs.take k) + z.val) = sumL (zs.take (k + 1)) := by
          rw [List.take_add_one, hz]; simp [sumL]
        have HS := Lib.hid hsum
        clear hz hsum
        go_wp2
        go_round
        case rel => exact ⟨k + 1, by omega, by go_num, by rw [HS.out]⟩
        case measure => simp [intOf]; omega
      · have hk' : k = zs.length := by omega
        have HK := Lib.hid hk'
        clear hk'
        go_wp2
        go_ret
        exact ⟨ret_int (by rw [HK.out, List.take_length]), Ext.refl _⟩
end Go.Proofs.Ytejknkhahjgdnaa
namespace Go.Proofs.Ytejknkhahjgdnaa
open Go Go.RowKit

theorem BT.of_isNil : ∀ t : BT, t.of.isNil = t.isNil
  | .nil => rfl
  | .node .. => rfl
theorem BT.of_len : ∀ t : BT, t.of.enc.length = t.enc.length
  | .nil => rfl
  | .node k v s n g l r => by simp [BT.of, BT.enc, BT.of_len l, BT.of_len r]
/-- a row that is the call's own. -/
def GivesRow (zs : List BeadL) (w : World) (e : Ending) (w' : World) : Prop := ∃ v, e = .returned v ∧ Own w.heap.size w' v zs ∧ Ext w w'
set_option maxHeartbeats 1000000 in
theorem of_any (t : BT) : ∀ (w : World) (p : Value), Beads w p t.enc → t.enc.length ≤ 2000 →
    Calls Try.prog 94 #[p] w (GivesRow t.of.enc w) := by
  have hfn : ∀ f, Fence.wide.fn f := fun _ => trivial
  induction t with
  | nil =>
    intro w p hb hl
    obtain ⟨a, c, rfl⟩ := beads_slice hb
    rw [show BT.nil.enc.length = 0 from rfl]
    clear hb hl
    go_enter Try.func94, Try.ntmps94
    go_wp2
    go_ret
    exact ⟨_, rfl, Own.nil _ _, Ext.refl _⟩
  | node k v s n g l r ihl ihr =>
    intro w p hb hl
    have hp := parts_any w p k v s n g l r hb hl
    have hs := fun (w : World) (h : Beads w p (BT.node k v s n g l r).enc) => sum09_any w p _ h hl
    have hlen : (BT.node k v s n g l r).enc.length = 1 + l.enc.length + r.enc.length := by simp [BT.enc]; omega
    have IHl := Lib.hid ihl
    have IHr := Lib.hid ihr
    have HS := Lib.hid hs
    have HLL := Lib.hid (show l.enc.length ≤ 2000 by omega)
    have HLR := Lib.hid (show r.enc.length ≤ 2000 by omega)
    have h1 : 1 ≤ (BT.node k v s n g l r).enc.length := by omega
    have HOF : Hid ((BT.node k v s n g l r).of.enc = ⟨k, v, sumL (BT.node k v s n g l r).enc, (BT.node k v s n g l r).enc.length, g, !l.isNil, !r.isNil⟩ :: (l.of.enc ++ r.of.enc)) := Lib.hid (by
      show BeadL.mk _ _ _ _ _ (!l.of.isNil) (!r.of.isNil) :: _ = _
      rw [BT.of_isNil, BT.of_isNil])
    have HB := Lib.hid hb
    obtain ⟨a, c, rfl⟩ := beads_slice hb
    have HP := Lib.hid hp
    have HLEN := Lib.hid hlen
    clear hb hp hlen ihl ihr hs
    obtain ⟨OF, hOF⟩ : ∃ OF, OF = (BT.node k v s n g l r).of.enc := ⟨_, rfl⟩
    rw [← hOF] at HOF ⊢
    clear hOF
    generalize hZS : (BT.node k v s n g l r).enc = ZS at *
    have HZS := Lib.hid hZS
    clear hZS
    generalize hSS : sumL ZS = SS at *
    clear hSS
    generalize hL : ZS.length = LL at *
    have HL := Lib.hid hL
    clear hL
    go_enter Try.func94, Try.ntmps94
    obtain ⟨m⟩ : Nonempty Nat := ⟨0⟩
    refine (wpIn_wide (n := m)).1 ?_
    gi_wp2_with fail
    refine ⟨wide_room _, (callsIn_wide.2 (HP.out)).mono ?_⟩
    rintro e w1 ⟨v1, v2, rfl, hv1, hv2, hE⟩
    gi_wp2_with fail
    have hnew := alloc_at w1 (.cells #[.int .i64 k, .int .i64 v, .int .i64 s, .int .i64 LL, .int .u64 g, .bool (!l.isNil), .bool (!r.isNil)] 66) _ rfl
    have hE2 := (Ext.refl w1).alloc (.cells #[.int .i64 k, .int .i64 v, .int .i64 s, .int .i64 LL, .int .u64 g, .bool (!l.isNil), .bool (!r.isNil)] 66)
    generalize w1.alloc (.cells #[.int .i64 k, .int .i64 v, .int .i64 s, .int .i64 LL, .int .u64 g, .bool (!l.isNil), .bool (!r.isNil)] 66) = w2 at *
    refine ⟨wide_room _, (callsIn_wide.2 (HS.out w2 (HB.out.ext (hE.trans hE2)))).mono ?_⟩
    rintro e w3 ⟨rfl, h3⟩
    have hnew3 := (h3.block w1.heap.size (lt_of hnew)).trans hnew
    have hc2 := cell_of hnew3 2
    have hf2 := frozen_of hnew3 2
    simp at hc2
    have hw3 := hE2.trans h3
    gi_wp2_with fail
    have hw4 : Ext w1 (w3.setCell ⟨w1.heap.size, 2, none⟩ (.int .i64 SS)) := Ext.put hw3 2 _
    have hnew4 : (w3.setCell ⟨w1.heap.size, 2, none⟩ (.int .i64 SS)).heap[w1.heap.size]? = some (.cells #[.int .i64 k, .int .i64 v, .int .i64 SS, .int .i64 LL, .int .u64 g, .bool (!l.isNil), .bool (!r.isNil)] 66 (0, 0)) := by
      simp [World.setCell, Array.getElem?_modify, hnew3]
    generalize w3.setCell ⟨w1.heap.size, 2, none⟩ (.int .i64 SS) = w4 at *
    have h01 : Ext w w1 := hE
    have h14 : Ext w1 w4 := hw4
    have HV1 := Lib.hid (hv1.ext hw4)
    have HV2 := Lib.hid hv2
    clear hv1 hv2 hE hE2 hw3 h3 hnew hnew3 hc2 hf2 hw4
    have hc0 := cell_all (cell_of hnew4 0)
    have hc1 := cell_all (cell_of hnew4 1)
    have hc2 := cell_all (cell_of hnew4 2)
    have hc3 := cell_all (cell_of hnew4 3)
    have hc4 := cell_all (cell_of hnew4 4)
    have hc5 := cell_all (cell_of hnew4 5)
    have hc6 := cell_all (cell_of hnew4 6)
    have hx := Ext.drew w4
    clear hnew4
    refine wpIn_region_G (fun j => !(List.contains (α := Nat) [4] j)) (by kernel_rfl) ?_
    refine batchG hfn (fuel := 4) [0, 2] (by kernel_rfl) rfl ?_
    repeat (go_big_quiet_step ((fail)))
    refine wpQuiet_nil ?_
    refine wpAnyG_two (j := 1) (k := 3) (by kernel_rfl) rfl rfl ?_ ?_
    · gi_wp2_with fail
      have hown := (own_new (w := w4) ⟨k, v, SS, LL, g, !l.isNil, !r.isNil⟩ (show w1.heap.size ≤ w4.heap.size from h14.size)).ext (Ext.drew _)
      have h45 := ((Ext.refl w4).alloc (.cells #[.int .i64 k, .int .i64 v, .int .i64 SS, .int .i64 LL, .int .u64 g, .bool (!l.isNil), .bool (!r.isNil)] 66)).trans (Ext.drew _)
      refine onePost_ext ((Ext.refl w4.drew).alloc _) ?_
      clear hx hc0 hc1 hc2 hc3 hc4 hc5 hc6
      refine wpAnyG_one (j := 3) (by kernel_rfl) rfl ?_
      gi_wp2_with fail
      generalize (w4.alloc (.cells #[.int .i64 k, .int .i64 v, .int .i64 SS, .int .i64 LL, .int .u64 g, .bool (!l.isNil), .bool (!r.isNil)] 66)).drew = w5 at *
      generalize w4.heap.size = N5 at *
      refine ⟨wide_room _, (callsIn_wide.2 (IHl.out w5 v1 (HV1.out.ext h45) HLL.out)).mono ?_⟩
      rintro e w6 ⟨v3, rfl, hv3, h56⟩
      gi_wp2_with fail
      refine onePost_ext (h56) ?_
      have hown6 := hown.ext h56
      have hb6 := hv3.beads
      have h16 : Ext w1 w6 := (h14.trans h45).trans h56
      clear hown hv3 h56 h45
      refine wpAnyG_one (j := 4) (by kernel_rfl) rfl ?_
      refine wpListIn_append_beads (B := w1.heap.size) (zs := [⟨k, v, SS, LL, g, !l.isNil, !r.isNil⟩]) (ys := l.of.enc) rfl (.tmp 23) (.tmp 25) rfl rfl rfl hown6 hb6 (by rw [BT.of_len]; have := HLL.out; simp; omega) h16.size hfn ?_
      intro v4 w7 hown7 hg7
      have h17 : Ext w1 w7 := grown_ext h16 hown6 hg7
      simp only [Act.put, List.setIfInBounds_toArray, List.set_cons_zero, List.set_cons_succ]
      refine wpListIn_nil ?_
      refine onePost_any (by kernel_rfl) ?_
      clear hg7 hown6 hb6 h16
      refine batchG hfn (fuel := 0) [5] (by kernel_rfl) rfl ?_
      repeat (go_big_quiet_step ((fail)))
      refine wpQuiet_nil ?_
      refine wpAnyG_done (by kernel_rfl) ?_
      refine calmQ_normal ?_
      gi_wp2_with fail
      refine ⟨wide_room _, (callsIn_wide.2 (IHr.out w7 v2 (HV2.out.ext h17) HLR.out)).mono ?_⟩
      rintro e w8 ⟨v5, rfl, hv5, h78⟩
      have hown8 := hown7.ext h78
      have hb8 := hv5.beads
      have h18 := h17.trans h78
      clear hown7 hv5 h78 h17
      gi_wp2_with (refine wpListIn_append_beads (B := w1.heap.size) rfl (.tmp 27) (.tmp 29) rfl rfl rfl hown8 hb8 ?c1 h18.size hfn ?_)
      case c1 =>
        rw [BT.of_len, List.length_append, BT.of_len]
        have := HLL.out
        have := HLR.out
        simp
        omega
      intro v6 w9 hown9 hg9
      have h19 : Ext w1 w9 := grown_ext h18 hown8 hg9
      clear hg9 hown8 hb8
      gi_wp2
      go_ret
      refine ⟨_, rfl, ?_, h01.trans h19⟩
      rw [HOF.out]
      exact hown9.mono h01.size
    · clear hc0 hc1 hc2 hc3 hc4 hc5 hc6
      gi_wp2_with fail
      refine ⟨wide_room _, (callsIn_wide.2 (IHl.out w4.drew v1 (HV1.out.ext hx) HLL.out)).mono ?_⟩
      rintro e w5 ⟨v3, rfl, hv3, h45'⟩
      gi_wp2_with fail
      refine onePost_ext (h45') ?_
      have h45 := hx.trans h45'
      refine wpAnyG_one (j := 1) (by kernel_rfl) rfl ?_
      gi_wp2_with fail
      have h15 := h14.trans h45
      have hown6 := own_new (w := w5) ⟨k, v, SS, LL, g, !l.isNil, !r.isNil⟩ (show w1.heap.size ≤ w5.heap.size from h15.size)
      refine onePost_ext ((Ext.refl w5).alloc _) ?_
      have h56 := (Ext.refl w5).alloc (.cells #[.int .i64 k, .int .i64 v, .int .i64 SS, .int .i64 LL, .int .u64 g, .bool (!l.isNil), .bool (!r.isNil)] 66)
      generalize w5.alloc (.cells #[.int .i64 k, .int .i64 v, .int .i64 SS, .int .i64 LL, .int .u64 g, .bool (!l.isNil), .bool (!r.isNil)] 66) = w6 at *
      generalize w5.heap.size = N5 at *
      have hb6 := hv3.beads.ext h56
      have h16 : Ext w1 w6 := h15.trans h56
      clear hv3 h56 h45 h45' hx h15
      refine wpAnyG_one (j := 4) (by kernel_rfl) rfl ?_
      refine wpListIn_append_beads (B := w1.heap.size) (zs := [⟨k, v, SS, LL, g, !l.isNil, !r.isNil⟩]) (ys := l.of.enc) rfl (.tmp 23) (.tmp 25) rfl rfl rfl hown6 hb6 (by rw [BT.of_len]; have := HLL.out; simp; omega) h16.size hfn ?_
      intro v4 w7 hown7 hg7
      have h17 : Ext w1 w7 := grown_ext h16 hown6 hg7
      simp only [Act.put, List.setIfInBounds_toArray, List.set_cons_zero, List.set_cons_succ]
      refine wpListIn_nil ?_
      refine onePost_any (by kernel_rfl) ?_
      clear hg7 hown6 hb6 h16
      refine batchG hfn (fuel := 0) [5] (by kernel_rfl) rfl ?_
      repeat (go_big_quiet_step ((fail)))
      refine wpQuiet_nil ?_
      refine wpAnyG_done (by kernel_rfl) ?_
      refine calmQ_normal ?_
      gi_wp2_with fail
      refine ⟨wide_room _, (callsIn_wide.2 (IHr.out w7 v2 (HV2.out.ext h17) HLR.out)).mono ?_⟩
      rintro e w8 ⟨v5, rfl, hv5, h78⟩
      have hown8 := hown7.ext h78
      have hb8 := hv5.beads
      have h18 := h17.trans h78
      clear hown7 hv5 h78 h17
      gi_wp2_with (refine wpListIn_append_beads (B := w1.heap.size) rfl (.tmp 27) (.tmp 29) rfl rfl rfl hown8 hb8 ?c1 h18.size hfn ?_)
      case c1 =>
        rw [BT.of_len, List.length_append, BT.of_len]
        have := HLL.out
        have := HLR.out
        simp
        omega
      intro v6 w9 hown9 hg9
      have h19 : Ext w1 w9 := grown_ext h18 hown8 hg9
      clear hg9 hown8 hb8
      gi_wp2
      go_ret
      refine ⟨_, rfl, ?_, h01.trans h19⟩
      rw [HOF.out]
      exact hown9.mono h01.size
set_option maxHeartbeats 1000000 in
theorem node09_any (w : World) (p q : Value) (l r : BT) (k v g : Int) (hl : Beads w p l.enc) (hr : Beads w q r.enc) (hlen : l.enc.length + r.enc.length + 1 ≤ 2000) :
    Calls Try.prog 71 #[p, .int .i64 k, .int .i64 v, .int .u64 g, q] w (GivesRow (BT.node k v 0 0 g l r).of.enc w) := by
  obtain ⟨a1, c1, rfl⟩ := beads_slice hl
  obtain ⟨a2, c2, rfl⟩ := beads_slice hr
  have HL := Lib.hid hl
  have HR := Lib.hid hr
  have hnil : ∀ t : BT, (!t.isNil) = decide (0 < t.enc.length) := fun t => by
    cases t with
    | nil => rfl
    | node => simp [BT.isNil, BT.enc]
  have HENC := Lib.hid (show (BT.node k v 0 0 g l r).enc = ⟨k, v, 0, 0, g, decide (0 < l.enc.length), decide (0 < r.enc.length)⟩ :: (l.enc ++ r.enc) from by
    rw [← hnil, ← hnil]; rfl)
  have HOF := Lib.hid (of_any (BT.node k v 0 0 g l r))
  have HLEN := Lib.hid (show (BT.node k v 0 0 g l r).enc.length ≤ 2000 by simp [BT.enc]; omega)
  have H2 := Lib.hid (show l.enc.length = l.enc.length ∧ r.enc.length = r.enc.length from ⟨rfl, rfl⟩)
  clear hl hr hnil
  generalize hL1 : l.enc.length = L1 at hlen HL HENC
  generalize hL2 : r.enc.length = L2 at hlen HR HENC
  have HL1 := Lib.hid hL1
  have HL2 := Lib.hid hL2
  clear hL1 hL2 H2
  have hown := own_new (B := w.heap.size) (w := w) ⟨k, v, 0, 0, g, decide (0 < L1), decide (0 < L2)⟩ (Nat.le_refl _)
  have hE := (Ext.refl w).alloc (.cells #[.int .i64 k, .int .i64 v, .int .i64 0, .int .i64 0, .int .u64 g, .bool (decide (0 < L1)), .bool (decide (0 < L2))] 66)
  have HO := Lib.hid hown
  have HX := Lib.hid hE
  clear hown hE
  go_enter Try.func71, Try.ntmps71
  go_wp2_with (at_builtin; refine wpList_append_beads (B := w.heap.size) (zs := [⟨k, v, 0, 0, g, decide (0 < L1), decide (0 < L2)⟩]) (ys := l.enc) rfl (.tmp 23) (.tmp 24) rfl rfl rfl HO.out (HL.out.ext HX.out) ?c1 ?c2 ?_)
  case c1 => have h1 := HL1.out; omega
  intro v1 w1 hown1 hg1
  have h01 : Ext w w1 := grown_ext HX.out HO.out hg1
  have HO1 := Lib.hid hown1
  clear hg1 hown1
  go_wp2_with (at_builtin; refine wpList_append_beads (B := w.heap.size) (ys := r.enc) rfl (.tmp 26) (.tmp 27) rfl rfl rfl HO1.out (HR.out.ext h01) ?d1 h01.size ?_)
  case d1 => have h1 := HL1.out; have h2 := HL2.out; (try simp); omega
  intro v2 w2 hown2 hg2
  have h02 : Ext w w2 := grown_ext h01 HO1.out hg2
  have hb2 := hown2.beads
  rw [← HENC.out] at hb2
  have HB2 := Lib.hid hb2
  clear hg2 hown2 hb2
  go_wp2_with fail
  refine (HOF.out w2 v2 HB2.out HLEN.out).mono ?_
  rintro e w3 ⟨v3, rfl, hown3, h23⟩
  go_wp2
  go_ret
  exact ⟨_, rfl, hown3.mono h02.size, h02.trans h23⟩
end Go.Proofs.Ytejknkhahjgdnaa
namespace Go.Proofs.Ytejknkhahjgdnaa
open Go Go.RowKit

/-- a tree of two, with no pair of its own. -/
def bn (l : BT) (g : Int) (r : BT) : BT := (BT.node 0 0 0 0 g l r).of
theorem bn_len (l : BT) (g : Int) (r : BT) : (bn l g r).enc.length = 1 + l.enc.length + r.enc.length := by
  rw [bn, BT.of_len]; simp [BT.enc]; omega
set_option maxHeartbeats 1000000 in
theorem node34_any (w : World) (p q : Value) (l r : BT) (g : Int) (hl : Beads w p l.enc) (hr : Beads w q r.enc) (hlen : l.enc.length + r.enc.length + 1 ≤ 2000) :
    Calls Try.prog 49 #[p, .int .u64 g, q] w (GivesRow (bn l g r).enc w) := by
  have H := Lib.hid (node09_any w p q l r 0 0 g hl hr hlen)
  clear hl hr
  rw [← bn] at H
  go_enter Try.func49, Try.ntmps49
  go_wp2_with fail
  refine H.out.mono ?_
  rintro e w1 ⟨v1, rfl, o1, h1⟩
  have HO := Lib.hid (And.intro o1 h1)
  clear o1 h1
  go_wp2
  go_ret
  exact ⟨v1, rfl, HO.out.1, HO.out.2⟩
def evenF : Nat → Nat → BT
  | 0, _ => .nil
  | f + 1, w => if w < 2 then .nil else bn (evenF f (w / 2)) 0 (evenF f (w - w / 2))
theorem evenF_len : ∀ f w, w ≤ f → (evenF f w).enc.length = w - 1
  | 0, w, h => by obtain rfl : w = 0 := by omega
                  rfl
  | f + 1, w, h => by
    unfold evenF
    split
    · simp [BT.enc]; omega
    · rw [bn_len, evenF_len f _ (by omega), evenF_len f _ (by omega)]; omega
set_option maxHeartbeats 1000000 in
theorem even_any (f : Nat) : ∀ (n : Nat) (w : World), n ≤ f → n ≤ 1000 → Calls Try.prog 51 #[.int .i64 n] w (GivesRow (evenF f n).enc w) := by
  induction f with
  | zero =>
    intro n w h1 h2
    obtain rfl : n = 0 := by omega
    go_enter Try.func51, Try.ntmps51
    go_wp2
    go_ret
    exact ⟨_, rfl, Own.nil _ _, Ext.refl _⟩
  | succ f ih =>
    intro n w h1 h2
    unfold evenF
    by_cases hn : n < 2
    · rw [if_pos hn]
      clear ih
      go_enter Try.func51, Try.ntmps51
      go_wp2
      go_ret
      exact ⟨_, rfl, Own.nil _ _, Ext.refl _⟩
    · rw [if_neg hn]
      have IH := Lib.hid ih
      have L1 := Lib.hid (evenF_len f (n / 2) (by omega))
      have L2 := Lib.hid (evenF_len f (n - n / 2) (by omega))
      clear ih
      generalize evenF f = E at *
      have e1 : (n : Int) / 2 = ((n / 2 : Nat) : Int) := by omega
      have e2 : (n : Int) - ((n / 2 : Nat) : Int) = ((n - n / 2 : Nat) : Int) := by omega
      have E1 := Lib.hid e1
      have E2 := Lib.hid e2
      clear e1 e2
      go_enter Try.func51, Try.ntmps51
      go_wp2_with fail
      rw [E1.out]
      refine (IH.out (n / 2) w (by omega) (by omega)).mono ?_
      rintro e w1 ⟨v1, rfl, o1, h1⟩
      have HA := Lib.hid (And.intro o1 h1)
      clear o1 h1
      go_wp2_with fail
      rw [E1.out, E2.out]
      refine (IH.out (n - n / 2) w1 (by omega) (by omega)).mono ?_
      rintro e w2 ⟨v2, rfl, o2, h2⟩
      have HB := Lib.hid (And.intro o2 h2)
      clear o2 h2
      go_wp2_with fail
      refine (node34_any w2 v1 v2 _ _ 0 (HA.out.1.beads.ext HB.out.2) HB.out.1.beads (by rw [L1.out, L2.out]; omega)).mono ?_
      rintro e w3 ⟨v3, rfl, o3, h3⟩
      have HC := Lib.hid (And.intro o3 h3)
      clear o3 h3
      go_wp2
      go_ret
      exact ⟨_, rfl, HC.out.1.mono (HA.out.2.trans HB.out.2).size, (HA.out.2.trans HB.out.2).trans HC.out.2⟩
def fullT : Nat → BT
  | 0 => .nil
  | b + 1 => bn (fullT b) ((2 * (b + 1) : Nat) : Int) (fullT b)
theorem fullT_len : ∀ b, b < 7 → (fullT b).enc.length ≤ 63 := by decide +kernel
set_option maxHeartbeats 1000000 in
theorem full_any (b : Nat) : ∀ (c : Int) (w : World), c.toNat = b → b < 7 → -10 ≤ c → Calls Try.prog 72 #[.int .i64 c] w (GivesRow (fullT b).enc w) := by
  induction b with
  | zero =>
    intro c w hc h1 hc1
    go_enter Try.func72, Try.ntmps72
    go_wp2
    go_ret
    exact ⟨_, rfl, Own.nil _ _, Ext.refl _⟩
  | succ b ih =>
    intro c w hc h1 hc1
    unfold fullT
    have IH := Lib.hid ih
    have L := Lib.hid (fullT_len b (by omega))
    clear ih
    generalize fullT b = E at *
    obtain ⟨G, hG⟩ : ∃ G : Int, ((2 * (b + 1) : Nat) : Int) = G := ⟨_, rfl⟩
    rw [hG]
    have E2 := Lib.hid (show (2 : Int) * c = G by omega)
    clear hG
    go_enter Try.func72, Try.ntmps72
    go_wp2_with fail
    refine (IH.out (c - 1) w (by omega) (by omega) (by omega)).mono ?_
    rintro e w1 ⟨v1, rfl, o1, h1⟩
    have HA := Lib.hid (And.intro o1 h1)
    clear o1 h1
    go_wp2_with fail
    refine (IH.out (c - 1) w1 (by omega) (by omega) (by omega)).mono ?_
    rintro e w2 ⟨v2, rfl, o2, h2⟩
    have HB := Lib.hid (And.intro o2 h2)
    clear o2 h2
    go_wp2_with fail
    rw [E2.out]
    refine (node34_any w2 v1 v2 _ _ _ (HA.out.1.beads.ext HB.out.2) HB.out.1.beads (by have := L.out; omega)).mono ?_
    rintro e w3 ⟨v3, rfl, o3, h3⟩
    have HC := Lib.hid (And.intro o3 h3)
    clear o3 h3
    go_wp2
    go_ret
    exact ⟨_, rfl, HC.out.1.mono (HA.out.2.trans HB.out.2).size, (HA.out.2.trans HB.out.2).trans HC.out.2⟩
def spineF : Nat → Nat → BT
  | 0, _ => .nil
  | f + 1, h => if h < 1 then .nil else
    if h % 2 = 1 then bn (spineF f (h - 1)) ((2 * ((h + 1) / 2) : Nat) : Int) (fullT ((h + 1) / 2 - 1))
    else bn (bn (spineF f (h - 2)) ((2 * ((h + 1) / 2) - 1 : Nat) : Int) (fullT ((h + 1) / 2 - 1))) ((2 * ((h + 1) / 2) : Nat) : Int) (fullT ((h + 1) / 2 - 1))
theorem spineF_len : ∀ f, f < 11 → ∀ h, h < 11 → (spineF f h).enc.length ≤ 120 := by decide +kernel
set_option maxHeartbeats 1000000 in
theorem spine_any (f : Nat) : ∀ (b h : Int) (n : Nat) (w : World), h = n → b = (n + 1) / 2 → n ≤ f → f < 11 → Calls Try.prog 50 #[.int .i64 b, .int .i64 h] w (GivesRow (spineF f n).enc w) := by
  induction f with
  | zero =>
    intro b h n w hh hb hn hf
    go_enter Try.func50, Try.ntmps50
    go_wp2
    go_ret
    exact ⟨_, rfl, Own.nil _ _, Ext.refl _⟩
  | succ f ih =>
    intro b h n w hh hb hn hf
    unfold spineF
    by_cases h0 : n < 1
    · rw [if_pos h0]
      clear ih
      go_enter Try.func50, Try.ntmps50
      go_wp2
      go_ret
      exact ⟨_, rfl, Own.nil _ _, Ext.refl _⟩
    · rw [if_neg h0]
      have IH := Lib.hid ih
      have L := Lib.hid (And.intro (fullT_len ((n + 1) / 2 - 1) (by omega)) (spineF_len f (by omega)))
      have HF := Lib.hid (fun w => full_any ((n + 1) / 2 - 1) (b - 1) w (by omega) (by omega) (by omega))
      clear ih
      generalize fullT ((n + 1) / 2 - 1) = E at *
      obtain ⟨G, hG⟩ : ∃ G : Int, ((2 * ((n + 1) / 2) : Nat) : Int) = G := ⟨_, rfl⟩
      obtain ⟨G2, hG2⟩ : ∃ G : Int, ((2 * ((n + 1) / 2) - 1 : Nat) : Int) = G := ⟨_, rfl⟩
      rw [hG, hG2]
      have E2 := Lib.hid (show (2 : Int) * b = G by omega)
      have E3 := Lib.hid (show (2 : Int) * b - 1 = G2 by omega)
      clear hG hG2
      generalize hS : spineF f = S at *
      by_cases h2 : n % 2 = 1
      · rw [if_pos h2]
        have hh2 : h % 2 = 1 := by omega
        have hh0 : 1 ≤ h ∧ h ≤ 20 ∧ 1 ≤ b ∧ b ≤ 20 := by omega
        obtain ⟨k1, k2, k3, k4⟩ := hh0
        have NH := Lib.hid (And.intro hh (And.intro hb hn))
        clear hh hb hn h0 h2
        go_enter Try.func50, Try.ntmps50
        go_wp2_with fail
        refine (IH.out (b - 1) (h - 1) (n - 1) w (by have := NH.out; omega) (by have := NH.out; omega) (by have := NH.out; omega) (by omega)).mono ?_
        rintro e w1 ⟨v1, rfl, o1, h1⟩
        have HA := Lib.hid (And.intro o1 h1)
        clear o1 h1
        go_wp2_with fail
        refine (HF.out w1).mono ?_
        rintro e w2 ⟨v2, rfl, o2, h2⟩
        have HB := Lib.hid (And.intro o2 h2)
        clear o2 h2
        go_wp2_with fail
        rw [E2.out]
        refine (node34_any w2 v1 v2 _ _ _ (HA.out.1.beads.ext HB.out.2) HB.out.1.beads (by have := L.out.1; have := NH.out; have := L.out.2 (n - 1) (by omega); omega)).mono ?_
        rintro e w3 ⟨v3, rfl, o3, h3⟩
        have HC := Lib.hid (And.intro o3 h3)
        clear o3 h3
        go_wp2
        go_ret
        exact ⟨_, rfl, HC.out.1.mono (HA.out.2.trans HB.out.2).size, (HA.out.2.trans HB.out.2).trans HC.out.2⟩
      · rw [if_neg h2]
        have hh2 : h % 2 = 0 := by omega
        have hh0 : 1 ≤ h ∧ h ≤ 20 ∧ 1 ≤ b ∧ b ≤ 20 := by omega
        obtain ⟨k1, k2, k3, k4⟩ := hh0
        have NH := Lib.hid (And.intro hh (And.intro hb hn))
        clear hh hb hn h0 h2
        go_enter Try.func50, Try.ntmps50
        go_wp2_with fail
        refine (IH.out (b - 1) (h - 2) (n - 2) w (by have := NH.out; omega) (by have := NH.out; omega) (by have := NH.out; omega) (by omega)).mono ?_
        rintro e w1 ⟨v1, rfl, o1, h1⟩
        have HA := Lib.hid (And.intro o1 h1)
        clear o1 h1
        go_wp2_with fail
        refine (HF.out w1).mono ?_
        rintro e w2 ⟨v2, rfl, o2, h2⟩
        have HB := Lib.hid (And.intro o2 h2)
        clear o2 h2
        go_wp2_with fail
        rw [E3.out]
        refine (node34_any w2 v1 v2 _ _ _ (HA.out.1.beads.ext HB.out.2) HB.out.1.beads (by have := L.out.1; have := NH.out; have := L.out.2 (n - 2) (by omega); omega)).mono ?_
        rintro e w3 ⟨v3, rfl, o3, h3⟩
        have HC := Lib.hid (And.intro o3 h3)
        clear o3 h3
        go_wp2_with fail
        refine (HF.out w3).mono ?_
        rintro e w4 ⟨v4, rfl, o4, h4⟩
        have HD := Lib.hid (And.intro o4 h4)
        clear o4 h4
        go_wp2_with fail
        rw [E2.out]
        refine (node34_any w4 v3 v4 _ _ _ (HC.out.1.beads.ext HD.out.2) HD.out.1.beads (by rw [bn_len]; have := L.out.1; have := NH.out; have := L.out.2 (n - 2) (by omega); omega)).mono ?_
        rintro e w5 ⟨v5, rfl, o5, h5⟩
        have HE := Lib.hid (And.intro o5 h5)
        clear o5 h5
        go_wp2
        go_ret
        have h04 := ((HA.out.2.trans HB.out.2).trans HC.out.2).trans HD.out.2
        exact ⟨_, rfl, HE.out.1.mono h04.size, h04.trans HE.out.2⟩
end Go.Proofs.Ytejknkhahjgdnaa
namespace Go.Proofs.Ytejknkhahjgdnaa
open Go Go.RowKit Go.Shelf
attribute [local go_sem] Oper.semAt_some

set_option maxRecDepth 100000 in
set_option maxHeartbeats 2000000 in
theorem avlOn_in (M : Nat → Prop) (Px : Tr → Prop) (l N by_ bo : Nat) (J Jx : List Tr → World → Prop) (hy0 : ¬ M by_) (ho0 : ¬ M bo)
    (hY : ∀ m pre x W, Px x → J pre W → pre.length < N → YieldAt Fence.wide m Try.prog l #[.pointer x.ptr] W fun e W' =>
      (e = .returned (.bool true) ∧ J (pre ++ [x]) W' ∧ Keep M W W') ∨ (e = .returned (.bool false) ∧ Jx (pre ++ [x]) W'))
    (hJE : ∀ pre W W', J pre W → Ext W W' → J pre W')
    (T : Tr) :
    ∀ (n : Nat) (pre : List Tr) (W : World), InH W T → Off M T → (∀ x ∈ T.pre, Px x) → J pre W → pre.length + T.pre.length ≤ N →
      Boxed W by_ 76 (.func (.yield l) #[] #[]) → Boxed W bo 76 (.func (.func 103) #[] #[.pointer (some ⟨by_, 0, none⟩), .pointer (some ⟨bo, 0, none⟩)]) →
      CallsIn Fence.wide n Try.prog 103 #[.pointer T.ptr, .pointer (some ⟨by_, 0, none⟩), .pointer (some ⟨bo, 0, none⟩)] W fun e W' =>
        (e = .returned (.bool true) ∧ J (pre ++ T.pre) W' ∧ Keep M W W') ∨ (e = .returned (.bool false) ∧ ∃ q, q <+: T.pre ∧ Jx (pre ++ q) W') := by
  have hfn : ∀ f, Fence.wide.fn f := fun _ => trivial
  induction T with
  | nil =>
    intro n pre W _ _ _ hJ _ _ _
    rw [Tr.ptr_nil]
    refine callsIn_of_wp Try.func103 rfl trivial ?_ rfl
    simp only [Try.ntmps103, List.size_toArray, List.length_cons, List.length_nil, Nat.reduceAdd, Nat.reduceSub, Array.replicate_succ, Array.replicate_zero, List.push_toArray, List.append_toArray, List.nil_append, List.cons_append]
    gi_wp2_with fail
    refine wpIn_region_G (fun j => !(List.contains (α := Nat) [5, 10, 16] j)) (by kernel_rfl) ?_
    refine batchG hfn (fuel := 15) [0, 1, 2, 3, 4] (by kernel_rfl) rfl ?_
    repeat (go_big_quiet_step ((fail)))
    refine wpQuiet_nil ?_
    refine wpAnyG_skip hfn (j := 5) (by kernel_rfl) rfl rfl ?_
    simp only [Act.put, List.setIfInBounds_toArray, List.set_cons_zero, List.set_cons_succ]
    refine batchG hfn (fuel := 11) [6, 7, 8] (by kernel_rfl) rfl ?_
    repeat (go_big_quiet_step ((fail)))
    refine wpQuiet_nil ?_
    refine wpAnyG_skip hfn (j := 9) (by kernel_rfl) rfl rfl ?_
    simp only [Act.put, List.setIfInBounds_toArray, List.set_cons_zero, List.set_cons_succ]
    refine wpAnyG_skip hfn (j := 10) (by kernel_rfl) rfl rfl ?_
    simp only [Act.put, List.setIfInBounds_toArray, List.set_cons_zero, List.set_cons_succ]
    refine batchG hfn (fuel := 5) [11, 12, 13, 14] (by kernel_rfl) rfl ?_
    repeat (go_big_quiet_step ((fail)))
    refine wpQuiet_nil ?_
    refine wpAnyG_skip hfn (j := 15) (by kernel_rfl) rfl rfl ?_
    simp only [Act.put, List.setIfInBounds_toArray, List.set_cons_zero, List.set_cons_succ]
    refine wpAnyG_skip hfn (j := 16) (by kernel_rfl) rfl rfl ?_
    simp only [Act.put, List.setIfInBounds_toArray, List.set_cons_zero, List.set_cons_succ]
    refine batchG hfn (fuel := 0) [17, 18, 19] (by kernel_rfl) rfl ?_
    repeat (go_big_quiet_step ((fail)))
    refine wpQuiet_nil ?_
    refine wpAnyG_done (by kernel_rfl) ?_
    refine calmQ_normal ?_
    gi_wp2
    go_ret
    exact .inl ⟨rfl, by simpa [Tr.pre] using hJE _ _ _ hJ (Ext.drew W), Keep.drew W⟩
  | node b tl k v g tr ihl ihr =>
    intro n pre W ht ho hP hJ hN hy hbo
    simp only [Tr.pre, List.length_cons, List.length_append] at hN
    have hY1 := hY n pre (.node b tl k v g tr) W.drew (hP _ (List.mem_cons_self ..)) (hJE _ _ _ hJ (Ext.drew W)) (by omega)
    rw [Tr.ptr_node] at hY1
    have Hl := Lib.hid ihl
    have Hr := Lib.hid ihr
    clear ihl ihr hY
    have HP := Lib.hid hP
    clear hP
    have hcy := cell_all hy.cell
    have hx0 := Ext.drew W
    obtain ⟨fn, tmps, assign, body, hy1, hR⟩ := hY1
    have HR := Lib.hid hR
    clear hR
    rw [Tr.ptr_node]
    refine callsIn_of_wp Try.func103 rfl trivial ?_ rfl
    simp only [Try.ntmps103, List.size_toArray, List.length_cons, List.length_nil, Nat.reduceAdd, Nat.reduceSub, Array.replicate_succ, Array.replicate_zero, List.push_toArray, List.append_toArray, List.nil_append, List.cons_append]
    gi_wp2_with fail
    refine wpIn_region_G (fun j => !(List.contains (α := Nat) [5, 10, 16] j)) (by kernel_rfl) ?_
    refine batchG hfn (fuel := 15) [0, 1, 2, 3, 4] (by kernel_rfl) rfl ?_
    repeat (go_big_quiet_step ((fail)))
    refine wpQuiet_nil ?_
    refine wpAnyG_one (j := 5) (by kernel_rfl) rfl ?_
    gi_wp2_with fail
    clear hcy hx0 hy1
    refine ⟨wide_room _, (RoundIn.any HR.out).mono ?_⟩
    rintro e W1 (⟨rfl, hJ1, hk1⟩ | ⟨rfl, hJx1⟩)
    · have hk01 := (Keep.drew (M := M) W).trans hk1
      have ht1 := InH.keep hk01 ho ht
      have hy1 := hk01.boxed hy0 hy
      have hb1 := hk01.boxed ho0 hbo
      clear hy hbo ht hJ hk1
      have hco := cell_all hb1.cell
      have hx1 := Ext.refl W1
      gi_wp2_with fail
      refine onePost_any (by kernel_rfl) ?_
      refine batchG hfn (fuel := 11) [6, 7, 8] (by kernel_rfl) rfl ?_
      repeat (go_big_quiet_step ((fail)))
      refine wpQuiet_nil ?_
      refine wpAnyG_one (j := 9) (by kernel_rfl) rfl ?_
      gi_wp2_with fail
      rw [← Tr.ptr_node b tl k v g tr]
      clear hco hx1
      refine ⟨wide_room _, (callsIn_wide.2 (left_any _ _ ht1)).mono ?_⟩
      rintro e W2 ⟨rfl, h2⟩
      gi_wp2_with fail
      refine onePost_ext (h2) ?_
      refine wpAnyG_one (j := 10) (by kernel_rfl) rfl ?_
      gi_wp2_with fail
      simp only [Tr.left_node]
      have ht2 := ht1.ext h2
      have hb2 := (Keep.ext (M := M) h2).boxed ho0 hb1
      have hy2 := (Keep.ext (M := M) h2).boxed hy0 hy1
      have hJ2 := hJE _ _ _ hJ1 h2
      have hk02 := hk01.trans (Keep.ext h2)
      clear ht1 hb1 hy1 hJ1 hk01
      refine ⟨wide_room _, (Hl.out (n - 1) _ W2 ht2.2.1 ho.2.1 (fun x hx => HP.out x (List.mem_cons_of_mem _ (List.mem_append_left _ hx))) hJ2 (by simp; omega) hy2 hb2).mono ?_⟩
      rintro e W3 (⟨rfl, hJ3, hk3⟩ | ⟨rfl, q, hq, hJx3⟩)
      · have ht3 := InH.keep hk3 ho ht2
        have hy3 := hk3.boxed hy0 hy2
        have hb3 := hk3.boxed ho0 hb2
        have hk03 := hk02.trans hk3
        clear hk3 hk02 hJ2 hb2 hy2 ht2
        have hco := cell_all hb3.cell
        have hx3 := Ext.refl W3
        gi_wp2_with fail
        refine onePost_any (by kernel_rfl) ?_
        refine batchG hfn (fuel := 5) [11, 12, 13, 14] (by kernel_rfl) rfl ?_
        repeat (go_big_quiet_step ((fail)))
        refine wpQuiet_nil ?_
        refine wpAnyG_one (j := 15) (by kernel_rfl) rfl ?_
        gi_wp2_with fail
        clear hco hx3
        refine ⟨wide_room _, (callsIn_wide.2 (right_any _ _ ht3)).mono ?_⟩
        rintro e W4 ⟨rfl, h4⟩
        gi_wp2_with fail
        refine onePost_ext (h4) ?_
        refine wpAnyG_one (j := 16) (by kernel_rfl) rfl ?_
        gi_wp2_with fail
        simp only [Tr.right_node]
        have ht4 := ht3.ext h4
        have hb4 := (Keep.ext (M := M) h4).boxed ho0 hb3
        have hy4 := (Keep.ext (M := M) h4).boxed hy0 hy3
        have hJ4 := hJE _ _ _ hJ3 h4
        have hk04 := hk03.trans (Keep.ext h4)
        clear ht3 hb3 hy3 hJ3 hk03
        refine ⟨wide_room _, (Hr.out (n - 1) _ W4 ht4.2.2 ho.2.2 (fun x hx => HP.out x (List.mem_cons_of_mem _ (List.mem_append_right _ hx))) hJ4 (by simp; omega) hy4 hb4).mono ?_⟩
        rintro e W5 (⟨rfl, hJ5, hk5⟩ | ⟨rfl, q, hq, hJx5⟩)
        · gi_wp2_with fail
          refine onePost_any (by kernel_rfl) ?_
          refine batchG hfn (fuel := 0) [17, 18, 19] (by kernel_rfl) rfl ?_
          repeat (go_big_quiet_step ((fail)))
          refine wpQuiet_nil ?_
          refine wpAnyG_done (by kernel_rfl) ?_
          refine calmQ_normal ?_
          gi_wp2
          go_ret
          exact .inl ⟨rfl, by simpa [Tr.pre, List.append_assoc] using hJ5, hk04.trans hk5⟩
        · gi_wp2_with fail
          refine onePost_any (by kernel_rfl) ?_
          refine batchG hfn (fuel := 0) [17, 18, 19] (by kernel_rfl) rfl ?_
          repeat (go_big_quiet_step ((fail)))
          refine wpQuiet_nil ?_
          refine wpAnyG_done (by kernel_rfl) ?_
          refine calmQ_normal ?_
          gi_wp2
          go_ret
          obtain ⟨r', hr'⟩ := hq
          exact .inr ⟨rfl, .node b tl k v g tr :: (tl.pre ++ q), ⟨r', by simp [Tr.pre, ← hr']⟩, by simpa [List.append_assoc] using hJx5⟩
      · gi_wp2_with fail
        refine onePost_any (by kernel_rfl) ?_
        refine batchG hfn (fuel := 5) [11, 12, 13, 14] (by kernel_rfl) rfl ?_
        repeat (go_big_quiet_step ((fail)))
        refine wpQuiet_nil ?_
        refine wpAnyG_skip hfn (j := 15) (by kernel_rfl) rfl rfl ?_
        simp only [Act.put, List.setIfInBounds_toArray, List.set_cons_zero, List.set_cons_succ]
        refine wpAnyG_skip hfn (j := 16) (by kernel_rfl) rfl rfl ?_
        simp only [Act.put, List.setIfInBounds_toArray, List.set_cons_zero, List.set_cons_succ]
        refine batchG hfn (fuel := 0) [17, 18, 19] (by kernel_rfl) rfl ?_
        repeat (go_big_quiet_step ((fail)))
        refine wpQuiet_nil ?_
        refine wpAnyG_done (by kernel_rfl) ?_
        refine calmQ_normal ?_
        gi_wp2
        go_ret
        obtain ⟨r', hr'⟩ := hq
        exact .inr ⟨rfl, .node b tl k v g tr :: q, ⟨r' ++ tr.pre, by simp [Tr.pre, ← hr']⟩, by simpa [List.append_assoc] using hJx3⟩
    · gi_wp2_with fail
      refine onePost_any (by kernel_rfl) ?_
      refine batchG hfn (fuel := 11) [6, 7, 8] (by kernel_rfl) rfl ?_
      repeat (go_big_quiet_step ((fail)))
      refine wpQuiet_nil ?_
      refine wpAnyG_skip hfn (j := 9) (by kernel_rfl) rfl rfl ?_
      simp only [Act.put, List.setIfInBounds_toArray, List.set_cons_zero, List.set_cons_succ]
      refine wpAnyG_skip hfn (j := 10) (by kernel_rfl) rfl rfl ?_
      simp only [Act.put, List.setIfInBounds_toArray, List.set_cons_zero, List.set_cons_succ]
      refine batchG hfn (fuel := 5) [11, 12, 13, 14] (by kernel_rfl) rfl ?_
      repeat (go_big_quiet_step ((fail)))
      refine wpQuiet_nil ?_
      refine wpAnyG_skip hfn (j := 15) (by kernel_rfl) rfl rfl ?_
      simp only [Act.put, List.setIfInBounds_toArray, List.set_cons_zero, List.set_cons_succ]
      refine wpAnyG_skip hfn (j := 16) (by kernel_rfl) rfl rfl ?_
      simp only [Act.put, List.setIfInBounds_toArray, List.set_cons_zero, List.set_cons_succ]
      refine batchG hfn (fuel := 0) [17, 18, 19] (by kernel_rfl) rfl ?_
      repeat (go_big_quiet_step ((fail)))
      refine wpQuiet_nil ?_
      refine wpAnyG_done (by kernel_rfl) ?_
      refine calmQ_normal ?_
      gi_wp2
      go_ret
      exact .inr ⟨rfl, [.node b tl k v g tr], ⟨tl.pre ++ tr.pre, rfl⟩, hJx1⟩
end Go.Proofs.Ytejknkhahjgdnaa
namespace Go.Proofs.Ytejknkhahjgdnaa
open Go Go.RowKit

/-- the tag of a node that is made of two. -/
def avlTag (l r : Tr) : Int := IntKind.u64.wrap (max l.tag r.tag + 1)
theorem avlTag_left {l r : Tr} (h : r.tag ≤ l.tag) : IntKind.u64.wrap (l.tag + 1) = avlTag l r := by unfold avlTag; rw [Int.max_eq_left h]
theorem avlTag_right {l r : Tr} (h : ¬ r.tag ≤ l.tag) : IntKind.u64.wrap (r.tag + 1) = avlTag l r := by unfold avlTag; rw [Int.max_eq_right (by omega)]
/-- by how much a tree is higher on the right. -/
def avlLean (t : Tr) : Int := wrap64 (IntKind.u64.wrap (t.right.tag - t.left.tag))
end Go.Proofs.Ytejknkhahjgdnaa
namespace Go.Proofs.Ytejknkhahjgdnaa
open Go Go.RowKit Go.Shelf
attribute [local go_sem] Oper.semAt_some

theorem ext_of_abides {β : Type} {B : Nat} {J : β → World → Prop} (hJ : AbidesFrom B J) {s : β} {W W' : World} (h : J s W) (hE : Ext W W') : J s W' :=
  hJ s W W' none h ⟨hE.os, hE.tape, hE.output, Below.size hE, fun k hk _ => Below.block hE k hk⟩ (fun r e => by cases e)
theorem inH_pre {w : World} : ∀ {t : Tr}, InH w t → ∀ x ∈ t.pre, InH w x
  | .nil, _, _, hx => by simp [Tr.pre] at hx
  | .node b l k v g r, h, x, hx => by
    simp only [Tr.pre, List.mem_cons, List.mem_append] at hx
    rcases hx with rfl | hx | hx
    · exact h
    · exact inH_pre h.2.1 x hx
    · exact inH_pre h.2.2 x hx
/-- lists of what has a property, as lists. -/
def Under {Px : Tr → Prop} (J : List { x : Tr // Px x } → World → Prop) (l : List Tr) (W : World) : Prop := ∃ l' : List { x : Tr // Px x }, l'.map (·.1) = l ∧ J l' W
set_option maxHeartbeats 1000000 in
/-- **avl.beads(t) hands back what goes over t's nodes, each ahead of its sides.** -/
theorem avlBeads_stops (M : Nat → Prop) (Px : Tr → Prop) (n Bt : Nat) (T : Tr) (w : World) (hM : ∀ i, M i → i < w.heap.size) (hBt : Boxed w Bt 43 (.pointer T.ptr)) (hT : InH w T) (ho : Off M T) (hP : ∀ x ∈ T.pre, Px x) :
    SeqStopsK Fence.wide n Try.prog 102 #[.pointer (some ⟨Bt, 0, none⟩)] (fun x : { x : Tr // Px x } => #[Value.pointer x.1.ptr]) (Keep M) (fun ys => ys.map (·.1) = T.pre) (fun q => q.map (·.1) <+: T.pre) T.pre.length w := by
  intro l J Jx W hW hJ hJx hY h0
  have hsz : w.heap.size ≤ W.heap.size := hW.size
  have hE : Ext w W := hW
  have hW2 : Ext W ((W.alloc (.cells #[.func (.yield l) #[] #[]] 76)).alloc (.cells #[.func (.func 103) #[] #[.pointer (some ⟨W.heap.size, 0, none⟩), .pointer (some ⟨W.heap.size + 1, 0, none⟩)]] 76)) := ((Ext.refl W).alloc _).alloc _
  have hon := (avlOn_in M Px l T.pre.length W.heap.size (W.heap.size + 1) (Under J) (Under Jx) (fun h => by have := hM _ h; omega) (fun h => by have := hM _ h; omega)
    (fun m pre x W hx ⟨l', hl', hj⟩ hl => YieldAt.any m (YieldAt.mono (hY l' ⟨x, hx⟩ W hj (by rw [← hl'] at hl; simpa using hl)) fun e W' h => h.elim
      (fun ⟨he, h1, h2⟩ => .inl ⟨he, ⟨l' ++ [⟨x, hx⟩], by simp [hl'], h1⟩, h2⟩) (fun ⟨he, h1⟩ => .inr ⟨he, ⟨l' ++ [⟨x, hx⟩], by simp [hl'], h1⟩⟩)))
    (fun pre W W' ⟨l', hl', h⟩ hE => ⟨l', hl', ext_of_abides hJ h hE⟩) T (n - 1) [] _ ((hT.ext hE).ext hW2) ho hP ⟨[], rfl, ext_of_abides hJ h0 hW2⟩ (by simp)
    ((Boxed.new W _ _).alloc _) (by have := Boxed.new (W.alloc (.cells #[.func (.yield l) #[] #[]] 76)) 76 (.func (.func 103) #[] #[.pointer (some ⟨W.heap.size, 0, none⟩), .pointer (some ⟨W.heap.size + 1, 0, none⟩)]); simpa using this))
  have Hon := Lib.hid hon
  clear hon hY hP
  have hcb := (show Boxed W Bt _ _ from hE.get hBt).cell
  have hlb := (show Boxed W Bt _ _ from hE.get hBt).lt
  have hfn : ∀ f, Fence.wide.fn f := fun _ => trivial
  refine callsIn_of_wp Try.func102 rfl trivial ?_ rfl
  simp only [Try.ntmps102, List.size_toArray, List.length_cons, List.length_nil, Nat.reduceAdd, Nat.reduceSub, Array.replicate_succ, Array.replicate_zero, List.push_toArray, List.append_toArray, List.nil_append, List.cons_append]
  gi_wp2_with fail
  refine ⟨wide_room _, Hon.out.mono ?_⟩
  rintro e W1 (⟨rfl, ⟨l', hl', hJ1⟩, -⟩ | ⟨rfl, q, hq, l', hl', hJ1⟩)
  · gi_wp2
    go_end0
    exact ⟨⟨_, rfl⟩, .inl ⟨_, by simpa using hl', hJ1⟩⟩
  · gi_wp2
    go_end0
    exact ⟨⟨_, rfl⟩, .inr ⟨l', by rw [hl']; simpa using hq, hJ1⟩⟩
theorem avlBeads_any (w : World) (p : Option Addr) : Calls Try.prog 88 #[.pointer p] w fun e w' => e = .returned (.func (.func 102) #[] #[.pointer (some ⟨w.heap.size, 0, none⟩)]) ∧ w' = w.alloc (.cells #[.pointer p] 43) := by
  go_enter Try.func88, Try.ntmps88
  go_wp2
  go_ret
  exact ⟨rfl, rfl⟩
/-- what avl.looks lays into memory. -/
def looksW (w : World) : World := (w.alloc (.cells #[.func (.func 99) #[] #[]] 126)).alloc
  (.cells #[.func (.func 100) #[] #[.pointer (some ⟨w.heap.size, 0, none⟩)], .int .i64 140, .func (.func 101) #[] #[.pointer (some ⟨w.heap.size, 0, none⟩)], .int .i64 8] 114)
set_option maxHeartbeats 400000 in
theorem looks_any (w : World) : Calls Try.prog 87 #[] w fun e w' => e = .returned (.slice (some ⟨w.heap.size + 1, 0, none⟩) 2 2) ∧ w' = looksW w := by
  go_enter Try.func87, Try.ntmps87
  go_wp2
  go_ret
  exact ⟨rfl, rfl⟩
set_option maxHeartbeats 400000 in
theorem tags_any (w : World) (t : Tr) (ht : InH w t) : Calls Try.prog 99 #[.pointer t.ptr] w (Ret (.tuple #[.int .u64 (min t.left.tag t.right.tag), .int .u64 (max t.left.tag t.right.tag)]) w) := by
  go_enter Try.func99, Try.ntmps99
  go_wp2_with fail
  refine (left_any _ t ht).mono ?_
  rintro e w1 ⟨rfl, h1⟩
  go_wp2_with fail
  refine (tag_any _ _ ((left_ok ht).ext h1)).mono ?_
  rintro e w2 ⟨rfl, h2⟩
  have h12 := h1.trans h2
  go_wp2_with fail
  refine (right_any _ t (ht.ext h12)).mono ?_
  rintro e w3 ⟨rfl, h3⟩
  go_wp2_with fail
  refine (tag_any _ _ ((right_ok ht).ext (h12.trans h3))).mono ?_
  rintro e w4 ⟨rfl, h4⟩
  have hE := (h12.trans h3).trans h4
  go_wp2
  all_goals
    go_ret2
    exact ⟨ret_two (by omega) (by omega), hE⟩
/-- the first thing that may be wrong with a node. -/
def avlBadTag (t : Tr) : Bool := t.tag == 0 || IntKind.u64.wrap (t.tag - 1) != max t.left.tag t.right.tag
/-- the second one. -/
def avlBadTree (t : Tr) : Bool := decide (1 < IntKind.u64.wrap (max t.left.tag t.right.tag - min t.left.tag t.right.tag))
set_option maxHeartbeats 400000 in
theorem wrong1_any (w : World) (t : Tr) (B : Nat) (ht : InH w t) (hB : Boxed w B 126 (.func (.func 99) #[] #[])) : Calls Try.prog 100 #[.pointer t.ptr, .pointer (some ⟨B, 0, none⟩)] w (Ret (.bool (avlBadTag t)) w) := by
  have hc := hB.cell
  go_enter Try.func100, Try.ntmps100
  go_wp2_with fail
  refine (tags_any _ t ht).mono ?_
  rintro e w1 ⟨rfl, h1⟩
  go_wp2_with fail
  refine (tag_any _ t (ht.ext h1)).mono ?_
  rintro e w2 ⟨rfl, h2⟩
  have h := h1.trans h2
  clear hc
  by_cases h0 : t.tag = 0
  · have e := beq_iff_eq.2 h0
    clear h0
    have hE := Lib.hid e
    go_wp2
    go_ret
    exact ⟨ret_bool (by simp [avlBadTag, hE.out]), h⟩
  · have e := beq_eq_false_iff_ne.2 h0
    have hE := Lib.hid e
    clear h0
    go_wp2_with fail
    refine (tag_any _ t (ht.ext h)).mono ?_
    rintro e w3 ⟨rfl, h3⟩
    go_wp2
    go_ret
    exact ⟨ret_bool (by simp [avlBadTag, hE.out]), h.trans h3⟩
set_option maxHeartbeats 400000 in
theorem wrong2_any (w : World) (t : Tr) (B : Nat) (ht : InH w t) (hB : Boxed w B 126 (.func (.func 99) #[] #[])) : Calls Try.prog 101 #[.pointer t.ptr, .pointer (some ⟨B, 0, none⟩)] w (Ret (.bool (avlBadTree t)) w) := by
  have hc := hB.cell
  go_enter Try.func101, Try.ntmps101
  go_wp2_with fail
  refine (tags_any _ t ht).mono ?_
  rintro e w1 ⟨rfl, h1⟩
  go_wp2
  go_ret
  exact ⟨ret_bool (by simp [avlBadTree]), h1⟩
end Go.Proofs.Ytejknkhahjgdnaa
namespace Go.Proofs.Ytejknkhahjgdnaa
open Go Go.RowKit Go.Shelf
attribute [local go_sem] Oper.semAt_some

/-- the first node that is wrong, and how. -/
def avlFirst : List Tr → Nat × Int
  | [] => (0, 0)
  | t :: r => if avlBadTag t then (0, 140) else if avlBadTree t then (0, 8) else ((avlFirst r).1 + 1, (avlFirst r).2)

theorem avlFirst_good : ∀ {l : List Tr}, (∀ t ∈ l, avlBadTag t = false ∧ avlBadTree t = false) → avlFirst l = (l.length, 0)
  | [], _ => rfl
  | t :: l, h => by
    have h0 := h t (List.mem_cons_self ..)
    have h1 := avlFirst_good (l := l) (fun x hx => h x (List.mem_cons_of_mem _ hx))
    simp [avlFirst, h0.1, h0.2, h1]
theorem avlFirst_bad {x : Tr} {r : List Tr} : ∀ {l : List Tr}, (∀ t ∈ l, avlBadTag t = false ∧ avlBadTree t = false) → avlFirst (l ++ x :: r) = (l.length + (avlFirst (x :: r)).1, (avlFirst (x :: r)).2)
  | [], _ => by simp
  | t :: l, h => by
    have h0 := h t (List.mem_cons_self ..)
    have h1 := avlFirst_bad (l := l) (x := x) (r := r) (fun x hx => h x (List.mem_cons_of_mem _ hx))
    rw [List.cons_append, avlFirst, if_neg (by simp [h0.1]), if_neg (by simp [h0.2]), h1]
    simp; omega
theorem wrap64_succ (a : Int) : wrap64 (wrap64 a + 1) = wrap64 (a + 1) := by unfold wrap64; omega
/-- the world ahead of Check's loop. -/
def chkW (w : World) (p : Option Addr) : World :=
  ((((((w.alloc (.cells #[.int .i64 0] 3)).alloc (.cells #[.int .i64 0] 24)).alloc (.cells #[.func (.func 99) #[] #[]] 126)).alloc
      (.cells #[.func (.func 100) #[] #[.pointer (some ⟨w.heap.size + 1 + 1, 0, none⟩)], .int .i64 140, .func (.func 101) #[] #[.pointer (some ⟨w.heap.size + 1 + 1, 0, none⟩)], .int .i64 8] 114)).alloc
      (.cells #[.slice (some ⟨w.heap.size + 1 + 1 + 1, 0, none⟩) 2 2] 111)).alloc (.cells #[.pointer p] 43))
/-- what of it stays through the loop. -/
structure ChkStays (N : Nat) (W : World) : Prop where
  tags : Boxed W (N + 1 + 1) 126 (.func (.func 99) #[] #[])
  looks : W.heap[N + 1 + 1 + 1]? = some (.cells #[.func (.func 100) #[] #[.pointer (some ⟨N + 1 + 1, 0, none⟩)], .int .i64 140, .func (.func 101) #[] #[.pointer (some ⟨N + 1 + 1, 0, none⟩)], .int .i64 8] 114 (0, 0))
  all : Boxed W (N + 1 + 1 + 1 + 1) 111 (.slice (some ⟨N + 1 + 1 + 1, 0, none⟩) 2 2)
theorem ChkStays.keep {N : Nat} {W W' : World} (h : ChkStays N W) (k : Keep (fun i => i = N ∨ i = N + 1) W W') : ChkStays N W' :=
  ⟨k.boxed (by omega) h.tags, k.cells _ _ _ _ (by omega) h.looks, k.boxed (by omega) h.all⟩
theorem chkW_all (w : World) (p : Option Addr) : Ext w (chkW w p) ∧ (chkW w p).heap.size = w.heap.size + 6 ∧ Boxed (chkW w p) w.heap.size 3 (.int .i64 0) ∧ Boxed (chkW w p) (w.heap.size + 1) 24 (.int .i64 0) ∧
    Boxed (chkW w p) (w.heap.size + 1 + 1 + 1 + 1 + 1) 43 (.pointer p) ∧ ChkStays w.heap.size (chkW w p) := by
  refine ⟨((((((Ext.refl w).alloc _).alloc _).alloc _).alloc _).alloc _).alloc _, by simp [chkW], ?_, ?_, ?_, ?_, ?_, ?_⟩ <;> unfold chkW <;> (try unfold Boxed) <;> (repeat (first | exact alloc_at _ _ _ (by simp) | rw [alloc_lt _ _ _ (by simp <;> omega)]))

theorem results_cells2 {fn : Func} {t u : Tmp} {A B : TypeId} (h : fn.results = #[.cell t A, .cell u B]) (tmps : Array Value) (w : World) {a b : Value} {p q : Addr} (ht : tmps.getD t undef = .pointer (some p)) (hu : tmps.getD u undef = .pointer (some q))
    (hA : ∀ w : World, (isAgg A).run Try.prog w = .ok false w) (hB : ∀ w : World, (isAgg B).run Try.prog w = .ok false w) (hp : w.cell? p = some a) (hq : w.cell? q = some b) :
    (results fn tmps).run Try.prog w = .ok (.tuple #[a, b]) w := by
  simp only [Array.getD_eq_getD_getElem?] at ht hu
  simp [results, h, ht, hu, loadVar, hA, hB, asAddr, hp, hq]
set_option maxRecDepth 100000 in
set_option maxHeartbeats 2000000 in
theorem avlCheck_in (n : Nat) (hn : Hid (1 ≤ n)) (T : Tr) (w : World) (hT : InH w T) :
    CallsIn Fence.wide n Try.prog 67 #[.pointer T.ptr] w (Ret (.tuple #[.int .i64 (wrap64 (avlFirst T.pre).1), .int .i64 (avlFirst T.pre).2]) w) := by
  have hfn : ∀ f, Fence.wide.fn f := fun _ => trivial
  refine callsIn_of_wp_marks Try.func67 rfl trivial ?_ rfl
  simp only [Try.ntmps67, List.size_toArray, List.length_cons, List.length_nil, Nat.reduceAdd, Nat.reduceSub, Array.replicate_succ, Array.replicate_zero, List.push_toArray, List.append_toArray, List.nil_append, List.cons_append]
  gi_wp2_with fail
  refine wpIn_scope_wide ?_
  gi_wp2_with fail
  refine ⟨wide_room _, (callsIn_wide.2 (looks_any _)).mono ?_⟩
  rintro e w1 ⟨rfl, rfl⟩
  unfold looksW
  gi_wp2_with fail
  refine wpIn_label ?_
  gi_wp2_with fail
  refine ⟨wide_room _, (callsIn_wide.2 (avlBeads_any _ _)).mono ?_⟩
  rintro e w2 ⟨rfl, rfl⟩
  gi_wp2_with fail
  change Code.wpIn _ _ _ _ _ _ (chkW w T.ptr)
  obtain ⟨hE, hsz, hat, he, htb, hst⟩ := chkW_all w T.ptr
  generalize chkW w T.ptr = W0 at *
  generalize hN : w.heap.size = N at *
  have HN := Lib.hid hN
  clear hN
  refine wpIn_rangeFunc_ownG rfl (n := n) (w := W0) hn.out (gf := 102) (lb := #[.pointer (some ⟨N + 1 + 1 + 1 + 1 + 1, 0, none⟩)]) rfl trivial (enters_of Try.func102 (by kernel_rfl) rfl)
    (avlBeads_stops (fun i => i = N ∨ i = N + 1) (InH w) (n - 1) _ T W0 (by omega) htb (hT.ext hE) (InH.off (fun i h => by rw [HN.out]; omega) hT) (fun x hx => inH_pre hT x hx))
    (fun h k => Keep.trans h k) (fun W l o o' _ h ho _ => Keep.putObj W l o o' h ho) (RowKit.Below.refl _ _) (fun _ => rfl)
    (fun pre W => Boxed W N 3 (.int .i64 (wrap64 pre.length)) ∧ Boxed W (N + 1) 24 (.int .i64 0) ∧ (∀ y ∈ pre, avlBadTag y.1 = false ∧ avlBadTree y.1 = false) ∧ Keep (fun i => i = N ∨ i = N + 1) W0 W ∧ Below N W0 W)
    (fun c pre W => c = .exit 0 ∧ ∃ q x, pre = q ++ [x] ∧ (∀ y ∈ q, avlBadTag y.1 = false ∧ avlBadTree y.1 = false) ∧ Boxed W N 3 (.int .i64 (wrap64 q.length)) ∧
      (avlBadTag x.1 = true ∧ Boxed W (N + 1) 24 (.int .i64 140) ∨ avlBadTag x.1 = false ∧ avlBadTree x.1 = true ∧ Boxed W (N + 1) 24 (.int .i64 8)) ∧ Below N W0 W)
    ?own ?ownx ⟨(by simpa [wrap64] using hat), he, by simp, Keep.refl _ _, Below.refl _ _⟩ (fun x => { tmps := #[Value.pointer T.ptr, undef, Value.pointer (some ⟨N, 0, none⟩), Value.pointer (some ⟨N + 1, 0, none⟩), Value.pointer (some ⟨N + 1 + 1 + 1 + 1, 0, none⟩), Value.pointer x.1.ptr, undef, undef, Value.slice (some ⟨N + 1 + 1 + 1, 0, none⟩) 2 2, Value.pointer T.ptr, Value.func (Fn.func 102) #[] #[Value.pointer (some ⟨N + 1 + 1 + 1 + 1 + 1, 0, none⟩)], Value.pointer x.1.ptr, undef, undef, undef, undef, undef, undef, undef, undef, undef, undef, undef, undef, undef, undef, undef, undef, undef], defers := [] }) ?assign ?body ?done ?stop
  case own =>
    rintro s A A' row ⟨h1, h2, h3, h4, h5⟩ hg hr
    exact ⟨boxed_grown h1 hg hr, boxed_grown h2 hg hr, h3, keep_grown h4 hg hr, below_grown (by omega) (by omega) h5 hg hr⟩
  case ownx =>
    rintro c s A A' row ⟨h0, q, x, h1, h2, h3, h4, h5⟩ hg hr
    exact ⟨h0, q, x, h1, h2, boxed_grown h3 hg hr, h4.imp (fun h => ⟨h.1, boxed_grown h.2 hg hr⟩) (fun h => ⟨h.1, h.2.1, boxed_grown h.2.2 hg hr⟩), below_grown (by omega) (by omega) h5 hg hr⟩
  case assign =>
    intro l x W K hK
    gi_wp2
    exact hK
  case body =>
    rintro l pre x W ⟨hat, he, hg, hk, hb⟩ _
    have hst' := hst.keep hk
    have hx := InH.keep hk (InH.off (fun i h => by rw [HN.out]; omega) x.2) (x.2.ext hE)
    have hle : N + 6 ≤ W.heap.size := by have := hk.size; omega
    have hal := hst'.all.cell
    have hl0 := cell_of hst'.looks 0
    have hl1 := cell_of hst'.looks 1
    have hl2 := cell_of hst'.looks 2
    have hl3 := cell_of hst'.looks 3
    simp at hl0 hl1 hl2 hl3
    have hg' := Lib.hid hg
    have hat' := hat
    have he' := he
    clear hg hsz hat he
    gi_wp2_with fail
    refine wpIn_loop_rounds 3 ?_
    rw [roundsIn_succ]
    gi_wp2_with fail
    have hB1 := hat'
    by_cases e1 : avlBadTag x.1 = true
    · refine ⟨wide_room _, (CallsIn.inRound l (callsIn_wide.2 (wrong1_any _ x.1 _ (hx.ext ((Ext.refl W).alloc _)) (hst'.tags.alloc _)))).mono ?_⟩
      rintro e W1 ⟨rfl, h1⟩
      have h01 : Ext W W1 := ((Ext.refl W).alloc _).trans h1
      have hcn := cell_keep h1 (cell_of (alloc_at W (.cells #[.func (.func 100) #[] #[.pointer (some ⟨N + 1 + 1, 0, none⟩)], .int .i64 140] 114) _ rfl) 1)
      have he1 := (Keep.ext (M := fun _ => False) h01).boxed (fun h => h) he'
      have hce := he1.cell
      have hfe := he1.frozen
      clear hl0 hl1 hl2 hl3 hal
      gi_wp2
      have hBe : Below N W0 W1 := hb.trans (RowKit.Below.mono h01 (by omega))
      exact ⟨(keepsFrom_ext h01).trans (keepsFrom_set _ _ _), rfl, pre, x, rfl, hg'.out, ((Keep.ext (M := fun _ => False) h01).boxed (fun h => h) hat').other (by omega) _, .inl ⟨e1, he1.set _⟩, hBe.setCell (p := ⟨N + 1, 0, none⟩) (Nat.le_succ N) _⟩
    · have e1' : avlBadTag x.1 = false := by simpa using e1
      clear e1
      refine ⟨wide_room _, (CallsIn.inRound l (callsIn_wide.2 (wrong1_any _ x.1 _ (hx.ext ((Ext.refl W).alloc _)) (hst'.tags.alloc _)))).mono ?_⟩
      rintro e W1 ⟨rfl, h1⟩
      have h01 : Ext W W1 := ((Ext.refl W).alloc _).trans h1
      clear hl0 hl1 hl2 hl3 hal h1
      have hst1 := hst'.keep (Keep.ext h01)
      have hl2 := cell_of hst1.looks 2
      have hl3 := cell_of hst1.looks 3
      simp at hl2 hl3
      have hlt1 : N + 6 ≤ W1.heap.size := Nat.le_trans hle h01.size
      gi_wp2_with fail
      rw [roundsIn_succ]
      gi_wp2_with fail
      refine ⟨wide_room _, (CallsIn.inRound l (callsIn_wide.2 (wrong2_any _ x.1 _ ((hx.ext h01).ext ((Ext.refl W1).alloc _)) (hst1.tags.alloc _)))).mono ?_⟩
      rintro e W2 ⟨rfl, h2⟩
      have h12 : Ext W1 W2 := ((Ext.refl W1).alloc _).trans h2
      have h02 := h01.trans h12
      have hcn := cell_keep h2 (cell_of (alloc_at W1 (.cells #[.func (.func 101) #[] #[.pointer (some ⟨N + 1 + 1, 0, none⟩)], .int .i64 8] 114) _ rfl) 1)
      have he2 := (Keep.ext (M := fun _ => False) h02).boxed (fun h => h) he'
      have hat2 := (Keep.ext (M := fun _ => False) h02).boxed (fun h => h) hat'
      have hBe : Below N W0 W2 := hb.trans (RowKit.Below.mono h02 (by omega))
      clear hl2 hl3 hst1 h2
      by_cases e2 : avlBadTree x.1 = true
      · have hce := he2.cell
        have hfe := he2.frozen
        gi_wp2
        exact ⟨(keepsFrom_ext h02).trans (keepsFrom_set _ _ _), rfl, pre, x, rfl, hg'.out, hat2.other (by omega) _, .inr ⟨e1', e2, he2.set _⟩, hBe.setCell (p := ⟨N + 1, 0, none⟩) (Nat.le_succ N) _⟩
      · have e2' : avlBadTree x.1 = false := by simpa using e2
        clear e2
        have hce := hat2.cell
        have hfe := hat2.frozen
        gi_wp2_with fail
        rw [roundsIn_succ]
        gi_wp2
        have hBf := hBe.setCell (p := ⟨N, 0, none⟩) (Nat.le_refl N) (.int .i64 (wrap64 (wrap64 pre.length + 1)))
        have hbx := hat2.set (.int .i64 (wrap64 (wrap64 pre.length + 1)))
        rw [wrap64_succ] at hbx hBf ⊢
        refine ⟨(keepsFrom_ext h02).trans (keepsFrom_set _ _ _), (Keep.ext h02).trans (Keep.setCell _ _ _ (.inl rfl)), ?_, he2.other (by omega) _, ?_, (hk.trans (Keep.ext h02)).trans (Keep.setCell _ _ _ (.inl rfl)), hBf⟩
        · rw [List.length_append]; exact hbx
        · intro y hy
          rcases List.mem_append.1 hy with hy | hy
          · exact hg'.out y hy
          · obtain rfl : y = x := by simpa using hy
            exact ⟨e1', e2'⟩
  case done =>
    rintro D ys W hD hys ⟨hat, he, hg, hk, hb⟩ hK
    clear hst htb
    have hca := hat.cell
    have hfa := hat.frozen
    have hce := he.cell
    have hfe := he.frozen
    gi_wp2_with fail
    gi_region
    gi_wp2
    obtain ⟨f1, f2, f3, f4⟩ := two_end HN.out hE hb hD hK hat he (by omega)
    have e1 : avlFirst T.pre = (ys.length, 0) := by
      rw [← hys, avlFirst_good (fun t ht => by obtain ⟨y, hy, rfl⟩ := List.mem_map.1 ht; exact hg y hy), List.length_map]
    rw [e1]
    refine ⟨by simp, .inl ⟨_, _, rfl, run_takeDeferred f1, ?_⟩⟩
    exact ⟨_, results_cells2 rfl _ _ rfl rfl (fun _ => by kernel_rfl) (fun _ => by kernel_rfl) f2 f3, rfl, f4⟩
  case stop =>
    rintro D c q W hD hq ⟨rfl, q', x, hqx, hg, hat, he, hb⟩ hK
    clear hst htb
    obtain ⟨r, hr⟩ := hq
    have e1 : ∀ er, avlFirst (x.1 :: r) = (0, er) → avlFirst T.pre = (q'.length, er) := fun er h => by
      rw [← hr, hqx, List.map_append, List.append_assoc]
      show avlFirst (q'.map (·.1) ++ x.1 :: r) = _
      rw [avlFirst_bad (fun t ht => by obtain ⟨y, hy, rfl⟩ := List.mem_map.1 ht; exact hg y hy), h, List.length_map]
      simp
    have E1 := Lib.hid e1
    clear e1 hr hg hqx
    rcases he with ⟨b1, he⟩ | ⟨b1, b2, he⟩
    · have e2 := E1.out 140 (by simp [avlFirst, b1])
      have H2 := Lib.hid e2
      clear b1 e2
      have hca := hat.cell
      have hfa := hat.frozen
      have hce := he.cell
      have hfe := he.frozen
      gi_wp2_with fail
      gi_region
      gi_wp2
      obtain ⟨f1, f2, f3, f4⟩ := two_end HN.out hE hb hD hK hat he (by omega)
      rw [H2.out]
      refine ⟨by simp, .inl ⟨_, _, rfl, run_takeDeferred f1, ?_⟩⟩
      exact ⟨_, results_cells2 rfl _ _ rfl rfl (fun _ => by kernel_rfl) (fun _ => by kernel_rfl) f2 f3, rfl, f4⟩
    · have e2 := E1.out 8 (by simp [avlFirst, b1, b2])
      have H2 := Lib.hid e2
      clear b1 b2 e2
      have hca := hat.cell
      have hfa := hat.frozen
      have hce := he.cell
      have hfe := he.frozen
      gi_wp2_with fail
      gi_region
      gi_wp2
      obtain ⟨f1, f2, f3, f4⟩ := two_end HN.out hE hb hD hK hat he (by omega)
      rw [H2.out]
      refine ⟨by simp, .inl ⟨_, _, rfl, run_takeDeferred f1, ?_⟩⟩
      exact ⟨_, results_cells2 rfl _ _ rfl rfl (fun _ => by kernel_rfl) (fun _ => by kernel_rfl) f2 f3, rfl, f4⟩
/-- **avl.Check**, at any tree: the first of its nodes, each ahead of its sides, that is wrong, and how. -/
theorem avlCheck_any (w : World) (T : Tr) (hT : InH w T) : Calls Try.prog 67 #[.pointer T.ptr] w (Ret (.tuple #[.int .i64 (wrap64 (avlFirst T.pre).1), .int .i64 (avlFirst T.pre).2]) w) :=
  callsIn_wide.1 (avlCheck_in 9 (Lib.hid (by omega)) T w hT)
/-- may it be? -/
def avlMay (T : Tr) : Bool := (avlFirst T.pre).2 == 0
set_option maxHeartbeats 400000 in
theorem avlMay_any (w : World) (T : Tr) (hT : InH w T) : Calls Try.prog 46 #[.pointer T.ptr] w (Ret (.bool (avlMay T)) w) := by
  go_enter Try.func46, Try.ntmps46
  go_wp2_with fail
  refine (avlCheck_any _ T hT).mono ?_
  rintro e w1 ⟨rfl, h1⟩
  go_wp2
  go_ret
  exact ⟨rfl, h1⟩
end Go.Proofs.Ytejknkhahjgdnaa
namespace Go.Proofs.Ytejknkhahjgdnaa
open Go Go.RowKit

theorem avlFirst_cons (t : Tr) (r : List Tr) : avlFirst (t :: r) = if avlBadTag t then (0, 140) else if avlBadTree t then (0, 8) else ((avlFirst r).1 + 1, (avlFirst r).2) := rfl
theorem avlFirst_none : ∀ {l : List Tr}, (avlFirst l).2 = 0 → (avlFirst l).1 = l.length ∧ ∀ t ∈ l, avlBadTag t = false ∧ avlBadTree t = false
  | [], _ => by simp [avlFirst]
  | t :: l, h => by
    unfold avlFirst at h ⊢
    split at h
    · simp at h
    · split at h
      · simp at h
      · rename_i h1 h2
        have := avlFirst_none (l := l) h
        refine ⟨by simp [h1, h2, this.1], ?_⟩
        intro x hx
        rcases List.mem_cons.1 hx with rfl | hx
        · exact ⟨by simpa using h1, by simpa using h2⟩
        · exact this.2 x hx
theorem avlFirst_append (a b : List Tr) : avlFirst (a ++ b) = if (avlFirst a).2 = 0 then (a.length + (avlFirst b).1, (avlFirst b).2) else avlFirst a := by
  induction a with
  | nil => simp [avlFirst]
  | cons t a ih =>
    rw [List.cons_append, avlFirst_cons, avlFirst_cons]
    by_cases h1 : avlBadTag t = true
    · simp [h1]
    · by_cases h2 : avlBadTree t = true
      · simp [h1, h2]
      · simp only [h1, h2, ih]
        by_cases h3 : (avlFirst a).2 = 0
        · simp [h3]; omega
        · simp [h3]

/-- a tree that may be is one whose root is right, and both sides may be. -/
theorem avlMay_node (b : Nat) (l : Tr) (k v g : Int) (r : Tr) : avlMay (.node b l k v g r) = (!avlBadTag (.node b l k v g r) && !avlBadTree (.node b l k v g r) && avlMay l && avlMay r) := by
  unfold avlMay
  simp only [Tr.pre]
  rw [avlFirst_cons]
  by_cases h1 : avlBadTag (.node b l k v g r) = true
  · simp [h1]
  · by_cases h2 : avlBadTree (.node b l k v g r) = true
    · simp [h1, h2]
    · simp only [h1, h2, avlFirst_append]
      by_cases h3 : (avlFirst l.pre).2 = 0 <;> simp [h3]
theorem avlMay_nil : avlMay .nil = true := rfl

/-- a tree's number of nodes. -/
def Tr.count (t : Tr) : Nat := t.pre.length
theorem Tr.count_node (b : Nat) (l : Tr) (k v g : Int) (r : Tr) : (Tr.node b l k v g r).count = l.count + 1 + r.count := by simp [Tr.count, Tr.pre]; omega
theorem Tr.size_count : ∀ t : Tr, t.size = wrap64 t.count
  | .nil => by simp [Tr.size, Tr.count, Tr.pre, wrap64]
  | .node b l k v g r => by
    rw [Tr.size, Tr.size_count l, Tr.size_count r, Tr.count_node]
    have e : ((l.count + 1 + r.count : Nat) : Int) = (l.count : Int) + 1 + (r.count : Int) := by omega
    rw [e]
    unfold wrap64
    omega

/-- the least tree of a height, wherever its nodes lie. -/
def IsLeast : Nat → Tr → Prop
  | 0, t => t = .nil
  | 1, t => ∃ b, t = .node b .nil 1 1 (avlTag .nil .nil) .nil
  | k + 2, t => ∃ b l r, t = .node b l (k + 2) 1 (avlTag l r) r ∧ IsLeast k l ∧ IsLeast (k + 1) r
def leastN : Nat → Nat
  | 0 => 0
  | 1 => 1
  | k + 2 => leastN k + leastN (k + 1) + 1
theorem u64_small {a : Int} (h0 : 0 ≤ a) (h1 : a < 18446744073709551616) : IntKind.u64.wrap a = a := by
  have : (2 : Int) ^ 64 = 18446744073709551616 := by decide
  simp only [IntKind.wrap, IntKind.bits, IntKind.signed, this]
  simp
  omega
theorem isLeast_all : ∀ (k : Nat) (t : Tr), k < 1000000 → IsLeast k t → t.tag = k ∧ avlMay t = true ∧ t.count = leastN k
  | 0, t, _, h => by obtain rfl : t = .nil := h; exact ⟨rfl, rfl, rfl⟩
  | 1, t, _, h => by
    obtain ⟨b, rfl⟩ := h
    have e : avlTag .nil .nil = 1 := by decide
    rw [e]
    exact ⟨rfl, by rw [avlMay_node, show avlBadTag (.node b .nil 1 1 1 .nil) = false from rfl, show avlBadTree (.node b .nil 1 1 1 .nil) = false from rfl]; rfl, rfl⟩
  | k + 2, t, hk, h => by
    obtain ⟨b, l, r, rfl, hl, hr⟩ := h
    obtain ⟨l1, l2, l3⟩ := isLeast_all k l (by omega) hl
    obtain ⟨r1, r2, r3⟩ := isLeast_all (k + 1) r (by omega) hr
    have e : avlTag l r = k + 2 := by
      unfold avlTag
      rw [l1, r1, Int.max_eq_right (by omega), u64_small (by omega) (by omega)]
      omega
    refine ⟨e, ?_, by rw [Tr.count_node, l3, r3, leastN]; omega⟩
    rw [avlMay_node, l2, r2, e]
    have hm : max l.tag r.tag = k + 1 := by rw [l1, r1, Int.max_eq_right (by omega)]; rfl
    have hn : min l.tag r.tag = k := by rw [l1, r1, Int.min_eq_left (by omega)]
    have e1 : avlBadTag (.node b l (k + 2) 1 (k + 2) r) = false := by
      simp only [avlBadTag, Tr.tag_node, Tr.left_node, Tr.right_node, hm]
      rw [u64_small (by omega) (by omega)]
      simp; omega
    have e2 : avlBadTree (.node b l (k + 2) 1 (k + 2) r) = false := by
      simp only [avlBadTree, Tr.left_node, Tr.right_node, hm, hn]
      rw [u64_small (by omega) (by omega)]
      simp; omega
    rw [e1, e2]
    rfl
end Go.Proofs.Ytejknkhahjgdnaa
namespace Go.Proofs.Ytejknkhahjgdnaa
open Go Go.RowKit

/-- some tree with a property, made in new memory. -/
def Makes (S : Tr → Prop) (w : World) (e : Ending) (w' : World) : Prop := ∃ t, e = .returned (.pointer t.ptr) ∧ InH w' t ∧ S t ∧ Ext w w'
theorem leastN_lt : ∀ k : Nat, leastN k < 2 ^ k
  | 0 => by decide
  | 1 => by decide
  | k + 2 => by
    have h1 := leastN_lt k
    have h2 := leastN_lt (k + 1)
    rw [leastN]
    have e1 : 2 ^ (k + 1) = 2 * 2 ^ k := by rw [Nat.pow_succ]; omega
    have e2 : 2 ^ (k + 2) = 4 * 2 ^ k := by rw [Nat.pow_succ, e1]; omega
    omega
theorem leastN_wrap (k : Nat) (h : k ≤ 60) : wrap64 (wrap64 ((leastN k : Int) + (leastN (k + 1) : Int)) + 1) = (leastN (k + 1 + 1) : Int) := by
  have h1 := leastN_lt k
  have h2 := leastN_lt (k + 1)
  have h3 : 2 ^ k ≤ 2 ^ 60 := Nat.pow_le_pow_right (by decide) h
  have h4 : 2 ^ (k + 1) ≤ 2 ^ 61 := Nat.pow_le_pow_right (by decide) (by omega)
  rw [show leastN (k + 1 + 1) = leastN k + leastN (k + 1) + 1 from rfl]
  unfold wrap64
  omega
theorem hmod15 {a0 : Int} (w0 : (Lit.int .u8 a0).wf = true) : ∃ k : Nat, k < 15 ∧ wrap64 (a0.tmod 15) = k := by
  have h : 0 ≤ a0 := by
    simp [Lit.wf, IntKind.min, IntKind.max, IntKind.signed, IntKind.bits] at w0
    omega
  refine ⟨(a0.tmod 15).toNat, ?_, ?_⟩
  · rw [Int.tmod_eq_emod_of_nonneg h]; omega
  · rw [Int.tmod_eq_emod_of_nonneg h]; unfold wrap64; omega
end Go.Proofs.Ytejknkhahjgdnaa
namespace Go.Proofs.Ytejknkhahjgdnaa
open Go Go.RowKit

/-- a tree in memory is the tree of some beads. -/
def BT.fits : BT → Tr → Prop
  | .nil, .nil => True
  | .node k v _ _ g l r, .node _ L k' v' g' R => k = k' ∧ v = v' ∧ g = g' ∧ l.fits L ∧ r.fits R
  | _, _ => False
set_option maxHeartbeats 1000000 in
theorem beadsMake_any (t : BT) : ∀ (w : World) (p : Value), Beads w p t.enc → t.enc.length ≤ 400 →
    Calls Try.prog 18 #[p] w (Makes t.fits w) := by
  have hfn : ∀ f, Fence.wide.fn f := fun _ => trivial
  induction t with
  | nil =>
    intro w p hb hl
    obtain ⟨a, c, rfl⟩ := beads_slice hb
    rw [show BT.nil.enc.length = 0 from rfl]
    clear hb hl
    go_enter Try.func18, Try.ntmps18
    go_wp2
    go_ret
    exact ⟨.nil, rfl, trivial, trivial, Ext.refl _⟩
  | node k v s n g l r ihl ihr =>
    intro w p hb hl
    have hp := parts_any w p k v s n g l r hb (by omega)
    have hlen : (BT.node k v s n g l r).enc.length = 1 + l.enc.length + r.enc.length := by simp [BT.enc]; omega
    have IHl := Lib.hid ihl
    have IHr := Lib.hid ihr
    have hll : l.enc.length ≤ 400 := by omega
    have hlr : r.enc.length ≤ 400 := by omega
    have HLL := Lib.hid hll
    have HLR := Lib.hid hlr
    have h1 : 1 ≤ (BT.node k v s n g l r).enc.length := by omega
    obtain ⟨a, c, rfl⟩ := beads_slice hb
    have HP := Lib.hid hp
    clear hb hp hlen ihl ihr hll hlr
    generalize (BT.node k v s n g l r).enc.length = LL at *
    go_enter Try.func18, Try.ntmps18
    obtain ⟨m⟩ : Nonempty Nat := ⟨0⟩
    refine (wpIn_wide (n := m)).1 ?_
    gi_wp2_with fail
    refine ⟨wide_room _, (callsIn_wide.2 (HP.out)).mono ?_⟩
    rintro e w1 ⟨v1, v2, rfl, hv1, hv2, hE⟩
    gi_wp2_with fail
    have hnew := alloc_at w1 (.cells #[.int .i64 k, .int .i64 v, .int .i64 s, .int .i64 n, .int .u64 g, .bool (!l.isNil), .bool (!r.isNil)] 66) _ rfl
    have hE2 := (Ext.refl w1).alloc (.cells #[.int .i64 k, .int .i64 v, .int .i64 s, .int .i64 n, .int .u64 g, .bool (!l.isNil), .bool (!r.isNil)] 66)
    generalize (w1.alloc (.cells #[.int .i64 k, .int .i64 v, .int .i64 s, .int .i64 n, .int .u64 g, .bool (!l.isNil), .bool (!r.isNil)] 66)) = w2 at *
    have hE02 := hE.trans hE2
    have HV1 := Lib.hid (hv1.ext hE2)
    have HV2 := Lib.hid (hv2.ext hE2)
    clear hv1 hv2 hE hE2
    have hc0 := cell_all (cell_of hnew 0)
    have hc1 := cell_all (cell_of hnew 1)
    have hc4 := cell_all (cell_of hnew 4)
    have hx := Ext.drew w2
    clear hnew
    refine wpIn_region_G (fun j => !(List.contains (α := Nat) [10] j)) (by kernel_rfl) ?_
    refine batchG hfn (fuel := 4) [0, 2, 3, 4, 5, 6, 7, 8] (by kernel_rfl) rfl ?_
    repeat (go_big_quiet_step ((fail)))
    refine wpQuiet_nil ?_
    refine wpAnyG_one (j := 1) (by kernel_rfl) rfl ?_
    gi_wp2_with fail
    refine ⟨wide_room _, (callsIn_wide.2 (IHl.out _ _ (HV1.out.ext hx) HLL.out)).mono ?_⟩
    rintro e w3 ⟨L, rfl, hL, hLs, h3⟩
    gi_wp2_with fail
    refine onePost_ext (h3) ?_
    refine wpAnyG_one (j := 9) (by kernel_rfl) rfl ?_
    gi_wp2_with fail
    have h23 := hx.trans h3
    refine ⟨wide_room _, (callsIn_wide.2 (IHr.out _ _ (HV2.out.ext h23) HLR.out)).mono ?_⟩
    rintro e w4 ⟨R, rfl, hR, hRs, h4⟩
    gi_wp2_with fail
    refine onePost_ext (h4) ?_
    refine wpAnyG_one (j := 10) (by kernel_rfl) rfl ?_
    gi_wp2_with fail
    refine ⟨wide_room _, (callsIn_wide.2 (new_any w4 L R k v g (hL.ext h4) hR)).mono ?_⟩
    rintro e w5 ⟨B, rfl, hB, hT, h5⟩
    gi_wp2_with fail
    refine onePost_any (by kernel_rfl) ?_
    refine batchG hfn (fuel := 0) [11] (by kernel_rfl) rfl ?_
    repeat (go_big_quiet_step ((fail)))
    refine wpQuiet_nil ?_
    refine wpAnyG_done (by kernel_rfl) ?_
    refine calmQ_normal ?_
    gi_wp2
    go_ret
    exact ⟨_, rfl, hT, ⟨rfl, rfl, rfl, hLs, hRs⟩, ((hE02.trans h23).trans h4).trans h5⟩
def BT.tag : BT → Int
  | .nil => 0
  | .node _ _ _ _ g _ _ => g
theorem BT.fits_tag : ∀ {t : BT} {T : Tr}, t.fits T → t.tag = T.tag
  | .nil, .nil, _ => rfl
  | .nil, .node .., h => h.elim
  | .node .., .nil, h => h.elim
  | .node .., .node .., h => h.2.2.1
theorem BT.fits_left {k v s n g : Int} {l r : BT} : ∀ {T : Tr}, (BT.node k v s n g l r).fits T → l.fits T.left ∧ r.fits T.right ∧ g = T.tag ∧ k = T.key ∧ v = T.val ∧ T.pre = T :: (T.left.pre ++ T.right.pre)
  | .nil, h => h.elim
  | .node .., h => ⟨h.2.2.2.1, h.2.2.2.2, h.2.2.1, h.1, h.2.1, rfl⟩
theorem BT.fits_len : ∀ {t : BT} {T : Tr}, t.fits T → T.pre.length = t.enc.length
  | .nil, .nil, _ => rfl
  | .nil, .node .., h => h.elim
  | .node .., .nil, h => h.elim
  | .node k v s n g l r, .node b L k' v' g' R, h => by
    have h1 := BT.fits_len h.2.2.2.1
    have h2 := BT.fits_len h.2.2.2.2
    simp [Tr.pre, BT.enc, h1, h2]

end Go.Proofs.Ytejknkhahjgdnaa
namespace Go.Proofs.Ytejknkhahjgdnaa
open Go Go.RowKit

/-- a node's bead, as its tree tells it. -/
def Tr.bead (t : Tr) : BeadL := ⟨t.key, t.val, t.sum, t.size, t.tag, t.left.ptr.isSome, t.right.ptr.isSome⟩
def Tr.beads (t : Tr) : List BeadL := t.pre.map Tr.bead
def Tr.high : Tr → Nat
  | .nil => 0
  | .node _ l _ _ _ r => 1 + max l.high r.high
theorem Tr.high_le : ∀ t : Tr, t.high ≤ t.pre.length
  | .nil => by simp [Tr.high]
  | .node b l k v g r => by
    have h1 := Tr.high_le l
    have h2 := Tr.high_le r
    simp [Tr.high, Tr.pre]
    omega
/-- what see hands back. -/
def Sees (zs : List BeadL) (w0 : World) (e : Ending) (w' : World) : Prop := ∃ v, e = .returned (.tuple #[v, .bool true]) ∧ Own w0.heap.size w' v zs ∧ Ext w0 w'
/-- the values together. -/
def tot (zs : List BeadL) : Int := (zs.map BeadL.val).sum
theorem sumL_from (zs : List BeadL) : ∀ a : Int, zs.foldl (fun n z => wrap64 (n + z.val)) (wrap64 a) = wrap64 (a + tot zs) := by
  induction zs with
  | nil => intro a; simp [tot]
  | cons z zs ih =>
    intro a
    rw [List.foldl_cons, show wrap64 (wrap64 a + z.val) = wrap64 (a + z.val) by unfold wrap64; omega, ih]
    simp [tot, Int.add_assoc]
theorem sumL_tot (zs : List BeadL) : sumL zs = wrap64 (tot zs) := by
  have := sumL_from zs 0
  rw [show wrap64 0 = 0 by decide +kernel] at this
  unfold sumL
  rw [this, Int.zero_add]
theorem tot_append (a b : List BeadL) : tot (a ++ b) = tot a + tot b := by simp [tot]
theorem wrap_add (x y : Int) : wrap64 (wrap64 x + y) = wrap64 (x + y) := by unfold wrap64; omega
theorem wrap_three (a v b : Int) : wrap64 (wrap64 (wrap64 a + v) + wrap64 b) = wrap64 (a + v + b) := by
  rw [wrap_add a v, wrap_add (a + v), Int.add_comm (a + v), wrap_add b, Int.add_comm b]
theorem fits_sum : ∀ {t : BT} {T : Tr}, t.fits T → T.sum = wrap64 (tot t.enc) ∧ T.size = wrap64 t.enc.length
  | .nil, .nil, _ => ⟨by simp [Tr.sum, BT.enc, tot, wrap64], by simp [Tr.size, BT.enc, wrap64]⟩
  | .nil, .node .., h => h.elim
  | .node .., .nil, h => h.elim
  | .node k v s n g l r, .node b L k' v' g' R, h => by
    have h1 := fits_sum h.2.2.2.1
    have h2 := fits_sum h.2.2.2.2
    rw [Tr.sum, Tr.size, h1.1, h1.2, h2.1, h2.2]
    have e1 : tot (BT.node k v s n g l r).enc = v + (tot l.enc + tot r.enc) := by
      rw [← tot_append]; simp [BT.enc, tot]
    have e2 : ((BT.node k v s n g l r).enc.length : Int) = 1 + l.enc.length + r.enc.length := by simp [BT.enc]; omega
    rw [e1, e2, ← h.2.1, wrap_three, wrap_three]
    exact ⟨by congr 1; omega, by congr 1; omega⟩
theorem fits_some : ∀ {t : BT} {T : Tr}, t.fits T → T.ptr.isSome = !t.isNil
  | .nil, .nil, _ => rfl
  | .nil, .node .., h => h.elim
  | .node .., .nil, h => h.elim
  | .node .., .node .., _ => rfl
/-- a tree tells the beads that it was made of, with sizes and sums. -/
theorem fits_beads : ∀ {t : BT} {T : Tr}, t.fits T → t.enc.length ≤ 10000 → T.beads = t.of.enc
  | .nil, .nil, _, _ => rfl
  | .nil, .node .., h, _ => h.elim
  | .node .., .nil, h, _ => h.elim
  | .node k v s n g l r, .node b L k' v' g' R, h, hl => by
    have hl' : (BT.node k v s n g l r).enc.length = 1 + l.enc.length + r.enc.length := by simp [BT.enc]; omega
    have h1 := fits_beads h.2.2.2.1 (by omega)
    have h2 := fits_beads h.2.2.2.2 (by omega)
    have h3 := fits_sum h
    have e1 : (Tr.node b L k' v' g' R).beads = (Tr.node b L k' v' g' R).bead :: (L.beads ++ R.beads) := by simp [Tr.beads, Tr.pre]
    rw [e1, h1, h2]
    show _ = BeadL.mk _ _ _ _ _ (!l.of.isNil) (!r.of.isNil) :: (l.of.enc ++ r.of.enc)
    rw [BT.of_isNil, BT.of_isNil, ← fits_some h.2.2.2.1, ← fits_some h.2.2.2.2, sumL_tot, ← h3.1]
    have e3 : (Tr.node b L k' v' g' R).size = (BT.node k v s n g l r).enc.length := by
      rw [h3.2]; unfold wrap64; omega
    rw [← e3, h.1, h.2.1, h.2.2.1]
    rfl
end Go.Proofs.Ytejknkhahjgdnaa
namespace Go.Proofs.Ytejknkhahjgdnaa
open Go Go.RowKit

/-- every tag fits uint64. -/
def TagsOk : Tr → Prop
  | .nil => True
  | .node _ l _ _ g r => 0 ≤ g ∧ g < 18446744073709551616 ∧ TagsOk l ∧ TagsOk r
theorem fits_tagsOk : ∀ (t : BT) (T : Tr), t.fits T → (∀ z ∈ t.enc, z.wf) → TagsOk T
  | .nil, .nil, _, _ => trivial
  | .nil, .node .., h, _ => h.elim
  | .node .., .nil, h, _ => h.elim
  | .node k v s n g l r, .node b L k' v' g' R, h, hz => by
    have h0 := hz _ (List.mem_cons_self ..)
    have h1 := h0.2.2.2.2
    simp [Lit.wf, IntKind.min, IntKind.max, IntKind.signed, IntKind.bits] at h1
    rw [h.2.2.1] at h1
    exact ⟨by omega, by omega, fits_tagsOk l L h.2.2.2.1 (fun z hz' => hz z (by simp [BT.enc, hz'])), fits_tagsOk r R h.2.2.2.2 (fun z hz' => hz z (by simp [BT.enc, hz']))⟩
/-- the height of a tree. -/
def Tr.ht : Tr → Nat
  | .nil => 0
  | .node _ l _ _ _ r => 1 + max l.ht r.ht
theorem Tr.ht_count : ∀ t : Tr, t.ht ≤ t.count
  | .nil => by simp [Tr.ht, Tr.count, Tr.pre]
  | .node b l k v g r => by
    have h1 := Tr.ht_count l
    have h2 := Tr.ht_count r
    rw [Tr.ht, Tr.count_node]
    omega
/-- what Long says no to is a tree. -/
theorem long_tree {zs : List BeadL} (h : (decide (400 < zs.length) || !mayB zs) = false) : zs.length ≤ 400 ∧ ∃ t : BT, t.enc = zs := by
  simp only [Bool.or_eq_false_iff, Bool.not_eq_false', decide_eq_false_iff_not] at h
  exact ⟨by omega, mayB_tree h.2⟩
/-- the pairs of a tree, from left to right. -/
def Tr.kvs : Tr → List (Int × Int)
  | .nil => []
  | .node _ l k v _ r => l.kvs ++ (k, v) :: r.kvs
def Tr.blk : Tr → Nat
  | .nil => 0
  | .node b .. => b
/-- how many nodes lie in blocks from a number on. -/
def Tr.news (n : Nat) : Tr → Nat
  | .nil => 0
  | .node b l _ _ _ r => (if n ≤ b then 1 else 0) + l.news n + r.news n
theorem news_zero {w : World} {n : Nat} (hn : w.heap.size ≤ n) : ∀ {t : Tr}, InH w t → t.news n = 0
  | .nil, _ => rfl
  | .node b l k v g r, ⟨h0, h1, h2⟩ => by
    have := lt_of h0
    rw [Tr.news, news_zero hn h1, news_zero hn h2, if_neg (by omega)]

/-- what lies inward of a node, and outward (true: outward is to the right); a node of both. -/
def inOf (s : Bool) (t : Tr) : Tr := if s then t.left else t.right
def outOf (s : Bool) (t : Tr) : Tr := if s then t.right else t.left
def mkN (s : Bool) (b : Nat) (i : Tr) (k v g : Int) (o : Tr) : Tr := if s then .node b i k v g o else .node b o k v g i
def both {α : Type} (s : Bool) (a m b : List α) : List α := if s then a ++ m ++ b else b ++ m ++ a
section
variable {s : Bool} {b : Nat} {i o : Tr} {k v g : Int}
theorem inOf_mk : inOf s (mkN s b i k v g o) = i := by cases s <;> rfl
theorem outOf_mk : outOf s (mkN s b i k v g o) = o := by cases s <;> rfl
theorem mk_sides (s : Bool) (b : Nat) (l : Tr) (k v g : Int) (r : Tr) : Tr.node b l k v g r = mkN s b (inOf s (.node b l k v g r)) k v g (outOf s (.node b l k v g r)) := by cases s <;> rfl
theorem mk_key : (mkN s b i k v g o).key = k := by cases s <;> rfl
theorem mk_val : (mkN s b i k v g o).val = v := by cases s <;> rfl
theorem mk_tag : (mkN s b i k v g o).tag = g := by cases s <;> rfl
theorem mk_blk : (mkN s b i k v g o).blk = b := by cases s <;> rfl
theorem mk_ptr : (mkN s b i k v g o).ptr = some ⟨b, 0, none⟩ := by cases s <;> rfl
theorem mk_nn : mkN s b i k v g o ≠ .nil := by cases s <;> simp [mkN]
theorem mk_kvs : (mkN s b i k v g o).kvs = both s i.kvs [(k, v)] o.kvs := by cases s <;> simp [mkN, both, Tr.kvs]
theorem mk_news (n : Nat) : (mkN s b i k v g o).news n = (if n ≤ b then 1 else 0) + i.news n + o.news n := by cases s <;> simp [mkN, Tr.news] <;> omega
theorem mk_ht : (mkN s b i k v g o).ht = 1 + max i.ht o.ht := by cases s <;> simp [mkN, Tr.ht, Nat.max_comm]
theorem mk_count : (mkN s b i k v g o).count = i.count + 1 + o.count := by cases s <;> simp [mkN, Tr.count_node] <;> omega
theorem mk_pre (x : Tr) : x ∈ (mkN s b i k v g o).pre ↔ x = mkN s b i k v g o ∨ x ∈ i.pre ∨ x ∈ o.pre := by
  cases s <;> simp [mkN, Tr.pre]
  constructor <;> rintro (h | h | h) <;> simp [h]
theorem mk_inH {w : World} (h : InH w (mkN s b i k v g o)) : InH w i ∧ InH w o := by
  cases s
  · exact ⟨h.2.2, h.2.1⟩
  · exact ⟨h.2.1, h.2.2⟩
end
/-- a tree of beads' pairs, from left to right. -/
def BT.kvs : BT → List (Int × Int)
  | .nil => []
  | .node k v _ _ _ l r => l.kvs ++ (k, v) :: r.kvs
theorem BT.fits_kvs : ∀ {t : BT} {T : Tr}, t.fits T → T.kvs = t.kvs
  | .nil, .nil, _ => rfl
  | .nil, .node .., h => h.elim
  | .node .., .nil, h => h.elim
  | .node .., .node .., h => by rw [Tr.kvs, BT.kvs, BT.fits_kvs h.2.2.2.1, BT.fits_kvs h.2.2.2.2, h.1, h.2.1]
theorem BT.kvs_len : ∀ t : BT, t.kvs.length = t.enc.length
  | .nil => rfl
  | .node k v s n g l r => by simp [BT.kvs, BT.enc, BT.kvs_len l, BT.kvs_len r]; omega
/-- the beads of a tree, as a tree of beads. -/
def Tr.bt : Tr → BT
  | .nil => .nil
  | .node b l k v g r => .node k v (Tr.node b l k v g r).sum (Tr.node b l k v g r).size g l.bt r.bt
theorem Tr.bt_fits : ∀ T : Tr, T.bt.fits T
  | .nil => trivial
  | .node _ l _ _ _ r => ⟨rfl, rfl, rfl, Tr.bt_fits l, Tr.bt_fits r⟩
theorem Tr.bt_enc : ∀ T : Tr, T.bt.enc = T.beads
  | .nil => rfl
  | .node b l k v g r => by
    have e1 : (Tr.node b l k v g r).beads = (Tr.node b l k v g r).bead :: (l.beads ++ r.beads) := by simp [Tr.beads, Tr.pre]
    have e2 : (Tr.node b l k v g r).bead = ⟨k, v, (Tr.node b l k v g r).sum, (Tr.node b l k v g r).size, g, l.ptr.isSome, r.ptr.isSome⟩ := rfl
    rw [e1, e2, fits_some (Tr.bt_fits l), fits_some (Tr.bt_fits r), ← Tr.bt_enc l, ← Tr.bt_enc r]
    rfl
theorem Tr.beads_len (T : Tr) : T.beads.length = T.pre.length := by simp [Tr.beads]
theorem beads_bt {w : World} {v : Value} {T : Tr} (h : Beads w v T.beads) : Beads w v T.bt.enc := by rw [Tr.bt_enc]; exact h
theorem Tr.kvs_count : ∀ T : Tr, T.kvs.length = T.count
  | .nil => rfl
  | .node b l k v g r => by rw [Tr.kvs, Tr.count_node, List.length_append, List.length_cons, Tr.kvs_count l, Tr.kvs_count r]; omega
def kvSum (l : List (Int × Int)) : Int := (l.map (·.2)).sum
theorem Tr.sum_kvs : ∀ T : Tr, T.sum = wrap64 (kvSum T.kvs)
  | .nil => by decide +kernel
  | .node b l k v g r => by
    rw [Tr.sum, Tr.sum_kvs l, Tr.sum_kvs r, wrap_three]
    congr 1
    simp [kvSum, Tr.kvs]; omega
/-- a tree with no place in memory. -/
def BT.tr : BT → Tr
  | .nil => .nil
  | .node k v _ _ g l r => .node 0 l.tr k v g r.tr
theorem BT.tr_fits : ∀ t : BT, t.fits t.tr
  | .nil => trivial
  | .node _ _ _ _ _ l r => ⟨rfl, rfl, rfl, l.tr_fits, r.tr_fits⟩
/-- a truth, of which 'no' says something. -/
def Says (S : Prop) (w : World) (e : Ending) (w' : World) : Prop := ∃ b : Bool, e = .returned (.bool b) ∧ (b = false → S) ∧ Ext w w'
theorem BT.of_fits : ∀ {t : BT} {T : Tr}, t.fits T → t.of.fits T
  | .nil, .nil, _ => trivial
  | .nil, .node .., h => h.elim
  | .node .., .nil, h => h.elim
  | .node .., .node .., h => ⟨h.1, h.2.1, h.2.2.1, BT.of_fits h.2.2.2.1, BT.of_fits h.2.2.2.2⟩
theorem sides_ne (s : Bool) {T : Tr} (h : T ≠ .nil) : ∃ b i k v g o, T = mkN s b i k v g o := by
  cases T with
  | nil => exact (h rfl).elim
  | node b l k v g r => exact ⟨b, _, k, v, g, _, mk_sides s b l k v g r⟩
theorem both_out (s : Bool) (a m b c d : List (Int × Int)) : both s a m (both s b c d) = both s (both s a m b) c d := by cases s <;> simp [both]
end Go.Proofs.Ytejknkhahjgdnaa
namespace Go.Proofs.Ytejknkhahjgdnaa
open Go Go.RowKit

/-- what is wrong with a tree's root. -/
def oneOf (T : Tr) : Int := if avlBadTag T then 140 else if avlBadTree T then 8 else 0
theorem avlFirst_le : ∀ l : List Tr, (avlFirst l).1 ≤ l.length
  | [] => by simp [avlFirst]
  | t :: l => by
    have := avlFirst_le l
    rw [avlFirst_cons]
    split
    · simp
    · split
      · simp
      · simp; omega
end Go.Proofs.Ytejknkhahjgdnaa
namespace Go.Proofs.Ytejknkhahjgdnaa
open Go Go.RowKit

theorem avlLean_nil : avlLean .nil = 0 := by decide +kernel
end Go.Proofs.Ytejknkhahjgdnaa
