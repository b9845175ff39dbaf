/- Trees of beads: what May says of a row; joineryref09.May, Parts; joinerylaw09.Long, Make. -/
import Derived.BigRegion
import Derived.Test.YtoiohjifjmejkaaGreatM2
import Derived.Test.YtoiohjifjmejkaaGreatM3
namespace Go.Proofs.YtoiohjifjmejkaaGreat
open Go Go.RowKit

/-- a tree of beads: key, value, sum, size, tag. -/
inductive BT where
  | nil
  | node (k v s n g : Int) (l r : BT)
namespace BT
def isNil : BT → Bool
  | nil => true
  | node .. => false
def enc : BT → List BeadL
  | nil => []
  | node k v s n g l r => ⟨k, v, s, n, g, !l.isNil, !r.isNil⟩ :: (l.enc ++ r.enc)
theorem enc_nil_iff : ∀ t : BT, t.enc.length = 0 ↔ t.isNil = true
  | nil => by simp [enc, isNil]
  | node .. => by simp [enc, isNil]
end BT

theorem ends_sound : ∀ (f : Nat) (zs : List BeadL) (k : Nat), endsL f zs = some k → ∃ t : BT, t.isNil = false ∧ t.enc = zs.take k
  | 0, zs, k, h => by simp [endsL] at h
  | f + 1, [], k, h => by simp [endsL] at h
  | f + 1, b :: r, k, h => by
    unfold endsL at h
    split at h
    · cases h
    · rename_i n hn
      split at h
      · cases h
      · rename_i m hm
        obtain rfl : 1 + n + m = k := by simpa using h
        obtain ⟨l, hl0, hl⟩ : ∃ l : BT, l.isNil = !b.left ∧ l.enc = r.take n := by
          split at hn
          · rename_i hb
            obtain ⟨t, h1, h2⟩ := ends_sound f r n hn
            exact ⟨t, by simp [h1, hb], h2⟩
          · rename_i hb
            obtain rfl : 0 = n := by simpa using hn
            exact ⟨.nil, by simpa [BT.isNil] using hb, by simp [BT.enc]⟩
        obtain ⟨q, hq0, hq⟩ : ∃ q : BT, q.isNil = !b.right ∧ q.enc = (r.drop n).take m := by
          split at hm
          · rename_i hb
            obtain ⟨t, h1, h2⟩ := ends_sound f _ m hm
            exact ⟨t, by simp [h1, hb], h2⟩
          · rename_i hb
            obtain rfl : 0 = m := by simpa using hm
            exact ⟨.nil, by simpa [BT.isNil] using hb, by simp [BT.enc]⟩
        refine ⟨.node b.key b.val b.sum b.size b.tag l q, rfl, ?_⟩
        rw [BT.enc, hl0, hq0, hl, hq, show 1 + n + m = (n + m) + 1 by omega, List.take_succ_cons, List.take_add]
        simp
theorem ends_whole : ∀ (t : BT) (f : Nat) (rest : List BeadL), t.isNil = false → t.enc.length ≤ f → endsL f (t.enc ++ rest) = some t.enc.length
  | .nil, f, rest, h, _ => by simp [BT.isNil] at h
  | .node k v s n g l r, 0, rest, _, hf => by simp [BT.enc] at hf
  | .node k v s n g l r, f + 1, rest, _, hf => by
    have hlen : l.enc.length + r.enc.length ≤ f := by simp [BT.enc] at hf; omega
    have h1 : (if !l.isNil then endsL f (l.enc ++ (r.enc ++ rest)) else some 0) = some l.enc.length := by
      cases hn : l.isNil with
      | true => simp [(BT.enc_nil_iff l).2 hn]
      | false => simpa using ends_whole l f (r.enc ++ rest) hn (by omega)
    have h2 : (if !r.isNil then endsL f ((l.enc ++ (r.enc ++ rest)).drop l.enc.length) else some 0) = some r.enc.length := by
      rw [List.drop_left]
      cases hn : r.isNil with
      | true => simp [(BT.enc_nil_iff r).2 hn]
      | false => simpa using ends_whole r f rest hn (by omega)
    rw [BT.enc, List.cons_append, endsL, List.append_assoc]
    simp only [h1, h2]
    simp [List.length_append]
    omega

theorem beads_slice {w : World} {v : Value} {zs : List BeadL} (h : Beads w v zs) : ∃ a c, v = .slice a zs.length c := by
  rcases h with ⟨rfl, a, c, rfl⟩ | ⟨b, o, c, rfl, hne, hc, hr⟩
  · exact ⟨a, c, rfl⟩
  · exact ⟨_, c, rfl⟩
/-- what May says of a row. -/
def mayB (zs : List BeadL) : Bool := zs.length == 0 || endsV (endsL 400 zs) == zs.length
theorem mayB_tree {zs : List BeadL} (h : mayB zs = true) : ∃ t : BT, t.enc = zs := by
  by_cases h0 : zs.length = 0
  · exact ⟨.nil, by rw [List.eq_nil_of_length_eq_zero h0]; rfl⟩
  · have h1 : endsV (endsL 400 zs) = zs.length := by
      have : (zs.length == 0) = false := by simpa using h0
      unfold mayB at h
      rw [this, Bool.false_or] at h
      exact eq_of_beq h
    rcases hz : endsL 400 zs with _ | k
    · rw [hz] at h1
      simp only [endsV] at h1
      omega
    · rw [hz] at h1
      simp only [endsV] at h1
      obtain ⟨t, _, ht⟩ := ends_sound _ _ _ hz
      exact ⟨t, by rw [ht, show k = zs.length by omega, List.take_length]⟩

theorem beadsMay_any (w : World) (v : Value) (zs : List BeadL) (hb : Beads w v zs) (hl : zs.length ≤ 400) : Calls Tryz.prog 50 #[v] w (Ret (.bool (mayB zs)) w) := by
  rcases hb with ⟨rfl, a, c, rfl⟩ | ⟨b, o, c, rfl, hne, hc, hr⟩
  · go_enter Tryz.func50, Tryz.ntmps50
    go_wp2
    go_ret
    exact Ret.mk (Ext.refl _)
  · obtain ⟨M, hM⟩ : ∃ M, M = mayB zs := ⟨_, rfl⟩
    have h0 : ((zs.length : Int) == 0) = false := by
      have : zs.length ≠ 0 := by simpa using hne
      simp; omega
    rw [← hM]
    have HM := Lib.hid hM
    clear hM hne
    have H := Lib.hid hr
    clear hr
    go_enter Tryz.func50, Tryz.ntmps50
    go_wp2_with fail
    have := ends_any b o c zs 400 0 0 w H.out (by omega) (by omega) (by omega)
    rw [List.drop_zero] at this
    refine this.mono ?_
    rintro e w1 ⟨rfl, h1⟩
    go_wp2
    go_ret
    have h0' := Lib.hid h0
    exact ⟨ret_bool (by rw [HM.out]; unfold mayB; have := h0'.out; have : (zs.length == 0) = false := by simp at this ⊢; omega
                        rw [this]; rfl), h1⟩

theorem beadsLong_any (w : World) (v : Value) (zs : List BeadL) (hb : Beads w v zs) : Calls Tryz.prog 27 #[v] w (Ret (.bool (decide (400 < zs.length) || !mayB zs)) w) := by
  have hlen : ∃ a c, v = .slice a zs.length c := by
    rcases hb with ⟨rfl, a, c, rfl⟩ | ⟨b, o, c, rfl, hne, hc, hr⟩
    · exact ⟨a, c, rfl⟩
    · exact ⟨_, c, rfl⟩
  obtain ⟨a, c, rfl⟩ := hlen
  have H := Lib.hid hb
  clear hb
  by_cases hl : zs.length ≤ 400
  · rw [show decide (400 < zs.length) = false by simp; omega, Bool.false_or]
    go_enter Tryz.func27, Tryz.ntmps27
    go_wp2_with fail
    refine (beadsMay_any _ _ zs H.out hl).mono ?_
    rintro e w1 ⟨rfl, h1⟩
    go_wp2
    go_ret
    exact ⟨ret_bool (by simp; omega), h1⟩
  · have hl : 400 < zs.length := by omega
    rw [show decide (400 < zs.length) = true by simp; omega, Bool.true_or]
    go_enter Tryz.func27, Tryz.ntmps27
    go_wp2
    go_ret
    exact Ret.mk (Ext.refl _)

theorem rangeAt_head {w : World} {b o : Nat} {z : BeadL} {zs : List BeadL} (h : w.rangeAt b o (beadCells (z :: zs))) : w.rangeAt b o z.cells := by
  intro j u hj
  refine h j u ?_
  have hlt : j < z.cells.length := (List.getElem?_eq_some_iff.1 hj).1
  rw [beadCells, List.flatMap_cons, List.getElem?_append_left hlt, hj]
theorem rangeAt_sub {w : World} {b o : Nat} {zs : List BeadL} (h : w.rangeAt b o (beadCells zs)) (i m : Nat) : w.rangeAt b (o + i * 7) (beadCells ((zs.drop i).take m)) := by
  intro j u hj
  have hlt : j < (beadCells ((zs.drop i).take m)).length := (List.getElem?_eq_some_iff.1 hj).1
  rw [beadCells_len, List.length_take, List.length_drop] at hlt
  rw [Nat.add_assoc]
  refine h (i * 7 + j) u ?_
  obtain ⟨q, t, rfl, ht⟩ : ∃ q t, j = q * 7 + t ∧ t < 7 := ⟨j / 7, j % 7, by omega, by omega⟩
  have hi : i + q < zs.length := by omega
  have hq : q < m := by omega
  have hz : zs[i + q]? = some zs[i + q] := List.getElem?_eq_getElem hi
  have hz2 : ((zs.drop i).take m)[q]? = some zs[i + q] := by
    rw [List.getElem?_take_of_lt hq, List.getElem?_drop, hz]
  generalize zs[i + q] = z at hz hz2
  have a1 := beadCells_at zs (i + q) z t hz ht
  have a2 := beadCells_at _ q z t hz2 ht
  rw [hj] at a2
  rw [show i * 7 + (q * 7 + t) = (i + q) * 7 + t by omega, a1, ← a2]
theorem beads_sub {w : World} {b o c : Nat} {zs : List BeadL} (h : w.rangeAt b o (beadCells zs)) (hc : zs.length ≤ c) (i m c' : Nat) (him : i + m ≤ zs.length) (hc' : m ≤ c') (A : Option Addr) (hA : i < c → A = some ⟨b, o + i * 7, none⟩) :
    Beads w (.slice A m c') ((zs.drop i).take m) := by
  by_cases hm : m = 0
  · subst hm; exact .inl ⟨by simp, _, _, rfl⟩
  · have hlen : ((zs.drop i).take m).length = m := by rw [List.length_take, List.length_drop]; omega
    refine .inr ⟨b, o + i * 7, c', ?_, ?_, by omega, rangeAt_sub h i m⟩
    · rw [hA (by omega), hlen]
    · intro e
      rw [e] at hlen
      simp at hlen
      omega
theorem set7 {w : World} {N : Nat} {T : TypeId} {a0 a1 a2 a3 a4 a5 a6 : Value} (h : w.heap[N]? = some (.cells #[a0, a1, a2, a3, a4, a5, a6] T (0, 0))) (b0 b1 b2 b3 b4 b5 b6 : Value) :
    (((((((w.setCell ⟨N, 0, none⟩ b0).setCell ⟨N, 1, none⟩ b1).setCell ⟨N, 2, none⟩ b2).setCell ⟨N, 3, none⟩ b3).setCell ⟨N, 4, none⟩ b4).setCell ⟨N, 5, none⟩ b5).setCell ⟨N, 6, none⟩ b6).heap[N]? = some (.cells #[b0, b1, b2, b3, b4, b5, b6] T (0, 0)) := by
  simp [World.setCell, Array.getElem?_modify, h]
theorem Ext.put {w w1 : World} (h : Ext w w1) (j : Nat) (u : Value) : Ext w (w1.setCell ⟨w.heap.size, j, none⟩ u) := Below.setCell (B := w.heap.size) h (Nat.le_refl _) u
theorem set7_ext {w w1 : World} (h : Ext w w1) {T : TypeId} {a0 a1 a2 a3 a4 a5 a6 : Value} (hn : w1.heap[w.heap.size]? = some (.cells #[a0, a1, a2, a3, a4, a5, a6] T (0, 0))) (b0 b1 b2 b3 b4 b5 b6 : Value) :
    Ext w (World.drew (((((((w1.setCell ⟨w.heap.size, 0, none⟩ b0).setCell ⟨w.heap.size, 1, none⟩ b1).setCell ⟨w.heap.size, 2, none⟩ b2).setCell ⟨w.heap.size, 3, none⟩ b3).setCell ⟨w.heap.size, 4, none⟩ b4).setCell ⟨w.heap.size, 5, none⟩ b5).setCell ⟨w.heap.size, 6, none⟩ b6)) ∧ (World.drew (((((((w1.setCell ⟨w.heap.size, 0, none⟩ b0).setCell ⟨w.heap.size, 1, none⟩ b1).setCell ⟨w.heap.size, 2, none⟩ b2).setCell ⟨w.heap.size, 3, none⟩ b3).setCell ⟨w.heap.size, 4, none⟩ b4).setCell ⟨w.heap.size, 5, none⟩ b5).setCell ⟨w.heap.size, 6, none⟩ b6)).heap[w.heap.size]? = some (.cells #[b0, b1, b2, b3, b4, b5, b6] T (0, 0)) := by
  have e : ∀ W : World, (World.drew W).heap = W.heap := fun _ => rfl
  refine ⟨?_, by rw [e]; exact set7 hn b0 b1 b2 b3 b4 b5 b6⟩
  refine Below.drew ?_
  exact Ext.put (Ext.put (Ext.put (Ext.put (Ext.put (Ext.put (Ext.put h 0 b0) 1 b1) 2 b2) 3 b3) 4 b4) 5 b5) 6 b6
theorem results_row_tmp2 {fn : Func} {p t u : Tmp} {ty : TypeId} (h : fn.results = #[.cell p ty, .tmp t, .tmp u]) (tmps : Array Value) (w : World) {x : Value} {a : Addr} (hp : tmps.getD p undef = .pointer (some a))
    (hl : (loadVar ty a).run Tryz.prog w = .ok x w) : (results fn tmps).run Tryz.prog w = .ok (.tuple #[x, tmps.getD t undef, tmps.getD u undef]) w := by
  simp only [Array.getD_eq_getD_getElem?] at hp
  simp [results, h, hp, hl, asAddr]
theorem load_cells {w : World} {N : Nat} {z : BeadL} (h : w.heap[N]? = some (.cells z.cells.toArray 68 (0, 0))) : (loadVar 68 ⟨N, 0, none⟩).run Tryz.prog w = .ok (.agg z.cells.toArray) w := by
  refine run_loadVar_mid w N 0 _ z.cells _ (fun j v hj => ?_) Tryz.underlying68 rfl (by kernel_rfl)
  rw [Nat.zero_add, cell_of h j]
  simpa using hj
/-- what Parts hands back. -/
def PartsOf (k v s n g : Int) (l r : BT) (w : World) (e : Ending) (w' : World) : Prop :=
  ∃ v1 v2, e = .returned (.tuple #[.agg #[.int .i64 k, .int .i64 v, .int .i64 s, .int .i64 n, .int .u64 g, .bool (!l.isNil), .bool (!r.isNil)], v1, v2]) ∧ Beads w' v1 l.enc ∧ Beads w' v2 r.enc ∧ Ext w w'
set_option maxHeartbeats 400000 in
theorem parts_any (w : World) (p : Value) (k v s n g : Int) (l r : BT) (hb : Beads w p (BT.node k v s n g l r).enc) (hl : (BT.node k v s n g l r).enc.length ≤ 2000) :
    Calls Tryz.prog 32 #[p] w (PartsOf k v s n g l r w) := by
  rcases hb with ⟨h, _⟩ | ⟨b, o, c, rfl, hne, hc, hr⟩
  · simp [BT.enc] at h
  have hcl : w.cell? ⟨b, o + 5, none⟩ = some (.bool (!l.isNil)) := rangeAt_cell hr (i := 0) rfl (j := 5) rfl
  have hh := rangeAt_head hr
  have hcs : ∀ W', Ext w W' → W'.rangeAt b o (BeadL.cells ⟨k, v, s, n, g, !l.isNil, !r.isNil⟩) := fun W' e => rangeAt_ext hh e
  clear hh
  have hlen : (BT.node k v s n g l r).enc.length = 1 + l.enc.length + r.enc.length := by simp [BT.enc]; omega
  have H := Lib.hid hr
  have HC := Lib.hid hcs
  clear hr hne hcs
  have hfn : ∀ f, Fence.wide.fn f := fun _ => trivial
  cases hn : l.isNil with
  | true =>
    rw [hn] at hcl
    have hl0 := (BT.enc_nil_iff l).2 hn
    have hcl1 : (w.alloc (.cells #[.int .i64 0, .int .i64 0, .int .i64 0, .int .i64 0, .int .u64 0, .bool false, .bool false] 68)).cell? ⟨b, o + 5, none⟩ = some (.bool false) := by
      rw [((Ext.refl w).alloc _).cell (cell_lt hcl)]; exact hcl
    have hE := (Ext.refl w).alloc (.cells #[.int .i64 0, .int .i64 0, .int .i64 0, .int .i64 0, .int .u64 0, .bool false, .bool false] 68)
    have hnew := alloc_at w (.cells #[.int .i64 0, .int .i64 0, .int .i64 0, .int .i64 0, .int .u64 0, .bool false, .bool false] 68) _ rfl
    go_enter Tryz.func32, Tryz.ntmps32
    go_wp2_with fail
    generalize w.alloc (.cells #[.int .i64 0, .int .i64 0, .int .i64 0, .int .i64 0, .int .u64 0, .bool false, .bool false] 68) = w1 at *
    have hc0 : w1.cell? ⟨b, o, none⟩ = some (.int .i64 k) := HC.out w1 hE 0 _ rfl
    have hc1 : w1.cell? ⟨b, o + 1, none⟩ = some (.int .i64 v) := HC.out w1 hE 1 _ rfl
    have hc2 : w1.cell? ⟨b, o + 2, none⟩ = some (.int .i64 s) := HC.out w1 hE 2 _ rfl
    have hc3 : w1.cell? ⟨b, o + 3, none⟩ = some (.int .i64 n) := HC.out w1 hE 3 _ rfl
    have hc4 : w1.cell? ⟨b, o + 4, none⟩ = some (.int .u64 g) := HC.out w1 hE 4 _ rfl
    have hc5 : w1.cell? ⟨b, o + 5, none⟩ = some (.bool (!l.isNil)) := HC.out w1 hE 5 _ rfl
    have hc6 : w1.cell? ⟨b, o + 6, none⟩ = some (.bool (!r.isNil)) := HC.out w1 hE 6 _ rfl
    have hn0 := cell_of hnew 0
    have hn1 := cell_of hnew 1
    have hn2 := cell_of hnew 2
    have hn3 := cell_of hnew 3
    have hn4 := cell_of hnew 4
    have hn5 := cell_of hnew 5
    have hn6 := cell_of hnew 6
    have hf0 := frozen_of hnew 0
    have hf1 := frozen_of hnew 1
    have hf2 := frozen_of hnew 2
    have hf3 := frozen_of hnew 3
    have hf4 := frozen_of hnew 4
    have hf5 := frozen_of hnew 5
    have hf6 := frozen_of hnew 6
    simp at hn0 hn1 hn2 hn3 hn4 hn5 hn6
    have hlen1 : 1 ≤ (BT.node k v s n g l r).enc.length := by omega
    clear hcl hn hcl1
    have HLEN := Lib.hid hlen
    clear hlen
    have hlt : b < w.heap.size := cell_lt (HC.out w (Ext.refl w) 0 _ rfl)
    generalize hLL : (BT.node k v s n g l r).enc.length = LL at *
    have HLL := Lib.hid hLL
    clear hLL
    go_region
    generalize hA : (if c = 1 then some (⟨b, o, none⟩ : Addr) else some ⟨b, o + 7, none⟩) = A
    have HA := Lib.hid hA
    clear hA
    go_wp2
    obtain ⟨hb, hh⟩ := set7_ext hE hnew (.int .i64 k) (.int .i64 v) (.int .i64 s) (.int .i64 n) (.int .u64 g) (.bool (!l.isNil)) (.bool (!r.isNil))
    generalize World.drew (((((((w1.setCell ⟨w.heap.size, 0, none⟩ (.int .i64 k)).setCell ⟨w.heap.size, 1, none⟩ (.int .i64 v)).setCell ⟨w.heap.size, 2, none⟩ (.int .i64 s)).setCell ⟨w.heap.size, 3, none⟩ (.int .i64 n)).setCell ⟨w.heap.size, 4, none⟩ (.int .u64 g)).setCell ⟨w.heap.size, 5, none⟩ (.bool (!l.isNil))).setCell ⟨w.heap.size, 6, none⟩ (.bool (!r.isNil))) = W at *
    have hh : W.heap[w.heap.size]? = some (.cells (BeadL.cells ⟨k, v, s, n, g, !l.isNil, !r.isNil⟩).toArray 68 (0, 0)) := hh
    have hres := load_cells hh
    (try simp only [Exit.inBlock, Exit.then])
    refine bodyPost_ret (results_row_tmp2 rfl _ _ rfl hres) rfl ?_
    have h1 := HA.out
    have h2 := HLEN.out
    have h4 := HLL.out
    have h3 := rangeAt_ext H.out hb
    refine ⟨_, _, rfl, ?_, ?_, hb⟩
    · refine .inl ⟨List.eq_nil_of_length_eq_zero hl0, _, _, rfl⟩
    · have := beads_sub (c := c) h3 (by omega) 1 (LL - 1) (c - 1) (by omega) (by omega) A (fun hc => by rw [← h1, if_neg (by omega)])
      rw [show (BT.node k v s n g l r).enc = ⟨k, v, s, n, g, !l.isNil, !r.isNil⟩ :: (l.enc ++ r.enc) from rfl, List.drop_succ_cons, List.drop_zero, List.eq_nil_of_length_eq_zero hl0, List.nil_append, List.take_of_length_le (by omega)] at this
      exact this
  | false =>
    rw [hn] at hcl
    have hl0 : 1 ≤ l.enc.length := by
      have h1 := (BT.enc_nil_iff l).1
      rw [hn] at h1
      rcases Nat.eq_zero_or_pos l.enc.length with h2 | h2
      · simp [h2] at h1
      · exact h2
    have hends : endsL 2000 ((BT.node k v s n g l r).enc.drop 1) = some l.enc.length := ends_whole l 2000 r.enc hn (by omega)
    have hcl1 : (w.alloc (.cells #[.int .i64 0, .int .i64 0, .int .i64 0, .int .i64 0, .int .u64 0, .bool false, .bool false] 68)).cell? ⟨b, o + 5, none⟩ = some (.bool true) := by
      rw [((Ext.refl w).alloc _).cell (cell_lt hcl)]; exact hcl
    have hE := (Ext.refl w).alloc (.cells #[.int .i64 0, .int .i64 0, .int .i64 0, .int .i64 0, .int .u64 0, .bool false, .bool false] 68)
    have hnew := alloc_at w (.cells #[.int .i64 0, .int .i64 0, .int .i64 0, .int .i64 0, .int .u64 0, .bool false, .bool false] 68) _ rfl
    have hcall := ends_any b o c (BT.node k v s n g l r).enc 2000 1 0 (w.alloc (.cells #[.int .i64 0, .int .i64 0, .int .i64 0, .int .i64 0, .int .u64 0, .bool false, .bool false] 68)) (rangeAt_ext H.out hE) hl (by omega) (by omega)
    rw [hends] at hcall
    have HCALL := Lib.hid hcall
    have HLEN := Lib.hid hlen
    have hlL : l.enc.length + 1 ≤ (BT.node k v s n g l r).enc.length := by omega
    clear hn hends hcall hlen
    generalize hLL : (BT.node k v s n g l r).enc.length = LL at *
    have HLL := Lib.hid hLL
    clear hLL
    generalize hL : l.enc.length = L at *
    have HL := Lib.hid hL
    clear hL
    go_enter Tryz.func32, Tryz.ntmps32
    go_wp2_with fail
    refine HCALL.out.mono ?_
    rw [show endsV (some L) = L from rfl]
    rintro e w1 ⟨rfl, h01⟩
    have hE1 : Ext w w1 := hE.trans h01
    have hnew1 : w1.heap[w.heap.size]? = _ := (h01.block w.heap.size (by simp)).trans hnew
    have hc0 : w1.cell? ⟨b, o, none⟩ = some (.int .i64 k) := HC.out w1 hE1 0 _ rfl
    have hc1 : w1.cell? ⟨b, o + 1, none⟩ = some (.int .i64 v) := HC.out w1 hE1 1 _ rfl
    have hc2 : w1.cell? ⟨b, o + 2, none⟩ = some (.int .i64 s) := HC.out w1 hE1 2 _ rfl
    have hc3 : w1.cell? ⟨b, o + 3, none⟩ = some (.int .i64 n) := HC.out w1 hE1 3 _ rfl
    have hc4 : w1.cell? ⟨b, o + 4, none⟩ = some (.int .u64 g) := HC.out w1 hE1 4 _ rfl
    have hc5 : w1.cell? ⟨b, o + 5, none⟩ = some (.bool (!l.isNil)) := HC.out w1 hE1 5 _ rfl
    have hc6 : w1.cell? ⟨b, o + 6, none⟩ = some (.bool (!r.isNil)) := HC.out w1 hE1 6 _ rfl
    have hn0 := cell_of hnew1 0
    have hn1 := cell_of hnew1 1
    have hn2 := cell_of hnew1 2
    have hn3 := cell_of hnew1 3
    have hn4 := cell_of hnew1 4
    have hn5 := cell_of hnew1 5
    have hn6 := cell_of hnew1 6
    have hf0 := frozen_of hnew1 0
    have hf1 := frozen_of hnew1 1
    have hf2 := frozen_of hnew1 2
    have hf3 := frozen_of hnew1 3
    have hf4 := frozen_of hnew1 4
    have hf5 := frozen_of hnew1 5
    have hf6 := frozen_of hnew1 6
    simp at hn0 hn1 hn2 hn3 hn4 hn5 hn6
    have hlt : b < w.heap.size := cell_lt hcl
    clear hcl hcl1 hE hnew h01
    go_wp2_with fail
    go_region
    generalize hA : (if c = 1 + L then some (⟨b, o, none⟩ : Addr) else some ⟨b, o + (1 + L) * 7, none⟩) = A
    have HA := Lib.hid hA
    clear hA
    go_wp2
    obtain ⟨hb, hh⟩ := set7_ext hE1 hnew1 (.int .i64 k) (.int .i64 v) (.int .i64 s) (.int .i64 n) (.int .u64 g) (.bool (!l.isNil)) (.bool (!r.isNil))
    generalize World.drew (((((((w1.setCell ⟨w.heap.size, 0, none⟩ (.int .i64 k)).setCell ⟨w.heap.size, 1, none⟩ (.int .i64 v)).setCell ⟨w.heap.size, 2, none⟩ (.int .i64 s)).setCell ⟨w.heap.size, 3, none⟩ (.int .i64 n)).setCell ⟨w.heap.size, 4, none⟩ (.int .u64 g)).setCell ⟨w.heap.size, 5, none⟩ (.bool (!l.isNil))).setCell ⟨w.heap.size, 6, none⟩ (.bool (!r.isNil))) = W at *
    have hh : W.heap[w.heap.size]? = some (.cells (BeadL.cells ⟨k, v, s, n, g, !l.isNil, !r.isNil⟩).toArray 68 (0, 0)) := hh
    have hres := load_cells hh
    (try simp only [Exit.inBlock, Exit.then])
    refine bodyPost_ret (results_row_tmp2 rfl _ _ rfl hres) rfl ?_
    have h1 := HA.out
    have h2 := HLEN.out
    have h4 := HLL.out
    have h5 := HL.out
    have h3 := rangeAt_ext H.out hb
    have hd : (BT.node k v s n g l r).enc.drop 1 = l.enc ++ r.enc := rfl
    have hd2 : (BT.node k v s n g l r).enc.drop (1 + L) = r.enc := by
      rw [← List.drop_drop, hd, ← h5, List.drop_left]
    refine ⟨_, _, rfl, ?_, ?_, hb⟩
    · have := beads_sub (c := c) h3 (by omega) 1 (1 + L - 1) (c - 1) (by omega) (by omega) (some ⟨b, o + 7, none⟩) (fun _ => by rw [Nat.one_mul])
      rw [hd, show 1 + L - 1 = l.enc.length by omega, List.take_left] at this
      rw [show 1 + L - 1 = l.enc.length by omega]
      exact this
    · have := beads_sub (c := c) h3 (by omega) (1 + L) (LL - (1 + L)) (c - (1 + L)) (by omega) (by omega) A (fun hc => by rw [← h1, if_neg (by omega)])
      rw [hd2, List.take_of_length_le (by omega)] at this
      exact this
end Go.Proofs.YtoiohjifjmejkaaGreat
