/- Rows of items in memory, and those that a call owns. joineryref20: Items, Same. joineryref17.Most, and the walk of RbjoinShares. joineryref22: Is, Name, Check, May, Part, Rank, Most. joineryref22: Items, Item, Has. joineryref22: Item, Has. joineryref22.Has. joinerylaw22.parted; trees of rows of beads that are parts. The walk of SchemeTells. -/
import Derived.BigQuiet
import Derived.Test.YtjiiokhjajfhjaaGreatM6
import Derived.Test.YtjiiokhjajfhjaaGreatM9
import Derived.Test.YtjiiokhjajfhjaaGreatM17
import Derived.Test.YtjiiokhjajfhjaaGreatM20
import Derived.Test.YtjiiokhjajfhjaaGreatM22
import Derived.Test.YtjiiokhjajfhjaaGreatM29
import Derived.Test.YtjiiokhjajfhjaaGreatM30
import Derived.Test.YtjiiokhjajfhjaaGreatM35
import Derived.Test.YtjiiokhjajfhjaaGreatM40
namespace Go.Proofs.YtjiiokhjajfhjaaGreat
open Go Go.RowKit

/-- a item's two cells. -/
def icells (z : Int × Int × Int) : List Value := [.int .i64 z.1, .int .i64 z.2.1, .int .u64 z.2.2]
def itemCells (zs : List (Int × Int × Int)) : List Value := zs.flatMap icells
theorem itemCells_len : ∀ zs : List (Int × Int × Int), (itemCells zs).length = zs.length * 3
  | [] => rfl
  | z :: zs => by
    have := itemCells_len zs
    rw [itemCells] at this ⊢
    rw [List.flatMap_cons, List.length_append, this, List.length_cons]
    show 3 + _ = _
    omega
theorem itemCells_at : ∀ (zs : List (Int × Int × Int)) (i : Nat) (z : Int × Int × Int) (j : Nat), zs[i]? = some z → j < 3 → (itemCells zs)[i * 3 + j]? = (icells z)[j]?
  | [], i, z, j, h, _ => by simp at h
  | y :: zs, 0, z, j, h, hj => by
    obtain rfl : y = z := by simpa using h
    rw [itemCells, List.flatMap_cons, List.getElem?_append_left (show 0 * 3 + j < 3 by omega), Nat.zero_mul, Nat.zero_add]
  | y :: zs, i + 1, z, j, h, hj => by
    have ih := itemCells_at zs i z j (by simpa using h) hj
    rw [itemCells] at ih ⊢
    rw [List.flatMap_cons, List.getElem?_append_right (show 3 ≤ (i + 1) * 3 + j by omega), show (i + 1) * 3 + j - (icells y).length = i * 3 + j from by show _ - 3 = _; omega, ih]
theorem itemCells_append (a b : List (Int × Int × Int)) : itemCells (a ++ b) = itemCells a ++ itemCells b := by simp [itemCells]
theorem itemCells_one (zs : List (Int × Int × Int)) : ∀ u ∈ itemCells zs, u.oneCell' = true := by
  intro u h
  obtain ⟨z, _, hz⟩ := List.mem_flatMap.1 h
  simp only [icells, List.mem_cons, List.not_mem_nil, or_false] at hz
  rcases hz with rfl | rfl | rfl <;> rfl
/-- a row of items: empty, whatever its address; or laid at an address. -/
def IRow3 (w : World) (v : Value) (zs : List (Int × Int × Int)) : Prop :=
  (zs = [] ∧ ∃ a c, v = .slice a 0 c) ∨ ∃ b o c, v = .slice (some ⟨b, o, none⟩) zs.length c ∧ zs ≠ [] ∧ zs.length ≤ c ∧ w.rangeAt b o (itemCells zs)
theorem item_cell {w : World} {b o : Nat} {zs : List (Int × Int × Int)} (h : w.rangeAt b o (itemCells zs)) {i : Nat} {z : Int × Int × Int} (hi : zs[i]? = some z) {j : Nat} {u : Value} (hj : (icells z)[j]? = some u) : w.cell? ⟨b, o + i * 3 + j, none⟩ = some u := by
  have hlt : j < 3 := (List.getElem?_eq_some_iff.1 hj).1
  rw [Nat.add_assoc]
  exact h (i * 3 + j) u (by rw [itemCells_at zs i z j hi hlt, hj])
theorem IRow3.ext {w w' : World} {v : Value} {zs : List (Int × Int × Int)} (h : IRow3 w v zs) (e : Ext w w') : IRow3 w' v zs := by
  rcases h with h | ⟨b, o, c, rfl, h1, h2, h3⟩
  · exact .inl h
  · exact .inr ⟨b, o, c, rfl, h1, h2, rangeAt_ext h3 e⟩
theorem irow3_slice {w : World} {v : Value} {zs : List (Int × Int × Int)} (h : IRow3 w v zs) : ∃ a c, v = .slice a zs.length c := by
  rcases h with ⟨rfl, a, c, rfl⟩ | ⟨b, o, c, rfl, hne, hc, hr⟩
  · exact ⟨a, c, rfl⟩
  · exact ⟨_, c, rfl⟩
/-- a row that was made since the heap had B blocks. -/
def IOwn3 (B : Nat) (w : World) (v : Value) (zs : List (Int × Int × Int)) : Prop := w.ownsRow B 58 3 v zs.length (itemCells zs)
theorem IOwn3.row {B : Nat} {w : World} {v : Value} {zs : List (Int × Int × Int)} (h : IOwn3 B w v zs) : IRow3 w v zs := by
  obtain ⟨h1, ⟨rfl, h0⟩ | ⟨g, cap, cur, rfl, hb, hg, hc, hm, hs, ht⟩⟩ := h
  · exact .inl ⟨List.eq_nil_of_length_eq_zero h0, _, 0, rfl⟩
  · by_cases h0 : zs = []
    · subst h0; exact .inl ⟨rfl, _, _, rfl⟩
    · refine .inr ⟨g, 0, cap, rfl, h0, hc, fun j u hj => ?_⟩
      rw [Nat.zero_add, cell_of hg j]
      rw [← ht, List.getElem?_take] at hj
      split at hj
      · simpa using hj
      · cases hj
theorem IOwn3.nil (B : Nat) (w : World) : IOwn3 B w (.slice none 0 0) [] := ⟨rfl, .inl ⟨rfl, rfl⟩⟩
theorem IOwn3.ext {B : Nat} {w w' : World} {v : Value} {zs : List (Int × Int × Int)} (h : IOwn3 B w v zs) (e : Ext w w') : IOwn3 B w' v zs := by
  obtain ⟨h1, h | ⟨g, cap, cur, hv, hb, hg, hc⟩⟩ := h
  · exact ⟨h1, .inl h⟩
  · exact ⟨h1, .inr ⟨g, cap, cur, hv, hb, (e.block g (lt_of hg)).trans hg, hc⟩⟩
theorem IOwn3.mono {B B' : Nat} {w : World} {v : Value} {zs : List (Int × Int × Int)} (h : IOwn3 B w v zs) (e : B' ≤ B) : IOwn3 B' w v zs := by
  obtain ⟨h1, h | ⟨g, cap, cur, hv, hb, hg, hc⟩⟩ := h
  · exact ⟨h1, .inl h⟩
  · exact ⟨h1, .inr ⟨g, cap, cur, hv, Nat.le_trans e hb, hg, hc⟩⟩
theorem item_info : ∃ i : TypeInfo, Tryz.prog.info? 58 = some i ∧ i.zero = some (.agg #[.int .i64 0, .int .i64 0, .int .u64 0]) ∧ i.size = 3 ∧ i.bytes = 24 := by
  have h : (Tryz.prog.info? 58).map (fun i => (i.zero, i.size, i.bytes)) = some (some (.agg #[.int .i64 0, .int .i64 0, .int .u64 0]), 3, 24) := by kernel_rfl
  cases hi : Tryz.prog.info? 58 with
  | none => rw [hi] at h; cases h
  | some i =>
    rw [hi] at h
    simp only [Option.map_some, Option.some.injEq, Prod.mk.injEq] at h
    exact ⟨i, rfl, h.1, h.2.1, h.2.2⟩
/-- what append leaves alone. -/
theorem igrown3_ext {w0 w w' : World} {v : Value} {zs : List (Int × Int × Int)} (hw : Ext w0 w) (hv : IOwn3 w0.heap.size w v zs) (hg : w.grownBy w' v.ownBlock) : Ext w0 w' := by
  refine RowKit.Below.grown hw hg hw.size ?_
  intro k hk
  rcases hv with ⟨_, ⟨rfl, h0⟩ | ⟨g, cap, cur, rfl, hb, _⟩⟩
  · cases hk
  · simp only [Value.ownBlock, Option.some.injEq] at hk
    omega
/-- a new row of one item. -/
theorem iown3_new {B : Nat} {w : World} (z : Int × Int × Int) (h : B ≤ w.heap.size) : IOwn3 B (w.alloc (.cells #[.int .i64 z.1, .int .i64 z.2.1, .int .u64 z.2.2] 58)) (.slice (some ⟨w.heap.size, 0, none⟩) 1 1) [z] :=
  ⟨rfl, .inr ⟨w.heap.size, 1, _, rfl, h, alloc_at _ _ _ rfl, Nat.le_refl _, by decide, rfl, rfl⟩⟩
section
variable {F : Fence} {n : Nat} {ops : Array Oper} {rest : List Oper} {o : Oper} {a : Act} {Q : Exit → Act → World → Prop}
end
/-- a row of items that is the call's own. -/
def GivesI3 (zs : List (Int × Int × Int)) (w : World) (e : Ending) (w' : World) : Prop := ∃ v, e = .returned v ∧ IOwn3 w.heap.size w' v zs ∧ Ext w w'
end Go.Proofs.YtjiiokhjajfhjaaGreat
namespace Go.Proofs.YtjiiokhjajfhjaaGreat
open Go Go.RowKit
attribute [local go_sem] Oper.semAt_some

/-- a tree of beads' items, from left to right. -/
def BT.its : BT → List (Int × Int × Int)
  | .nil => []
  | .node k v _ _ g l r => l.its ++ (k, v, g) :: r.its
theorem BT.its_len : ∀ t : BT, t.its.length = t.enc.length
  | .nil => rfl
  | .node k v s n g l r => by simp [BT.its, BT.enc, BT.its_len l, BT.its_len r]; omega
theorem BT.fits_its : ∀ {t : BT} {T : Tr}, t.fits T → T.its = t.its
  | .nil, .nil, _ => rfl
  | .nil, .node .., h => h.elim
  | .node .., .nil, h => h.elim
  | .node .., .node .., h => by rw [Tr.its, BT.its, BT.fits_its h.2.2.2.1, BT.fits_its h.2.2.2.2, h.1, h.2.1, h.2.2.1]
end Go.Proofs.YtjiiokhjajfhjaaGreat
namespace Go.Proofs.YtjiiokhjajfhjaaGreat
open Go Go.RowKit

end Go.Proofs.YtjiiokhjajfhjaaGreat
namespace Go.Proofs.YtjiiokhjajfhjaaGreat
open Go Go.RowKit

theorem fits_cnt {t : BT} {T : Tr} (h : t.fits T) : T.count = t.enc.length := BT.fits_len h
theorem is22_any (c : Nat) (w : World) : Calls Tryz.prog 25 #[.int .u8 c] w (Ret (.bool (decide (1 ≤ c ∧ c ≤ 4))) w) := by
  by_cases h1 : 1 ≤ c
  · by_cases h2 : c ≤ 4
    · rw [decide_eq_true ⟨h1, h2⟩]
      go_enter Tryz.func25, Tryz.ntmps25
      go_wp2
      go_ret
      exact ⟨ret_bool (by simp; omega), Ext.refl _⟩
    · rw [decide_eq_false (fun h => h2 h.2)]
      go_enter Tryz.func25, Tryz.ntmps25
      go_wp2
      go_ret
      exact ⟨ret_bool (by simp; omega), Ext.refl _⟩
  · rw [decide_eq_false (fun h => h1 h.1)]
    obtain rfl : c = 0 := by omega
    go_enter Tryz.func25, Tryz.ntmps25
    go_wp2
    go_ret
    exact Ret.mk (Ext.refl _)
def nm22 (c : Nat) : Array UInt8 := if 1 ≤ c ∧ c ≤ 4 then nmB c else #[]
set_option maxHeartbeats 1000000 in
theorem check22_any (c : Nat) (h4 : 1 ≤ c ∧ c ≤ 4) (t : BT) (T : Tr) (w : World) (p : Value) (hf : t.fits T) (ho : c = 2 → TagsOk T) (hb : Beads w p t.enc) (hl : t.enc.length ≤ 2000) :
    Calls Tryz.prog 27 #[.int .u8 c, p] w (Ret (.tuple #[.int .i64 (ckV c T).1, .int .i64 (ckV c T).2]) w) := by
  obtain rfl | rfl | rfl | rfl := fourC h4
  · have H := Lib.hid (check14_any t T w p hf hb hl)
    rw [show ckV 1 T = avlFirst T.pre from rfl]
    clear hf ho hb hl h4
    generalize avlFirst T.pre = F at *
    obtain ⟨F1, F2⟩ := F
    simp only at H ⊢
    go_enter Tryz.func27, Tryz.ntmps27
    go_wp2_with fail
    refine H.out.mono ?_
    rintro e w1 ⟨rfl, h1⟩
    go_wp2
    go_ret2
    exact ⟨rfl, h1⟩
  · have H := Lib.hid (check16_any t T w p hf (ho rfl) hb hl)
    rw [show ckV 2 T = rbChk T from rfl]
    clear hf ho hb hl h4
    generalize rbChk T = F at *
    obtain ⟨F1, F2⟩ := F
    simp only at H ⊢
    go_enter Tryz.func27, Tryz.ntmps27
    go_wp2_with fail
    refine H.out.mono ?_
    rintro e w1 ⟨rfl, h1⟩
    go_wp2
    go_ret2
    exact ⟨rfl, h1⟩
  · have H := Lib.hid (check18_any t T w p hf hb hl)
    rw [show ckV 3 T = firstOf wbOne T.pre from rfl]
    clear hf ho hb hl h4
    generalize firstOf wbOne T.pre = F at *
    obtain ⟨F1, F2⟩ := F
    simp only at H ⊢
    go_enter Tryz.func27, Tryz.ntmps27
    go_wp2_with fail
    refine H.out.mono ?_
    rintro e w1 ⟨rfl, h1⟩
    go_wp2
    go_ret2
    exact ⟨rfl, h1⟩
  · have H := Lib.hid (check20_any t T w p hf hb hl)
    rw [show ckV 4 T = firstOf tpOne T.pre from rfl]
    clear hf ho hb hl h4
    generalize firstOf tpOne T.pre = F at *
    obtain ⟨F1, F2⟩ := F
    simp only at H ⊢
    go_enter Tryz.func27, Tryz.ntmps27
    go_wp2_with fail
    refine H.out.mono ?_
    rintro e w1 ⟨rfl, h1⟩
    go_wp2
    go_ret2
    exact ⟨rfl, h1⟩
theorem may22_any (c : Nat) (h4 : 1 ≤ c ∧ c ≤ 4) (t : BT) (T : Tr) (w : World) (p : Value) (hf : t.fits T) (ho : c = 2 → TagsOk T) (hb : Beads w p t.enc) (hl : t.enc.length ≤ 2000) :
    Calls Tryz.prog 28 #[.int .u8 c, p] w (Ret (.bool ((ckV c T).2 == 0)) w) := by
  have H := Lib.hid (check22_any c h4 t T w p hf ho hb hl)
  clear hf ho hb hl
  generalize ckV c T = F at *
  obtain ⟨F1, F2⟩ := F
  simp only at H ⊢
  go_enter Tryz.func28, Tryz.ntmps28
  go_wp2_with fail
  refine (H.out).mono ?_
  rintro e w1 ⟨rfl, hS⟩
  go_wp2
  go_ret
  exact ⟨ret_bool rfl, hS⟩
theorem pt_ck {c : Nat} (h4 : 1 ≤ c ∧ c ≤ 4) (h2 : c ≠ 2) (T : Tr) : ((ckV c T).2 == 0) = ptV c T := by
  obtain rfl | rfl | rfl | rfl := fourC h4
  · rfl
  · exact (h2 rfl).elim
  · rfl
  · rfl
def BT.rway : BT → Nat
  | .nil => 0
  | .node _ _ _ _ _ _ r => 1 + r.rway
def BT.lway : BT → Nat
  | .nil => 0
  | .node _ _ _ _ _ l _ => 1 + l.lway
theorem fits_ways : ∀ {t : BT} {T : Tr}, t.fits T → T.rway = t.rway ∧ T.lway = t.lway
  | .nil, .nil, _ => ⟨rfl, rfl⟩
  | .nil, .node .., h => h.elim
  | .node .., .nil, h => h.elim
  | .node .., .node .., h => by
    have h1 := (fits_ways h.2.2.2.1).2
    have h2 := (fits_ways h.2.2.2.2).1
    exact ⟨by rw [Tr.rway, BT.rway, h2], by rw [Tr.lway, BT.lway, h1]⟩
def BT.wayTo (left : Bool) (t : BT) : Nat := if left then t.lway else t.rway
theorem wayTo_le (x : Bool) : ∀ t : BT, t.wayTo x ≤ t.enc.length
  | .nil => by cases x <;> exact Nat.le_refl _
  | .node k v s n g l r => by
    have h1 := wayTo_le x l
    have h2 := wayTo_le x r
    cases x <;> simp [BT.wayTo, BT.rway, BT.lway, BT.enc] at h1 h2 ⊢ <;> omega
end Go.Proofs.YtjiiokhjajfhjaaGreat
namespace Go.Proofs.YtjiiokhjajfhjaaGreat
open Go Go.RowKit

theorem itemCells_set : ∀ (zs : List (Int × Int × Int)) (k : Nat) (z : Int × Int × Int) (y : Int), zs[k]? = some z → itemCells (zs.set k (z.1, z.2.1, y)) = (itemCells zs).set (k * 3 + 2) (.int .u64 y)
  | [], k, z, y, h => by simp at h
  | x :: zs, 0, z, y, h => by
    obtain rfl : x = z := by simpa using h
    simp [itemCells, icells]
  | x :: zs, k + 1, z, y, h => by
    have ih := itemCells_set zs k z y (by simpa using h)
    show icells x ++ itemCells (zs.set k (z.1, z.2.1, y)) = (icells x ++ itemCells zs).set ((k + 1) * 3 + 2) (.int .u64 y)
    rw [ih, List.set_append_right (h := by show 3 ≤ _; omega)]
    congr 2
    show _ = (k + 1) * 3 + 2 - 3
    omega
theorem IOwn3.blk {B : Nat} {w : World} {v : Value} {zs : List (Int × Int × Int)} (h : IOwn3 B w v zs) (hne : zs ≠ []) : ∃ g cap, v = .slice (some ⟨g, 0, none⟩) zs.length cap ∧ B ≤ g ∧ zs.length ≤ cap ∧
    ∀ W xs, IOwn3 B W v xs → xs.length = zs.length → (∀ i, W.frozen? ⟨g, i, none⟩ = false) ∧ (∀ k z, xs[k]? = some z → W.cell? ⟨g, k * 3, none⟩ = some (.int .i64 z.1) ∧ W.cell? ⟨g, k * 3 + 1, none⟩ = some (.int .i64 z.2.1) ∧ W.cell? ⟨g, k * 3 + 2, none⟩ = some (.int .u64 z.2.2) ∧
      ∀ y, IOwn3 B (W.setCell ⟨g, k * 3 + 2, none⟩ (.int .u64 y)) v (xs.set k (z.1, z.2.1, y))) := by
  obtain ⟨h1, ⟨rfl, h0⟩ | ⟨g, cap, cur, rfl, hb, hg, hc, hm, hs, ht⟩⟩ := h
  · exact (hne (List.eq_nil_of_length_eq_zero h0)).elim
  · refine ⟨g, cap, rfl, hb, hc, fun W xs hx hl => ?_⟩
    have hrow := hx
    obtain ⟨k1, ⟨hv, h0⟩ | ⟨g', cap', cur', hv, hb', hg', hc', hm', hs', ht'⟩⟩ := hx
    · cases hv
    · injection hv with e1 e2 e3
      injection e1 with e1
      injection e1 with e1
      subst e1 e3
      refine ⟨frozen_of hg', fun k z hz => ?_⟩
      have hlt := (List.getElem?_eq_some_iff.1 hz).1
      have hcell : ∀ j u, (icells z)[j]? = some u → W.cell? ⟨g, k * 3 + j, none⟩ = some u := by
        intro j u hj
        have h2 := itemCells_at xs k z j hz (List.getElem?_eq_some_iff.1 hj).1
        rw [hj, ← ht', List.getElem?_take] at h2
        rw [cell_of hg']
        split at h2
        · simpa using h2
        · cases h2
      refine ⟨hcell 0 _ rfl, hcell 1 _ rfl, hcell 2 _ rfl, fun y => ?_⟩
      have hheap : (W.setCell ⟨g, k * 3 + 2, none⟩ (.int .u64 y)).heap[g]? = some (.cells (cur'.setIfInBounds (k * 3 + 2) (.int .u64 y)) 58 (0, 0)) := by
        simp [World.setCell, Array.getElem?_modify, hg']
      refine ⟨by rw [itemCells_len], .inr ⟨g, cap, _, by rw [List.length_set, hl], hb', hheap, by rw [List.length_set]; exact hc', hm', by simp [hs'], ?_⟩⟩
      rw [List.length_set, itemCells_set xs k z y hz, ← ht', Array.toList_setIfInBounds, List.take_set]
theorem IOwn3.sized {B : Nat} {w : World} {v : Value} {zs : List (Int × Int × Int)} (h : IOwn3 B w v zs) : ∃ a c, v = .slice a zs.length c := irow3_slice h.row
/-- a row whose first k items have lost their tags. -/
def untag (c k : Nat) (zs : List (Int × Int × Int)) : List (Int × Int × Int) := (zs.take k).map (itC c) ++ zs.drop k
theorem untag_len (c k : Nat) (zs : List (Int × Int × Int)) : (untag c k zs).length = zs.length := by simp [untag]; omega
theorem untag_at {c k : Nat} {zs : List (Int × Int × Int)} {z : Int × Int × Int} (h : zs[k]? = some z) : (untag c k zs)[k]? = some z := by
  have hlt := (List.getElem?_eq_some_iff.1 h).1
  rw [untag, List.getElem?_append_right (by simp; omega), List.length_map, List.length_take, Nat.min_eq_left (by omega), Nat.sub_self, List.getElem?_drop, Nat.add_zero, h]
theorem untag_set {c k : Nat} (hc : c ≠ 4) {zs : List (Int × Int × Int)} {z : Int × Int × Int} (h : zs[k]? = some z) : (untag c k zs).set k (z.1, z.2.1, 0) = untag c (k + 1) zs := by
  have hlt := (List.getElem?_eq_some_iff.1 h).1
  have hd : zs.drop k = z :: zs.drop (k + 1) := by
    rw [List.drop_eq_getElem_cons hlt]
    congr 1
    exact (List.getElem?_eq_some_iff.1 h).2
  rw [untag, untag, List.set_append_right (h := by simp; omega), List.length_map, List.length_take, Nat.min_eq_left (by omega), Nat.sub_self, hd, List.set_cons_zero, List.take_add_one, h]
  simp [itC, hc]
def BT.itsC (c : Nat) (t : BT) : List (Int × Int × Int) := t.its.map (itC c)
theorem fits_itsC {t : BT} {T : Tr} (c : Nat) (h : t.fits T) : Proofs.YtjiiokhjajfhjaaGreat.itsC c T = t.itsC c := by rw [Proofs.YtjiiokhjajfhjaaGreat.itsC, BT.itsC, BT.fits_its h]
end Go.Proofs.YtjiiokhjajfhjaaGreat
namespace Go.Proofs.YtjiiokhjajfhjaaGreat
open Go Go.RowKit
attribute [local go_sem] Oper.semAt_some

theorem put3_other {w : World} {N i : Nat} {o : Obj} (hi : i ≠ N) (h : w.heap[i]? = some o) (a b c : Value) : (put3 w N a b c).heap[i]? = some o := by
  unfold put3
  rw [Below.heap_setCell _ _ _ _ hi, Below.heap_setCell _ _ _ _ hi, Below.heap_setCell _ _ _ _ hi]
  exact h
end Go.Proofs.YtjiiokhjajfhjaaGreat
namespace Go.Proofs.YtjiiokhjajfhjaaGreat
open Go Go.RowKit
attribute [local go_sem] Oper.semAt_some

theorem map_at {c : Nat} {xs zs : List (Int × Int × Int)} (h : zs.map (itC c) = xs) {k : Nat} {z : Int × Int × Int} (hz : zs[k]? = some z) : xs[k]? = some (itC c z) := by
  rw [← h]; simp [hz]
end Go.Proofs.YtjiiokhjajfhjaaGreat
namespace Go.Proofs.YtjiiokhjajfhjaaGreat
open Go Go.RowKit

theorem itsC_idem (c : Nat) (T : Tr) : (itsC c T).map (itC c) = itsC c T := by
  unfold itsC
  rw [List.map_map]
  exact List.map_congr_left fun z _ => itC_idem c z
theorem itC_if (c : Nat) (k v g : Int) : itC c (k, v, if c = 4 then g else 0) = itC c (k, v, g) := by
  simp only [itC]
  split <;> simp_all
theorem fits_tpH : ∀ {t : BT} {A B : Tr}, t.fits A → t.fits B → (TpH A ↔ TpH B)
  | .nil, .nil, .nil, _, _ => Iff.rfl
  | .nil, .node .., _, h, _ => h.elim
  | .nil, .nil, .node .., _, h => h.elim
  | .node .., .nil, _, h, _ => h.elim
  | .node .., .node .., .nil, _, h => h.elim
  | .node k v s n g l r, .node b1 L k1 v1 g1 R, .node b2 L' k2 v2 g2 R', h, h' => by
    have h1 := fits_tpH h.2.2.2.1 h'.2.2.2.1
    have h2 := fits_tpH h.2.2.2.2 h'.2.2.2.2
    obtain ⟨a1, a2, a3, fl, fr⟩ := h
    obtain ⟨c1, c2, c3, fl', fr'⟩ := h'
    subst a1 a2 a3
    subst c1 c2 c3
    have e1 := under_iff L b1 L k v g R
    have e2 := under_iff L' b2 L' k v g R'
    have e3 := under_iff R b1 L k v g R
    have e4 := under_iff R' b2 L' k v g R'
    rw [overT_fits fl] at e1
    rw [overT_fits fl'] at e2
    rw [overT_fits fr] at e3
    rw [overT_fits fr'] at e4
    rw [TpH, TpH, h1, h2, ← e1, ← e2, ← e3, ← e4]
theorem fits_ptV {c : Nat} (h4 : 1 ≤ c ∧ c ≤ 4) {t : BT} {A B : Tr} (ha : t.fits A) (hb : t.fits B) : ptV c A = ptV c B := by
  obtain rfl | rfl | rfl | rfl := fourC h4
  · exact fits_avlMay ha hb
  · exact (fits_rbPart ha hb).1
  · exact fits_wbMay ha hb
  · show tpMay A = tpMay B
    rw [Bool.eq_iff_iff, tpMay_iff, tpMay_iff, fits_tpH ha hb]
/-- a row of beads of a part, and not too long. -/
def GoodC (c : Nat) (zs : List BeadL) (t : BT) : Prop := t.enc = zs ∧ zs.length ≤ 400 ∧ ptV c t.tr = true
theorem goodC_tree {c : Nat} (h4 : 1 ≤ c ∧ c ≤ 4) {zs : List BeadL} {t : BT} {A : Tr} (hg : GoodC c zs t) (hf : t.fits A) (hz : ∀ z ∈ zs, z.wf) : PartC c A ∧ A.count ≤ 400 ∧ TagsOk A ∧ A.count = zs.length := by
  obtain ⟨rfl, h1, h2⟩ := hg
  have hc := fits_cnt hf
  have ht := fits_tagsOk t A hf hz
  exact ⟨partC_of h4 (by omega) ht (by rw [fits_ptV h4 hf t.tr_fits]; exact h2), by omega, ht, hc⟩
end Go.Proofs.YtjiiokhjajfhjaaGreat
namespace Go.Proofs.YtjiiokhjajfhjaaGreat
open Go Go.RowKit

theorem itemV_agg (c : Nat) (T : Tr) : ∃ k v g, itemV c T = .agg #[.int .i64 k, .int .i64 v, .int .u64 g] := ⟨_, _, _, rfl⟩
theorem u8_nat {c : Int} (h : (Lit.int .u8 c).wf = true) : ∃ m : Nat, c = m ∧ m < 256 := by
  have g0 : 0 ≤ c ∧ c < 256 := by simp [Lit.wf, show IntKind.u8.min = 0 from rfl, show IntKind.u8.max = 255 from rfl] at h; omega
  obtain ⟨m, rfl⟩ := Int.eq_ofNat_of_zero_le g0.1
  exact ⟨m, rfl, by omega⟩
end Go.Proofs.YtjiiokhjajfhjaaGreat
