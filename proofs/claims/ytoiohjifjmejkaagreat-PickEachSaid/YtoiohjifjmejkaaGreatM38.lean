/- Rows of items in memory, and those that a call owns. joineryref20: Items, Same. joineryref17.Most, and the walk of RbjoinShares. joineryref22: Is, Name, Check, May, Part, Rank, Most. -/
import Derived.Test.YtoiohjifjmejkaaGreatM5
import Derived.Test.YtoiohjifjmejkaaGreatM9
import Derived.Test.YtoiohjifjmejkaaGreatM17
import Derived.Test.YtoiohjifjmejkaaGreatM20
import Derived.Test.YtoiohjifjmejkaaGreatM22
import Derived.Test.YtoiohjifjmejkaaGreatM27
import Derived.Test.YtoiohjifjmejkaaGreatM34
import Derived.Test.YtoiohjifjmejkaaGreatM37
namespace Go.Proofs.YtoiohjifjmejkaaGreat
open Go Go.RowKit

/-- a item's two cells. -/
def icells (z : Int × Int × Int) : List Value := [.int .i64 z.1, .int .i64 z.2.1, .int .u64 z.2.2]
def itemCells (zs : List (Int × Int × Int)) : List Value := zs.flatMap icells
theorem itemCells_len : ∀ zs : List (Int × Int × Int), (itemCells zs).length = zs.length * 3
  | [] => rfl
  | z :: zs => by
    have := itemCells_len zs
    rw [itemCells] at this ⊢
    rw [List.flatMap_cons, List.length_append, this, List.length_cons]
    show 3 + _ = _
    omega
theorem itemCells_at : ∀ (zs : List (Int × Int × Int)) (i : Nat) (z : Int × Int × Int) (j : Nat), zs[i]? = some z → j < 3 → (itemCells zs)[i * 3 + j]? = (icells z)[j]?
  | [], i, z, j, h, _ => by simp at h
  | y :: zs, 0, z, j, h, hj => by
    obtain rfl : y = z := by simpa using h
    rw [itemCells, List.flatMap_cons, List.getElem?_append_left (show 0 * 3 + j < 3 by omega), Nat.zero_mul, Nat.zero_add]
  | y :: zs, i + 1, z, j, h, hj => by
    have ih := itemCells_at zs i z j (by simpa using h) hj
    rw [itemCells] at ih ⊢
    rw [List.flatMap_cons, List.getElem?_append_right (show 3 ≤ (i + 1) * 3 + j by omega), show (i + 1) * 3 + j - (icells y).length = i * 3 + j from by show _ - 3 = _; omega, ih]
theorem itemCells_append (a b : List (Int × Int × Int)) : itemCells (a ++ b) = itemCells a ++ itemCells b := by simp [itemCells]
theorem itemCells_one (zs : List (Int × Int × Int)) : ∀ u ∈ itemCells zs, u.oneCell' = true := by
  intro u h
  obtain ⟨z, _, hz⟩ := List.mem_flatMap.1 h
  simp only [icells, List.mem_cons, List.not_mem_nil, or_false] at hz
  rcases hz with rfl | rfl | rfl <;> rfl
/-- a row of items: empty, whatever its address; or laid at an address. -/
def IRow3 (w : World) (v : Value) (zs : List (Int × Int × Int)) : Prop :=
  (zs = [] ∧ ∃ a c, v = .slice a 0 c) ∨ ∃ b o c, v = .slice (some ⟨b, o, none⟩) zs.length c ∧ zs ≠ [] ∧ zs.length ≤ c ∧ w.rangeAt b o (itemCells zs)
theorem item_cell {w : World} {b o : Nat} {zs : List (Int × Int × Int)} (h : w.rangeAt b o (itemCells zs)) {i : Nat} {z : Int × Int × Int} (hi : zs[i]? = some z) {j : Nat} {u : Value} (hj : (icells z)[j]? = some u) : w.cell? ⟨b, o + i * 3 + j, none⟩ = some u := by
  have hlt : j < 3 := (List.getElem?_eq_some_iff.1 hj).1
  rw [Nat.add_assoc]
  exact h (i * 3 + j) u (by rw [itemCells_at zs i z j hi hlt, hj])
theorem IRow3.ext {w w' : World} {v : Value} {zs : List (Int × Int × Int)} (h : IRow3 w v zs) (e : Ext w w') : IRow3 w' v zs := by
  rcases h with h | ⟨b, o, c, rfl, h1, h2, h3⟩
  · exact .inl h
  · exact .inr ⟨b, o, c, rfl, h1, h2, rangeAt_ext h3 e⟩
theorem irow3_slice {w : World} {v : Value} {zs : List (Int × Int × Int)} (h : IRow3 w v zs) : ∃ a c, v = .slice a zs.length c := by
  rcases h with ⟨rfl, a, c, rfl⟩ | ⟨b, o, c, rfl, hne, hc, hr⟩
  · exact ⟨a, c, rfl⟩
  · exact ⟨_, c, rfl⟩
/-- a row that was made since the heap had B blocks. -/
def IOwn3 (B : Nat) (w : World) (v : Value) (zs : List (Int × Int × Int)) : Prop := w.ownsRow B 66 3 v zs.length (itemCells zs)
theorem IOwn3.row {B : Nat} {w : World} {v : Value} {zs : List (Int × Int × Int)} (h : IOwn3 B w v zs) : IRow3 w v zs := by
  obtain ⟨h1, ⟨rfl, h0⟩ | ⟨g, cap, cur, rfl, hb, hg, hc, hm, hs, ht⟩⟩ := h
  · exact .inl ⟨List.eq_nil_of_length_eq_zero h0, _, 0, rfl⟩
  · by_cases h0 : zs = []
    · subst h0; exact .inl ⟨rfl, _, _, rfl⟩
    · refine .inr ⟨g, 0, cap, rfl, h0, hc, fun j u hj => ?_⟩
      rw [Nat.zero_add, cell_of hg j]
      rw [← ht, List.getElem?_take] at hj
      split at hj
      · simpa using hj
      · cases hj
theorem IOwn3.nil (B : Nat) (w : World) : IOwn3 B w (.slice none 0 0) [] := ⟨rfl, .inl ⟨rfl, rfl⟩⟩
theorem IOwn3.ext {B : Nat} {w w' : World} {v : Value} {zs : List (Int × Int × Int)} (h : IOwn3 B w v zs) (e : Ext w w') : IOwn3 B w' v zs := by
  obtain ⟨h1, h | ⟨g, cap, cur, hv, hb, hg, hc⟩⟩ := h
  · exact ⟨h1, .inl h⟩
  · exact ⟨h1, .inr ⟨g, cap, cur, hv, hb, (e.block g (lt_of hg)).trans hg, hc⟩⟩
theorem IOwn3.mono {B B' : Nat} {w : World} {v : Value} {zs : List (Int × Int × Int)} (h : IOwn3 B w v zs) (e : B' ≤ B) : IOwn3 B' w v zs := by
  obtain ⟨h1, h | ⟨g, cap, cur, hv, hb, hg, hc⟩⟩ := h
  · exact ⟨h1, .inl h⟩
  · exact ⟨h1, .inr ⟨g, cap, cur, hv, Nat.le_trans e hb, hg, hc⟩⟩
theorem item_info : ∃ i : TypeInfo, Tryz.prog.info? 66 = some i ∧ i.zero = some (.agg #[.int .i64 0, .int .i64 0, .int .u64 0]) ∧ i.size = 3 ∧ i.bytes = 24 := by
  have h : (Tryz.prog.info? 66).map (fun i => (i.zero, i.size, i.bytes)) = some (some (.agg #[.int .i64 0, .int .i64 0, .int .u64 0]), 3, 24) := by kernel_rfl
  cases hi : Tryz.prog.info? 66 with
  | none => rw [hi] at h; cases h
  | some i =>
    rw [hi] at h
    simp only [Option.map_some, Option.some.injEq, Prod.mk.injEq] at h
    exact ⟨i, rfl, h.1, h.2.1, h.2.2⟩
/-- append, onto a row of one's own. -/
theorem append_iown3 {B : Nat} {w : World} {v u : Value} {zs ys : List (Int × Int × Int)} (ty : TypeId) (hv : IOwn3 B w v zs) (hu : IRow3 w u ys) (hlen : zs.length + ys.length ≤ 10000) (hB : B ≤ w.heap.size) :
    ∃ v' w', (Builtin.append_ #[41, 41] ty #[v, u]).run Tryz.prog w = .ok v' w' ∧ IOwn3 B w' v' (zs ++ ys) ∧ w.grownBy w' v.ownBlock := by
  obtain ⟨i, hi, hz, hs, hb⟩ := item_info
  have hml : (10000 : Nat) ≤ maxLen := by decide
  by_cases h0 : ys = []
  · subst h0
    have hu' : ∃ a c, u = .slice a 0 c := by
      obtain ⟨a, c, rfl⟩ := irow3_slice hu
      exact ⟨a, c, rfl⟩
    obtain ⟨a, c, rfl⟩ := hu'
    have hsrc : Src Tryz.prog i.size 41 (.slice a 0 c) 0 [] w := by
      cases a with
      | none => exact Src.ofNil w Tryz.underlying41 c
      | some a => exact Src.ofSlice w Tryz.underlying41 a 0 c [] (by simp) (by simp) (by simp)
    have hv' : ∃ p l c', v = .slice p l c' ∧ l ≤ c' := by
      rcases hv with ⟨_, ⟨rfl, h0⟩ | ⟨g, cap, cur, rfl, _, _, hc, _⟩⟩
      · exact ⟨_, _, _, rfl, Nat.le_refl _⟩
      · exact ⟨_, _, _, rfl, hc⟩
    obtain ⟨p, l, c', rfl, hlc⟩ := hv'
    refine ⟨_, w, run_append_nothing w _ _ ty _ i Tryz.underlying41 hi p l c' hlc _ hsrc, by simpa using hv, ⟨rfl, rfl, rfl, Nat.le_refl _, fun _ _ _ => rfl⟩⟩
  · rcases hu with ⟨h, _⟩ | ⟨b, o, c, rfl, _, hc, hr⟩
    · exact (h0 h).elim
    · obtain ⟨v', w', hrun, hown, hg, _, _⟩ := run_append_own_at (P := Tryz.prog) w B _ ty _ i _ 3 24 Tryz.underlying41 hi hz hs hb rfl (by omega) v zs.length (itemCells zs) hv ⟨b, o, none⟩ ys.length c (itemCells ys) (itemCells_len ys)
        (fun j u hj => by rw [Addr.add_mid]; exact hr j u hj) (itemCells_one ys) (by omega) (by omega) hB
      refine ⟨v', w', hrun, ?_, hg⟩
      show w'.ownsRow _ _ _ _ _ _
      rw [List.length_append, itemCells_append]
      exact hown
/-- what append leaves alone. -/
theorem igrown3_ext {w0 w w' : World} {v : Value} {zs : List (Int × Int × Int)} (hw : Ext w0 w) (hv : IOwn3 w0.heap.size w v zs) (hg : w.grownBy w' v.ownBlock) : Ext w0 w' := by
  refine RowKit.Below.grown hw hg hw.size ?_
  intro k hk
  rcases hv with ⟨_, ⟨rfl, h0⟩ | ⟨g, cap, cur, rfl, hb, _⟩⟩
  · cases hk
  · simp only [Value.ownBlock, Option.some.injEq] at hk
    omega
/-- a new row of one item. -/
theorem iown3_new {B : Nat} {w : World} (z : Int × Int × Int) (h : B ≤ w.heap.size) : IOwn3 B (w.alloc (.cells #[.int .i64 z.1, .int .i64 z.2.1, .int .u64 z.2.2] 66)) (.slice (some ⟨w.heap.size, 0, none⟩) 1 1) [z] :=
  ⟨rfl, .inr ⟨w.heap.size, 1, _, rfl, h, alloc_at _ _ _ rfl, Nat.le_refl _, by decide, rfl, rfl⟩⟩
section
variable {F : Fence} {n : Nat} {ops : Array Oper} {rest : List Oper} {o : Oper} {a : Act} {Q : Exit → Act → World → Prop}
theorem wpList_append_items (hgd : o.guard = none) (s x : Operand) (ho : o.op = .call { callee := .builtin .append, args := #[s, x], argTypes := #[41, 41] })
    {B : Nat} {w : World} {v u : Value} {zs ys : List (Int × Int × Int)} (hs : a.eval s = v) (hx : a.eval x = u) (hv : IOwn3 B w v zs) (hu : IRow3 w u ys) (hlen : zs.length + ys.length ≤ 10000) (hB : B ≤ w.heap.size)
    (h : ∀ v' w', IOwn3 B w' v' (zs ++ ys) → w.grownBy w' v.ownBlock → wpList Tryz.prog ops Q rest (a.put o.dst v') w') : wpList Tryz.prog ops Q (o :: rest) a w := by
  refine wpList_plain hgd fun K hK => ?_
  obtain ⟨v', w', hr, h2, h3⟩ := append_iown3 o.type hv hu hlen hB
  unfold Oper.wp execOp
  simp only [ho, resolve, invoke, builtin, Sem.run_bind, Sem.run_pure, Result.andThen_ok, List.map_toArray, List.map_cons, List.map_nil, hs, hx, hr]
  exact hK _ _ (h v' w' h2 h3)
theorem wpListIn_append_items (hgd : o.guard = none) (s x : Operand) (ho : o.op = .call { callee := .builtin .append, args := #[s, x], argTypes := #[41, 41] })
    {B : Nat} {w : World} {v u : Value} {zs ys : List (Int × Int × Int)} (hs : a.eval s = v) (hx : a.eval x = u) (hv : IOwn3 B w v zs) (hu : IRow3 w u ys) (hlen : zs.length + ys.length ≤ 10000) (hB : B ≤ w.heap.size)
    (hfn : ∀ f, F.fn f)
    (h : ∀ v' w', IOwn3 B w' v' (zs ++ ys) → w.grownBy w' v.ownBlock → wpListIn F n Tryz.prog ops Q rest (a.put o.dst v') w') : wpListIn F n Tryz.prog ops Q (o :: rest) a w := by
  refine wpListIn_plain hgd fun K hK => ?_
  obtain ⟨v', w', hr, h2, h3⟩ := append_iown3 o.type hv hu hlen hB
  unfold Oper.wpIn
  refine ⟨fun f _ => hfn f, ?_⟩
  rw [Oper.semAt_eq _ _ _ (fun c => by rw [ho]; simp)]
  unfold execOp
  simp only [ho, resolve, invoke, builtin, Sem.run_bind, Sem.run_pure, Result.andThen_ok, List.map_toArray, List.map_cons, List.map_nil, hs, hx, hr]
  exact hK _ _ (h v' w' h2 h3)
end
/-- a row of items that is the call's own. -/
def GivesI3 (zs : List (Int × Int × Int)) (w : World) (e : Ending) (w' : World) : Prop := ∃ v, e = .returned v ∧ IOwn3 w.heap.size w' v zs ∧ Ext w w'
end Go.Proofs.YtoiohjifjmejkaaGreat
namespace Go.Proofs.YtoiohjifjmejkaaGreat
open Go Go.RowKit
attribute [local go_sem] Oper.semAt_some

/-- a tree of beads' items, from left to right. -/
def BT.its : BT → List (Int × Int × Int)
  | .nil => []
  | .node k v _ _ g l r => l.its ++ (k, v, g) :: r.its
theorem BT.its_len : ∀ t : BT, t.its.length = t.enc.length
  | .nil => rfl
  | .node k v s n g l r => by simp [BT.its, BT.enc, BT.its_len l, BT.its_len r]; omega
theorem BT.fits_its : ∀ {t : BT} {T : Tr}, t.fits T → T.its = t.its
  | .nil, .nil, _ => rfl
  | .nil, .node .., h => h.elim
  | .node .., .nil, h => h.elim
  | .node .., .node .., h => by rw [Tr.its, BT.its, BT.fits_its h.2.2.2.1, BT.fits_its h.2.2.2.2, h.1, h.2.1, h.2.2.1]
set_option maxHeartbeats 2000000 in
theorem items20_any (t : BT) : ∀ (w : World) (p : Value), Beads w p t.enc → t.enc.length ≤ 2000 →
    Calls Tryz.prog 43 #[p] w (GivesI3 t.its w) := by
  have hfn : ∀ f, Fence.wide.fn f := fun _ => trivial
  induction t with
  | nil =>
    intro w p hb hl
    obtain ⟨a, c, rfl⟩ := beads_slice hb
    rw [show BT.nil.enc.length = 0 from rfl]
    clear hb hl
    go_enter Tryz.func43, Tryz.ntmps43
    go_wp2
    go_ret
    exact ⟨_, rfl, IOwn3.nil _ _, Ext.refl _⟩
  | node k v s n g l r ihl ihr =>
    intro w p hb hl
    have hp := parts_any w p k v s n g l r hb hl
    have hlen : (BT.node k v s n g l r).enc.length = 1 + l.enc.length + r.enc.length := by simp [BT.enc]; omega
    have IHl := Lib.hid ihl
    have IHr := Lib.hid ihr
    have HLL := Lib.hid (show l.enc.length ≤ 2000 by omega)
    have HLR := Lib.hid (show r.enc.length ≤ 2000 by omega)
    have h1 : 1 ≤ (BT.node k v s n g l r).enc.length := by omega
    have HOF := Lib.hid (show (BT.node k v s n g l r).its = l.its ++ (k, v, g) :: r.its from rfl)
    obtain ⟨a, c, rfl⟩ := beads_slice hb
    have HP := Lib.hid hp
    clear hb hp hlen ihl ihr hl
    obtain ⟨OF, hOF⟩ : ∃ OF, OF = (BT.node k v s n g l r).its := ⟨_, rfl⟩
    rw [← hOF] at HOF ⊢
    clear hOF
    generalize (BT.node k v s n g l r).enc.length = LL at *
    obtain ⟨m⟩ : Nonempty Nat := ⟨0⟩
    refine (callsIn_wide (n := m)).1 ?_
    refine callsIn_of_wp Tryz.func43 rfl trivial ?_ rfl
    simp only [Tryz.ntmps43, List.size_toArray, List.length_cons, List.length_nil, Nat.reduceAdd, Nat.reduceSub, Array.replicate_succ, Array.replicate_zero, List.push_toArray, List.append_toArray, List.nil_append, List.cons_append]
    gi_wp2_with fail
    refine ⟨wide_room _, (callsIn_wide.2 (HP.out)).mono ?_⟩
    rintro e w1 ⟨v1, v2, rfl, hv1, hv2, hE⟩
    gi_wp2_with fail
    have hnew := alloc_at w1 (.cells #[.int .i64 k, .int .i64 v, .int .i64 s, .int .i64 n, .int .u64 g, .bool (!l.isNil), .bool (!r.isNil)] 68) _ rfl
    have hE2 := (Ext.refl w1).alloc (.cells #[.int .i64 k, .int .i64 v, .int .i64 s, .int .i64 n, .int .u64 g, .bool (!l.isNil), .bool (!r.isNil)] 68)
    generalize w1.alloc (.cells #[.int .i64 k, .int .i64 v, .int .i64 s, .int .i64 n, .int .u64 g, .bool (!l.isNil), .bool (!r.isNil)] 68) = w4 at *
    have h01 : Ext w w1 := hE
    have h14 : Ext w1 w4 := hE2
    have HV1 := Lib.hid (hv1.ext h14)
    have HV2 := Lib.hid hv2
    have hc0 := cell_all (show w4.cell? ⟨w1.heap.size, 0, none⟩ = some (.int .i64 k) from cell_of hnew 0)
    have hc1 := cell_all (show w4.cell? ⟨w1.heap.size, 1, none⟩ = some (.int .i64 v) from cell_of hnew 1)
    have hc2 := cell_all (show w4.cell? ⟨w1.heap.size, 2, none⟩ = some (.int .i64 s) from cell_of hnew 2)
    have hc3 := cell_all (show w4.cell? ⟨w1.heap.size, 3, none⟩ = some (.int .i64 n) from cell_of hnew 3)
    have hc4 := cell_all (show w4.cell? ⟨w1.heap.size, 4, none⟩ = some (.int .u64 g) from cell_of hnew 4)
    have hc5 := cell_all (show w4.cell? ⟨w1.heap.size, 5, none⟩ = some (.bool (!l.isNil)) from cell_of hnew 5)
    have hc6 := cell_all (show w4.cell? ⟨w1.heap.size, 6, none⟩ = some (.bool (!r.isNil)) from cell_of hnew 6)
    have hx := Ext.drew w4
    clear hv1 hv2 hE hE2 hnew
    refine wpIn_region_G (fun j => !(List.contains (α := Nat) [3, 4, 5] j)) (by kernel_rfl) ?_
    refine batchG hfn (fuel := 5) [0, 2] (by kernel_rfl) rfl ?_
    repeat (go_big_quiet_step ((fail)))
    refine wpQuiet_nil ?_
    clear hc0 hc1 hc2 hc3 hc4 hc5 hc6
    refine wpAnyG_one (j := 1) (by kernel_rfl) rfl ?_
    gi_wp2_with fail
    refine ⟨wide_room _, (callsIn_wide.2 (IHl.out w4.drew v1 (HV1.out.ext hx) HLL.out)).mono ?_⟩
    rintro e w5 ⟨v3, rfl, hv3, h45'⟩
    gi_wp2_with fail
    refine onePost_ext (h45') ?_
    have h45 := hx.trans h45'
    refine wpAnyG_one (j := 3) (by kernel_rfl) rfl ?_
    gi_wp2_with fail
    refine ⟨wide_room _, (callsIn_wide.2 (item20_any _ _ _ _ _ _ _ _)).mono ?_⟩
    rintro e w5' ⟨rfl, h55⟩
    gi_wp2_with fail
    refine onePost_any (by kernel_rfl) ?_
    unfold itV
    refine wpAnyG_one (j := 4) (by kernel_rfl) rfl ?_
    gi_wp2_with fail
    have h15 := (h14.trans h45).trans h55
    have hrow := (iown3_new (B := w1.heap.size) (w := w5') (k, v, g) h15.size).row
    refine onePost_any (by kernel_rfl) ?_
    have h56 := (Ext.refl w5').alloc (.cells #[.int .i64 k, .int .i64 v, .int .u64 g] 66)
    have h16 : Ext w1 (w5'.alloc (.cells #[.int .i64 k, .int .i64 v, .int .u64 g] 66)) := h15.trans h56
    have hownl := ((hv3.mono (h14.trans hx).size).ext h55).ext h56
    (try simp only at hrow)
    generalize w5'.alloc (.cells #[.int .i64 k, .int .i64 v, .int .u64 g] 66) = w6 at *
    generalize w5'.heap.size = N5 at *
    clear hv3 h56 h45 h45' hx h15 h55
    refine wpAnyG_one (j := 5) (by kernel_rfl) rfl ?_
    refine wpListIn_append_items (B := w1.heap.size) (zs := l.its) (ys := [(k, v, g)]) rfl (.tmp 17) (.tmp 20) rfl rfl rfl hownl hrow (by rw [BT.its_len]; have := HLL.out; simp; omega) h16.size hfn ?_
    intro v4 w7 hown7 hg7
    have h17 : Ext w1 w7 := igrown3_ext h16 hownl hg7
    simp only [Act.put, List.setIfInBounds_toArray, List.set_cons_zero, List.set_cons_succ]
    refine wpListIn_nil ?_
    refine onePost_any (by kernel_rfl) ?_
    clear hg7 hownl hrow h16
    refine batchG hfn (fuel := 0) [6] (by kernel_rfl) rfl ?_
    repeat (go_big_quiet_step ((fail)))
    refine wpQuiet_nil ?_
    refine wpAnyG_done (by kernel_rfl) ?_
    refine calmQ_normal ?_
    gi_wp2_with fail
    refine ⟨wide_room _, (callsIn_wide.2 (IHr.out w7 v2 (HV2.out.ext h17) HLR.out)).mono ?_⟩
    rintro e w8 ⟨v5, rfl, hv5, h78⟩
    have hown8 := hown7.ext h78
    have hb8 := hv5.row
    have h18 := h17.trans h78
    clear hown7 hv5 h78 h17
    gi_wp2_with (refine wpListIn_append_items (B := w1.heap.size) rfl (.tmp 22) (.tmp 24) rfl rfl rfl hown8 hb8 ?c1 h18.size hfn ?_)
    case c1 =>
      rw [List.length_append, BT.its_len, BT.its_len]
      have := HLL.out
      have := HLR.out
      simp
      omega
    intro v6 w9 hown9 hg9
    have h19 : Ext w1 w9 := igrown3_ext h18 hown8 hg9
    clear hg9 hown8 hb8
    gi_wp2
    go_ret
    refine ⟨_, rfl, ?_, h01.trans h19⟩
    rw [HOF.out]
    have := hown9.mono h01.size
    simpa using this
end Go.Proofs.YtoiohjifjmejkaaGreat
namespace Go.Proofs.YtoiohjifjmejkaaGreat
open Go Go.RowKit

end Go.Proofs.YtoiohjifjmejkaaGreat
namespace Go.Proofs.YtoiohjifjmejkaaGreat
open Go Go.RowKit

theorem fits_cnt {t : BT} {T : Tr} (h : t.fits T) : T.count = t.enc.length := BT.fits_len h
theorem is22_any (c : Nat) (w : World) : Calls Tryz.prog 7 #[.int .u8 c] w (Ret (.bool (decide (1 ≤ c ∧ c ≤ 4))) w) := by
  by_cases h1 : 1 ≤ c
  · by_cases h2 : c ≤ 4
    · rw [decide_eq_true ⟨h1, h2⟩]
      go_enter Tryz.func7, Tryz.ntmps7
      go_wp2
      go_ret
      exact ⟨ret_bool (by simp; omega), Ext.refl _⟩
    · rw [decide_eq_false (fun h => h2 h.2)]
      go_enter Tryz.func7, Tryz.ntmps7
      go_wp2
      go_ret
      exact ⟨ret_bool (by simp; omega), Ext.refl _⟩
  · rw [decide_eq_false (fun h => h1 h.1)]
    obtain rfl : c = 0 := by omega
    go_enter Tryz.func7, Tryz.ntmps7
    go_wp2
    go_ret
    exact Ret.mk (Ext.refl _)
def nm22 (c : Nat) : Array UInt8 := if 1 ≤ c ∧ c ≤ 4 then nmB c else #[]
set_option maxHeartbeats 1000000 in
theorem check22_any (c : Nat) (h4 : 1 ≤ c ∧ c ≤ 4) (t : BT) (T : Tr) (w : World) (p : Value) (hf : t.fits T) (ho : c = 2 → TagsOk T) (hb : Beads w p t.enc) (hl : t.enc.length ≤ 2000) :
    Calls Tryz.prog 87 #[.int .u8 c, p] w (Ret (.tuple #[.int .i64 (ckV c T).1, .int .i64 (ckV c T).2]) w) := by
  obtain rfl | rfl | rfl | rfl := fourC h4
  · have H := Lib.hid (check14_any t T w p hf hb hl)
    rw [show ckV 1 T = avlFirst T.pre from rfl]
    clear hf ho hb hl h4
    generalize avlFirst T.pre = F at *
    obtain ⟨F1, F2⟩ := F
    simp only at H ⊢
    go_enter Tryz.func87, Tryz.ntmps87
    go_wp2_with fail
    refine H.out.mono ?_
    rintro e w1 ⟨rfl, h1⟩
    go_wp2
    go_ret2
    exact ⟨rfl, h1⟩
  · have H := Lib.hid (check16_any t T w p hf (ho rfl) hb hl)
    rw [show ckV 2 T = rbChk T from rfl]
    clear hf ho hb hl h4
    generalize rbChk T = F at *
    obtain ⟨F1, F2⟩ := F
    simp only at H ⊢
    go_enter Tryz.func87, Tryz.ntmps87
    go_wp2_with fail
    refine H.out.mono ?_
    rintro e w1 ⟨rfl, h1⟩
    go_wp2
    go_ret2
    exact ⟨rfl, h1⟩
  · have H := Lib.hid (check18_any t T w p hf hb hl)
    rw [show ckV 3 T = firstOf wbOne T.pre from rfl]
    clear hf ho hb hl h4
    generalize firstOf wbOne T.pre = F at *
    obtain ⟨F1, F2⟩ := F
    simp only at H ⊢
    go_enter Tryz.func87, Tryz.ntmps87
    go_wp2_with fail
    refine H.out.mono ?_
    rintro e w1 ⟨rfl, h1⟩
    go_wp2
    go_ret2
    exact ⟨rfl, h1⟩
  · have H := Lib.hid (check20_any t T w p hf hb hl)
    rw [show ckV 4 T = firstOf tpOne T.pre from rfl]
    clear hf ho hb hl h4
    generalize firstOf tpOne T.pre = F at *
    obtain ⟨F1, F2⟩ := F
    simp only at H ⊢
    go_enter Tryz.func87, Tryz.ntmps87
    go_wp2_with fail
    refine H.out.mono ?_
    rintro e w1 ⟨rfl, h1⟩
    go_wp2
    go_ret2
    exact ⟨rfl, h1⟩
theorem may22_any (c : Nat) (h4 : 1 ≤ c ∧ c ≤ 4) (t : BT) (T : Tr) (w : World) (p : Value) (hf : t.fits T) (ho : c = 2 → TagsOk T) (hb : Beads w p t.enc) (hl : t.enc.length ≤ 2000) :
    Calls Tryz.prog 52 #[.int .u8 c, p] w (Ret (.bool ((ckV c T).2 == 0)) w) := by
  have H := Lib.hid (check22_any c h4 t T w p hf ho hb hl)
  clear hf ho hb hl
  generalize ckV c T = F at *
  obtain ⟨F1, F2⟩ := F
  simp only at H ⊢
  go_enter Tryz.func52, Tryz.ntmps52
  go_wp2_with fail
  refine (H.out).mono ?_
  rintro e w1 ⟨rfl, hS⟩
  go_wp2
  go_ret
  exact ⟨ret_bool rfl, hS⟩
theorem pt_ck {c : Nat} (h4 : 1 ≤ c ∧ c ≤ 4) (h2 : c ≠ 2) (T : Tr) : ((ckV c T).2 == 0) = ptV c T := by
  obtain rfl | rfl | rfl | rfl := fourC h4
  · rfl
  · exact (h2 rfl).elim
  · rfl
  · rfl
theorem part22_any (c : Nat) (h4 : 1 ≤ c ∧ c ≤ 4) (t : BT) (T : Tr) (w : World) (p : Value) (hf : t.fits T) (ho : c = 2 → TagsOk T) (hb : Beads w p t.enc) (hl : t.enc.length ≤ 2000) :
    Calls Tryz.prog 28 #[.int .u8 c, p] w (Ret (.bool (ptV c T)) w) := by
  by_cases h2 : c = 2
  · subst h2
    have H := Lib.hid (part16_any t T w p hf (ho rfl) hb hl)
    rw [show ptV 2 T = rbPart T from rfl]
    clear hf ho hb hl h4
    go_enter Tryz.func28, Tryz.ntmps28
    go_wp2_with fail
    refine (H.out).mono ?_
    rintro e w1 ⟨rfl, hS⟩
    go_wp2
    go_ret
    exact ⟨ret_bool rfl, hS⟩
  · have H := Lib.hid (may22_any c h4 t T w p hf ho hb hl)
    rw [pt_ck h4 h2] at H
    have h2' : (c : Int) ≠ 2 := by omega
    clear hf ho hb hl h2
    go_enter Tryz.func28, Tryz.ntmps28
    go_wp2_with fail
    refine (H.out).mono ?_
    rintro e w1 ⟨rfl, hS⟩
    go_wp2
    go_ret
    exact ⟨ret_bool rfl, hS⟩
def BT.rway : BT → Nat
  | .nil => 0
  | .node _ _ _ _ _ _ r => 1 + r.rway
def BT.lway : BT → Nat
  | .nil => 0
  | .node _ _ _ _ _ l _ => 1 + l.lway
theorem fits_ways : ∀ {t : BT} {T : Tr}, t.fits T → T.rway = t.rway ∧ T.lway = t.lway
  | .nil, .nil, _ => ⟨rfl, rfl⟩
  | .nil, .node .., h => h.elim
  | .node .., .nil, h => h.elim
  | .node .., .node .., h => by
    have h1 := (fits_ways h.2.2.2.1).2
    have h2 := (fits_ways h.2.2.2.2).1
    exact ⟨by rw [Tr.rway, BT.rway, h2], by rw [Tr.lway, BT.lway, h1]⟩
def BT.wayTo (left : Bool) (t : BT) : Nat := if left then t.lway else t.rway
theorem wayTo_le (x : Bool) : ∀ t : BT, t.wayTo x ≤ t.enc.length
  | .nil => by cases x <;> exact Nat.le_refl _
  | .node k v s n g l r => by
    have h1 := wayTo_le x l
    have h2 := wayTo_le x r
    cases x <;> simp [BT.wayTo, BT.rway, BT.lway, BT.enc] at h1 h2 ⊢ <;> omega
end Go.Proofs.YtoiohjifjmejkaaGreat
