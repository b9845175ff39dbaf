/- Rows of pairs in memory, and those that a call owns; joineryref09.Pairs, SamePairs. -/
import Derived.Test.YtoiohjifjmejkaaGreatM5
import Derived.Test.YtoiohjifjmejkaaGreatM9
import Derived.Test.YtoiohjifjmejkaaGreatM10
import Derived.Test.YtoiohjifjmejkaaGreatM11
namespace Go.Proofs.YtoiohjifjmejkaaGreat
open Go Go.RowKit

/-- a pair's two cells. -/
def pcells (z : Int × Int) : List Value := [.int .i64 z.1, .int .i64 z.2]
def pairCells (zs : List (Int × Int)) : List Value := zs.flatMap pcells
theorem pairCells_len : ∀ zs : List (Int × Int), (pairCells zs).length = zs.length * 2
  | [] => rfl
  | z :: zs => by
    have := pairCells_len zs
    rw [pairCells] at this ⊢
    rw [List.flatMap_cons, List.length_append, this, List.length_cons]
    show 2 + _ = _
    omega
theorem pairCells_at : ∀ (zs : List (Int × Int)) (i : Nat) (z : Int × Int) (j : Nat), zs[i]? = some z → j < 2 → (pairCells zs)[i * 2 + j]? = (pcells z)[j]?
  | [], i, z, j, h, _ => by simp at h
  | y :: zs, 0, z, j, h, hj => by
    obtain rfl : y = z := by simpa using h
    rw [pairCells, List.flatMap_cons, List.getElem?_append_left (show 0 * 2 + j < 2 by omega), Nat.zero_mul, Nat.zero_add]
  | y :: zs, i + 1, z, j, h, hj => by
    have ih := pairCells_at zs i z j (by simpa using h) hj
    rw [pairCells] at ih ⊢
    rw [List.flatMap_cons, List.getElem?_append_right (show 2 ≤ (i + 1) * 2 + j by omega), show (i + 1) * 2 + j - (pcells y).length = i * 2 + j from by show _ - 2 = _; omega, ih]
theorem pairCells_append (a b : List (Int × Int)) : pairCells (a ++ b) = pairCells a ++ pairCells b := by simp [pairCells]
theorem pairCells_one (zs : List (Int × Int)) : ∀ u ∈ pairCells zs, u.oneCell' = true := by
  intro u h
  obtain ⟨z, _, hz⟩ := List.mem_flatMap.1 h
  simp only [pcells, List.mem_cons, List.not_mem_nil, or_false] at hz
  rcases hz with rfl | rfl <;> rfl
/-- a row of pairs: empty, whatever its address; or laid at an address. -/
def PRow (w : World) (v : Value) (zs : List (Int × Int)) : Prop :=
  (zs = [] ∧ ∃ a c, v = .slice a 0 c) ∨ ∃ b o c, v = .slice (some ⟨b, o, none⟩) zs.length c ∧ zs ≠ [] ∧ zs.length ≤ c ∧ w.rangeAt b o (pairCells zs)
theorem pair_cell {w : World} {b o : Nat} {zs : List (Int × Int)} (h : w.rangeAt b o (pairCells zs)) {i : Nat} {z : Int × Int} (hi : zs[i]? = some z) {j : Nat} {u : Value} (hj : (pcells z)[j]? = some u) : w.cell? ⟨b, o + i * 2 + j, none⟩ = some u := by
  have hlt : j < 2 := (List.getElem?_eq_some_iff.1 hj).1
  rw [Nat.add_assoc]
  exact h (i * 2 + j) u (by rw [pairCells_at zs i z j hi hlt, hj])
theorem PRow.ext {w w' : World} {v : Value} {zs : List (Int × Int)} (h : PRow w v zs) (e : Ext w w') : PRow w' v zs := by
  rcases h with h | ⟨b, o, c, rfl, h1, h2, h3⟩
  · exact .inl h
  · exact .inr ⟨b, o, c, rfl, h1, h2, rangeAt_ext h3 e⟩
theorem prow_slice {w : World} {v : Value} {zs : List (Int × Int)} (h : PRow w v zs) : ∃ a c, v = .slice a zs.length c := by
  rcases h with ⟨rfl, a, c, rfl⟩ | ⟨b, o, c, rfl, hne, hc, hr⟩
  · exact ⟨a, c, rfl⟩
  · exact ⟨_, c, rfl⟩
/-- a row that was made since the heap had B blocks. -/
def POwn (B : Nat) (w : World) (v : Value) (zs : List (Int × Int)) : Prop := w.ownsRow B 52 2 v zs.length (pairCells zs)
theorem POwn.row {B : Nat} {w : World} {v : Value} {zs : List (Int × Int)} (h : POwn B w v zs) : PRow w v zs := by
  obtain ⟨h1, ⟨rfl, h0⟩ | ⟨g, cap, cur, rfl, hb, hg, hc, hm, hs, ht⟩⟩ := h
  · exact .inl ⟨List.eq_nil_of_length_eq_zero h0, _, 0, rfl⟩
  · by_cases h0 : zs = []
    · subst h0; exact .inl ⟨rfl, _, _, rfl⟩
    · refine .inr ⟨g, 0, cap, rfl, h0, hc, fun j u hj => ?_⟩
      rw [Nat.zero_add, cell_of hg j]
      rw [← ht, List.getElem?_take] at hj
      split at hj
      · simpa using hj
      · cases hj
theorem POwn.nil (B : Nat) (w : World) : POwn B w (.slice none 0 0) [] := ⟨rfl, .inl ⟨rfl, rfl⟩⟩
theorem POwn.ext {B : Nat} {w w' : World} {v : Value} {zs : List (Int × Int)} (h : POwn B w v zs) (e : Ext w w') : POwn B w' v zs := by
  obtain ⟨h1, h | ⟨g, cap, cur, hv, hb, hg, hc⟩⟩ := h
  · exact ⟨h1, .inl h⟩
  · exact ⟨h1, .inr ⟨g, cap, cur, hv, hb, (e.block g (lt_of hg)).trans hg, hc⟩⟩
theorem POwn.mono {B B' : Nat} {w : World} {v : Value} {zs : List (Int × Int)} (h : POwn B w v zs) (e : B' ≤ B) : POwn B' w v zs := by
  obtain ⟨h1, h | ⟨g, cap, cur, hv, hb, hg, hc⟩⟩ := h
  · exact ⟨h1, .inl h⟩
  · exact ⟨h1, .inr ⟨g, cap, cur, hv, Nat.le_trans e hb, hg, hc⟩⟩
theorem pair_info : ∃ i : TypeInfo, Tryz.prog.info? 52 = some i ∧ i.zero = some (.agg #[.int .i64 0, .int .i64 0]) ∧ i.size = 2 ∧ i.bytes = 16 := by
  have h : (Tryz.prog.info? 52).map (fun i => (i.zero, i.size, i.bytes)) = some (some (.agg #[.int .i64 0, .int .i64 0]), 2, 16) := by kernel_rfl
  cases hi : Tryz.prog.info? 52 with
  | none => rw [hi] at h; cases h
  | some i =>
    rw [hi] at h
    simp only [Option.map_some, Option.some.injEq, Prod.mk.injEq] at h
    exact ⟨i, rfl, h.1, h.2.1, h.2.2⟩
/-- append, onto a row of one's own. -/
theorem append_pown {B : Nat} {w : World} {v u : Value} {zs ys : List (Int × Int)} (ty : TypeId) (hv : POwn B w v zs) (hu : PRow w u ys) (hlen : zs.length + ys.length ≤ 10000) (hB : B ≤ w.heap.size) :
    ∃ v' w', (Builtin.append_ #[49, 49] ty #[v, u]).run Tryz.prog w = .ok v' w' ∧ POwn B w' v' (zs ++ ys) ∧ w.grownBy w' v.ownBlock := by
  obtain ⟨i, hi, hz, hs, hb⟩ := pair_info
  have hml : (10000 : Nat) ≤ maxLen := by decide
  by_cases h0 : ys = []
  · subst h0
    have hu' : ∃ a c, u = .slice a 0 c := by
      obtain ⟨a, c, rfl⟩ := prow_slice hu
      exact ⟨a, c, rfl⟩
    obtain ⟨a, c, rfl⟩ := hu'
    have hsrc : Src Tryz.prog i.size 49 (.slice a 0 c) 0 [] w := by
      cases a with
      | none => exact Src.ofNil w Tryz.underlying49 c
      | some a => exact Src.ofSlice w Tryz.underlying49 a 0 c [] (by simp) (by simp) (by simp)
    have hv' : ∃ p l c', v = .slice p l c' ∧ l ≤ c' := by
      rcases hv with ⟨_, ⟨rfl, h0⟩ | ⟨g, cap, cur, rfl, _, _, hc, _⟩⟩
      · exact ⟨_, _, _, rfl, Nat.le_refl _⟩
      · exact ⟨_, _, _, rfl, hc⟩
    obtain ⟨p, l, c', rfl, hlc⟩ := hv'
    refine ⟨_, w, run_append_nothing w _ _ ty _ i Tryz.underlying49 hi p l c' hlc _ hsrc, by simpa using hv, ⟨rfl, rfl, rfl, Nat.le_refl _, fun _ _ _ => rfl⟩⟩
  · rcases hu with ⟨h, _⟩ | ⟨b, o, c, rfl, _, hc, hr⟩
    · exact (h0 h).elim
    · obtain ⟨v', w', hrun, hown, hg, _, _⟩ := run_append_own_at (P := Tryz.prog) w B _ ty _ i _ 2 16 Tryz.underlying49 hi hz hs hb rfl (by omega) v zs.length (pairCells zs) hv ⟨b, o, none⟩ ys.length c (pairCells ys) (pairCells_len ys)
        (fun j u hj => by rw [Addr.add_mid]; exact hr j u hj) (pairCells_one ys) (by omega) (by omega) hB
      refine ⟨v', w', hrun, ?_, hg⟩
      show w'.ownsRow _ _ _ _ _ _
      rw [List.length_append, pairCells_append]
      exact hown
/-- what append leaves alone. -/
theorem pgrown_ext {w0 w w' : World} {v : Value} {zs : List (Int × Int)} (hw : Ext w0 w) (hv : POwn w0.heap.size w v zs) (hg : w.grownBy w' v.ownBlock) : Ext w0 w' := by
  refine RowKit.Below.grown hw hg hw.size ?_
  intro k hk
  rcases hv with ⟨_, ⟨rfl, h0⟩ | ⟨g, cap, cur, rfl, hb, _⟩⟩
  · cases hk
  · simp only [Value.ownBlock, Option.some.injEq] at hk
    omega
/-- a new row of one pair. -/
theorem pown_new {B : Nat} {w : World} (z : Int × Int) (h : B ≤ w.heap.size) : POwn B (w.alloc (.cells #[.int .i64 z.1, .int .i64 z.2] 52)) (.slice (some ⟨w.heap.size, 0, none⟩) 1 1) [z] :=
  ⟨rfl, .inr ⟨w.heap.size, 1, _, rfl, h, alloc_at _ _ _ rfl, Nat.le_refl _, by decide, rfl, rfl⟩⟩
section
variable {F : Fence} {n : Nat} {ops : Array Oper} {rest : List Oper} {o : Oper} {a : Act} {Q : Exit → Act → World → Prop}
theorem wpList_append_pairs (hgd : o.guard = none) (s x : Operand) (ho : o.op = .call { callee := .builtin .append, args := #[s, x], argTypes := #[49, 49] })
    {B : Nat} {w : World} {v u : Value} {zs ys : List (Int × Int)} (hs : a.eval s = v) (hx : a.eval x = u) (hv : POwn B w v zs) (hu : PRow w u ys) (hlen : zs.length + ys.length ≤ 10000) (hB : B ≤ w.heap.size)
    (h : ∀ v' w', POwn B w' v' (zs ++ ys) → w.grownBy w' v.ownBlock → wpList Tryz.prog ops Q rest (a.put o.dst v') w') : wpList Tryz.prog ops Q (o :: rest) a w := by
  refine wpList_plain hgd fun K hK => ?_
  obtain ⟨v', w', hr, h2, h3⟩ := append_pown o.type hv hu hlen hB
  unfold Oper.wp execOp
  simp only [ho, resolve, invoke, builtin, Sem.run_bind, Sem.run_pure, Result.andThen_ok, List.map_toArray, List.map_cons, List.map_nil, hs, hx, hr]
  exact hK _ _ (h v' w' h2 h3)
theorem wpListIn_append_pairs (hgd : o.guard = none) (s x : Operand) (ho : o.op = .call { callee := .builtin .append, args := #[s, x], argTypes := #[49, 49] })
    {B : Nat} {w : World} {v u : Value} {zs ys : List (Int × Int)} (hs : a.eval s = v) (hx : a.eval x = u) (hv : POwn B w v zs) (hu : PRow w u ys) (hlen : zs.length + ys.length ≤ 10000) (hB : B ≤ w.heap.size)
    (hfn : ∀ f, F.fn f)
    (h : ∀ v' w', POwn B w' v' (zs ++ ys) → w.grownBy w' v.ownBlock → wpListIn F n Tryz.prog ops Q rest (a.put o.dst v') w') : wpListIn F n Tryz.prog ops Q (o :: rest) a w := by
  refine wpListIn_plain hgd fun K hK => ?_
  obtain ⟨v', w', hr, h2, h3⟩ := append_pown o.type hv hu hlen hB
  unfold Oper.wpIn
  refine ⟨fun f _ => hfn f, ?_⟩
  rw [Oper.semAt_eq _ _ _ (fun c => by rw [ho]; simp)]
  unfold execOp
  simp only [ho, resolve, invoke, builtin, Sem.run_bind, Sem.run_pure, Result.andThen_ok, List.map_toArray, List.map_cons, List.map_nil, hs, hx, hr]
  exact hK _ _ (h v' w' h2 h3)
end
/-- a row of pairs that is the call's own. -/
def GivesP (zs : List (Int × Int)) (w : World) (e : Ending) (w' : World) : Prop := ∃ v, e = .returned v ∧ POwn w.heap.size w' v zs ∧ Ext w w'
set_option maxHeartbeats 1000000 in
theorem pairs09_any (t : BT) : ∀ (w : World) (p : Value), Beads w p t.enc → t.enc.length ≤ 2000 →
    Calls Tryz.prog 25 #[p] w (GivesP t.kvs w) := by
  have hfn : ∀ f, Fence.wide.fn f := fun _ => trivial
  induction t with
  | nil =>
    intro w p hb hl
    obtain ⟨a, c, rfl⟩ := beads_slice hb
    rw [show BT.nil.enc.length = 0 from rfl]
    clear hb hl
    go_enter Tryz.func25, Tryz.ntmps25
    go_wp2
    go_ret
    exact ⟨_, rfl, POwn.nil _ _, Ext.refl _⟩
  | node k v s n g l r ihl ihr =>
    intro w p hb hl
    have hp := parts_any w p k v s n g l r hb hl
    have hlen : (BT.node k v s n g l r).enc.length = 1 + l.enc.length + r.enc.length := by simp [BT.enc]; omega
    have IHl := Lib.hid ihl
    have IHr := Lib.hid ihr
    have HLL := Lib.hid (show l.enc.length ≤ 2000 by omega)
    have HLR := Lib.hid (show r.enc.length ≤ 2000 by omega)
    have h1 : 1 ≤ (BT.node k v s n g l r).enc.length := by omega
    have HOF := Lib.hid (show (BT.node k v s n g l r).kvs = l.kvs ++ (k, v) :: r.kvs from rfl)
    obtain ⟨a, c, rfl⟩ := beads_slice hb
    have HP := Lib.hid hp
    clear hb hp hlen ihl ihr hl
    obtain ⟨OF, hOF⟩ : ∃ OF, OF = (BT.node k v s n g l r).kvs := ⟨_, rfl⟩
    rw [← hOF] at HOF ⊢
    clear hOF
    generalize (BT.node k v s n g l r).enc.length = LL at *
    go_enter Tryz.func25, Tryz.ntmps25
    obtain ⟨m⟩ : Nonempty Nat := ⟨0⟩
    refine (wpIn_wide (n := m)).1 ?_
    gi_wp2_with fail
    refine ⟨wide_room _, (callsIn_wide.2 (HP.out)).mono ?_⟩
    rintro e w1 ⟨v1, v2, rfl, hv1, hv2, hE⟩
    gi_wp2_with fail
    have hnew := alloc_at w1 (.cells #[.int .i64 k, .int .i64 v, .int .i64 s, .int .i64 n, .int .u64 g, .bool (!l.isNil), .bool (!r.isNil)] 68) _ rfl
    have hE2 := (Ext.refl w1).alloc (.cells #[.int .i64 k, .int .i64 v, .int .i64 s, .int .i64 n, .int .u64 g, .bool (!l.isNil), .bool (!r.isNil)] 68)
    generalize w1.alloc (.cells #[.int .i64 k, .int .i64 v, .int .i64 s, .int .i64 n, .int .u64 g, .bool (!l.isNil), .bool (!r.isNil)] 68) = w4 at *
    have h01 : Ext w w1 := hE
    have h14 : Ext w1 w4 := hE2
    have HV1 := Lib.hid (hv1.ext h14)
    have HV2 := Lib.hid hv2
    have hc0 := cell_all (cell_of hnew 0)
    have hc1 := cell_all (cell_of hnew 1)
    have hx := Ext.drew w4
    clear hv1 hv2 hE hE2 hnew
    refine wpIn_region_G (fun j => !(List.contains (α := Nat) [8] j)) (by kernel_rfl) ?_
    refine batchG hfn (fuel := 4) [0, 2, 3, 4, 5, 6] (by kernel_rfl) rfl ?_
    repeat (go_big_quiet_step ((fail)))
    refine wpQuiet_nil ?_
    clear hc0 hc1
    refine wpAnyG_two (j := 1) (k := 7) (by kernel_rfl) rfl rfl ?_ ?_
    · gi_wp2_with fail
      refine ⟨wide_room _, (callsIn_wide.2 (IHl.out w4.drew v1 (HV1.out.ext hx) HLL.out)).mono ?_⟩
      rintro e w5 ⟨v3, rfl, hv3, h45'⟩
      gi_wp2_with fail
      refine onePost_ext (h45') ?_
      have h45 := hx.trans h45'
      refine wpAnyG_one (j := 7) (by kernel_rfl) rfl ?_
      gi_wp2_with fail
      have h15 := h14.trans h45
      have hrow := (pown_new (B := w1.heap.size) (w := w5) (k, v) h15.size).row
      refine onePost_ext ((Ext.refl w5).alloc _) ?_
      have h56 := (Ext.refl w5).alloc (.cells #[.int .i64 k, .int .i64 v] 52)
      have h16 : Ext w1 (w5.alloc (.cells #[.int .i64 k, .int .i64 v] 52)) := h15.trans h56
      have hownl := (hv3.mono (h14.trans hx).size).ext h56
      (try simp only at hrow)
      generalize w5.alloc (.cells #[.int .i64 k, .int .i64 v] 52) = w6 at *
      generalize w5.heap.size = N5 at *
      clear hv3 h56 h45 h45' hx h15
      refine wpAnyG_one (j := 8) (by kernel_rfl) rfl ?_
      refine wpListIn_append_pairs (B := w1.heap.size) (zs := l.kvs) (ys := [(k, v)]) rfl (.tmp 17) (.tmp 23) rfl rfl rfl hownl hrow (by rw [BT.kvs_len]; have := HLL.out; simp; omega) h16.size hfn ?_
      intro v4 w7 hown7 hg7
      have h17 : Ext w1 w7 := pgrown_ext h16 hownl hg7
      simp only [Act.put, List.setIfInBounds_toArray, List.set_cons_zero, List.set_cons_succ]
      refine wpListIn_nil ?_
      refine onePost_any (by kernel_rfl) ?_
      clear hg7 hownl hrow h16
      refine batchG hfn (fuel := 0) [9] (by kernel_rfl) rfl ?_
      repeat (go_big_quiet_step ((fail)))
      refine wpQuiet_nil ?_
      refine wpAnyG_done (by kernel_rfl) ?_
      refine calmQ_normal ?_
      gi_wp2_with fail
      refine ⟨wide_room _, (callsIn_wide.2 (IHr.out w7 v2 (HV2.out.ext h17) HLR.out)).mono ?_⟩
      rintro e w8 ⟨v5, rfl, hv5, h78⟩
      have hown8 := hown7.ext h78
      have hb8 := hv5.row
      have h18 := h17.trans h78
      clear hown7 hv5 h78 h17
      gi_wp2_with (refine wpListIn_append_pairs (B := w1.heap.size) rfl (.tmp 25) (.tmp 27) rfl rfl rfl hown8 hb8 ?c1 h18.size hfn ?_)
      case c1 =>
        rw [List.length_append, BT.kvs_len, BT.kvs_len]
        have := HLL.out
        have := HLR.out
        simp
        omega
      intro v6 w9 hown9 hg9
      have h19 : Ext w1 w9 := pgrown_ext h18 hown8 hg9
      clear hg9 hown8 hb8
      gi_wp2
      go_ret
      refine ⟨_, rfl, ?_, h01.trans h19⟩
      rw [HOF.out]
      have := hown9.mono h01.size
      simpa using this
    · gi_wp2_with fail
      have hrow := ((pown_new (B := w1.heap.size) (w := w4) (k, v) h14.size).row).ext (Ext.drew _)
      have h45 := ((Ext.refl w4).alloc (.cells #[.int .i64 k, .int .i64 v] 52)).trans (Ext.drew _)
      refine onePost_ext ((Ext.refl w4.drew).alloc _) ?_
      clear hx
      refine wpAnyG_one (j := 1) (by kernel_rfl) rfl ?_
      gi_wp2_with fail
      (try simp only at hrow)
      generalize (w4.alloc (.cells #[.int .i64 k, .int .i64 v] 52)).drew = w5 at *
      generalize w4.heap.size = N5 at *
      refine ⟨wide_room _, (callsIn_wide.2 (IHl.out w5 v1 (HV1.out.ext h45) HLL.out)).mono ?_⟩
      rintro e w6 ⟨v3, rfl, hv3, h56⟩
      gi_wp2_with fail
      refine onePost_ext (h56) ?_
      have hownl := hv3.mono (h14.trans h45).size
      have hrow := hrow.ext h56
      have h16 : Ext w1 w6 := (h14.trans h45).trans h56
      clear hv3 h56 h45
      refine wpAnyG_one (j := 8) (by kernel_rfl) rfl ?_
      refine wpListIn_append_pairs (B := w1.heap.size) (zs := l.kvs) (ys := [(k, v)]) rfl (.tmp 17) (.tmp 23) rfl rfl rfl hownl hrow (by rw [BT.kvs_len]; have := HLL.out; simp; omega) h16.size hfn ?_
      intro v4 w7 hown7 hg7
      have h17 : Ext w1 w7 := pgrown_ext h16 hownl hg7
      simp only [Act.put, List.setIfInBounds_toArray, List.set_cons_zero, List.set_cons_succ]
      refine wpListIn_nil ?_
      refine onePost_any (by kernel_rfl) ?_
      clear hg7 hownl hrow h16
      refine batchG hfn (fuel := 0) [9] (by kernel_rfl) rfl ?_
      repeat (go_big_quiet_step ((fail)))
      refine wpQuiet_nil ?_
      refine wpAnyG_done (by kernel_rfl) ?_
      refine calmQ_normal ?_
      gi_wp2_with fail
      refine ⟨wide_room _, (callsIn_wide.2 (IHr.out w7 v2 (HV2.out.ext h17) HLR.out)).mono ?_⟩
      rintro e w8 ⟨v5, rfl, hv5, h78⟩
      have hown8 := hown7.ext h78
      have hb8 := hv5.row
      have h18 := h17.trans h78
      clear hown7 hv5 h78 h17
      gi_wp2_with (refine wpListIn_append_pairs (B := w1.heap.size) rfl (.tmp 25) (.tmp 27) rfl rfl rfl hown8 hb8 ?c1 h18.size hfn ?_)
      case c1 =>
        rw [List.length_append, BT.kvs_len, BT.kvs_len]
        have := HLL.out
        have := HLR.out
        simp
        omega
      intro v6 w9 hown9 hg9
      have h19 : Ext w1 w9 := pgrown_ext h18 hown8 hg9
      clear hg9 hown8 hb8
      gi_wp2
      go_ret
      refine ⟨_, rfl, ?_, h01.trans h19⟩
      rw [HOF.out]
      have := hown9.mono h01.size
      simpa using this
set_option maxHeartbeats 1000000 in
theorem samePairs_any (w : World) (p q : Value) (zs : List (Int × Int)) (hp : PRow w p zs) (hq : PRow w q zs) (hl : zs.length ≤ 5000) : Calls Tryz.prog 24 #[p, q] w (Ret (.bool true) w) := by
  rcases hp with ⟨h0, a, c, rfl⟩ | ⟨b, o, c, rfl, hne, hc, hr⟩
  · subst h0
    obtain ⟨a2, c2, rfl⟩ := prow_slice hq
    rw [show ([] : List (Int × Int)).length = 0 from rfl]
    clear hq hl
    go_enter Tryz.func24, Tryz.ntmps24
    go_wp2
    go_loop [5] (fun i => i = .int .i64 0) (fun _ => 0)
    case atStart => rfl
    case round =>
      subst hrel
      go_wp2
      go_ret
      exact Ret.mk (Ext.refl _)
  · rcases hq with ⟨h0, _⟩ | ⟨b2, o2, c2, rfl, _, hc2, hr2⟩
    · exact (hne h0).elim
    · have H := Lib.hid hr
      have H2 := Lib.hid hr2
      clear hr hr2 hne
      go_enter Tryz.func24, Tryz.ntmps24
      go_wp2
      go_loopw [5] (fun i W => Ext w W ∧ ∃ k : Nat, k ≤ zs.length ∧ i = .int .i64 k) (fun i _ => zs.length - (intOf i).toNat)
      case atStart => exact ⟨Ext.refl _, 0, Nat.zero_le _, rfl⟩
      case round =>
        obtain ⟨hX, k, hk, rfl⟩ := hrel
        by_cases hlt : k < zs.length
        · obtain ⟨z, hz⟩ : ∃ z, zs[k]? = some z := ⟨_, List.getElem?_eq_getElem hlt⟩
          obtain ⟨z0, z1⟩ := z
          have c0 : wr.cell? ⟨b, o + k * 2, none⟩ = some (.int .i64 z0) := pair_cell (rangeAt_ext H.out hX) hz (j := 0) rfl
          have c1 : wr.cell? ⟨b, o + k * 2 + 1, none⟩ = some (.int .i64 z1) := pair_cell (rangeAt_ext H.out hX) hz (j := 1) rfl
          have d0 : wr.cell? ⟨b2, o2 + k * 2, none⟩ = some (.int .i64 z0) := pair_cell (rangeAt_ext H2.out hX) hz (j := 0) rfl
          have d1 : wr.cell? ⟨b2, o2 + k * 2 + 1, none⟩ = some (.int .i64 z1) := pair_cell (rangeAt_ext H2.out hX) hz (j := 1) rfl
          clear hz
          go_wp2_with fail
          go_region
          go_wp2
          go_roundw
          case rel => exact ⟨by first | exact hX | exact hX.trans (Ext.drew _), k + 1, by omega, by go_num⟩
          case measure => simp [intOf]; omega
        · go_wp2
          go_ret
          exact Ret.mk hX
end Go.Proofs.YtoiohjifjmejkaaGreat
