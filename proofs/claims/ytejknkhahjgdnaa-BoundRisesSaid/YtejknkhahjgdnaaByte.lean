/- joineryref07: rows of integers; trim, at, bytes. -/
import Derived.Test.YtejknkhahjgdnaaByteLaw
import Derived.Test.YtejknkhahjgdnaaNat4
import Derived.Maps.AppendAt
namespace Go.Proofs.Ytejknkhahjgdnaa
open Go Go.RowKit

def i64 (d : Nat) : Value := .int .i64 (d : Int)
/-- a row of integers: empty, whatever its address; or laid at an address. -/
def IRow (w : World) (v : Value) (xs : List Nat) : Prop :=
  (xs = [] ∧ ∃ a c, v = .slice a 0 c) ∨ ∃ b o c, v = .slice (some ⟨b, o, none⟩) xs.length c ∧ xs ≠ [] ∧ xs.length ≤ c ∧ w.rangeAt b o (xs.map i64)
theorem IRow.ext {w w' : World} {v : Value} {xs : List Nat} (h : IRow w v xs) (e : Ext w w') : IRow w' v xs := by
  rcases h with h | ⟨b, o, c, h0, h1, h2, h3⟩
  · exact .inl h
  · exact .inr ⟨b, o, c, h0, h1, h2, rangeAt_ext' h3 e⟩
theorem IRow.slice {w : World} {v : Value} {xs : List Nat} (h : IRow w v xs) : ∃ a c, v = .slice a xs.length c := by
  rcases h with ⟨rfl, a, c, rfl⟩ | ⟨b, o, c, h0, _⟩
  · exact ⟨a, c, rfl⟩
  · exact ⟨_, c, h0⟩
/-- an element of a row. -/
theorem irow_cell {w : World} {b o : Nat} {xs : List Nat} (h : w.rangeAt b o (xs.map i64)) (k : Nat) (hk : k < xs.length) : w.cell? ⟨b, o + k, none⟩ = some (.int .i64 (xs.getD k 0 : Nat)) := by
  refine h k _ ?_
  rw [List.getElem?_map, List.getD_eq_getElem?_getD, List.getElem?_eq_getElem hk]
  rfl
/-- the first ones of a row. -/
theorem IRow.take {w : World} {a : Option Addr} {n c : Nat} {xs : List Nat} (h : IRow w (.slice a n c) xs) (k : Nat) (hk : k ≤ xs.length) : IRow w (.slice a k c) (xs.take k) := by
  rcases h with ⟨rfl, a', c', e⟩ | ⟨b, o, c', e, h1, h2, h3⟩
  · cases e
    obtain rfl : k = 0 := by simpa using hk
    exact .inl ⟨rfl, _, _, rfl⟩
  · cases e
    by_cases h0 : k = 0
    · subst h0; exact .inl ⟨by simp, _, _, rfl⟩
    · refine .inr ⟨b, o, c, by rw [List.length_take, Nat.min_eq_left hk], ?_, by rw [List.length_take]; omega, ?_⟩
      · intro e
        have := congrArg List.length e
        rw [List.length_take, List.length_nil] at this
        have h1' := List.length_pos_iff.2 h1
        omega
      · intro q u hq
        rw [List.map_take, List.getElem?_take] at hq
        split at hq
        · exact h3 q u hq
        · cases hq
set_option maxHeartbeats 1000000 in
theorem btrim_any (w : World) (a : Option Addr) (c : Nat) (xs : List Nat) (h : IRow w (.slice a xs.length c) xs) (hl : xs.length ≤ 20000) : Calls Try.prog 97 #[.slice a xs.length c] w (Trims a xs c w) := by
  have HL := Lib.hid hl
  have H := Lib.hid h
  clear h
  go_enter Try.func97, Try.ntmps97
  go_wp2_with fail
  clear hl
  go_loopw [3] (fun v W => W = w ∧ ∃ k : Nat, v = .int .i64 (k : Nat) ∧ Hid (k ≤ xs.length ∧ ∀ j, k ≤ j → xs.getD j 0 = 0)) (fun v _ => (intOf v).toNat)
  case atStart => exact ⟨rfl, xs.length, rfl, Lib.hid ⟨Nat.le_refl _, fun j hj => getD_past xs j hj⟩⟩
  case round =>
    obtain ⟨rfl, k, rfl, HK⟩ := hrel
    by_cases h0 : k = 0
    · subst h0
      go_wp2
      go_ret
      exact ⟨0, rfl, HK.out.1, HK.out.2, .inl rfl, Ext.refl _⟩
    · obtain ⟨m, rfl⟩ : ∃ m, k = m + 1 := ⟨k - 1, by omega⟩
      clear h0
      have hm : m < xs.length := HK.out.1
      have hm2 : m < 20000 := Nat.lt_of_lt_of_le hm HL.out
      rcases H.out with ⟨h, _⟩ | ⟨b, o, c', hv, _, h2, h3⟩
      · exact absurd h (by intro e; rw [e] at hm; exact absurd hm (Nat.not_lt_zero _))
      · obtain ⟨rfl, rfl⟩ : a = some ⟨b, o, none⟩ ∧ c = c' := by cases hv; exact ⟨rfl, rfl⟩
        have hc := irow_cell h3 m hm
        have hcap : m + 1 ≤ c := by omega
        clear hv h2 h3
        by_cases hz : xs.getD m 0 = 0
        · rw [hz] at hc
          have HZ := Lib.hid hz
          clear hz
          go_wp2
          go_roundw
          case rel =>
            exact ⟨trivial, m, by first | rfl | (congr 1; omega), Lib.hid ⟨Nat.le_of_lt hm, fun j hj => by
              rcases Nat.eq_or_lt_of_le hj with e | e
              · rw [← e]; exact HZ.out
              · exact HK.out.2 j e⟩⟩
          case measure => simp [intOf]
        · have HZ := Lib.hid hz
          obtain ⟨d, hd⟩ : ∃ d, xs.getD m 0 = d := ⟨_, rfl⟩
          rw [hd] at hc hz
          have hz' : ¬ (d : Int) = 0 := by omega
          have hz2 : ((d : Int) == 0) = false := by simpa using hz
          clear hz hd
          go_wp2
          go_ret
          exact ⟨m + 1, rfl, HK.out.1, HK.out.2, .inr HZ.out, Ext.refl _⟩
set_option maxHeartbeats 1000000 in
theorem at07_any (w : World) (p : Value) (xs : List Nat) (i : Nat) (h : IRow w p xs) (hl : xs.length ≤ 20000) : Calls Try.prog 79 #[p, .int .i64 (i : Nat)] w fun e w' => e = .returned (.int .i64 ((xs.getD i 0 : Nat) : Int)) ∧ w = w' := by
  obtain ⟨a, c, rfl⟩ := h.slice
  by_cases hk : i < xs.length
  · rcases h with ⟨rfl, _⟩ | ⟨b, o, c', hv, _, h2, h3⟩
    · exact absurd hk (Nat.not_lt_zero _)
    · obtain ⟨rfl, rfl⟩ : a = some ⟨b, o, none⟩ ∧ c = c' := by cases hv; exact ⟨rfl, rfl⟩
      have hc := irow_cell h3 i hk
      generalize xs.getD i 0 = x at *
      clear hv h3
      go_enter Try.func79, Try.ntmps79
      go_wp2
      go_ret
      exact ⟨rfl, rfl⟩
  · rw [getD_past xs i (Nat.le_of_not_lt hk)]
    clear h
    go_enter Try.func79, Try.ntmps79
    go_wp2
    go_ret
    exact ⟨rfl, rfl⟩
/-- one more cell behind a row of one's own. -/
theorem wpList_append_one {T E : TypeId} {zv : Value} {by' : Nat} (hT : Try.prog.underlying T = some (.slice E)) (hI : (Try.prog.info? E).map (fun i => (i.zero, i.size, i.bytes)) = some (some zv, 1, by')) (hzc : zv.cells.size = 1) (hby' : by' ≤ 8)
    {ops : Array Oper} {rest : List Oper} {o : Oper} {a : Act} {Q : Exit → Act → World → Prop} (hgd : o.guard = none) (s x : Operand) (ho : o.op = .call { callee := .builtin .append, args := #[s, x], argTypes := #[T, T] })
    {B : Nat} {w : World} {v u : Value} {n : Nat} {cs : List Value} {b : Nat} (hs : a.eval s = v) (hx : a.eval x = .slice (some ⟨b, 0, none⟩) 1 1) (hv : w.ownsRow B E 1 v n cs) (hb : w.cell? ⟨b, 0, none⟩ = some u) (hu : u.oneCell' = true) (hlen : n ≤ 20000) (hB : B ≤ w.heap.size)
    (h : ∀ v' w', w'.ownsRow B E 1 v' (n + 1) (cs ++ [u]) → w.grownBy w' v.ownBlock → (v'.ownBlock = v.ownBlock ∨ v'.ownBlock = some w.heap.size) → wpList Try.prog ops Q rest (a.put o.dst v') w') : wpList Try.prog ops Q (o :: rest) a w := by
  refine wpList_plain hgd fun K hK => ?_
  cases hi : Try.prog.info? E with
  | none => rw [hi] at hI; cases hI
  | some i =>
    rw [hi] at hI
    simp only [Option.map_some, Option.some.injEq, Prod.mk.injEq] at hI
    have hml : (20001 : Nat) ≤ maxLen := by decide
    have hmul : (n + 1) * by' ≤ 20001 * 8 := Nat.mul_le_mul (by omega) hby'
    obtain ⟨v', w', hr, h2, h3, _, h4⟩ := run_append_own_at (P := Try.prog) w B T o.type E i zv 1 by' hT hi hI.1 hI.2.1 hI.2.2 hzc (by omega) v n cs hv ⟨b, 0, none⟩ 1 1 [u] rfl
      (fun j u' hj => by
        rcases j with _ | j
        · simp at hj; subst hj; rw [Addr.add_mid]; exact hb
        · simp at hj) (fun u' hu' => by simp at hu'; subst hu'; exact hu) (by omega) (by omega) hB
    unfold Oper.wp execOp
    simp only [ho, resolve, invoke, builtin, Sem.run_bind, Sem.run_pure, Result.andThen_ok, List.map_toArray, List.map_cons, List.map_nil, hs, hx, hr]
    exact hK _ _ (h v' w' h2 h3 h4)
/-- a row of integers that was made since the heap had B blocks. -/
def IOwn (B : Nat) (w : World) (v : Value) (zs : List Nat) : Prop := w.ownsRow B 3 1 v zs.length (zs.map i64)
theorem IOwn.nil (B : Nat) (w : World) : IOwn B w (.slice none 0 0) [] := ⟨rfl, .inl ⟨rfl, rfl⟩⟩
theorem IOwn.slice {B : Nat} {w : World} {v : Value} {zs : List Nat} (h : IOwn B w v zs) : ∃ a c, v = .slice a zs.length c := by
  obtain ⟨h1, ⟨rfl, h0⟩ | ⟨g, cap, cur, rfl, _⟩⟩ := h
  · exact ⟨none, 0, by rw [h0]⟩
  · exact ⟨_, _, rfl⟩
theorem IOwn.ext {B : Nat} {w w' : World} {v : Value} {zs : List Nat} (h : IOwn B w v zs) (e : Ext w w') : IOwn B w' v zs := by
  obtain ⟨h1, h | ⟨g, cap, cur, hv, hb, hg, hc⟩⟩ := h
  · exact ⟨h1, .inl h⟩
  · exact ⟨h1, .inr ⟨g, cap, cur, hv, hb, (e.block g (lt_of hg)).trans hg, hc⟩⟩
theorem IOwn.row {B : Nat} {w : World} {v : Value} {zs : List Nat} (h : IOwn B w v zs) : IRow w v zs := by
  obtain ⟨h1, ⟨rfl, h0⟩ | ⟨g, cap, cur, rfl, hb, hg, hc, hm, hs, ht⟩⟩ := h
  · exact .inl ⟨List.eq_nil_of_length_eq_zero h0, _, 0, rfl⟩
  · by_cases h0 : zs = []
    · subst h0; exact .inl ⟨rfl, _, _, rfl⟩
    · refine .inr ⟨g, 0, cap, rfl, h0, hc, fun j u hj => ?_⟩
      rw [Nat.zero_add, cell_of hg j]
      rw [← ht, List.getElem?_take] at hj
      split at hj
      · simpa using hj
      · cases hj
theorem IOwn.grown {w W W' : World} {v : Value} {zs : List Nat} (hE : Ext w W) (h : IOwn w.heap.size W v zs) (hg : W.grownBy W' v.ownBlock) : Ext w W' :=
  RowKit.Below.grown hE hg hE.size (fun k hk => ((World.ownsRow.lt h) k hk).1)
theorem wpList_append_int {ops : Array Oper} {rest : List Oper} {o : Oper} {a : Act} {Q : Exit → Act → World → Prop} (hgd : o.guard = none) (s x : Operand) (ho : o.op = .call { callee := .builtin .append, args := #[s, x], argTypes := #[103, 103] })
    {B : Nat} {w : World} {v : Value} {zs : List Nat} {d b : Nat} (hs : a.eval s = v) (hx : a.eval x = .slice (some ⟨b, 0, none⟩) 1 1) (hv : IOwn B w v zs) (hb : w.cell? ⟨b, 0, none⟩ = some (.int .i64 (d : Nat))) (hlen : zs.length ≤ 20000) (hB : B ≤ w.heap.size)
    (h : ∀ v' w', IOwn B w' v' (zs ++ [d]) → w.grownBy w' v.ownBlock → (v'.ownBlock = v.ownBlock ∨ v'.ownBlock = some w.heap.size) → wpList Try.prog ops Q rest (a.put o.dst v') w') : wpList Try.prog ops Q (o :: rest) a w :=
  wpList_append_one (zv := .int .i64 0) (by' := 8) Try.underlying103 (by kernel_rfl) rfl (by decide) hgd s x ho hs hx hv hb rfl hlen hB fun v' w' h1 h2 h3 => h v' w' (by
    show w'.ownsRow _ _ _ _ _ _
    rw [List.length_append, List.map_append]
    exact h1) h2 h3
/-- a row of words that was made since the heap had B blocks. -/
def UOwn (B : Nat) (w : World) (v : Value) (zs : List Nat) : Prop := w.ownsRow B 34 1 v zs.length (zs.map u32)
theorem UOwn.nil (B : Nat) (w : World) : UOwn B w (.slice none 0 0) [] := ⟨rfl, .inl ⟨rfl, rfl⟩⟩
theorem UOwn.slice {B : Nat} {w : World} {v : Value} {zs : List Nat} (h : UOwn B w v zs) : ∃ a c, v = .slice a zs.length c := by
  obtain ⟨h1, ⟨rfl, h0⟩ | ⟨g, cap, cur, rfl, _⟩⟩ := h
  · exact ⟨none, 0, by rw [h0]⟩
  · exact ⟨_, _, rfl⟩
theorem UOwn.ext {B : Nat} {w w' : World} {v : Value} {zs : List Nat} (h : UOwn B w v zs) (e : Ext w w') : UOwn B w' v zs := by
  obtain ⟨h1, h | ⟨g, cap, cur, hv, hb, hg, hc⟩⟩ := h
  · exact ⟨h1, .inl h⟩
  · exact ⟨h1, .inr ⟨g, cap, cur, hv, hb, (e.block g (lt_of hg)).trans hg, hc⟩⟩
theorem UOwn.row {B : Nat} {w : World} {v : Value} {zs : List Nat} (h : UOwn B w v zs) : URow w v zs := by
  obtain ⟨h1, ⟨rfl, h0⟩ | ⟨g, cap, cur, rfl, hb, hg, hc, hm, hs, ht⟩⟩ := h
  · exact .inl ⟨List.eq_nil_of_length_eq_zero h0, _, 0, rfl⟩
  · by_cases h0 : zs = []
    · subst h0; exact .inl ⟨rfl, _, _, rfl⟩
    · refine .inr ⟨g, 0, cap, rfl, h0, hc, fun j u hj => ?_⟩
      rw [Nat.zero_add, cell_of hg j]
      rw [← ht, List.getElem?_take] at hj
      split at hj
      · simpa using hj
      · cases hj
theorem UOwn.grown {w W W' : World} {v : Value} {zs : List Nat} (hE : Ext w W) (h : UOwn w.heap.size W v zs) (hg : W.grownBy W' v.ownBlock) : Ext w W' :=
  RowKit.Below.grown hE hg hE.size (fun k hk => ((World.ownsRow.lt h) k hk).1)
theorem wpList_append_word {ops : Array Oper} {rest : List Oper} {o : Oper} {a : Act} {Q : Exit → Act → World → Prop} (hgd : o.guard = none) (s x : Operand) (ho : o.op = .call { callee := .builtin .append, args := #[s, x], argTypes := #[23, 23] })
    {B : Nat} {w : World} {v : Value} {zs : List Nat} {d b : Nat} (hs : a.eval s = v) (hx : a.eval x = .slice (some ⟨b, 0, none⟩) 1 1) (hv : UOwn B w v zs) (hb : w.cell? ⟨b, 0, none⟩ = some (.int .u32 (d : Nat))) (hlen : zs.length ≤ 20000) (hB : B ≤ w.heap.size)
    (h : ∀ v' w', UOwn B w' v' (zs ++ [d]) → w.grownBy w' v.ownBlock → (v'.ownBlock = v.ownBlock ∨ v'.ownBlock = some w.heap.size) → wpList Try.prog ops Q rest (a.put o.dst v') w') : wpList Try.prog ops Q (o :: rest) a w :=
  wpList_append_one (zv := .int .u32 0) (by' := 4) Try.underlying23 (by kernel_rfl) rfl (by decide) hgd s x ho hs hx hv hb rfl hlen hB fun v' w' h1 h2 h3 => h v' w' (by
    show w'.ownsRow _ _ _ _ _ _
    rw [List.length_append, List.map_append]
    exact h1) h2 h3
theorem byts_snoc {zs : List Nat} {d : Nat} (h : Byts zs) (hd : d < bby) : Byts (zs ++ [d]) := fun y hy => by
  rcases List.mem_append.1 hy with h1 | h1
  · exact h y h1
  · rw [List.mem_singleton.1 h1]; exact hd
theorem bval_snoc (zs : List Nat) (d : Nat) : bval (zs ++ [d]) = bval zs + bby ^ zs.length * d := by
  rw [bval_append]; simp [bval]
/-- one byte of a word. -/
theorem bytes_step {zs : List Nat} {y V : Nat} (h : bval zs + bby ^ zs.length * y = V) : bval (zs ++ [y % bby]) + bby ^ (zs ++ [y % bby]).length * (y / bby) = V := by
  rw [bval_snoc, List.length_append, List.length_singleton, Nat.pow_succ, Nat.mul_assoc, Nat.add_assoc, ← Nat.mul_add, Nat.mod_add_div]
  exact h
theorem beta_bby (k : Nat) : beta ^ k = bby ^ (4 * k) := by rw [Nat.pow_mul]; rfl
/-- the state of bytes' outer loop. -/
def BytSt (w : World) (xs : List Nat) (v i : Value) (W : World) : Prop :=
  ∃ (zs : List Nat) (ii : Nat), i = .int .i64 (ii : Nat) ∧ IOwn w.heap.size W v zs ∧ Ext w W ∧ Hid (ii ≤ xs.length ∧ zs.length = 4 * ii ∧ Byts zs ∧ bval zs = nval (xs.take ii))
/-- the state of its inner loop. -/
def BytIn (w : World) (ii V : Nat) (v y k : Value) (W : World) : Prop :=
  ∃ (zs : List Nat) (kk yy : Nat), y = .int .u32 (yy : Nat) ∧ k = .int .i64 (kk : Nat) ∧ IOwn w.heap.size W v zs ∧ Ext w W ∧
    Hid (kk ≤ 4 ∧ zs.length = 4 * ii + kk ∧ Byts zs ∧ bval zs + bby ^ zs.length * yy = V ∧ yy < bby ^ (4 - kk))
/-- a row of bytes is handed back, whose number it is. -/
def BNum (n : Nat) (w : World) (e : Ending) (w' : World) : Prop := ∃ v bs, e = .returned v ∧ IRow w' v bs ∧ BNorm bs ∧ bval bs = n ∧ Ext w w'
theorem btrim_num (w : World) (v : Value) (xs : List Nat) (h : IRow w v xs) (hw : Byts xs) (hl : xs.length ≤ 20000) : Calls Try.prog 97 #[v] w (BNum (bval xs) w) := by
  obtain ⟨a, c, rfl⟩ := h.slice
  refine (btrim_any w a c xs h hl).mono ?_
  rintro e w1 ⟨k, rfl, h1, h2, h3, h4⟩
  obtain ⟨h5, h6⟩ := b_trim_norm hw h1 h2 h3
  exact ⟨_, xs.take k, rfl, (h.take k h1).ext h4, h5, h6, h4⟩
set_option maxRecDepth 100000 in
set_option maxHeartbeats 4000000 in
theorem bytes_any (w : World) (p : Value) (xs : List Nat) (h : URow w p xs) (hw : Words xs) (hl : xs.length ≤ 2000) : Calls Try.prog 78 #[p] w (BNum (nval xs) w) := by
  obtain ⟨a, c, rfl⟩ := h.slice
  have HP := Lib.hid h
  have HW := Lib.hid (And.intro hw hl)
  clear h hw hl
  go_enter Try.func78, Try.ntmps78
  go_wp2_with fail
  go_loopw [3, 4] (fun v i W => BytSt w xs v i W) (fun _ i _ => xs.length - (intOf i).toNat)
  case atStart => exact ⟨[], 0, rfl, IOwn.nil _ _, Ext.refl _, Lib.hid ⟨Nat.zero_le _, rfl, (fun d hd => by cases hd), by simp [bval, nval]⟩⟩
  case round =>
    obtain ⟨zs, ii, rfl, hO, hE, HH⟩ := hrel
    by_cases hi : ii < xs.length
    · have HI := Lib.hid hi
      rcases HP.out with ⟨h, _⟩ | ⟨a', o, c', hv, _, h2, h3⟩
      · rw [h] at hi; exact absurd hi (Nat.not_lt_zero _)
      · obtain ⟨rfl, rfl⟩ : a = some ⟨a', o, none⟩ ∧ c = c' := by cases hv; exact ⟨rfl, rfl⟩
        have cx := urow_cell (rangeAt_ext' h3 hE) ii hi
        have bx := words_getD HW.out.1 ii
        obtain ⟨x, hx⟩ : ∃ x, xs.getD ii 0 = x := ⟨_, rfl⟩
        have HXX := Lib.hid hx
        rw [hx] at cx bx
        have HBX := Lib.hid bx
        have HO := Lib.hid hO
        have HE := Lib.hid hE
        have hii : ii < 2000 := Nat.lt_of_lt_of_le HI.out HW.out.2
        clear hv h2 h3 hx bx hO hE
        go_wp2_with fail
        clear cx
        go_loopw [3, 5, 6] (fun v y k W => BytIn w ii (nval (xs.take ii) + beta ^ ii * x) v y k W) (fun _ _ k _ => 4 - (intOf k).toNat)
        case atStart => exact ⟨zs, 0, x, rfl, rfl, HO.out, HE.out, Lib.hid ⟨Nat.zero_le _, HH.out.2.1, HH.out.2.2.1, by rw [HH.out.2.2.2, HH.out.2.1, ← beta_bby], HBX.out⟩⟩
        case round =>
          obtain ⟨es, kk, y, rfl, rfl, hO2, hE2, HJ⟩ := hrel
          by_cases hk : kk < 4
          · have hy : y < 4294967296 := Nat.lt_of_lt_of_le HJ.out.2.2.2.2 (Nat.le_trans (Nat.pow_le_pow_right bby_pos (show 4 - kk ≤ 4 by omega)) (by decide))
            obtain ⟨va, vc, hv⟩ := hO2.slice
            subst hv
            have hA := (Ext.refl wr).alloc (.cells #[.int .i64 ((y : Int) % 256)] 3)
            have HO3 := Lib.hid (hO2.ext hA)
            have HE3 := Lib.hid (hE2.trans hA)
            have HC := Lib.hid (show (wr.alloc (.cells #[.int .i64 ((y : Int) % 256)] 3)).cell? ⟨wr.heap.size, 0, none⟩ = some (.int .i64 ((y % bby : Nat) : Int)) by
              rw [show ((y % bby : Nat) : Int) = (y : Int) % 256 by show ((y % 256 : Nat) : Int) = _; omega]
              exact cell_of (alloc_at wr (.cells #[.int .i64 ((y : Int) % 256)] 3) _ rfl) 0)
            have HLEN := Lib.hid (show es.length ≤ 20000 by have := HJ.out.2.1; have := HJ.out.1; omega)
            clear hO2 hE2 hA
            go_wp2_with (at_builtin; refine wpList_append_int (B := w.heap.size) (zs := es) (d := y % bby) (b := wr.heap.size) rfl (.tmp 21) (.tmp 25) rfl rfl rfl HO3.out HC.out HLEN.out HE3.out.size ?_)
            intro v4 w4 ho4 hg4 _
            have HE4 := Lib.hid (HO3.out.grown HE3.out hg4)
            have HO4 := Lib.hid ho4
            have HK := Lib.hid hk
            clear ho4 hg4 hk
            have e1 : (y : Int) / 256 = ((y / bby : Nat) : Int) := by show _ = ((y / 256 : Nat) : Int); omega
            have HEE := Lib.hid e1
            clear e1
            go_wp2
            go_roundw
            case rel =>
              refine ⟨es ++ [y % bby], kk + 1, y / bby, by first | rfl | (rw [HEE.out]), by go_num, HO4.out, HE4.out, Lib.hid ⟨HK.out, ?_, byts_snoc HJ.out.2.2.1 (Nat.mod_lt _ bby_pos), bytes_step HJ.out.2.2.2.1, ?_⟩⟩
              · rw [List.length_append, HJ.out.2.1]; rfl
              · have := HJ.out.2.2.2.2
                have hk := HK.out
                rw [show 4 - kk = (4 - (kk + 1)) + 1 by omega, Nat.pow_succ] at this
                exact Nat.div_lt_of_lt_mul (by rw [Nat.mul_comm]; exact this)
            case measure => exact meas_s HK.out
          · have hke : kk = 4 := Nat.le_antisymm HJ.out.1 (Nat.le_of_not_lt hk)
            subst hke
            have hy0 : y = 0 := by have := HJ.out.2.2.2.2; simpa using this
            have HEND := Lib.hid (show bval es = nval (xs.take (ii + 1)) by
              have := HJ.out.2.2.2.1
              rw [hy0, Nat.mul_zero, Nat.add_zero] at this
              rw [this, nval_take xs ii HI.out, HXX.out])
            have HO2 := Lib.hid hO2
            have HE2 := Lib.hid hE2
            clear hO2 hE2 hk hy0
            go_wp2
            go_roundw
            case rel => exact ⟨es, ii + 1, by go_num, HO2.out, HE2.out, Lib.hid ⟨HI.out, by rw [HJ.out.2.1]; omega, HJ.out.2.2.1, HEND.out⟩⟩
            case measure => exact meas_s HI.out
    · have hke : ii = xs.length := Nat.le_antisymm HH.out.1 (Nat.le_of_not_lt hi)
      have HT := Lib.hid (btrim_num wr _ zs hO.row HH.out.2.2.1 (by rw [HH.out.2.1, hke]; have := HW.out.2; omega))
      rw [HH.out.2.2.2, hke, List.take_length] at HT
      obtain ⟨va, vc, hv⟩ := hO.slice
      subst hv
      have HE := Lib.hid hE
      clear hO hE
      go_wp2_with fail
      refine HT.out.mono ?_
      rintro e w3 ⟨v, bs, rfl, h1, h2, h3, h4⟩
      have HB := Lib.hid (And.intro h1 (And.intro h2 h3))
      clear h1 h2 h3
      go_wp2
      go_ret
      exact ⟨_, bs, rfl, HB.out.1, HB.out.2.1, HB.out.2.2, HE.out.trans h4⟩
end Go.Proofs.Ytejknkhahjgdnaa
