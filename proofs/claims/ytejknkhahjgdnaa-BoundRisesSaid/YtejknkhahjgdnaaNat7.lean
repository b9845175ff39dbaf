/- Rows of bytes that a call owns; slices.Reverse at bytes; ten-digits (plain). -/
import Derived.Test.YtejknkhahjgdnaaNat6
import Derived.Laws.BytesArg
import Derived.Maps.AppendAt
namespace Go.Proofs.Ytejknkhahjgdnaa
open Go Go.RowKit

/-- a number's ten-digits, the lowest one first. -/
def decF : Nat → Nat → List Nat
  | 0, _ => []
  | f + 1, n => if n < 10 then [n] else n % 10 :: decF f (n / 10)
def decs (n : Nat) : List Nat := decF (n + 1) n
theorem decF_more : ∀ (f n : Nat), n < f → ∀ g, n < g → decF f n = decF g n
  | 0, _, h, _, _ => absurd h (Nat.not_lt_zero _)
  | f + 1, n, h, 0, h' => absurd h' (Nat.not_lt_zero _)
  | f + 1, n, h, g + 1, h' => by
    rw [decF, decF]
    split
    · rfl
    · rw [decF_more f (n / 10) (by omega) g (by omega)]
theorem decs_eq (n : Nat) : decs n = if n < 10 then [n] else n % 10 :: decs (n / 10) := by
  unfold decs
  rw [decF]
  split
  · rfl
  · rw [decF_more n (n / 10) (by omega) (n / 10 + 1) (by omega)]
theorem decs_lt (n : Nat) : ∀ d ∈ decs n, d < 10 := by
  induction n using Nat.strongRecOn with
  | ind n ih =>
    intro d hd
    rw [decs_eq] at hd
    split at hd
    · simp at hd; omega
    · rcases List.mem_cons.1 hd with rfl | hd
      · omega
      · exact ih (n / 10) (by omega) d hd
/-- what there is of the digits, while they are told. -/
def Digs (n : Nat) (D : List Nat) (N : Nat) : Prop := (D = [] ∧ N = n) ∨ (D ≠ [] ∧ D ++ (if N = 0 then [] else decs N) = decs n)
theorem digs_step {n N : Nat} {D : List Nat} (h : Digs n D N) (h0 : N ≠ 0 ∨ D = []) : Digs n (D ++ [N % 10]) (N / 10) := by
  right
  refine ⟨by simp, ?_⟩
  have e : decs N = [N % 10] ++ (if N / 10 = 0 then [] else decs (N / 10)) := by
    rw [decs_eq]
    by_cases h : N < 10
    · rw [if_pos h, if_pos (by omega), Nat.mod_eq_of_lt h]; rfl
    · rw [if_neg h, if_neg (by omega)]; rfl
  rcases h with ⟨rfl, rfl⟩ | ⟨h1, h2⟩
  · rw [List.nil_append, ← e]
  · rcases h0 with h0 | h0
    · rw [if_neg h0, e, ← List.append_assoc] at h2
      exact h2
    · exact absurd h0 h1
theorem digs_end {n : Nat} {D : List Nat} (h : Digs n D 0) (h1 : D ≠ []) : D = decs n := by
  rcases h with ⟨h, _⟩ | ⟨_, h⟩
  · exact absurd h h1
  · simpa using h
/-- the round of a division by ten. -/
theorem div_step {es : List Nat} {L m c Td : Nat} (hm : m < L) (hL : L ≤ es.length) (h : Td + 9 * nval (es.take (m + 1)) = 10 * nval (es.take L) + c * beta ^ (m + 1)) :
    let s := c * beta + es.getD m 0
    Td + 9 * nval ((es.set m (s / 10)).take m) = 10 * nval ((es.set m (s / 10)).take L) + (s % 10) * beta ^ m := by
  intro s
  have e1 : (es.set m (s / 10)).take m = es.take m := by
    apply List.ext_getElem?
    intro i
    rw [List.getElem?_take, List.getElem?_take]
    split
    · rw [List.getElem?_set_ne (by omega)]
    · rfl
  have e2 : (es.set m (s / 10)).take L = (es.take L).set m (s / 10) := by
    apply List.ext_getElem?
    intro i
    simp only [List.getElem?_take, List.getElem?_set, List.length_take]
    repeat' split
    all_goals first | rfl | omega
  have e3 := nval_set (es.take L) m (s / 10) (by rw [List.length_take]; omega)
  have e4 : (es.take L).getD m 0 = es.getD m 0 := by rw [List.getD_eq_getElem?_getD, List.getElem?_take, if_pos hm, ← List.getD_eq_getElem?_getD]
  rw [e4] at e3
  rw [nval_take es m (by omega), Nat.pow_succ] at h
  rw [e1, e2]
  have hs := Nat.mod_add_div s 10
  have hse : c * (beta ^ m * beta) + beta ^ m * es.getD m 0 = beta ^ m * (s % 10) + 10 * (beta ^ m * (s / 10)) := by
    have : c * (beta ^ m * beta) + beta ^ m * es.getD m 0 = beta ^ m * s := by
      show _ = beta ^ m * (c * beta + es.getD m 0)
      rw [Nat.mul_add]
      congr 1
      rw [Nat.mul_comm (beta ^ m) beta, ← Nat.mul_assoc, Nat.mul_comm (beta ^ m)]
    rw [this, Nat.mul_left_comm 10, ← Nat.mul_add, hs]
  rw [Nat.mul_comm (s % 10)]
  generalize beta ^ m * (s % 10) = X at *
  generalize beta ^ m * (s / 10) = Y at *
  generalize beta ^ m * es.getD m 0 = Z at *
  generalize c * (beta ^ m * beta) = W at *
  generalize nval (es.take m) = A at *
  generalize nval ((es.take L).set m (s / 10)) = B at *
  generalize nval (es.take L) = C at *
  omega
def by8 (d : Nat) : Value := .int .u8 (d : Int)
/-- a row of bytes that was made since the heap had B blocks. -/
def DOwn (B : Nat) (w : World) (v : Value) (zs : List Nat) : Prop := w.ownsRow B 5 1 v zs.length (zs.map by8)
theorem DOwn.nil (B : Nat) (w : World) : DOwn B w (.slice none 0 0) [] := ⟨rfl, .inl ⟨rfl, rfl⟩⟩
theorem DOwn.slice {B : Nat} {w : World} {v : Value} {zs : List Nat} (h : DOwn B w v zs) : ∃ a c, v = .slice a zs.length c := by
  obtain ⟨h1, ⟨rfl, h0⟩ | ⟨g, cap, cur, rfl, _⟩⟩ := h
  · exact ⟨none, 0, by rw [h0]⟩
  · exact ⟨_, _, rfl⟩
theorem DOwn.kept {B g : Nat} {w w' : World} {v : Value} {zs : List Nat} (h : DOwn B w v zs) (hO : Only g w w') (hg : v.ownBlock ≠ some g) : DOwn B w' v zs := by
  obtain ⟨h1, h | ⟨b, cap, cur, hv, hb, hh, hc⟩⟩ := h
  · exact ⟨h1, .inl h⟩
  · exact ⟨h1, .inr ⟨b, cap, cur, hv, hb, hO.2 b _ (fun e => hg (by rw [hv, ← e]; rfl)) hh, hc⟩⟩
theorem DOwn.ext {B : Nat} {w w' : World} {v : Value} {zs : List Nat} (h : DOwn B w v zs) (e : Ext w w') : DOwn B w' v zs := by
  obtain ⟨h1, h | ⟨g, cap, cur, hv, hb, hg, hc⟩⟩ := h
  · exact ⟨h1, .inl h⟩
  · exact ⟨h1, .inr ⟨g, cap, cur, hv, hb, (e.block g (lt_of hg)).trans hg, hc⟩⟩
theorem u8_info : ∃ i : TypeInfo, Try.prog.info? 5 = some i ∧ i.zero = some (.int .u8 0) ∧ i.size = 1 ∧ i.bytes = 1 := by
  have h : (Try.prog.info? 5).map (fun i => (i.zero, i.size, i.bytes)) = some (some (.int .u8 0), 1, 1) := by kernel_rfl
  cases hi : Try.prog.info? 5 with
  | none => rw [hi] at h; cases h
  | some i =>
    rw [hi] at h
    simp only [Option.map_some, Option.some.injEq, Prod.mk.injEq] at h
    exact ⟨i, rfl, h.1, h.2.1, h.2.2⟩
/-- a byte is put behind a row. -/
theorem wpList_append_byte {ops : Array Oper} {rest : List Oper} {o : Oper} {a : Act} {Q : Exit → Act → World → Prop} (hgd : o.guard = none) (s x : Operand) (ho : o.op = .call { callee := .builtin .append, args := #[s, x], argTypes := #[39, 39] })
    {B : Nat} {w : World} {v : Value} {zs : List Nat} {d b : Nat} (hs : a.eval s = v) (hx : a.eval x = .slice (some ⟨b, 0, none⟩) 1 1) (hv : DOwn B w v zs) (hb : w.cell? ⟨b, 0, none⟩ = some (.int .u8 (d : Nat))) (hlen : zs.length ≤ 10000) (hB : B ≤ w.heap.size)
    (h : ∀ v' w', DOwn B w' v' (zs ++ [d]) → w.grownBy w' v.ownBlock → (v'.ownBlock = v.ownBlock ∨ v'.ownBlock = some w.heap.size) → wpList Try.prog ops Q rest (a.put o.dst v') w') : wpList Try.prog ops Q (o :: rest) a w := by
  refine wpList_plain hgd fun K hK => ?_
  obtain ⟨i, hi, hz, hsz, hby⟩ := u8_info
  have hml : (20000 : Nat) ≤ maxLen := by decide
  obtain ⟨v', w', hr, h2, h3, _, h4⟩ := run_append_own_at (P := Try.prog) w B _ o.type _ i _ 1 1 Try.underlying39 hi hz hsz hby rfl (by omega) v zs.length (zs.map by8) hv ⟨b, 0, none⟩ 1 1 [by8 d] rfl
    (fun j u hj => by
      rcases j with _ | j
      · simp at hj; subst hj; rw [Addr.add_mid]; simpa [by8] using hb
      · simp at hj) (fun u hu => by simp at hu; subst hu; rfl) (by omega) (by omega) hB
  unfold Oper.wp execOp
  simp only [ho, resolve, invoke, builtin, Sem.run_bind, Sem.run_pure, Result.andThen_ok, List.map_toArray, List.map_cons, List.map_nil, hs, hx, hr]
  refine hK _ _ (h v' w' ?_ h3 h4)
  show w'.ownsRow _ _ _ _ _ _
  rw [List.length_append, List.map_append]
  exact h2
/-- a row, of which the first n stand the other way round, so many at either end. -/
def RevV (cs es : List Value) (n k : Nat) : Prop := es.length = cs.length ∧ ∀ p, p < n → es[p]? = if p < k ∨ n ≤ p + k then cs[n - 1 - p]? else cs[p]?
theorem revV_step {cs es : List Value} {n k : Nat} {x y : Value} (h : RevV cs es n k) (hn : n ≤ cs.length) (hk : k < n - 1 - k) (hx : cs[k]? = some x) (hy : cs[n - 1 - k]? = some y) : RevV cs ((es.set k y).set (n - 1 - k) x) n (k + 1) := by
  obtain ⟨h1, h2⟩ := h
  refine ⟨by simp [h1], fun p hp => ?_⟩
  rw [List.getElem?_set, List.getElem?_set]
  by_cases e1 : n - 1 - k = p
  · rw [if_pos e1, if_pos (by simp; omega), if_pos (by omega), show n - 1 - p = k by omega, hx]
  · rw [if_neg e1]
    by_cases e2 : k = p
    · rw [if_pos e2, if_pos (by omega), if_pos (by omega), ← e2, hy]
    · rw [if_neg e2, h2 p hp]
      by_cases e3 : p < k ∨ n ≤ p + k
      · rw [if_pos e3, if_pos (by omega)]
      · rw [if_neg e3, if_neg (by omega)]
theorem revV_end {cs es : List Value} {n k : Nat} (h : RevV cs es n k) (hn : n ≤ cs.length) (hk : ¬ k < n - 1 - k) (hk2 : 2 * k ≤ n) : es.take n = (cs.take n).reverse := by
  obtain ⟨h1, h2⟩ := h
  apply List.ext_getElem?
  intro p
  rcases Nat.lt_or_ge p n with hp | hp
  · have e1 : (es.take n)[p]? = es[p]? := by rw [List.getElem?_take, if_pos hp]
    have hlt : n - 1 - p < n := by omega
    have e2 : (cs.take n).reverse[p]? = cs[n - 1 - p]? := by
      rw [List.getElem?_reverse (by rw [List.length_take, Nat.min_eq_left hn]; exact hp), List.length_take, Nat.min_eq_left hn, List.getElem?_take, if_pos hlt]
    rw [e1, e2, h2 p hp]
    split
    · rfl
    · rename_i h3
      have h4 : n - 1 - p = p := by omega
      rw [h4]
  · rw [List.getElem?_eq_none (by rw [List.length_take]; omega), List.getElem?_eq_none (by rw [List.length_reverse, List.length_take]; omega)]
set_option maxHeartbeats 2000000 in
theorem reverseB_any (w : World) (g n c : Nat) (cs : List Value) (zs : List Nat) (hU : w.heap[g]? = some (.cells cs.toArray 5 (0, 0))) (hz : cs.take n = zs.map by8) (hzl : zs.length = n) (hc : n ≤ cs.length) (hl : n ≤ 20000) : Calls Try.prog 80 #[.slice (some ⟨g, 0, none⟩) n c] w fun e w' =>
    (∃ v, e = .returned v) ∧ (∃ es : List Value, w'.heap[g]? = some (.cells es.toArray 5 (0, 0)) ∧ es.take n = zs.reverse.map by8) ∧ Only g w w' := by
  have HU := Lib.hid hU
  have HL := Lib.hid (And.intro hl (And.intro hc (And.intro hz hzl)))
  have hl' : (n : Int) ≤ 20000 := by omega
  clear hU hl hc hz hzl
  go_enter Try.func80, Try.ntmps80
  go_wp2_with fail
  go_loopw [2, 3] (fun i j W => ∃ (k : Nat) (es : List Value), i = .int .i64 (k : Nat) ∧ j = .int .i64 ((n : Int) - 1 - (k : Nat)) ∧ Hid (W.heap[g]? = some (.cells es.toArray 5 (0, 0))) ∧ Only g w W ∧ Hid (RevV cs es n k ∧ 2 * k ≤ n)) (fun i _ _ => n - (intOf i).toNat)
  case atStart => exact ⟨0, cs, rfl, by simp, HU.out, Only.refl _ _, Lib.hid ⟨⟨rfl, fun p hp => by rw [if_neg (by omega)]⟩, by omega⟩⟩
  case round =>
    obtain ⟨k, es, rfl, rfl, HU2, hO, HH⟩ := hrel
    by_cases hk : k < n - 1 - k
    · obtain ⟨m, hm⟩ : ∃ m, n - 1 - k = m := ⟨_, rfl⟩
      have hj : (n : Int) - 1 - k = (m : Int) := by omega
      have hkn : k < n := by omega
      have hmn : m < n := by omega
      have hcell : ∀ p, p < n → cs[p]? = some (by8 (zs.getD p 0)) := fun p hp => by
        have h1 : (cs.take n)[p]? = cs[p]? := by rw [List.getElem?_take, if_pos hp]
        rw [← h1, HL.out.2.2.1, List.getElem?_map, List.getD_eq_getElem?_getD, List.getElem?_eq_getElem (by rw [HL.out.2.2.2]; exact hp)]
        rfl
      have hx := hcell k hkn
      have hy := hcell m hmn
      have HST := Lib.hid (revV_step HH.out.1 HL.out.2.1 hk hx (by rw [hm]; exact hy))
      rw [hm] at HST hk
      have ck := cell_of HU2.out k
      have cm := cell_of HU2.out m
      have fk := frozen_of HU2.out k
      have fm := frozen_of HU2.out m
      rw [List.getElem?_toArray, HH.out.1.2 k hkn, if_neg (by omega), hx] at ck
      rw [List.getElem?_toArray, HH.out.1.2 m hmn, if_neg (by omega), hy] at cm
      unfold by8 at ck cm HST
      generalize zs.getD k 0 = x at *
      generalize zs.getD m 0 = y at *
      have HO := Lib.hid hO
      have HN := Lib.hid (And.intro hm (And.intro hk hmn))
      rw [hj]
      clear hO hm hj hcell hx hy
      go_wp2_with fail
      go_region
      have HU3 := Lib.hid (show ((wr.setCell ⟨g, k, none⟩ (.int .u8 (y : Nat))).setCell ⟨g, m, none⟩ (.int .u8 (x : Nat))).drew.heap[g]? = some (.cells ((es.set k (.int .u8 (y : Nat))).set m (.int .u8 (x : Nat))).toArray 5 (0, 0)) by
        show ((wr.setCell ⟨g, k, none⟩ (.int .u8 (y : Nat))).setCell ⟨g, m, none⟩ (.int .u8 (x : Nat))).heap[g]? = _
        simp [World.setCell, Array.getElem?_modify, HU2.out])
      have HO3 := Lib.hid (((HO.out.set k (.int .u8 (y : Nat))).set m (.int .u8 (x : Nat))).drew)
      clear ck cm fk fm
      generalize ((wr.setCell ⟨g, k, none⟩ (.int .u8 (y : Nat))).setCell ⟨g, m, none⟩ (.int .u8 (x : Nat))).drew = w5 at *
      go_wp2
      go_roundw
      case rel =>
        refine ⟨k + 1, _, rfl, rev_j HN.out.1 HN.out.2.1, HU3, HO3.out, Lib.hid ⟨HST.out, by have := HN.out; omega⟩⟩
      case measure => exact meas_s hkn
    · have hke := revV_end HH.out.1 HL.out.2.1 hk HH.out.2
      have HKE := Lib.hid hke
      have HO := Lib.hid hO
      have hkj : ¬ (k : Int) < (n : Int) - 1 - k := by omega
      clear hO hk hke
      go_wp2
      go_end0
      exact ⟨⟨_, rfl⟩, ⟨es, HU2.out, by rw [HKE.out, HL.out.2.2.1]⟩, HO.out⟩
end Go.Proofs.Ytejknkhahjgdnaa
