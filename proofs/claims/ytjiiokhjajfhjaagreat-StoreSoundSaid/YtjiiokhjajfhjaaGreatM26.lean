/- wbjoin.Join, Most; joineryref19; joinerylaw19.long, alive; the walk of WbJoins. joinerylaw19.alive; joineryref19.Joined; the walk of WbJoins. Sets of nodes: maps whose keys are pointers. -/
import Derived.MapKept
import Derived.LaidEql
import Derived.Test.YtjiiokhjajfhjaaGreatM3
import Derived.Test.YtjiiokhjajfhjaaGreatM14
import Derived.Test.YtjiiokhjajfhjaaGreatM25
namespace Go.Proofs.YtjiiokhjajfhjaaGreat
open Go Go.RowKit

/-- what a join hands back. -/
def WJoins (n : Nat) (l r : Tr) (k v : Int) (w : World) (e : Ending) (w' : World) : Prop :=
  ∃ T : Tr, e = .returned (.pointer T.ptr) ∧ WJoinOk n l r k v T ∧ InH w' T ∧ Ext w w'
theorem whang0 (n : Nat) (P low t : Tr) (hlow : WbH low) (nl : low.news n = 0) (w : World) (hn : n ≤ w.heap.size) (ht : InH w t) (hP : InH w P) (hl : InH w low) (hA : WbH t) (hle : low.count ≤ t.count) (hc : t.count + low.count ≤ 90000) (nt : t.news n = 0) :
    Calls Tryz.prog 123 #[.int .i64 0, .pointer t.ptr, .pointer P.ptr, .pointer low.ptr] w (WHangs n false t low P.key P.val w) := whang_any false n P low hlow nl t w hn ht hP hl hA (.inr hle) hc nt
theorem whang1 (n : Nat) (P low t : Tr) (hlow : WbH low) (nl : low.news n = 0) (w : World) (hn : n ≤ w.heap.size) (ht : InH w t) (hP : InH w P) (hl : InH w low) (hA : WbH t) (hle : low.count ≤ t.count) (hc : t.count + low.count ≤ 90000) (nt : t.news n = 0) :
    Calls Tryz.prog 123 #[.int .i64 1, .pointer t.ptr, .pointer P.ptr, .pointer low.ptr] w (WHangs n true t low P.key P.val w) := whang_any true n P low hlow nl t w hn ht hP hl hA (.inr hle) hc nt
set_option maxHeartbeats 1000000 in
theorem wbJoin_any (n : Nat) (w : World) (l r : Tr) (k v : Int) (hn : n ≤ w.heap.size) (hl : InH w l) (hr : InH w r) (al : WbH l) (ar : WbH r) (hc : l.count + r.count ≤ 80000) (nl : l.news n = 0) (nr : r.news n = 0) :
    Calls Tryz.prog 100 #[.pointer l.ptr, .int .i64 k, .int .i64 v, .pointer r.ptr] w (WJoins n l r k v w) := by
  have AL := Lib.hid al
  have AR := Lib.hid ar
  have NL := Lib.hid nl
  have NR := Lib.hid nr
  have HC := Lib.hid hc
  have hx := Ext.refl w
  obtain ⟨p, ep⟩ : ∃ p, p = l.count + 1 := ⟨_, rfl⟩
  obtain ⟨q, eq⟩ : ∃ q, q = r.count + 1 := ⟨_, rfl⟩
  have CL := Lib.hid (show wt l = (p : Int) by rw [ep]; exact wt_count l (by omega))
  have CR := Lib.hid (show wt r = (q : Int) by rw [eq]; exact wt_count r (by omega))
  have EP := Lib.hid ep
  have EQ := Lib.hid eq
  clear al ar nl nr hc ep eq
  go_enter Tryz.func100, Tryz.ntmps100
  go_wp2_with fail
  refine (wbMake_any _ .nil .nil k v trivial trivial).mono ?_
  rintro e w3 ⟨bp, rfl, _, hP, hS⟩
  replace hx := hx.trans hS
  replace hl := hl.ext hS
  replace hr := hr.ext hS
  clear hS
  obtain ⟨P, eP⟩ : ∃ P, P = Tr.node bp .nil k v 0 .nil := ⟨_, rfl⟩
  rw [← eP] at hP ⊢
  have HPK := Lib.hid (show P.key = k ∧ P.val = v by rw [eP]; exact ⟨rfl, rfl⟩)
  clear eP
  go_wp2_with fail
  refine (wbWeight_any _ l hl).mono ?_
  rw [CL.out]
  rintro e w4 ⟨rfl, hS⟩
  replace hx := hx.trans hS
  replace hl := hl.ext hS
  replace hr := hr.ext hS
  replace hP := hP.ext hS
  clear hS
  go_wp2_with fail
  refine (wbWeight_any _ r hr).mono ?_
  rw [CR.out]
  rintro e w5 ⟨rfl, hS⟩
  replace hx := hx.trans hS
  replace hl := hl.ext hS
  replace hr := hr.ext hS
  replace hP := hP.ext hS
  clear hS
  by_cases c1 : p < q
  · have c1' : (p : Int) < (q : Int) := by omega
    have HLE := Lib.hid (show l.count ≤ r.count by have := EP.out; have := EQ.out; omega)
    go_wp2_with fail
    refine (whang0 n P l r AL.out NL.out w5 (Nat.le_trans hn hx.size) hr hP hl AR.out HLE.out (by have := HC.out; omega) NR.out).mono ?_
    rw [HPK.out.1, HPK.out.2]
    rintro e w6 ⟨T, rfl, hok, hT, hS⟩
    go_wp2
    go_ret
    exact ⟨T, rfl, wjoin_left hok HLE.out, hT, hx.trans hS⟩
  · have c1' : ¬ (p : Int) < (q : Int) := by omega
    have HLE := Lib.hid (show r.count ≤ l.count by have := EP.out; have := EQ.out; omega)
    go_wp2_with fail
    refine (whang1 n P r l AR.out NR.out w5 (Nat.le_trans hn hx.size) hl hP hr AL.out HLE.out (by have := HC.out; omega) NL.out).mono ?_
    rw [HPK.out.1, HPK.out.2]
    rintro e w6 ⟨T, rfl, hok, hT, hS⟩
    go_wp2
    go_ret
    exact ⟨T, rfl, wjoin_right hok HLE.out, hT, hx.trans hS⟩
set_option maxHeartbeats 400000 in
theorem wbMost_any (w : World) (l r : Tr) (hl : InH w l) (hr : InH w r) (hc : l.count + r.count ≤ 80000) (p q : Nat) (ep : p = Nat.log2 (l.count + 1)) (eq : q = Nat.log2 (r.count + 1)) :
    Calls Tryz.prog 104 #[.pointer l.ptr, .pointer r.ptr] w (Ret (.int .i64 (6 * ((max p q : Nat) - (min p q : Nat)) + 1)) w) := by
  have H1 := Lib.hid (wbRank_any w l (l.count + 1) hl (wt_count l (by omega)) (by omega) (by omega))
  have H2 := Lib.hid (fun W h => wbRank_any W r (r.count + 1) h (wt_count r (by omega)) (by omega) (by omega))
  rw [← ep] at H1
  rw [← eq] at H2
  have b1 : p < 100 := by rw [ep]; exact Nat.lt_of_lt_of_le ((Nat.log2_lt (by omega)).2 (show l.count + 1 < 2 ^ 20 by omega)) (by omega)
  have b2 : q < 100 := by rw [eq]; exact Nat.lt_of_lt_of_le ((Nat.log2_lt (by omega)).2 (show r.count + 1 < 2 ^ 20 by omega)) (by omega)
  have hx := Ext.refl w
  obtain ⟨M, hM⟩ : ∃ M : Int, M = (6 * ((max p q : Nat) - (min p q : Nat)) + 1 : Int) := ⟨_, rfl⟩
  rw [← hM]
  have HM := Lib.hid hM
  clear hM ep eq hc
  go_enter Tryz.func104, Tryz.ntmps104
  go_wp2_with fail
  refine (H1.out).mono ?_
  rintro e w1 ⟨rfl, hS⟩
  replace hx := hx.trans hS
  replace hr := hr.ext hS
  clear hS
  go_wp2_with fail
  refine (H2.out _ hr).mono ?_
  rintro e w2 ⟨rfl, hS⟩
  replace hx := hx.trans hS
  clear hS
  rcases Nat.lt_or_ge p q with h | h
  all_goals
    go_wp2
    all_goals
      go_ret
      exact ⟨ret_int (by rw [HM.out]; omega), hx⟩
theorem fits_wbMay : ∀ {t : BT} {A B : Tr}, t.fits A → t.fits B → wbMay A = wbMay B
  | .nil, .nil, .nil, _, _ => rfl
  | .nil, .node .., _, h, _ => h.elim
  | .nil, .nil, .node .., _, h => h.elim
  | .node .., .nil, _, h, _ => h.elim
  | .node .., .node .., .nil, _, h => h.elim
  | .node k v s n g l r, .node b L kk vv gg R, .node b' L' k' v' g' R', h, h' => by
    have l1 := fits_wbMay h.2.2.2.1 h'.2.2.2.1
    have r1 := fits_wbMay h.2.2.2.2 h'.2.2.2.2
    have eh : gg = g' := h.2.2.1.symm.trans h'.2.2.1
    subst eh
    have wl : wt L = wt L' := by
      have e : L.count = L'.count := by unfold Tr.count; rw [BT.fits_len h.2.2.2.1, BT.fits_len h'.2.2.2.1]
      unfold wt; rw [Tr.size_count, Tr.size_count, e]
    have wr : wt R = wt R' := by
      have e : R.count = R'.count := by unfold Tr.count; rw [BT.fits_len h.2.2.2.2, BT.fits_len h'.2.2.2.2]
      unfold wt; rw [Tr.size_count, Tr.size_count, e]
    have e : ∀ b l k v g r, wbOne (.node b l k v g r) = if g = 0 then (if likeB (wt l) (wt r) then 0 else 8) else 140 := fun _ _ _ _ _ _ => rfl
    rw [wbMay_node, wbMay_node, l1, r1, e, e, wl, wr]
/-- a row of beads of a tree in balance, and not too long. -/
def GoodW (zs : List BeadL) (t : BT) : Prop := t.enc = zs ∧ zs.length ≤ 400 ∧ wbMay t.tr = true
/-- what is known of a tree that is made of such a row. -/
theorem goodW_tree {zs : List BeadL} {t : BT} {A : Tr} (hg : GoodW zs t) (hf : t.fits A) : WbH A ∧ A.count ≤ 400 := by
  obtain ⟨rfl, h1, h2⟩ := hg
  have hc : A.count ≤ 400 := by unfold Tr.count; rw [BT.fits_len hf]; exact h1
  exact ⟨WbH.of_may (by rw [fits_wbMay hf t.tr_fits]; exact h2) (by omega), hc⟩
theorem wjoin_count {n : Nat} {l r T : Tr} {k v : Int} (h : WJoinOk n l r k v T) : T.count = l.count + 1 + r.count := by
  rw [← Tr.kvs_count, h.kvs, ← Tr.kvs_count, ← Tr.kvs_count]; simp; omega
theorem three_key {C : Tr} (h : WbH C) (hk : C.kvs = [(1, 10), (2, 20), (3, 30)]) : C.key = 2 := by
  cases C with
  | nil => simp [Tr.kvs] at hk
  | node b l k v g r =>
    obtain ⟨-, -, -, h4⟩ := h
    rw [Tr.kvs] at hk
    rw [← Tr.kvs_count, ← Tr.kvs_count] at h4
    unfold lk at h4
    have hlen := congrArg List.length hk
    rw [List.length_append, List.length_cons] at hlen
    simp at hlen
    rcases hl : l.kvs with _ | ⟨x, _ | ⟨y, xs⟩⟩
    · rw [hl] at h4 hlen; simp at h4 hlen; omega
    · rw [hl] at hk
      simp at hk
      exact hk.2.1.1
    · rw [hl] at h4 hlen; simp at h4 hlen; omega
end Go.Proofs.YtjiiokhjajfhjaaGreat
namespace Go.Proofs.YtjiiokhjajfhjaaGreat
open Go Go.RowKit

end Go.Proofs.YtjiiokhjajfhjaaGreat
namespace Go.Proofs.YtjiiokhjajfhjaaGreat
open Go Go.RowKit Go.Shelf

/-- the entries of a set of nodes, by their blocks. -/
def setFrom : Nat → List Nat → List MapEntry
  | _, [] => []
  | i, b :: bs => { key := .pointer (some ⟨b, 0, none⟩), val := .agg #[], born := i } :: setFrom (i + 1) bs
theorem setFrom_snoc : ∀ (i : Nat) (bs : List Nat) (b : Nat), setFrom i (bs ++ [b]) = setFrom i bs ++ [{ key := .pointer (some ⟨b, 0, none⟩), val := .agg #[], born := i + bs.length }]
  | i, [], b => by simp [setFrom]
  | i, a :: bs, b => by
    rw [List.cons_append, setFrom, setFrom, setFrom_snoc (i + 1) bs b, List.length_cons, List.cons_append, show i + 1 + bs.length = i + (bs.length + 1) by omega]
theorem setFrom_len : ∀ (i : Nat) (bs : List Nat), (setFrom i bs).length = bs.length
  | _, [] => rfl
  | i, b :: bs => by rw [setFrom, List.length_cons, setFrom_len, List.length_cons]
/-- a block of cells that nobody shares. -/
def IsCells (W : World) (b : Nat) : Prop := ∃ c t, W.heap[b]? = some (.cells c t (0, 0))
/-- a set of nodes lies at R. -/
structure SetM (W : World) (R : Nat) (bs : List Nat) : Prop where
  map : W.heap[R]? = some (.map (setFrom 0 bs).toArray bs.length)
  nodes : ∀ b ∈ bs, IsCells W b
theorem node_size (W : World) : (sizeOf 124).run Tryz.prog W = .ok 7 W := by kernel_rfl
theorem node_eq (W : World) (a b : Nat) (ha : IsCells W a) (hb : IsCells W b) : (Op.equal 27 (.pointer (some ⟨a, 0, none⟩)) (.pointer (some ⟨b, 0, none⟩))).run Tryz.prog W = .ok (a == b) W := by
  obtain ⟨ca, ta, ha⟩ := ha
  obtain ⟨cb, tb, hb⟩ := hb
  have hz := node_size W
  have h : ∀ d : Nat, (Op.equalIn (d + 1) 27 (.pointer (some ⟨a, 0, none⟩)) (.pointer (some ⟨b, 0, none⟩))).run Tryz.prog W = .ok (a == b) W := fun d => by
    by_cases h : a = b
    · subst h
      simp [Op.equalIn, run_underlying Tryz.underlying27, hz, run_sameAddr_same]
    · have hne : (⟨a, 0, none⟩ : Addr) ≠ ⟨b, 0, none⟩ := fun e => h (by injection e)
      simp [Op.equalIn, run_underlying Tryz.underlying27, hz, run_sameAddr_other W hne ha hb, h]
  simp only [Op.equal, Op.maxDepth]
  exact h 9999
theorem node_eq_nil (W : World) (b : Nat) : (Op.equal 27 (.pointer none) (.pointer (some ⟨b, 0, none⟩))).run Tryz.prog W = .ok false W := by
  have h : ∀ d : Nat, (Op.equalIn (d + 1) 27 (.pointer none) (.pointer (some ⟨b, 0, none⟩))).run Tryz.prog W = .ok false W := fun d => by simp [Op.equalIn, run_underlying Tryz.underlying27]
  simp only [Op.equal, Op.maxDepth]
  exact h 9999
theorem ask_none (W : World) (a : Nat) (ha : IsCells W a) : ∀ (bs : List Nat) (i j : Nat), (∀ b ∈ bs, IsCells W b) → a ∉ bs → (Instr.findAsking 27 (.pointer (some ⟨a, 0, none⟩)) (setFrom i bs) j).run Tryz.prog W = .ok none W
  | [], _, _, _, _ => by simp [setFrom, Instr.findAsking]
  | b :: bs, i, j, hn, hm => by
    have e := node_eq W a b ha (hn b (List.mem_cons_self ..))
    have hne : (a == b) = false := by simp only [List.mem_cons, not_or] at hm; simpa using hm.1
    rw [hne] at e
    have r := ask_none W a ha bs (i + 1) (j + 1) (fun x hx => hn x (List.mem_cons_of_mem _ hx)) (fun h => hm (List.mem_cons_of_mem _ h))
    simp [setFrom, Instr.findAsking, e, r, Result.andThen]
theorem ask_nil (W : World) : ∀ (bs : List Nat) (i j : Nat), (Instr.findAsking 27 (.pointer none) (setFrom i bs) j).run Tryz.prog W = .ok none W
  | [], _, _ => by simp [setFrom, Instr.findAsking]
  | b :: bs, i, j => by
    have e := node_eq_nil W b
    have r := ask_nil W bs (i + 1) (j + 1)
    simp [setFrom, Instr.findAsking, e, r, Result.andThen]
theorem ask_some (W : World) (a : Nat) : ∀ (bs : List Nat) (i j : Nat), (∀ b ∈ bs, IsCells W b) → a ∈ bs → ∃ k, (Instr.findAsking 27 (.pointer (some ⟨a, 0, none⟩)) (setFrom i bs) j).run Tryz.prog W = .ok (some (k, .agg #[])) W
  | [], _, _, _, hm => by simp at hm
  | b :: bs, i, j, hn, hm => by
    by_cases h : a = b
    · subst h
      have e := node_eq W a a (hn a (List.mem_cons_self ..)) (hn a (List.mem_cons_self ..))
      exact ⟨j, by simp [setFrom, Instr.findAsking, e, Result.andThen]⟩
    · have hm' : a ∈ bs := by simpa [h] using hm
      have e := node_eq W a b (hn a (List.mem_cons_of_mem _ hm')) (hn b (List.mem_cons_self ..))
      have hne : (a == b) = false := by simpa using h
      rw [hne] at e
      obtain ⟨k, r⟩ := ask_some W a bs (i + 1) (j + 1) (fun x hx => hn x (List.mem_cons_of_mem _ hx)) hm'
      exact ⟨k, by simp [setFrom, Instr.findAsking, e, r, Result.andThen]⟩
theorem find_ask (W : World) (p : Option Addr) : ∀ (bs : List Nat), (Instr.findKey 27 (.pointer p) (setFrom 0 bs)).run Tryz.prog W = (Instr.findAsking 27 (.pointer p) (setFrom 0 bs)).run Tryz.prog W
  | [] => by simp [setFrom, Instr.findKey, Instr.findNow, Instr.findAsking, run_underlying Tryz.underlying27, Result.andThen]
  | b :: bs => by simp [setFrom, Instr.findKey, Instr.findNow, Instr.sameNow, run_underlying Tryz.underlying27, Result.andThen]
theorem check_node (W : World) (p : Option Addr) (e : Bool) : (Instr.checkKey e 10000 27 (.pointer p)).run Tryz.prog W = .ok () W := by
  unfold Instr.checkKey
  simp [run_underlying Tryz.underlying27, Result.andThen]
theorem set_lookup (W : World) (R : Nat) (bs : List Nat) (p : Option Addr) (f : Bool) (h : SetM W R bs) (hf : ∃ k, (Instr.findAsking 27 (.pointer p) (setFrom 0 bs)).run Tryz.prog W = .ok (if f then some (k, .agg #[]) else none) W) :
    (Instr.lookup 133 (.map (some R)) (.pointer p) true).run Tryz.prog W = .ok (.tuple #[.agg #[], .bool f]) W := by
  obtain ⟨k, hf⟩ := hf
  have hz : (zeroValue 76).run Tryz.prog W = .ok (.agg #[]) W := by kernel_rfl
  have hk := (find_ask W p bs).trans hf
  cases f <;> simp [Instr.lookup, run_underlying Tryz.underlying133, MapKept.run_getObj_map h.map, check_node, hk, hz, Result.andThen]
theorem set_add (W : World) (R : Nat) (bs : List Nat) (a : Nat) (h : SetM W R bs) (ha : IsCells W a) (hn : a ∉ bs) :
    (Instr.mapUpdate 133 (.map (some R)) (.pointer (some ⟨a, 0, none⟩)) (.agg #[])).run Tryz.prog W = .ok () (W.putObj R (.map (setFrom 0 (bs ++ [a])).toArray (bs.length + 1))) := by
  have hk := (find_ask W (some ⟨a, 0, none⟩) bs).trans (ask_none W a ha bs 0 0 h.nodes hn)
  simp [Instr.mapUpdate, run_underlying Tryz.underlying133, MapKept.run_getObj_map h.map, check_node, hk, MapKept.run_setObj_map _ h.map, Result.andThen, World.putObj, setFrom_snoc]
theorem SetM.add {W : World} {R : Nat} {bs : List Nat} {a : Nat} (h : SetM W R bs) (ha : IsCells W a) : SetM (W.putObj R (.map (setFrom 0 (bs ++ [a])).toArray (bs.length + 1))) R (bs ++ [a]) := by
  have hR := (Array.getElem?_eq_some_iff.1 h.map).1
  have hk : ∀ b, IsCells W b → IsCells (W.putObj R (.map (setFrom 0 (bs ++ [a])).toArray (bs.length + 1))) b := fun b ⟨c, t, hb⟩ => ⟨c, t, by
    rw [World.putObj_heap_other (fun e => by subst e; rw [h.map] at hb; cases hb)]; exact hb⟩
  refine ⟨by rw [List.length_append]; exact World.putObj_heap_same hR, fun b hb => ?_⟩
  rw [List.mem_append] at hb
  rcases hb with hb | hb
  · exact hk b (h.nodes b hb)
  · rw [List.mem_singleton] at hb; subst hb; exact hk b ha
end Go.Proofs.YtjiiokhjajfhjaaGreat
