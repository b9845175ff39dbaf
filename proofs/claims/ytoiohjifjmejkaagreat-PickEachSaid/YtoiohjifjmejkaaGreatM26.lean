/- wbjoin.Join, Most; joineryref19; joinerylaw19.long, alive; the walk of WbJoins. joinerylaw19.alive; joineryref19.Joined; the walk of WbJoins. Sets of nodes: maps whose keys are pointers. share: the going over a tree that puts its nodes into a set. share: fresh, the statement that goes over what it hands back, all, New. -/
import Derived.MapKept
import Derived.LaidEql
import Derived.BigQuiet
import Derived.Test.YtoiohjifjmejkaaGreatM3
import Derived.Test.YtoiohjifjmejkaaGreatM9
import Derived.Test.YtoiohjifjmejkaaGreatM13
import Derived.Test.YtoiohjifjmejkaaGreatM14
import Derived.Test.YtoiohjifjmejkaaGreatM25
namespace Go.Proofs.YtoiohjifjmejkaaGreat
open Go Go.RowKit

/-- what a join hands back. -/
def WJoins (n : Nat) (l r : Tr) (k v : Int) (w : World) (e : Ending) (w' : World) : Prop :=
  ∃ T : Tr, e = .returned (.pointer T.ptr) ∧ WJoinOk n l r k v T ∧ InH w' T ∧ Ext w w'
theorem whang0 (n : Nat) (P low t : Tr) (hlow : WbH low) (nl : low.news n = 0) (w : World) (hn : n ≤ w.heap.size) (ht : InH w t) (hP : InH w P) (hl : InH w low) (hA : WbH t) (hle : low.count ≤ t.count) (hc : t.count + low.count ≤ 90000) (nt : t.news n = 0) :
    Calls Tryz.prog 120 #[.int .i64 0, .pointer t.ptr, .pointer P.ptr, .pointer low.ptr] w (WHangs n false t low P.key P.val w) := whang_any false n P low hlow nl t w hn ht hP hl hA (.inr hle) hc nt
theorem whang1 (n : Nat) (P low t : Tr) (hlow : WbH low) (nl : low.news n = 0) (w : World) (hn : n ≤ w.heap.size) (ht : InH w t) (hP : InH w P) (hl : InH w low) (hA : WbH t) (hle : low.count ≤ t.count) (hc : t.count + low.count ≤ 90000) (nt : t.news n = 0) :
    Calls Tryz.prog 120 #[.int .i64 1, .pointer t.ptr, .pointer P.ptr, .pointer low.ptr] w (WHangs n true t low P.key P.val w) := whang_any true n P low hlow nl t w hn ht hP hl hA (.inr hle) hc nt
set_option maxHeartbeats 1000000 in
theorem wbJoin_any (n : Nat) (w : World) (l r : Tr) (k v : Int) (hn : n ≤ w.heap.size) (hl : InH w l) (hr : InH w r) (al : WbH l) (ar : WbH r) (hc : l.count + r.count ≤ 80000) (nl : l.news n = 0) (nr : r.news n = 0) :
    Calls Tryz.prog 81 #[.pointer l.ptr, .int .i64 k, .int .i64 v, .pointer r.ptr] w (WJoins n l r k v w) := by
  have AL := Lib.hid al
  have AR := Lib.hid ar
  have NL := Lib.hid nl
  have NR := Lib.hid nr
  have HC := Lib.hid hc
  have hx := Ext.refl w
  obtain ⟨p, ep⟩ : ∃ p, p = l.count + 1 := ⟨_, rfl⟩
  obtain ⟨q, eq⟩ : ∃ q, q = r.count + 1 := ⟨_, rfl⟩
  have CL := Lib.hid (show wt l = (p : Int) by rw [ep]; exact wt_count l (by omega))
  have CR := Lib.hid (show wt r = (q : Int) by rw [eq]; exact wt_count r (by omega))
  have EP := Lib.hid ep
  have EQ := Lib.hid eq
  clear al ar nl nr hc ep eq
  go_enter Tryz.func81, Tryz.ntmps81
  go_wp2_with fail
  refine (wbMake_any _ .nil .nil k v trivial trivial).mono ?_
  rintro e w3 ⟨bp, rfl, _, hP, hS⟩
  replace hx := hx.trans hS
  replace hl := hl.ext hS
  replace hr := hr.ext hS
  clear hS
  obtain ⟨P, eP⟩ : ∃ P, P = Tr.node bp .nil k v 0 .nil := ⟨_, rfl⟩
  rw [← eP] at hP ⊢
  have HPK := Lib.hid (show P.key = k ∧ P.val = v by rw [eP]; exact ⟨rfl, rfl⟩)
  clear eP
  go_wp2_with fail
  refine (wbWeight_any _ l hl).mono ?_
  rw [CL.out]
  rintro e w4 ⟨rfl, hS⟩
  replace hx := hx.trans hS
  replace hl := hl.ext hS
  replace hr := hr.ext hS
  replace hP := hP.ext hS
  clear hS
  go_wp2_with fail
  refine (wbWeight_any _ r hr).mono ?_
  rw [CR.out]
  rintro e w5 ⟨rfl, hS⟩
  replace hx := hx.trans hS
  replace hl := hl.ext hS
  replace hr := hr.ext hS
  replace hP := hP.ext hS
  clear hS
  by_cases c1 : p < q
  · have c1' : (p : Int) < (q : Int) := by omega
    have HLE := Lib.hid (show l.count ≤ r.count by have := EP.out; have := EQ.out; omega)
    go_wp2_with fail
    refine (whang0 n P l r AL.out NL.out w5 (Nat.le_trans hn hx.size) hr hP hl AR.out HLE.out (by have := HC.out; omega) NR.out).mono ?_
    rw [HPK.out.1, HPK.out.2]
    rintro e w6 ⟨T, rfl, hok, hT, hS⟩
    go_wp2
    go_ret
    exact ⟨T, rfl, wjoin_left hok HLE.out, hT, hx.trans hS⟩
  · have c1' : ¬ (p : Int) < (q : Int) := by omega
    have HLE := Lib.hid (show r.count ≤ l.count by have := EP.out; have := EQ.out; omega)
    go_wp2_with fail
    refine (whang1 n P r l AR.out NR.out w5 (Nat.le_trans hn hx.size) hl hP hr AL.out HLE.out (by have := HC.out; omega) NL.out).mono ?_
    rw [HPK.out.1, HPK.out.2]
    rintro e w6 ⟨T, rfl, hok, hT, hS⟩
    go_wp2
    go_ret
    exact ⟨T, rfl, wjoin_right hok HLE.out, hT, hx.trans hS⟩
set_option maxHeartbeats 400000 in
theorem wbMost_any (w : World) (l r : Tr) (hl : InH w l) (hr : InH w r) (hc : l.count + r.count ≤ 80000) (p q : Nat) (ep : p = Nat.log2 (l.count + 1)) (eq : q = Nat.log2 (r.count + 1)) :
    Calls Tryz.prog 85 #[.pointer l.ptr, .pointer r.ptr] w (Ret (.int .i64 (6 * ((max p q : Nat) - (min p q : Nat)) + 1)) w) := by
  have H1 := Lib.hid (wbRank_any w l (l.count + 1) hl (wt_count l (by omega)) (by omega) (by omega))
  have H2 := Lib.hid (fun W h => wbRank_any W r (r.count + 1) h (wt_count r (by omega)) (by omega) (by omega))
  rw [← ep] at H1
  rw [← eq] at H2
  have b1 : p < 100 := by rw [ep]; exact Nat.lt_of_lt_of_le ((Nat.log2_lt (by omega)).2 (show l.count + 1 < 2 ^ 20 by omega)) (by omega)
  have b2 : q < 100 := by rw [eq]; exact Nat.lt_of_lt_of_le ((Nat.log2_lt (by omega)).2 (show r.count + 1 < 2 ^ 20 by omega)) (by omega)
  have hx := Ext.refl w
  obtain ⟨M, hM⟩ : ∃ M : Int, M = (6 * ((max p q : Nat) - (min p q : Nat)) + 1 : Int) := ⟨_, rfl⟩
  rw [← hM]
  have HM := Lib.hid hM
  clear hM ep eq hc
  go_enter Tryz.func85, Tryz.ntmps85
  go_wp2_with fail
  refine (H1.out).mono ?_
  rintro e w1 ⟨rfl, hS⟩
  replace hx := hx.trans hS
  replace hr := hr.ext hS
  clear hS
  go_wp2_with fail
  refine (H2.out _ hr).mono ?_
  rintro e w2 ⟨rfl, hS⟩
  replace hx := hx.trans hS
  clear hS
  rcases Nat.lt_or_ge p q with h | h
  all_goals
    go_wp2
    all_goals
      go_ret
      exact ⟨ret_int (by rw [HM.out]; omega), hx⟩
theorem fits_wbMay : ∀ {t : BT} {A B : Tr}, t.fits A → t.fits B → wbMay A = wbMay B
  | .nil, .nil, .nil, _, _ => rfl
  | .nil, .node .., _, h, _ => h.elim
  | .nil, .nil, .node .., _, h => h.elim
  | .node .., .nil, _, h, _ => h.elim
  | .node .., .node .., .nil, _, h => h.elim
  | .node k v s n g l r, .node b L kk vv gg R, .node b' L' k' v' g' R', h, h' => by
    have l1 := fits_wbMay h.2.2.2.1 h'.2.2.2.1
    have r1 := fits_wbMay h.2.2.2.2 h'.2.2.2.2
    have eh : gg = g' := h.2.2.1.symm.trans h'.2.2.1
    subst eh
    have wl : wt L = wt L' := by
      have e : L.count = L'.count := by unfold Tr.count; rw [BT.fits_len h.2.2.2.1, BT.fits_len h'.2.2.2.1]
      unfold wt; rw [Tr.size_count, Tr.size_count, e]
    have wr : wt R = wt R' := by
      have e : R.count = R'.count := by unfold Tr.count; rw [BT.fits_len h.2.2.2.2, BT.fits_len h'.2.2.2.2]
      unfold wt; rw [Tr.size_count, Tr.size_count, e]
    have e : ∀ b l k v g r, wbOne (.node b l k v g r) = if g = 0 then (if likeB (wt l) (wt r) then 0 else 8) else 140 := fun _ _ _ _ _ _ => rfl
    rw [wbMay_node, wbMay_node, l1, r1, e, e, wl, wr]
/-- a row of beads of a tree in balance, and not too long. -/
def GoodW (zs : List BeadL) (t : BT) : Prop := t.enc = zs ∧ zs.length ≤ 400 ∧ wbMay t.tr = true
/-- what is known of a tree that is made of such a row. -/
theorem goodW_tree {zs : List BeadL} {t : BT} {A : Tr} (hg : GoodW zs t) (hf : t.fits A) : WbH A ∧ A.count ≤ 400 := by
  obtain ⟨rfl, h1, h2⟩ := hg
  have hc : A.count ≤ 400 := by unfold Tr.count; rw [BT.fits_len hf]; exact h1
  exact ⟨WbH.of_may (by rw [fits_wbMay hf t.tr_fits]; exact h2) (by omega), hc⟩
theorem wjoin_count {n : Nat} {l r T : Tr} {k v : Int} (h : WJoinOk n l r k v T) : T.count = l.count + 1 + r.count := by
  rw [← Tr.kvs_count, h.kvs, ← Tr.kvs_count, ← Tr.kvs_count]; simp; omega
theorem three_key {C : Tr} (h : WbH C) (hk : C.kvs = [(1, 10), (2, 20), (3, 30)]) : C.key = 2 := by
  cases C with
  | nil => simp [Tr.kvs] at hk
  | node b l k v g r =>
    obtain ⟨-, -, -, h4⟩ := h
    rw [Tr.kvs] at hk
    rw [← Tr.kvs_count, ← Tr.kvs_count] at h4
    unfold lk at h4
    have hlen := congrArg List.length hk
    rw [List.length_append, List.length_cons] at hlen
    simp at hlen
    rcases hl : l.kvs with _ | ⟨x, _ | ⟨y, xs⟩⟩
    · rw [hl] at h4 hlen; simp at h4 hlen; omega
    · rw [hl] at hk
      simp at hk
      exact hk.2.1.1
    · rw [hl] at h4 hlen; simp at h4 hlen; omega
end Go.Proofs.YtoiohjifjmejkaaGreat
namespace Go.Proofs.YtoiohjifjmejkaaGreat
open Go Go.RowKit

end Go.Proofs.YtoiohjifjmejkaaGreat
namespace Go.Proofs.YtoiohjifjmejkaaGreat
open Go Go.RowKit Go.Shelf

/-- the entries of a set of nodes, by their blocks. -/
def setFrom : Nat → List Nat → List MapEntry
  | _, [] => []
  | i, b :: bs => { key := .pointer (some ⟨b, 0, none⟩), val := .agg #[], born := i } :: setFrom (i + 1) bs
theorem setFrom_snoc : ∀ (i : Nat) (bs : List Nat) (b : Nat), setFrom i (bs ++ [b]) = setFrom i bs ++ [{ key := .pointer (some ⟨b, 0, none⟩), val := .agg #[], born := i + bs.length }]
  | i, [], b => by simp [setFrom]
  | i, a :: bs, b => by
    rw [List.cons_append, setFrom, setFrom, setFrom_snoc (i + 1) bs b, List.length_cons, List.cons_append, show i + 1 + bs.length = i + (bs.length + 1) by omega]
theorem setFrom_len : ∀ (i : Nat) (bs : List Nat), (setFrom i bs).length = bs.length
  | _, [] => rfl
  | i, b :: bs => by rw [setFrom, List.length_cons, setFrom_len, List.length_cons]
/-- a block of cells that nobody shares. -/
def IsCells (W : World) (b : Nat) : Prop := ∃ c t, W.heap[b]? = some (.cells c t (0, 0))
/-- a set of nodes lies at R. -/
structure SetM (W : World) (R : Nat) (bs : List Nat) : Prop where
  map : W.heap[R]? = some (.map (setFrom 0 bs).toArray bs.length)
  nodes : ∀ b ∈ bs, IsCells W b
theorem node_size (W : World) : (sizeOf 122).run Tryz.prog W = .ok 7 W := by kernel_rfl
theorem node_eq (W : World) (a b : Nat) (ha : IsCells W a) (hb : IsCells W b) : (Op.equal 31 (.pointer (some ⟨a, 0, none⟩)) (.pointer (some ⟨b, 0, none⟩))).run Tryz.prog W = .ok (a == b) W := by
  obtain ⟨ca, ta, ha⟩ := ha
  obtain ⟨cb, tb, hb⟩ := hb
  have hz := node_size W
  have h : ∀ d : Nat, (Op.equalIn (d + 1) 31 (.pointer (some ⟨a, 0, none⟩)) (.pointer (some ⟨b, 0, none⟩))).run Tryz.prog W = .ok (a == b) W := fun d => by
    by_cases h : a = b
    · subst h
      simp [Op.equalIn, run_underlying Tryz.underlying31, hz, run_sameAddr_same]
    · have hne : (⟨a, 0, none⟩ : Addr) ≠ ⟨b, 0, none⟩ := fun e => h (by injection e)
      simp [Op.equalIn, run_underlying Tryz.underlying31, hz, run_sameAddr_other W hne ha hb, h]
  simp only [Op.equal, Op.maxDepth]
  exact h 9999
theorem node_eq_nil (W : World) (b : Nat) : (Op.equal 31 (.pointer none) (.pointer (some ⟨b, 0, none⟩))).run Tryz.prog W = .ok false W := by
  have h : ∀ d : Nat, (Op.equalIn (d + 1) 31 (.pointer none) (.pointer (some ⟨b, 0, none⟩))).run Tryz.prog W = .ok false W := fun d => by simp [Op.equalIn, run_underlying Tryz.underlying31]
  simp only [Op.equal, Op.maxDepth]
  exact h 9999
theorem ask_none (W : World) (a : Nat) (ha : IsCells W a) : ∀ (bs : List Nat) (i j : Nat), (∀ b ∈ bs, IsCells W b) → a ∉ bs → (Instr.findAsking 31 (.pointer (some ⟨a, 0, none⟩)) (setFrom i bs) j).run Tryz.prog W = .ok none W
  | [], _, _, _, _ => by simp [setFrom, Instr.findAsking]
  | b :: bs, i, j, hn, hm => by
    have e := node_eq W a b ha (hn b (List.mem_cons_self ..))
    have hne : (a == b) = false := by simp only [List.mem_cons, not_or] at hm; simpa using hm.1
    rw [hne] at e
    have r := ask_none W a ha bs (i + 1) (j + 1) (fun x hx => hn x (List.mem_cons_of_mem _ hx)) (fun h => hm (List.mem_cons_of_mem _ h))
    simp [setFrom, Instr.findAsking, e, r, Result.andThen]
theorem ask_nil (W : World) : ∀ (bs : List Nat) (i j : Nat), (Instr.findAsking 31 (.pointer none) (setFrom i bs) j).run Tryz.prog W = .ok none W
  | [], _, _ => by simp [setFrom, Instr.findAsking]
  | b :: bs, i, j => by
    have e := node_eq_nil W b
    have r := ask_nil W bs (i + 1) (j + 1)
    simp [setFrom, Instr.findAsking, e, r, Result.andThen]
theorem ask_some (W : World) (a : Nat) : ∀ (bs : List Nat) (i j : Nat), (∀ b ∈ bs, IsCells W b) → a ∈ bs → ∃ k, (Instr.findAsking 31 (.pointer (some ⟨a, 0, none⟩)) (setFrom i bs) j).run Tryz.prog W = .ok (some (k, .agg #[])) W
  | [], _, _, _, hm => by simp at hm
  | b :: bs, i, j, hn, hm => by
    by_cases h : a = b
    · subst h
      have e := node_eq W a a (hn a (List.mem_cons_self ..)) (hn a (List.mem_cons_self ..))
      exact ⟨j, by simp [setFrom, Instr.findAsking, e, Result.andThen]⟩
    · have hm' : a ∈ bs := by simpa [h] using hm
      have e := node_eq W a b (hn a (List.mem_cons_of_mem _ hm')) (hn b (List.mem_cons_self ..))
      have hne : (a == b) = false := by simpa using h
      rw [hne] at e
      obtain ⟨k, r⟩ := ask_some W a bs (i + 1) (j + 1) (fun x hx => hn x (List.mem_cons_of_mem _ hx)) hm'
      exact ⟨k, by simp [setFrom, Instr.findAsking, e, r, Result.andThen]⟩
theorem find_ask (W : World) (p : Option Addr) : ∀ (bs : List Nat), (Instr.findKey 31 (.pointer p) (setFrom 0 bs)).run Tryz.prog W = (Instr.findAsking 31 (.pointer p) (setFrom 0 bs)).run Tryz.prog W
  | [] => by simp [setFrom, Instr.findKey, Instr.findNow, Instr.findAsking, run_underlying Tryz.underlying31, Result.andThen]
  | b :: bs => by simp [setFrom, Instr.findKey, Instr.findNow, Instr.sameNow, run_underlying Tryz.underlying31, Result.andThen]
theorem check_node (W : World) (p : Option Addr) (e : Bool) : (Instr.checkKey e 10000 31 (.pointer p)).run Tryz.prog W = .ok () W := by
  unfold Instr.checkKey
  simp [run_underlying Tryz.underlying31, Result.andThen]
theorem SetM.add {W : World} {R : Nat} {bs : List Nat} {a : Nat} (h : SetM W R bs) (ha : IsCells W a) : SetM (W.putObj R (.map (setFrom 0 (bs ++ [a])).toArray (bs.length + 1))) R (bs ++ [a]) := by
  have hR := (Array.getElem?_eq_some_iff.1 h.map).1
  have hk : ∀ b, IsCells W b → IsCells (W.putObj R (.map (setFrom 0 (bs ++ [a])).toArray (bs.length + 1))) b := fun b ⟨c, t, hb⟩ => ⟨c, t, by
    rw [World.putObj_heap_other (fun e => by subst e; rw [h.map] at hb; cases hb)]; exact hb⟩
  refine ⟨by rw [List.length_append]; exact World.putObj_heap_same hR, fun b hb => ?_⟩
  rw [List.mem_append] at hb
  rcases hb with hb | hb
  · exact hk b (h.nodes b hb)
  · rw [List.mem_singleton] at hb; subst hb; exact hk b ha
end Go.Proofs.YtoiohjifjmejkaaGreat
namespace Go.Proofs.YtoiohjifjmejkaaGreat
open Go Go.RowKit Go.Shelf
attribute [local go_sem] Oper.semAt_some

/-- the blocks of a tree. -/
def Tr.blks (T : Tr) : List Nat := T.pre.map (·.blk)
theorem Tr.blks_nil : Tr.blks .nil = [] := rfl
theorem Tr.blks_node (b : Nat) (l : Tr) (k v g : Int) (r : Tr) : Tr.blks (.node b l k v g r) = b :: (l.blks ++ r.blks) := by simp [Tr.blks, Tr.pre, Tr.blk]
/-- one tree lies at an address. -/
theorem InH.one {w : World} : ∀ {A B : Tr}, InH w A → InH w B → A.ptr = B.ptr → A = B
  | .nil, .nil, _, _, _ => rfl
  | .nil, .node .., _, _, h => by simp [Tr.ptr] at h
  | .node .., .nil, _, _, h => by simp [Tr.ptr] at h
  | .node b l k v g r, .node b' l' k' v' g' r', ⟨h0, h1, h2⟩, ⟨h0', h1', h2'⟩, h => by
    have eb : b = b' := by simpa [Tr.ptr] using h
    subst eb
    rw [h0] at h0'
    have hc : (#[.int .i64 k, .int .i64 v, .int .i64 (Tr.node b l k v g r).sum, .int .u64 g, .int .i64 (Tr.node b l k v g r).size, .pointer l.ptr, .pointer r.ptr] : Array Value) = #[.int .i64 k', .int .i64 v', .int .i64 (Tr.node b l' k' v' g' r').sum, .int .u64 g', .int .i64 (Tr.node b l' k' v' g' r').size, .pointer l'.ptr, .pointer r'.ptr] := by
      injection h0' with h0'
      injection h0' 
    have e1 : k = k' := by have := congrArg (fun a => a[0]?) hc; simpa using this
    have e2 : v = v' := by have := congrArg (fun a => a[1]?) hc; simpa using this
    have e4 : g = g' := by have := congrArg (fun a => a[3]?) hc; simpa using this
    have e6 : l.ptr = l'.ptr := by have := congrArg (fun a => a[5]?) hc; simpa using this
    have e7 : r.ptr = r'.ptr := by have := congrArg (fun a => a[6]?) hc; simpa using this
    rw [e1, e2, e4, InH.one h1 h1' e6, InH.one h2 h2' e7]
theorem inH_pre' {w : World} : ∀ {t : Tr}, InH w t → ∀ x ∈ t.pre, InH w x
  | .nil, _, _, hx => by simp [Tr.pre] at hx
  | .node b l k v g r, h, x, hx => by
    simp only [Tr.pre, List.mem_cons, List.mem_append] at hx
    rcases hx with rfl | hx | hx
    · exact h
    · exact inH_pre' h.2.1 x hx
    · exact inH_pre' h.2.2 x hx
theorem pre_le : ∀ {t x : Tr}, x ∈ t.pre → x.pre.length ≤ t.pre.length
  | .nil, _, hx => by simp [Tr.pre] at hx
  | .node b l k v g r, x, hx => by
    simp only [Tr.pre, List.mem_cons, List.mem_append] at hx
    rcases hx with rfl | hx | hx
    · exact Nat.le_refl _
    · have := pre_le hx; simp only [Tr.pre, List.length_cons, List.length_append]; omega
    · have := pre_le hx; simp only [Tr.pre, List.length_cons, List.length_append]; omega
theorem pre_ptr {t x : Tr} (h : x ∈ t.pre) : x.ptr = some ⟨x.blk, 0, none⟩ := by
  cases x with
  | nil => induction t with
    | nil => simp [Tr.pre] at h
    | node b l k v g r ihl ihr =>
      simp only [Tr.pre, List.mem_cons, List.mem_append] at h
      rcases h with h | h | h
      · cases h
      · exact ihl h
      · exact ihr h
  | node b l k v g r => rfl
/-- no node lies on its own left side. -/
theorem InH.off_left {w : World} {b : Nat} {l r : Tr} {k v g : Int} (h : InH w (.node b l k v g r)) : b ∉ l.blks := fun hm => by
  obtain ⟨x, hx, e⟩ := List.mem_map.1 hm
  have h1 := InH.one (inH_pre' h.2.1 x hx) h (by rw [pre_ptr hx, e]; rfl)
  have h2 := pre_le hx
  rw [h1] at h2
  simp only [Tr.pre, List.length_cons, List.length_append] at h2
  omega
/-- what a set holds, if a tree's nodes are put into it. -/
def addT : List Nat → Tr → List Nat
  | bs, .nil => bs
  | bs, .node b l _ _ _ r => if b ∈ bs then bs else addT (addT bs l ++ [b]) r
theorem addT_in : ∀ {T : Tr} {bs : List Nat} {b : Nat} {l r : Tr} {k v g : Int}, T = .node b l k v g r → b ∈ bs → addT bs T = bs := by
  intro T bs b l r k v g e h; subst e; rw [addT, if_pos h]
theorem addT_mem : ∀ {T : Tr} {bs : List Nat} {x : Nat}, x ∈ addT bs T → x ∈ bs ∨ x ∈ T.blks
  | .nil, _, _, h => .inl h
  | .node b l k v g r, bs, x, h => by
    rw [Tr.blks_node]
    rw [addT] at h
    split at h
    · exact .inl h
    · rcases addT_mem h with h | h
      · rcases List.mem_append.1 h with h | h
        · rcases addT_mem h with h | h
          · exact .inl h
          · exact .inr (List.mem_cons_of_mem _ (List.mem_append_left _ h))
        · rw [List.mem_singleton] at h; subst h; exact .inr (List.mem_cons_self ..)
      · exact .inr (List.mem_cons_of_mem _ (List.mem_append_right _ h))
theorem SetM.ext {W W' : World} {R : Nat} {bs : List Nat} (h : SetM W R bs) (hE : Ext W W') : SetM W' R bs :=
  ⟨hE.get h.map, fun b hb => by obtain ⟨c, t, hc⟩ := h.nodes b hb; exact ⟨c, t, hE.get hc⟩⟩
theorem InH.cells {w : World} {b : Nat} {l r : Tr} {k v g : Int} (h : InH w (.node b l k v g r)) : IsCells w b := ⟨_, _, h.1⟩
/-- no cells turn. -/
abbrev K0 (a b : World) : Prop := Keep (fun _ => False) a b
theorem off0 : ∀ (t : Tr), Off (fun _ => False) t
  | .nil => trivial
  | .node _ l _ _ _ r => ⟨id, off0 l, off0 r⟩
theorem InH.k0 {a b : World} (h : K0 a b) {t : Tr} (ht : InH a t) : InH b t := InH.keep h (off0 t) ht
end Go.Proofs.YtoiohjifjmejkaaGreat
namespace Go.Proofs.YtoiohjifjmejkaaGreat
open Go Go.RowKit Go.Shelf
attribute [local go_sem] Oper.semAt_some

theorem below_put {N : Nat} {a W : World} (h : Below N a W) (hs : N ≤ W.heap.size) {l : Nat} (hl : N ≤ l) (o : Obj) : Below N a (W.putObj l o) :=
  h.grown (grownBy_putObj' W l o) hs (fun k e => by cases e; exact hl)
theorem SetM.put {W : World} {R l : Nat} {bs : List Nat} {o : Obj} (h : SetM W R bs) (hl : W.heap[l]? = some o) (ho : o.isCells = false) (hne : R ≠ l) (o' : Obj) : SetM (W.putObj l o') R bs :=
  ⟨by rw [World.putObj_heap_other hne]; exact h.map, fun b hb => by
    obtain ⟨c, t, hc⟩ := h.nodes b hb
    exact ⟨c, t, by rw [World.putObj_heap_other (fun e => by subst e; rw [hl] at hc; cases hc; cases ho)]; exact hc⟩⟩
/-- all blocks that there were stay, but R. -/
def Stay (R : Nat) (w W : World) : Prop := w.heap.size ≤ W.heap.size ∧ ∀ i, i ≠ R → i < w.heap.size → W.heap[i]? = w.heap[i]?
theorem Stay.ext {R : Nat} {w W W' : World} (h : Stay R w W) (hE : Ext W W') : Stay R w W' :=
  ⟨Nat.le_trans h.1 hE.size, fun i hi hl => (Below.block hE i (by have := h.1; omega)).trans (h.2 i hi hl)⟩
theorem Stay.put {R : Nat} {w W : World} (h : Stay R w W) {l : Nat} (hl : l = R ∨ w.heap.size ≤ l) (o : Obj) : Stay R w (W.putObj l o) :=
  ⟨by simpa using h.1, fun i hi hl' => by rw [World.putObj_heap_other (by omega)]; exact h.2 i hi hl'⟩
end Go.Proofs.YtoiohjifjmejkaaGreat
