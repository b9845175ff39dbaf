/- avljoin.Join, Most; joineryref15; joinerylaw15.long, alive. joinerylaw15.long, alive, and the walk of AvlJoins. A pointer to a node is itself. The package rb, but for what goes over a tree. -/
import Derived.LaidEqlPtr
import Derived.Test.YtoiohjifjmejkaaGreatM1
import Derived.Test.YtoiohjifjmejkaaGreatM8
import Derived.Test.YtoiohjifjmejkaaGreatM9
import Derived.Test.YtoiohjifjmejkaaGreatM12
import Derived.Test.YtoiohjifjmejkaaGreatM13
namespace Go.Proofs.YtoiohjifjmejkaaGreat
open Go Go.RowKit

theorem results_agg3 {fn : Func} {p : Tmp} {ty : TypeId} (h : fn.results = #[.cell p ty]) (tmps : Array Value) (w : World) {x : Value} {a : Addr} (hp : tmps.getD p undef = .pointer (some a))
    (hl : (loadVar ty a).run Tryz.prog w = .ok x w) : (results fn tmps).run Tryz.prog w = .ok x w := by
  simp only [Array.getD_eq_getD_getElem?] at hp
  simp [results, h, hp, hl, asAddr]
set_option maxHeartbeats 400000 in
theorem right_any15 (w : World) : Calls Tryz.prog 108 #[] w (Ret (sideV true) w) := by
  go_enter Tryz.func108, Tryz.ntmps108
  go_wp2
  exact bodyPost_ret (v := sideV true) (by simp [results, Tryz.results108, go_sem]; rfl) rfl (Ret.mk ((Ext.refl w).alloc _))
set_option maxHeartbeats 400000 in
theorem left_any15 (w : World) : Calls Tryz.prog 110 #[] w (Ret (sideV false) w) := by
  go_enter Tryz.func110, Tryz.ntmps110
  go_wp2
  exact bodyPost_ret (v := sideV false) (by simp [results, Tryz.results110, go_sem]; rfl) rfl (Ret.mk ((Ext.refl w).alloc _))
/-- what a join hands back. -/
def Joins (n : Nat) (l r : Tr) (k v : Int) (w : World) (e : Ending) (w' : World) : Prop :=
  ∃ T : Tr, e = .returned (.pointer T.ptr) ∧ JoinOk n l r k v T ∧ InH w' T ∧ Ext w w'
set_option maxHeartbeats 1000000 in
theorem avlJoin_any (n : Nat) (w : World) (l r : Tr) (k v : Int) (p q : Nat) (hn : n ≤ w.heap.size) (hl : InH w l) (hr : InH w r) (al : AvlH l p) (ar : AvlH r q) (hp : p < 99999) (hq : q < 99999) (nl : l.news n = 0) (nr : r.news n = 0) :
    Calls Tryz.prog 69 #[.pointer l.ptr, .int .i64 k, .int .i64 v, .pointer r.ptr] w (Joins n l r k v w) := by
  have AL := Lib.hid al
  have AR := Lib.hid ar
  have NL := Lib.hid nl
  have NR := Lib.hid nr
  clear al ar nl nr
  go_enter Tryz.func69, Tryz.ntmps69
  go_wp2_with fail
  refine (avlMake_any w .nil .nil k v trivial trivial).mono ?_
  rintro e w1 ⟨b, rfl, hb, hP, h1⟩
  obtain ⟨P, eP⟩ : ∃ P, P = Tr.node b .nil k v (avlTag .nil .nil) .nil := ⟨_, rfl⟩
  rw [← eP] at hP ⊢
  have HPK := Lib.hid (show P.key = k ∧ P.val = v by rw [eP]; exact ⟨rfl, rfl⟩)
  clear eP
  go_wp2_with fail
  refine (rankH_any w1 l p (hl.ext h1) AL.out (by omega)).mono ?_
  rintro e w2 ⟨rfl, h2⟩
  have h02 := h1.trans h2
  go_wp2_with fail
  refine (rankH_any w2 r q (hr.ext h02) AR.out (by omega)).mono ?_
  rintro e w3 ⟨rfl, h3⟩
  have h03 := h02.trans h3
  have hP3 := (hP.ext h2).ext h3
  have hn3 := Nat.le_trans hn h03.size
  clear h1 h2 h02 h3 hP
  by_cases c1 : q + 1 < p
  · have c1' : (q : Int) + 1 < (p : Int) := by omega
    go_wp2_with fail
    refine (right_any15 _).mono ?_
    rintro e w4 ⟨rfl, h4⟩
    have h04 := h03.trans h4
    go_wp2_with fail
    refine (hang_any true n P r q AR.out NR.out l w4 p (Nat.le_trans hn h04.size) (hl.ext h04) (hP3.ext h4) (hr.ext h04) AL.out (by omega) (by omega) NL.out).mono ?_
    rw [HPK.out.1, HPK.out.2]
    rintro e w5 ⟨T, rfl, hok, hT, h5⟩
    have HOK := Lib.hid hok
    clear hok
    go_wp2
    go_ret
    exact ⟨T, rfl, join_right HOK.out (by rw [AL.out.ht, AR.out.ht]; omega), hT, h04.trans h5⟩
  · have c1' : ¬ (q : Int) + 1 < (p : Int) := by omega
    by_cases c2 : p + 1 < q
    · have c2' : (p : Int) + 1 < (q : Int) := by omega
      go_wp2_with fail
      refine (left_any15 _).mono ?_
      rintro e w4 ⟨rfl, h4⟩
      have h04 := h03.trans h4
      go_wp2_with fail
      refine (hang_any false n P l p AL.out NL.out r w4 q (Nat.le_trans hn h04.size) (hr.ext h04) (hP3.ext h4) (hl.ext h04) AR.out (by omega) (by omega) NR.out).mono ?_
      rw [HPK.out.1, HPK.out.2]
      rintro e w5 ⟨T, rfl, hok, hT, h5⟩
      have HOK := Lib.hid hok
      clear hok
      go_wp2
      go_ret
      exact ⟨T, rfl, join_left HOK.out (by rw [AL.out.ht, AR.out.ht]; omega), hT, h04.trans h5⟩
    · have c2' : ¬ (p : Int) + 1 < (q : Int) := by omega
      go_wp2_with fail
      refine (avlMake_any _ l r k v (hl.ext h03) (hr.ext h03)).mono ?_
      rintro e w4 ⟨b4, rfl, hb4, hT, h4⟩
      go_wp2
      go_ret
      exact ⟨_, rfl, join_even b4 AL.out AR.out (by omega) (by omega) (by omega) NL.out NR.out (Nat.le_trans hn3 hb4), hT, h03.trans h4⟩
set_option maxHeartbeats 400000 in
theorem avlMost_any (w : World) (l r : Tr) (p q : Nat) (hl : InH w l) (hr : InH w r) (al : AvlH l p) (ar : AvlH r q) (hp : p < 99999) (hq : q < 99999) :
    Calls Tryz.prog 73 #[.pointer l.ptr, .pointer r.ptr] w (Ret (.int .i64 ((max p q : Nat) - (min p q : Nat) + 1)) w) := by
  have AL := Lib.hid al
  have AR := Lib.hid ar
  clear al ar
  obtain ⟨M, hM⟩ : ∃ M : Int, M = ((max p q : Nat) - (min p q : Nat) + 1 : Int) := ⟨_, rfl⟩
  rw [← hM]
  have HM := Lib.hid hM
  clear hM
  go_enter Tryz.func73, Tryz.ntmps73
  go_wp2_with fail
  refine (rankH_any w l p hl AL.out (by omega)).mono ?_
  rintro e w1 ⟨rfl, h1⟩
  go_wp2_with fail
  refine (rankH_any w1 r q (hr.ext h1) AR.out (by omega)).mono ?_
  rintro e w2 ⟨rfl, h2⟩
  go_wp2
  all_goals
    go_ret
    exact ⟨ret_int (by rw [HM.out]; omega), h1.trans h2⟩
end Go.Proofs.YtoiohjifjmejkaaGreat
namespace Go.Proofs.YtoiohjifjmejkaaGreat
open Go Go.RowKit

theorem AvlH.least : ∀ {T : Tr} {h : Nat}, AvlH T h → leastN h ≤ T.count
  | .nil, _, e => by rw [show _ = 0 from e]; exact Nat.le_refl _
  | .node b l k v g r, h, ⟨p, q, hp, hq, e, eg, h1, h2⟩ => by
    have l1 := AvlH.least hp
    have r1 := AvlH.least hq
    rw [Tr.count_node, e]
    rcases Nat.le_total p q with hh | hh
    · rw [Nat.max_eq_right hh]
      rcases Nat.eq_zero_or_pos q with h0 | h0
      · rw [h0]; show 1 ≤ _; omega
      · obtain ⟨z, rfl⟩ : ∃ z, q = z + 1 := ⟨q - 1, by omega⟩
        have := leastN_mono (a := z) (b := p) (by omega)
        rw [show 1 + (z + 1) = z + 2 by omega, leastN]
        omega
    · rw [Nat.max_eq_left hh]
      rcases Nat.eq_zero_or_pos p with h0 | h0
      · rw [h0]; show 1 ≤ _; omega
      · obtain ⟨z, rfl⟩ : ∃ z, p = z + 1 := ⟨p - 1, by omega⟩
        have := leastN_mono (a := z) (b := q) (by omega)
        rw [show 1 + (z + 1) = z + 2 by omega, leastN]
        omega
theorem AvlH.most : ∀ {T : Tr} {h : Nat}, AvlH T h → T.count + 1 ≤ 2 ^ h
  | .nil, _, e => by rw [show _ = 0 from e]; decide
  | .node b l k v g r, h, ⟨p, q, hp, hq, e, eg, h1, h2⟩ => by
    have l1 := AvlH.most hp
    have r1 := AvlH.most hq
    have l2 : 2 ^ p ≤ 2 ^ max p q := Nat.pow_le_pow_right (by decide) (by omega)
    have r2 : 2 ^ q ≤ 2 ^ max p q := Nat.pow_le_pow_right (by decide) (by omega)
    rw [Tr.count_node, e, Nat.add_comm 1, Nat.pow_succ]
    omega
/-- some tree that has been joined. -/
theorem join_facts {n : Nat} {l r T : Tr} {k v : Int} (h : JoinOk n l r k v T) : T.count = l.count + 1 + r.count ∧ T.size = wrap64 (T.count : Int) ∧ AvlH T T.ht := by
  obtain ⟨⟨x, h1, h2, h3⟩, h4, h5, h6, h7⟩ := h
  refine ⟨?_, T.size_count, by rw [h1.ht]; exact h1⟩
  rw [← Tr.kvs_count, h4, ← Tr.kvs_count, ← Tr.kvs_count]; simp; omega
theorem fits_avlMay : ∀ {t : BT} {A B : Tr}, t.fits A → t.fits B → avlMay A = avlMay B
  | .nil, .nil, .nil, _, _ => rfl
  | .nil, .node .., _, h, _ => h.elim
  | .nil, .nil, .node .., _, h => h.elim
  | .node .., .nil, _, h, _ => h.elim
  | .node .., .node .., .nil, _, h => h.elim
  | .node k v s n g l r, .node _ L _ _ _ R, .node _ L' _ _ _ R', h, h' => by
    rw [avlMay_node, avlMay_node, fits_avlMay h.2.2.2.1 h'.2.2.2.1, fits_avlMay h.2.2.2.2 h'.2.2.2.2]
    simp only [avlBadTag, avlBadTree, Tr.tag_node, Tr.left_node, Tr.right_node, ← BT.fits_tag h.2.2.2.1, ← BT.fits_tag h.2.2.2.2, ← BT.fits_tag h'.2.2.2.1, ← BT.fits_tag h'.2.2.2.2, ← h.2.2.1, ← h'.2.2.1]
/-- a row of beads of a tree that may be, and is not too long. -/
def Good (zs : List BeadL) (t : BT) : Prop := t.enc = zs ∧ zs.length ≤ 400 ∧ avlMay t.tr = true
/-- what is known of a tree that is made of such a row. -/
theorem good_tree {zs : List BeadL} {t : BT} {A : Tr} (hg : Good zs t) (hf : t.fits A) (hz : ∀ z ∈ zs, z.wf) : AvlH A A.ht ∧ A.ht ≤ 400 ∧ A.count ≤ 400 := by
  obtain ⟨rfl, h1, h2⟩ := hg
  have hc : A.count ≤ 400 := by unfold Tr.count; rw [BT.fits_len hf]; exact h1
  have := Tr.ht_count A
  exact ⟨AvlH.of_may (by rw [fits_avlMay hf t.tr_fits]; exact h2) (fits_tagsOk t A hf hz) (by omega), by omega, hc⟩
end Go.Proofs.YtoiohjifjmejkaaGreat
namespace Go.Proofs.YtoiohjifjmejkaaGreat
open Go Go.RowKit
theorem ptr_same (p : Option Addr) (w : World) : (binOp .eql 31 (.pointer p) (.pointer p)).run Tryz.prog w = .ok (.bool true) w := by
  obtain ⟨j, hj⟩ : ∃ j, Tryz.prog.info? 122 = some j := by
    have h : (Tryz.prog.info? 122).isSome = true := by kernel_rfl
    exact Option.isSome_iff_exists.1 h
  cases p with
  | none =>
    have := run_eql_pointer_nil (P := Tryz.prog) w 31 none (by kernel_rfl)
    simpa using this
  | some a => exact run_eql_ptr_same w a Tryz.underlying31 hj
end Go.Proofs.YtoiohjifjmejkaaGreat
namespace Go.Proofs.YtoiohjifjmejkaaGreat
open Go Go.RowKit

theorem u64_mod (a : Int) : IntKind.u64.wrap a = a % 18446744073709551616 := by
  have : (2 : Int) ^ 64 = 18446744073709551616 := by decide
  simp only [IntKind.wrap, IntKind.bits, IntKind.signed, this]
  simp
theorem tag_ok {T : Tr} (h : TagsOk T) : 0 ≤ T.tag ∧ T.tag < 18446744073709551616 := by
  cases T with
  | nil => exact ⟨by decide, by decide⟩
  | node b l k v g r => exact ⟨h.1, h.2.1⟩
theorem tags_left {T : Tr} (h : TagsOk T) : TagsOk T.left := by
  cases T with
  | nil => exact h
  | node b l k v g r => exact h.2.2.1
theorem tags_right {T : Tr} (h : TagsOk T) : TagsOk T.right := by
  cases T with
  | nil => exact h
  | node b l k v g r => exact h.2.2.2
/-- a struct of two numbers. -/
def whatV (c h : Int) : Value := .agg #[.int .u64 c, .int .u64 h]
def col (t : Tr) : Int := t.tag % 2
def hi (t : Tr) : Int := t.tag / 2
theorem set2 {w : World} {N : Nat} {T : TypeId} {a0 a1 : Value} (h : w.heap[N]? = some (.cells #[a0, a1] T (0, 0))) (b0 b1 : Value) :
    ((w.setCell ⟨N, 0, none⟩ b0).setCell ⟨N, 1, none⟩ b1).heap[N]? = some (.cells #[b0, b1] T (0, 0)) := by
  simp [World.setCell, Array.getElem?_modify, h]
theorem load_what {w : World} {N : Nat} {c h : Int} (hh : w.heap[N]? = some (.cells #[.int .u64 c, .int .u64 h] 182 (0, 0))) : (loadVar 182 ⟨N, 0, none⟩).run Tryz.prog w = .ok (whatV c h) w := by
  refine run_loadVar_mid w N 0 _ [.int .u64 c, .int .u64 h] _ (fun j v hj => ?_) Tryz.underlying182 rfl (by kernel_rfl)
  rw [Nat.zero_add, cell_of hh j]
  simpa using hj
theorem results_row1 {fn : Func} {p : Tmp} {ty : TypeId} (h : fn.results = #[.cell p ty]) (tmps : Array Value) (w : World) {x : Value} {a : Addr} (hp : tmps.getD p undef = .pointer (some a))
    (hl : (loadVar ty a).run Tryz.prog w = .ok x w) : (results fn tmps).run Tryz.prog w = .ok x w := by
  simp only [Array.getD_eq_getD_getElem?] at hp
  simp [results, h, hp, hl, asAddr]
theorem hi_div {t : Tr} (h : TagsOk t) : IntKind.u64.wrap (t.tag.tdiv 2) = hi t := by
  have := tag_ok h
  rw [Int.tdiv_eq_ediv_of_nonneg this.1, u64_mod]
  unfold hi
  omega
set_option maxHeartbeats 1000000 in
theorem rbOf_any (w : World) (t : Tr) (ht : InH w t) (ho : TagsOk t) : Calls Tryz.prog 142 #[.pointer t.ptr] w (Ret (whatV (col t) (hi t)) w) := by
  have HC := Lib.hid (show t.tag % 2 = col t from rfl)
  have HD := Lib.hid (hi_div ho)
  have h0 := (tag_ok ho).1
  have hnew := alloc_at w (.cells #[.int .u64 0, .int .u64 0] 182) _ rfl
  have hE := (Ext.refl w).alloc (.cells #[.int .u64 0, .int .u64 0] 182)
  clear ho
  go_enter Tryz.func142, Tryz.ntmps142
  go_wp2_with fail
  refine (tag_any _ t (ht.ext hE)).mono ?_
  rintro e w1 ⟨rfl, h1⟩
  go_wp2_with fail
  refine (tag_any _ t (ht.ext (hE.trans h1))).mono ?_
  rintro e w2 ⟨rfl, h2⟩
  have h02 := h1.trans h2
  have hnew2 := (h02.block _ (lt_of hnew)).trans hnew
  have hE2 := hE.trans h02
  have hn0 := cell_of hnew2 0
  have hn1 := cell_of hnew2 1
  have hf0 := frozen_of hnew2 0
  have hf1 := frozen_of hnew2 1
  simp at hn0 hn1
  clear hE hnew h1 h2 h02
  go_wp2
  rw [HC.out, HD.out]
  exact bodyPost_ret (results_row1 rfl _ _ rfl (load_what (set2 hnew2 _ _))) rfl (Ret.mk (Ext.put (Ext.put hE2 0 _) 1 _))
theorem alloc_set2 (w : World) (T : TypeId) (a0 a1 : Value) : (w.alloc (.cells #[a0, a1] T)).heap[w.heap.size]? = some (.cells #[a0, a1] T (0, 0)) := alloc_at _ _ _ rfl
/-- what a node may be over one of a black height. -/
def overV (h : Int) (is : Bool) : Value := if is then whatV 1 h else whatV 0 (IntKind.u64.wrap (h + 1))
set_option maxHeartbeats 400000 in
theorem rbOver_any (w : World) (h : Int) (is : Bool) : Calls Tryz.prog 141 #[.int .u64 h, .bool is] w (Ret (overV h is) w) := by
  cases is with
  | true =>
    rw [show overV h true = whatV 1 h from rfl]
    go_enter Tryz.func141, Tryz.ntmps141
    go_wp2
    exact bodyPost_ret (results_row1 rfl _ _ rfl (load_what (alloc_at _ _ _ rfl))) rfl (Ret.mk ((Ext.refl w).alloc _))
  | false =>
    rw [show overV h false = whatV 0 (IntKind.u64.wrap (h + 1)) from rfl]
    go_enter Tryz.func141, Tryz.ntmps141
    go_wp2
    exact bodyPost_ret (results_row1 rfl _ _ rfl (load_what (alloc_at _ _ _ rfl))) rfl (Ret.mk ((Ext.refl w).alloc _))
set_option maxHeartbeats 400000 in
theorem rbTag_any (w : World) (c h : Int) : Calls Tryz.prog 143 #[whatV c h] w (Ret (.int .u64 (IntKind.u64.wrap (IntKind.u64.wrap (2 * h) + c))) w) := by
  unfold whatV
  go_enter Tryz.func143, Tryz.ntmps143
  go_wp2
  go_ret
  exact Ret.mk ((Ext.refl w).alloc _)
/-- the tag of a red node, or of a black one, over a tree. -/
def rbTag (l : Tr) (is : Bool) : Int := IntKind.u64.wrap (if is then 2 * hi l + 1 else 2 * hi l + 2)
theorem rbTag_red (l : Tr) : IntKind.u64.wrap (IntKind.u64.wrap (2 * hi l) + 1) = rbTag l true := by
  unfold rbTag; simp only [u64_mod]; simp
theorem rbTag_black (l : Tr) : IntKind.u64.wrap (IntKind.u64.wrap (2 * IntKind.u64.wrap (hi l + 1)) + 0) = rbTag l false := by
  unfold rbTag; simp only [u64_mod]; simp; omega
theorem rbOverTag_any (w : World) (l : Tr) (is : Bool) : Calls Tryz.prog 143 #[overV (hi l) is] w (Ret (.int .u64 (rbTag l is)) w) := by
  cases is with
  | true => rw [← rbTag_red]; exact rbTag_any w 1 (hi l)
  | false => rw [← rbTag_black]; exact rbTag_any w 0 (IntKind.u64.wrap (hi l + 1))
set_option maxHeartbeats 400000 in
theorem rbMake_any (w : World) (l r : Tr) (k v : Int) (is : Bool) (hl : InH w l) (hr : InH w r) (hol : TagsOk l) : Calls Tryz.prog 113 #[.pointer l.ptr, .int .i64 k, .int .i64 v, .bool is, .pointer r.ptr] w (New l k v (rbTag l is) r w) := by
  have hx := Ext.refl w
  have hfld := fun (a b : Value) (w : World) => (by kernel_rfl : (Instr.field 182 (.agg #[a, b]) 1).run Tryz.prog w = .ok b w)
  have HO := Lib.hid (fun W (h : InH W l) => rbOf_any W l h hol)
  unfold whatV at HO
  go_enter Tryz.func113, Tryz.ntmps113
  go_wp2_with fail
  refine (HO.out _ hl).mono ?_
  rintro e w1 ⟨rfl, hS⟩
  replace hx := hx.trans hS
  replace hl := hl.ext hS
  replace hr := hr.ext hS
  clear hS
  go_wp2_with fail
  refine (rbOver_any _ _ is).mono ?_
  rintro e w2 ⟨rfl, hS⟩
  replace hx := hx.trans hS
  replace hl := hl.ext hS
  replace hr := hr.ext hS
  clear hS
  go_wp2_with fail
  refine (rbOverTag_any _ l is).mono ?_
  rintro e w3 ⟨rfl, hS⟩
  replace hx := hx.trans hS
  replace hl := hl.ext hS
  replace hr := hr.ext hS
  clear hS
  go_wp2_with fail
  refine (new_any _ l r k v _ hl hr).mono ?_
  rintro e w4 ⟨b, rfl, hb, ht, h4⟩
  go_wp2
  go_ret
  exact ⟨b, rfl, Nat.le_trans hx.size hb, ht, hx.trans h4⟩
/-- is it red? -/
def rbRed (t : Tr) : Bool := col t == 1
set_option maxHeartbeats 400000 in
theorem rbRed_any (w : World) (t : Tr) (ht : InH w t) (ho : TagsOk t) : Calls Tryz.prog 117 #[.pointer t.ptr] w (Ret (.bool (rbRed t)) w) := by
  have hfld := fun (a b : Value) (w : World) => (by kernel_rfl : (Instr.field 182 (.agg #[a, b]) 0).run Tryz.prog w = .ok a w)
  have H := Lib.hid (rbOf_any w t ht ho)
  have HR := Lib.hid (show rbRed t = (col t == 1) from rfl)
  unfold whatV at H
  clear ho
  go_enter Tryz.func117, Tryz.ntmps117
  go_wp2_with fail
  refine (H.out).mono ?_
  rintro e w1 ⟨rfl, hS⟩
  go_wp2
  go_ret
  exact ⟨ret_bool (by rw [HR.out]), hS⟩
set_option maxHeartbeats 400000 in
theorem rbHigh_any (w : World) (t : Tr) (ht : InH w t) (ho : TagsOk t) : Calls Tryz.prog 114 #[.pointer t.ptr] w (Ret (.int .i64 (hi t)) w) := by
  have hfld := fun (a b : Value) (w : World) => (by kernel_rfl : (Instr.field 182 (.agg #[a, b]) 1).run Tryz.prog w = .ok b w)
  have H := Lib.hid (rbOf_any w t ht ho)
  have HR := Lib.hid (show wrap64 (hi t) = hi t by have := tag_ok ho; unfold hi wrap64; omega)
  unfold whatV at H
  clear ho
  go_enter Tryz.func114, Tryz.ntmps114
  go_wp2_with fail
  refine (H.out).mono ?_
  rintro e w1 ⟨rfl, hS⟩
  go_wp2
  go_ret
  exact ⟨ret_int (by rw [HR.out]), hS⟩
/-- what becomes of a tree that is to be black. -/
def Blackens (n : Nat) (t : Tr) (w : World) (e : Ending) (w' : World) : Prop :=
  ∃ u : Tr, e = .returned (.pointer u.ptr) ∧ InH w' u ∧ Ext w w' ∧
    ((rbRed t = false ∧ u = t) ∨ (rbRed t = true ∧ ∃ b, n ≤ b ∧ u = .node b t.left t.key t.val (IntKind.u64.wrap (t.tag + 1)) t.right))
set_option maxHeartbeats 400000 in
theorem rbBlacken_any (w : World) (t : Tr) (ht : InH w t) (ho : TagsOk t) : Calls Tryz.prog 80 #[.pointer t.ptr] w (Blackens w.heap.size t w) := by
  have H := Lib.hid (rbRed_any w t ht ho)
  have hx := Ext.refl w
  clear ho
  cases hr : rbRed t with
  | false =>
    rw [hr] at H
    have HR := Lib.hid hr
    clear hr
    go_enter Tryz.func80, Tryz.ntmps80
    go_wp2_with fail
    refine (H.out).mono ?_
    rintro e w1 ⟨rfl, hS⟩
    replace hx := hx.trans hS
    replace ht := ht.ext hS
    clear hS
    go_wp2
    go_ret
    exact ⟨t, rfl, ht, hx, .inl ⟨HR.out, rfl⟩⟩
  | true =>
    rw [hr] at H
    have HR := Lib.hid hr
    clear hr
    go_enter Tryz.func80, Tryz.ntmps80
    go_wp2_with fail
    refine (H.out).mono ?_
    rintro e w1 ⟨rfl, hS⟩
    replace hx := hx.trans hS
    replace ht := ht.ext hS
    clear hS
    go_wp2_with fail
    refine (left_any _ t ht).mono ?_
    rintro e w2 ⟨rfl, hS⟩
    replace hx := hx.trans hS
    replace ht := ht.ext hS
    clear hS
    go_wp2_with fail
    refine (key_any _ t ht).mono ?_
    rintro e w3 ⟨rfl, hS⟩
    replace hx := hx.trans hS
    replace ht := ht.ext hS
    clear hS
    go_wp2_with fail
    refine (val_any _ t ht).mono ?_
    rintro e w4 ⟨rfl, hS⟩
    replace hx := hx.trans hS
    replace ht := ht.ext hS
    clear hS
    go_wp2_with fail
    refine (tag_any _ t ht).mono ?_
    rintro e w5 ⟨rfl, hS⟩
    replace hx := hx.trans hS
    replace ht := ht.ext hS
    clear hS
    go_wp2_with fail
    refine (right_any _ t ht).mono ?_
    rintro e w6 ⟨rfl, hS⟩
    replace hx := hx.trans hS
    replace ht := ht.ext hS
    clear hS
    go_wp2_with fail
    refine (new_any _ t.left t.right _ _ _ (left_ok ht) (right_ok ht)).mono ?_
    rintro e w7 ⟨b, rfl, hb, hu, hS⟩
    go_wp2
    go_ret
    exact ⟨_, rfl, hu, hx.trans hS, .inr ⟨HR.out, b, Nat.le_trans hx.size hb, rfl⟩⟩
end Go.Proofs.YtoiohjifjmejkaaGreat
