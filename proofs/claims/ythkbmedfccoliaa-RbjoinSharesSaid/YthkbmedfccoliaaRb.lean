/- The package rb, but for what goes over a tree. -/
import Derived.Test.YthkbmedfccoliaaShape
import Derived.Test.YthkbmedfccoliaaPtr
namespace Go.Proofs.Ythkbmedfccoliaa
open Go Go.RowKit

theorem u64_mod (a : Int) : IntKind.u64.wrap a = a % 18446744073709551616 := by
  have : (2 : Int) ^ 64 = 18446744073709551616 := by decide
  simp only [IntKind.wrap, IntKind.bits, IntKind.signed, this]
  simp
theorem tag_ok {T : Tr} (h : TagsOk T) : 0 ≤ T.tag ∧ T.tag < 18446744073709551616 := by
  cases T with
  | nil => exact ⟨by decide, by decide⟩
  | node b l k v g r => exact ⟨h.1, h.2.1⟩
theorem tags_left {T : Tr} (h : TagsOk T) : TagsOk T.left := by
  cases T with
  | nil => exact h
  | node b l k v g r => exact h.2.2.1
theorem tags_right {T : Tr} (h : TagsOk T) : TagsOk T.right := by
  cases T with
  | nil => exact h
  | node b l k v g r => exact h.2.2.2
/-- a struct of two numbers. -/
def whatV (c h : Int) : Value := .agg #[.int .u64 c, .int .u64 h]
def col (t : Tr) : Int := t.tag % 2
def hi (t : Tr) : Int := t.tag / 2
theorem set2 {w : World} {N : Nat} {T : TypeId} {a0 a1 : Value} (h : w.heap[N]? = some (.cells #[a0, a1] T (0, 0))) (b0 b1 : Value) :
    ((w.setCell ⟨N, 0, none⟩ b0).setCell ⟨N, 1, none⟩ b1).heap[N]? = some (.cells #[b0, b1] T (0, 0)) := by
  simp [World.setCell, Array.getElem?_modify, h]
theorem load_what {w : World} {N : Nat} {c h : Int} (hh : w.heap[N]? = some (.cells #[.int .u64 c, .int .u64 h] 72 (0, 0))) : (loadVar 72 ⟨N, 0, none⟩).run Try.prog w = .ok (whatV c h) w := by
  refine run_loadVar_mid w N 0 _ [.int .u64 c, .int .u64 h] _ (fun j v hj => ?_) Try.underlying72 rfl (by kernel_rfl)
  rw [Nat.zero_add, cell_of hh j]
  simpa using hj
theorem results_row1 {fn : Func} {p : Tmp} {ty : TypeId} (h : fn.results = #[.cell p ty]) (tmps : Array Value) (w : World) {x : Value} {a : Addr} (hp : tmps.getD p undef = .pointer (some a))
    (hl : (loadVar ty a).run Try.prog w = .ok x w) : (results fn tmps).run Try.prog w = .ok x w := by
  simp only [Array.getD_eq_getD_getElem?] at hp
  simp [results, h, hp, hl, asAddr]
theorem hi_div {t : Tr} (h : TagsOk t) : IntKind.u64.wrap (t.tag.tdiv 2) = hi t := by
  have := tag_ok h
  rw [Int.tdiv_eq_ediv_of_nonneg this.1, u64_mod]
  unfold hi
  omega
set_option maxHeartbeats 1000000 in
theorem rbOf_any (w : World) (t : Tr) (ht : InH w t) (ho : TagsOk t) : Calls Try.prog 44 #[.pointer t.ptr] w (Ret (whatV (col t) (hi t)) w) := by
  have HC := Lib.hid (show t.tag % 2 = col t from rfl)
  have HD := Lib.hid (hi_div ho)
  have h0 := (tag_ok ho).1
  have hnew := alloc_at w (.cells #[.int .u64 0, .int .u64 0] 72) _ rfl
  have hE := (Ext.refl w).alloc (.cells #[.int .u64 0, .int .u64 0] 72)
  clear ho
  go_enter Try.func44, Try.ntmps44
  go_wp2_with fail
  refine (tag_any _ t (ht.ext hE)).mono ?_
  rintro e w1 ⟨rfl, h1⟩
  go_wp2_with fail
  refine (tag_any _ t (ht.ext (hE.trans h1))).mono ?_
  rintro e w2 ⟨rfl, h2⟩
  have h02 := h1.trans h2
  have hnew2 := (h02.block _ (lt_of hnew)).trans hnew
  have hE2 := hE.trans h02
  have hn0 := cell_of hnew2 0
  have hn1 := cell_of hnew2 1
  have hf0 := frozen_of hnew2 0
  have hf1 := frozen_of hnew2 1
  simp at hn0 hn1
  clear hE hnew h1 h2 h02
  go_wp2
  rw [HC.out, HD.out]
  exact bodyPost_ret (results_row1 rfl _ _ rfl (load_what (set2 hnew2 _ _))) rfl (Ret.mk (Ext.put (Ext.put hE2 0 _) 1 _))
theorem alloc_set2 (w : World) (T : TypeId) (a0 a1 : Value) : (w.alloc (.cells #[a0, a1] T)).heap[w.heap.size]? = some (.cells #[a0, a1] T (0, 0)) := alloc_at _ _ _ rfl
/-- what a node may be over one of a black height. -/
def overV (h : Int) (is : Bool) : Value := if is then whatV 1 h else whatV 0 (IntKind.u64.wrap (h + 1))
set_option maxHeartbeats 400000 in
theorem rbOver_any (w : World) (h : Int) (is : Bool) : Calls Try.prog 51 #[.int .u64 h, .bool is] w (Ret (overV h is) w) := by
  cases is with
  | true =>
    rw [show overV h true = whatV 1 h from rfl]
    go_enter Try.func51, Try.ntmps51
    go_wp2
    exact bodyPost_ret (results_row1 rfl _ _ rfl (load_what (alloc_at _ _ _ rfl))) rfl (Ret.mk ((Ext.refl w).alloc _))
  | false =>
    rw [show overV h false = whatV 0 (IntKind.u64.wrap (h + 1)) from rfl]
    go_enter Try.func51, Try.ntmps51
    go_wp2
    exact bodyPost_ret (results_row1 rfl _ _ rfl (load_what (alloc_at _ _ _ rfl))) rfl (Ret.mk ((Ext.refl w).alloc _))
set_option maxHeartbeats 400000 in
theorem rbTag_any (w : World) (c h : Int) : Calls Try.prog 52 #[whatV c h] w (Ret (.int .u64 (IntKind.u64.wrap (IntKind.u64.wrap (2 * h) + c))) w) := by
  unfold whatV
  go_enter Try.func52, Try.ntmps52
  go_wp2
  go_ret
  exact Ret.mk ((Ext.refl w).alloc _)
/-- the tag of a red node, or of a black one, over a tree. -/
def rbTag (l : Tr) (is : Bool) : Int := IntKind.u64.wrap (if is then 2 * hi l + 1 else 2 * hi l + 2)
theorem rbTag_red (l : Tr) : IntKind.u64.wrap (IntKind.u64.wrap (2 * hi l) + 1) = rbTag l true := by
  unfold rbTag; simp only [u64_mod]; simp
theorem rbTag_black (l : Tr) : IntKind.u64.wrap (IntKind.u64.wrap (2 * IntKind.u64.wrap (hi l + 1)) + 0) = rbTag l false := by
  unfold rbTag; simp only [u64_mod]; simp; omega
theorem rbOverTag_any (w : World) (l : Tr) (is : Bool) : Calls Try.prog 52 #[overV (hi l) is] w (Ret (.int .u64 (rbTag l is)) w) := by
  cases is with
  | true => rw [← rbTag_red]; exact rbTag_any w 1 (hi l)
  | false => rw [← rbTag_black]; exact rbTag_any w 0 (IntKind.u64.wrap (hi l + 1))
set_option maxHeartbeats 400000 in
theorem rbMake_any (w : World) (l r : Tr) (k v : Int) (is : Bool) (hl : InH w l) (hr : InH w r) (hol : TagsOk l) : Calls Try.prog 30 #[.pointer l.ptr, .int .i64 k, .int .i64 v, .bool is, .pointer r.ptr] w (New l k v (rbTag l is) r w) := by
  have hx := Ext.refl w
  have hfld := fun (a b : Value) (w : World) => (by kernel_rfl : (Instr.field 72 (.agg #[a, b]) 1).run Try.prog w = .ok b w)
  have HO := Lib.hid (fun W (h : InH W l) => rbOf_any W l h hol)
  unfold whatV at HO
  go_enter Try.func30, Try.ntmps30
  go_wp2_with fail
  refine (HO.out _ hl).mono ?_
  rintro e w1 ⟨rfl, hS⟩
  replace hx := hx.trans hS
  replace hl := hl.ext hS
  replace hr := hr.ext hS
  clear hS
  go_wp2_with fail
  refine (rbOver_any _ _ is).mono ?_
  rintro e w2 ⟨rfl, hS⟩
  replace hx := hx.trans hS
  replace hl := hl.ext hS
  replace hr := hr.ext hS
  clear hS
  go_wp2_with fail
  refine (rbOverTag_any _ l is).mono ?_
  rintro e w3 ⟨rfl, hS⟩
  replace hx := hx.trans hS
  replace hl := hl.ext hS
  replace hr := hr.ext hS
  clear hS
  go_wp2_with fail
  refine (new_any _ l r k v _ hl hr).mono ?_
  rintro e w4 ⟨b, rfl, hb, ht, h4⟩
  go_wp2
  go_ret
  exact ⟨b, rfl, Nat.le_trans hx.size hb, ht, hx.trans h4⟩
/-- is it red? -/
def rbRed (t : Tr) : Bool := col t == 1
set_option maxHeartbeats 400000 in
theorem rbRed_any (w : World) (t : Tr) (ht : InH w t) (ho : TagsOk t) : Calls Try.prog 37 #[.pointer t.ptr] w (Ret (.bool (rbRed t)) w) := by
  have hfld := fun (a b : Value) (w : World) => (by kernel_rfl : (Instr.field 72 (.agg #[a, b]) 0).run Try.prog w = .ok a w)
  have H := Lib.hid (rbOf_any w t ht ho)
  have HR := Lib.hid (show rbRed t = (col t == 1) from rfl)
  unfold whatV at H
  clear ho
  go_enter Try.func37, Try.ntmps37
  go_wp2_with fail
  refine (H.out).mono ?_
  rintro e w1 ⟨rfl, hS⟩
  go_wp2
  go_ret
  exact ⟨ret_bool (by rw [HR.out]), hS⟩
set_option maxHeartbeats 400000 in
theorem rbHigh_any (w : World) (t : Tr) (ht : InH w t) (ho : TagsOk t) : Calls Try.prog 19 #[.pointer t.ptr] w (Ret (.int .i64 (hi t)) w) := by
  have hfld := fun (a b : Value) (w : World) => (by kernel_rfl : (Instr.field 72 (.agg #[a, b]) 1).run Try.prog w = .ok b w)
  have H := Lib.hid (rbOf_any w t ht ho)
  have HR := Lib.hid (show wrap64 (hi t) = hi t by have := tag_ok ho; unfold hi wrap64; omega)
  unfold whatV at H
  clear ho
  go_enter Try.func19, Try.ntmps19
  go_wp2_with fail
  refine (H.out).mono ?_
  rintro e w1 ⟨rfl, hS⟩
  go_wp2
  go_ret
  exact ⟨ret_int (by rw [HR.out]), hS⟩
/-- what becomes of a tree that is to be black. -/
def Blackens (n : Nat) (t : Tr) (w : World) (e : Ending) (w' : World) : Prop :=
  ∃ u : Tr, e = .returned (.pointer u.ptr) ∧ InH w' u ∧ Ext w w' ∧
    ((rbRed t = false ∧ u = t) ∨ (rbRed t = true ∧ ∃ b, n ≤ b ∧ u = .node b t.left t.key t.val (IntKind.u64.wrap (t.tag + 1)) t.right))
set_option maxHeartbeats 400000 in
theorem rbBlacken_any (w : World) (t : Tr) (ht : InH w t) (ho : TagsOk t) : Calls Try.prog 15 #[.pointer t.ptr] w (Blackens w.heap.size t w) := by
  have H := Lib.hid (rbRed_any w t ht ho)
  have hx := Ext.refl w
  clear ho
  cases hr : rbRed t with
  | false =>
    rw [hr] at H
    have HR := Lib.hid hr
    clear hr
    go_enter Try.func15, Try.ntmps15
    go_wp2_with fail
    refine (H.out).mono ?_
    rintro e w1 ⟨rfl, hS⟩
    replace hx := hx.trans hS
    replace ht := ht.ext hS
    clear hS
    go_wp2
    go_ret
    exact ⟨t, rfl, ht, hx, .inl ⟨HR.out, rfl⟩⟩
  | true =>
    rw [hr] at H
    have HR := Lib.hid hr
    clear hr
    go_enter Try.func15, Try.ntmps15
    go_wp2_with fail
    refine (H.out).mono ?_
    rintro e w1 ⟨rfl, hS⟩
    replace hx := hx.trans hS
    replace ht := ht.ext hS
    clear hS
    go_wp2_with fail
    refine (left_any _ t ht).mono ?_
    rintro e w2 ⟨rfl, hS⟩
    replace hx := hx.trans hS
    replace ht := ht.ext hS
    clear hS
    go_wp2_with fail
    refine (key_any _ t ht).mono ?_
    rintro e w3 ⟨rfl, hS⟩
    replace hx := hx.trans hS
    replace ht := ht.ext hS
    clear hS
    go_wp2_with fail
    refine (val_any _ t ht).mono ?_
    rintro e w4 ⟨rfl, hS⟩
    replace hx := hx.trans hS
    replace ht := ht.ext hS
    clear hS
    go_wp2_with fail
    refine (tag_any _ t ht).mono ?_
    rintro e w5 ⟨rfl, hS⟩
    replace hx := hx.trans hS
    replace ht := ht.ext hS
    clear hS
    go_wp2_with fail
    refine (right_any _ t ht).mono ?_
    rintro e w6 ⟨rfl, hS⟩
    replace hx := hx.trans hS
    replace ht := ht.ext hS
    clear hS
    go_wp2_with fail
    refine (new_any _ t.left t.right _ _ _ (left_ok ht) (right_ok ht)).mono ?_
    rintro e w7 ⟨b, rfl, hb, hu, hS⟩
    go_wp2
    go_ret
    exact ⟨_, rfl, hu, hx.trans hS, .inr ⟨HR.out, b, Nat.le_trans hx.size hb, rfl⟩⟩
end Go.Proofs.Ythkbmedfccoliaa
