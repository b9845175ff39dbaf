/- avljoin.Join, Most; joineryref15; joinerylaw15.long, alive. -/
import Derived.Test.YtpfkolmnejandaaHang
import Derived.Test.YtpfkolmnejandaaPair
import Derived.Test.YtpfkolmnejandaaSee
namespace Go.Proofs.Ytpfkolmnejandaa
open Go Go.RowKit

theorem results_agg3 {fn : Func} {p : Tmp} {ty : TypeId} (h : fn.results = #[.cell p ty]) (tmps : Array Value) (w : World) {x : Value} {a : Addr} (hp : tmps.getD p undef = .pointer (some a))
    (hl : (loadVar ty a).run Try.prog w = .ok x w) : (results fn tmps).run Try.prog w = .ok x w := by
  simp only [Array.getD_eq_getD_getElem?] at hp
  simp [results, h, hp, hl, asAddr]
/-- what a join hands back. -/
def Joins (n : Nat) (l r : Tr) (k v : Int) (w : World) (e : Ending) (w' : World) : Prop :=
  ∃ T : Tr, e = .returned (.pointer T.ptr) ∧ JoinOk n l r k v T ∧ InH w' T ∧ Ext w w'
set_option maxHeartbeats 1000000 in
theorem refPairs_any (w : World) (p q : Value) (l r : BT) (k v : Int) (hl : Beads w p l.enc) (hr : Beads w q r.enc) (cl : l.enc.length ≤ 2000) (cr : r.enc.length ≤ 2000) :
    Calls Try.prog 33 #[p, .int .i64 k, .int .i64 v, q] w (GivesP (l.kvs ++ (k, v) :: r.kvs) w) := by
  have H1 := Lib.hid (pairs09_any l w p hl cl)
  have H2 := Lib.hid (fun W (h : Ext w W) => pairs09_any r W q (hr.ext h) cr)
  have C := Lib.hid (show l.kvs.length ≤ 2000 ∧ r.kvs.length ≤ 2000 by rw [BT.kvs_len, BT.kvs_len]; exact ⟨cl, cr⟩)
  obtain ⟨a1, c1, rfl⟩ := beads_slice hl
  obtain ⟨a2, c2, rfl⟩ := beads_slice hr
  clear hl hr cl cr
  generalize l.enc.length = L1 at *
  generalize r.enc.length = L2 at *
  generalize l.kvs = KL at *
  generalize r.kvs = KR at *
  go_enter Try.func33, Try.ntmps33
  go_wp2_with fail
  refine H1.out.mono ?_
  rintro e w1 ⟨v1, rfl, hown, h1⟩
  have hE := (Ext.refl w1).alloc (.cells #[.int .i64 k, .int .i64 v] 37)
  have HZ := Lib.hid (pown_new (B := w.heap.size) (w := w1) (k, v) h1.size).row
  have HO := Lib.hid (hown.ext hE)
  have HE := Lib.hid (h1.trans hE)
  clear hown hE h1
  go_wp2_with (at_builtin; refine wpList_append_pairs (B := w.heap.size) (zs := KL) (ys := [(k, v)]) rfl (.tmp 11) (.tmp 15) rfl rfl rfl HO.out HZ.out ?b1 HE.out.size ?_)
  case b1 => have := C.out.1; simp; omega
  intro v2 w2 hown2 hg2
  have h02 : Ext w w2 := pgrown_ext HE.out HO.out hg2
  have HO2 := Lib.hid hown2
  clear hg2 hown2
  go_wp2_with fail
  refine (H2.out w2 h02).mono ?_
  rintro e w3 ⟨v3, rfl, hown3, h3⟩
  have HO3 := Lib.hid (HO2.out.ext h3)
  have HZ3 := Lib.hid hown3.row
  have h03 := h02.trans h3
  clear hown3 h3
  go_wp2_with (at_builtin; refine wpList_append_pairs (B := w.heap.size) (zs := KL ++ [(k, v)]) (ys := KR) rfl (.tmp 17) (.tmp 19) rfl rfl rfl HO3.out HZ3.out ?d1 h03.size ?_)
  case d1 => have := C.out.1; have := C.out.2; simp; omega
  intro v4 w4 hown4 hg4
  have h04 : Ext w w4 := pgrown_ext h03 HO3.out hg4
  have HO4 := Lib.hid hown4
  clear hg4 hown4
  go_wp2
  go_ret
  exact ⟨_, rfl, by simpa using HO4.out, h04⟩
end Go.Proofs.Ytpfkolmnejandaa
