/- joineryref06: May, takes, Takes, Not; joinerylaw06.pair. joineryref06: Takes, Not; joinerylaw06: pair, own; joineryref04.Same. sift.Split, Keep; joineryref06.Keep; joineryref04.Same. joineryref06.Keep. joinerylaw06.alive. -/
import Derived.Test.YtoiohjifjmejkaaGreatM13
import Derived.Test.YtoiohjifjmejkaaGreatM44
namespace Go.Proofs.YtoiohjifjmejkaaGreat
open Go Go.RowKit

theorem bv_or {A B : BitVec 64} : (A ||| B = A) ↔ (B &&& ~~~A = 0#64) := by
  constructor
  · intro h
    apply BitVec.eq_of_getLsbD_eq
    intro i hi
    have := congrArg (fun x => x.getLsbD i) h
    simp [hi] at this ⊢
    exact this
  · intro h
    apply BitVec.eq_of_getLsbD_eq
    intro i hi
    have := congrArg (fun x => x.getLsbD i) h
    simp [hi] at this ⊢
    exact this
theorem wrap_toNat (X : BitVec 64) : IntKind.i64.wrap (X.toNat : Int) = X.toInt := by
  have := X.isLt
  simp [IntKind.wrap, IntKind.bits, IntKind.signed, BitVec.toInt_eq_toNat_cond]
  omega
theorem ofInt_self {a : Int} (h : -9223372036854775808 ≤ a) (h' : a ≤ 9223372036854775807) : (BitVec.ofInt 64 a).toInt = a := by
  rw [BitVec.toInt_ofInt, Int.bmod_def]
  omega
theorem ofInt_wrap (a : Int) : BitVec.ofInt 64 (IntKind.u64.wrap a) = BitVec.ofInt 64 a := by
  apply BitVec.eq_of_toInt_eq
  rw [BitVec.toInt_ofInt, BitVec.toInt_ofInt, IntKind.wrap_u64, Int.bmod_def, Int.bmod_def]
  omega
theorem ofInt_toNat (a : Int) : ((BitVec.ofInt 64 a).toNat : Int) = IntKind.u64.wrap a := by
  rw [BitVec.toNat_ofInt, IntKind.wrap_u64]
  omega
theorem bits64 (a b : Int) (ha : -9223372036854775808 ≤ a) (ha' : a ≤ 9223372036854775807) :
    (Go.bits .or .i64 a b == a) = (Go.bits .andNot .u64 (IntKind.u64.wrap b) (IntKind.u64.wrap a) == 0) := by
  rw [Bool.eq_iff_iff, beq_iff_eq, beq_iff_eq]
  show IntKind.i64.wrap ((BitVec.ofInt 64 a ||| BitVec.ofInt 64 b).toNat : Int) = a ↔ IntKind.u64.wrap ((BitVec.ofInt 64 (IntKind.u64.wrap b) &&& ~~~BitVec.ofInt 64 (IntKind.u64.wrap a)).toNat : Int) = 0
  rw [wrap_toNat, ofInt_wrap, ofInt_wrap]
  have e1 : ((BitVec.ofInt 64 a ||| BitVec.ofInt 64 b).toInt = a) ↔ (BitVec.ofInt 64 a ||| BitVec.ofInt 64 b = BitVec.ofInt 64 a) := by
    constructor
    · intro h
      apply BitVec.eq_of_toInt_eq
      rw [h, ofInt_self ha ha']
    · intro h
      rw [h, ofInt_self ha ha']
  rw [e1, bv_or]
  generalize BitVec.ofInt 64 b &&& ~~~BitVec.ofInt 64 a = X
  have := X.isLt
  rw [IntKind.wrap_u64]
  constructor
  · intro h; subst h; rfl
  · intro h
    apply BitVec.eq_of_toNat_eq
    simp
    omega
theorem bits64' (k a b : Int) (hb : -9223372036854775808 ≤ b) (hb' : b ≤ 9223372036854775807) :
    (Go.bits .and .i64 k a == b) = (Go.bits .and .u64 (IntKind.u64.wrap k) (IntKind.u64.wrap a) == IntKind.u64.wrap b) := by
  rw [Bool.eq_iff_iff, beq_iff_eq, beq_iff_eq]
  show IntKind.i64.wrap ((BitVec.ofInt 64 k &&& BitVec.ofInt 64 a).toNat : Int) = b ↔ IntKind.u64.wrap ((BitVec.ofInt 64 (IntKind.u64.wrap k) &&& BitVec.ofInt 64 (IntKind.u64.wrap a)).toNat : Int) = IntKind.u64.wrap b
  rw [wrap_toNat, ofInt_wrap, ofInt_wrap]
  generalize BitVec.ofInt 64 k &&& BitVec.ofInt 64 a = X
  have hX := X.isLt
  rw [IntKind.wrap_u64]
  have e : ((X.toNat : Int) % 18446744073709551616) = X.toNat := by omega
  rw [e, ← ofInt_toNat b]
  constructor
  · intro h
    rw [← h, BitVec.ofInt_toInt]
  · intro h
    have : X = BitVec.ofInt 64 b := BitVec.eq_of_toNat_eq (by omega)
    rw [this, ofInt_self hb hb']
/-- numbers of 64 bits. -/
def I64 (a : Int) : Prop := -9223372036854775808 ≤ a ∧ a ≤ 9223372036854775807
set_option maxRecDepth 100000 in
set_option maxHeartbeats 2000000 in
theorem refMay_any (w : World) (kd : Nat) (a b : Int) (nt : Bool) (ha : I64 a) : Calls Tryz.prog 14 #[predV kd a b nt] w (Ret (.bool (sMay kd a b)) w) := by
  have HB := Lib.hid (bits64 a b ha.1 ha.2)
  clear ha
  unfold predV
  have hE := Lib.hid ((Ext.refl w).alloc (.cells #[.int .u8 kd, .int .i64 a, .int .i64 b, .bool nt] 23))
  have hcases : kd = 1 ∨ kd = 2 ∨ kd = 3 ∨ kd = 4 ∨ kd = 5 ∨ (kd = 0 ∨ 6 ≤ kd) := by omega
  rcases hcases with rfl | rfl | rfl | rfl | rfl | hk
  · rw [show sMay 1 a b = (a == 0 && b == 0) from rfl]
    go_enter Tryz.func14, Tryz.ntmps14
    go_wp2
    all_goals
      go_ret
      exact ⟨ret_bool (by simp_all), (Ext.refl w).alloc _⟩
  · rw [show sMay 2 a b = true from rfl]
    go_enter Tryz.func14, Tryz.ntmps14
    go_wp2
    all_goals
      go_ret
      exact ⟨ret_bool rfl, (Ext.refl w).alloc _⟩
  · rw [show sMay 3 a b = true from rfl]
    go_enter Tryz.func14, Tryz.ntmps14
    go_wp2
    all_goals
      go_ret
      exact ⟨ret_bool rfl, (Ext.refl w).alloc _⟩
  · rw [show sMay 4 a b = (decide (0 < a) && decide (0 ≤ b) && decide (b < a)) from rfl]
    go_enter Tryz.func14, Tryz.ntmps14
    go_wp2
    all_goals
      go_ret
      exact ⟨ret_bool (by simp; try omega), (Ext.refl w).alloc _⟩
  · rw [show sMay 5 a b = (Go.bits .or .i64 a b == a) from rfl]
    go_enter Tryz.func14, Tryz.ntmps14
    go_wp2
    all_goals
      go_ret
      exact ⟨ret_bool (by rw [HB.out]), (Ext.refl w).alloc _⟩
  · have h1 : ((kd : Int) == 1) = false := by simp; omega
    have h2 : ((kd : Int) == 2) = false := by simp; omega
    have h3 : ((kd : Int) == 3) = false := by simp; omega
    have h4 : ((kd : Int) == 4) = false := by simp; omega
    have h5 : ((kd : Int) == 5) = false := by simp; omega
    have hm : sMay kd a b = false := by unfold sMay; rw [if_neg (by omega), if_neg (by omega), if_neg (by omega), if_neg (by omega), if_neg (by omega)]
    rw [hm]
    clear hm hk
    go_enter Tryz.func14, Tryz.ntmps14
    go_wp2
    go_ret
    exact Ret.mk ((Ext.refl w).alloc _)
/-- what a key leaves. -/
def restV (k a : Int) : Int := if k.tmod a < 0 then wrap64 (k.tmod a + a) else k.tmod a
theorem tmod_range (k a : Int) (ha : 0 < a) : -a < k.tmod a ∧ k.tmod a < a := by
  refine ⟨?_, Int.tmod_lt_of_pos k ha⟩
  have h := Int.tmod_lt_of_pos (-k) ha
  rw [Int.neg_tmod] at h
  omega
theorem rest_any (w : World) (k a : Int) (ha : 0 < a) : Calls Tryz.prog 106 #[.int .i64 k, .int .i64 a] w (Ret (.int .i64 (restV k a)) w) := by
  have hne : ¬ a = 0 := by omega
  unfold restV
  by_cases h : k.tmod a < 0
  · rw [if_pos h]
    go_enter Tryz.func106, Tryz.ntmps106
    go_wp2
    all_goals
      go_ret
      exact Ret.mk (Ext.refl _)
  · rw [if_neg h]
    go_enter Tryz.func106, Tryz.ntmps106
    go_wp2
    all_goals
      go_ret
      exact Ret.mk (Ext.refl _)
theorem rest_law (k a b : Int) (ha : 0 < a) (ha' : a ≤ 9223372036854775807) (hb : 0 ≤ b) (hba : b < a) : (k.tmod a == b || wrap64 (k.tmod a + a) == b) = (restV k a == b) := by
  obtain ⟨h1, h2⟩ := tmod_range k a ha
  unfold restV
  generalize k.tmod a = r at *
  rw [Bool.eq_iff_iff, Bool.or_eq_true, beq_iff_eq, beq_iff_eq, beq_iff_eq]
  unfold wrap64
  split <;> omega
set_option maxRecDepth 100000 in
set_option maxHeartbeats 2000000 in
theorem refTk_any (w : World) (kd : Nat) (a b : Int) (nt : Bool) (k v : Int) (ha : I64 a) (hb : I64 b) (hm : sMay kd a b = true) : Calls Tryz.prog 66 #[predV kd a b nt, pairV k v] w (Ret (.bool (sTk kd a b k v)) w) := by
  have hfn : ∀ f, Fence.wide.fn f := fun _ => trivial
  have HB := Lib.hid (bits64' k a b hb.1 hb.2)
  obtain ⟨h1, h5⟩ := sMay_kind hm
  have H4 : kd = 4 → 0 < a ∧ a ≤ 9223372036854775807 ∧ 0 ≤ b ∧ b < a := fun h => by subst h; unfold sMay at hm; simp at hm; have := ha.2; omega
  clear hm ha hb
  unfold predV pairV
  have hcases : kd = 1 ∨ kd = 2 ∨ kd = 3 ∨ kd = 4 ∨ kd = 5 := by omega
  rcases hcases with rfl | rfl | rfl | rfl | rfl
  · rw [show sTk 1 a b k v = true from rfl]
    go_enter Tryz.func66, Tryz.ntmps66
    go_wp2
    all_goals
      go_ret
      exact ⟨ret_bool rfl, ((Ext.refl w).alloc _).alloc _⟩
  · rw [show sTk 2 a b k v = (decide (a ≤ k) && decide (k ≤ b)) from rfl]
    go_enter Tryz.func66, Tryz.ntmps66
    go_wp2
    all_goals
      go_ret
      exact ⟨ret_bool (by simp; try omega), ((Ext.refl w).alloc _).alloc _⟩
  · rw [show sTk 3 a b k v = (decide (a ≤ v) && decide (v ≤ b)) from rfl]
    go_enter Tryz.func66, Tryz.ntmps66
    go_wp2
    all_goals
      go_ret
      exact ⟨ret_bool (by simp; try omega), ((Ext.refl w).alloc _).alloc _⟩
  · have hl := rest_law k a b (H4 rfl).1 (H4 rfl).2.1 (H4 rfl).2.2.1 (H4 rfl).2.2.2
    have HR := Lib.hid (fun W => rest_any W k a (H4 rfl).1)
    rw [show sTk 4 a b k v = (k.tmod a == b || wrap64 (k.tmod a + a) == b) from rfl, hl]
    clear hl H4 h1 h5
    go_enter Tryz.func66, Tryz.ntmps66
    obtain ⟨m⟩ : Nonempty Nat := ⟨0⟩
    refine (wpIn_wide (n := m)).1 ?_
    gi_wp2_with fail
    obtain ⟨w1, hw1⟩ : ∃ w1, w1 = (w.alloc (.cells #[.int .u8 4, .int .i64 a, .int .i64 b, .bool nt] 23)).alloc (.cells #[.int .i64 k, .int .i64 v] 52) := ⟨_, rfl⟩
    have hE : Ext w w1 := by rw [hw1]; exact ((Ext.refl w).alloc _).alloc _
    have hb0 : w1.heap[w.heap.size]? = some (.cells #[.int .u8 4, .int .i64 a, .int .i64 b, .bool nt] 23 (0, 0)) := by rw [hw1, alloc_lt _ _ _ (by simp)]; exact alloc_at _ _ _ rfl
    have hb1 : w1.heap[w.heap.size + 1]? = some (.cells #[.int .i64 k, .int .i64 v] 52 (0, 0)) := by rw [hw1]; exact alloc_at _ _ _ (by simp)
    rw [← hw1]
    clear hw1
    have hc1 := cell_of hb0 1
    have hc2 := cell_of hb0 2
    have hd0 := cell_of hb1 0
    simp at hc1 hc2 hd0
    replace hc1 := cell_all hc1
    replace hc2 := cell_all hc2
    replace hd0 := cell_all hd0
    have hx := Ext.drew w1
    refine wpIn_region_G (fun j => !(List.contains (α := Nat) [] j)) (by kernel_rfl) ?_
    refine batchG hfn (fuel := 3) [0, 1, 2, 3, 5, 6] (by kernel_rfl) rfl ?_
    repeat (go_big_quiet_step ((fail)))
    refine wpQuiet_nil ?_
    refine wpAnyG_one (j := 4) (by kernel_rfl) rfl ?_
    gi_wp2_with fail
    refine ⟨wide_room _, (callsIn_wide.2 (HR.out _)).mono ?_⟩
    generalize restV k a = U at *
    rintro e w2 ⟨rfl, h2⟩
    have h12 := hx.trans h2
    gi_wp2_with fail
    refine onePost_ext (h2) ?_
    refine batchG hfn (fuel := 0) [7, 8] (by kernel_rfl) rfl ?_
    repeat (go_big_quiet_step ((fail)))
    refine wpQuiet_nil ?_
    refine wpAnyG_done (by kernel_rfl) ?_
    refine calmQ_normal ?_
    gi_wp2
    go_ret
    exact Ret.mk (hE.trans h12)
  · rw [show sTk 5 a b k v = (Go.bits .and .i64 k a == b) from rfl, HB.out]
    go_enter Tryz.func66, Tryz.ntmps66
    go_wp2
    all_goals
      go_ret
      exact ⟨ret_bool rfl, ((Ext.refl w).alloc _).alloc _⟩
end Go.Proofs.YtoiohjifjmejkaaGreat
namespace Go.Proofs.YtoiohjifjmejkaaGreat
open Go Go.RowKit

set_option maxRecDepth 100000 in
set_option maxHeartbeats 2000000 in
theorem refTakes_any (w : World) (kd : Nat) (a b : Int) (nt : Bool) (k v : Int) (ha : I64 a) (hb : I64 b) : Calls Tryz.prog 42 #[predV kd a b nt, pairV k v] w (Ret (.bool (sTakes kd a b nt k v)) w) := by
  have hfn : ∀ f, Fence.wide.fn f := fun _ => trivial
  have HMAY := Lib.hid (fun W => refMay_any W kd a b nt ha)
  have HTK := Lib.hid (fun W hm => refTk_any W kd a b nt k v ha hb hm)
  have hpv : predV kd a b nt = .agg #[.int .u8 kd, .int .i64 a, .int .i64 b, .bool nt] := rfl
  have hqv : pairV k v = .agg #[.int .i64 k, .int .i64 v] := rfl
  rw [hpv] at HMAY HTK
  rw [hqv] at HTK
  rw [hpv, hqv]
  clear hpv hqv ha hb
  obtain ⟨w1, hw1⟩ : ∃ w1, w1 = (w.alloc (.cells #[.int .u8 kd, .int .i64 a, .int .i64 b, .bool nt] 23)).alloc (.cells #[.int .i64 k, .int .i64 v] 52) := ⟨_, rfl⟩
  have hE : Ext w w1 := by rw [hw1]; exact ((Ext.refl w).alloc _).alloc _
  have hb0 : w1.heap[w.heap.size]? = some (.cells #[.int .u8 kd, .int .i64 a, .int .i64 b, .bool nt] 23 (0, 0)) := by rw [hw1, alloc_lt _ _ _ (by simp)]; exact alloc_at _ _ _ rfl
  have hb1 : w1.heap[w.heap.size + 1]? = some (.cells #[.int .i64 k, .int .i64 v] 52 (0, 0)) := by rw [hw1]; exact alloc_at _ _ _ (by simp)
  have HW := Lib.hid hw1
  clear hw1
  go_enter Tryz.func42, Tryz.ntmps42
  obtain ⟨m⟩ : Nonempty Nat := ⟨0⟩
  refine (wpIn_wide (n := m)).1 ?_
  gi_wp2_with fail
  rw [← HW.out]
  clear HW
  have hc0 := cell_of hb0 0
  have hc1 := cell_of hb0 1
  have hc2 := cell_of hb0 2
  have hc3 := cell_of hb0 3
  have hd0 := cell_of hb1 0
  have hd1 := cell_of hb1 1
  simp at hc0 hc1 hc2 hc3 hd0 hd1
  replace hc0 := cell_all hc0
  replace hc1 := cell_all hc1
  replace hc2 := cell_all hc2
  replace hc3 := cell_all hc3
  replace hd0 := cell_all hd0
  replace hd1 := cell_all hd1
  have hx := Ext.drew w1
  refine wpIn_region_G (fun j => !(List.contains (α := Nat) [1] j)) (by kernel_rfl) ?_
  refine batchG hfn (fuel := 10) [0] (by kernel_rfl) rfl ?_
  repeat (go_big_quiet_step ((fail)))
  refine wpQuiet_nil ?_
  refine wpAnyG_one (j := 1) (by kernel_rfl) rfl ?_
  gi_wp2_with fail
  refine ⟨wide_room _, (callsIn_wide.2 (HMAY.out _)).mono ?_⟩
  cases hm : sMay kd a b with
  | false =>
    have HS := Lib.hid (show sTakes kd a b nt k v = false by unfold sTakes; rw [hm]; rfl)
    clear hm
    rintro e w2 ⟨rfl, h2⟩
    have h12 := hx.trans h2
    clear hx
    have hx := Ext.refl w2
    gi_wp2_with fail
    refine onePost_any (by kernel_rfl) ?_
    refine batchG hfn (fuel := 4) [2, 3, 4, 6, 7] (by kernel_rfl) rfl ?_
    repeat (go_big_quiet_step ((fail)))
    refine wpQuiet_nil ?_
    refine wpAnyG_skip hfn (j := 5) (by kernel_rfl) rfl rfl ?_
    simp only [Act.put, List.setIfInBounds_toArray, List.set_cons_zero, List.set_cons_succ]
    refine batchG hfn (fuel := 0) [8, 9, 10] (by kernel_rfl) rfl ?_
    repeat (go_big_quiet_step ((fail)))
    refine wpQuiet_nil ?_
    refine wpAnyG_done (by kernel_rfl) ?_
    refine calmQ_normal ?_
    gi_wp2
    go_ret
    exact ⟨ret_bool HS.out.symm, hE.trans h12⟩
  | true =>
    have HS := Lib.hid (show sTakes kd a b nt k v = (sTk kd a b k v != nt) by unfold sTakes; rw [hm]; rfl)
    have HM := Lib.hid hm
    clear hm
    rintro e w2 ⟨rfl, h2⟩
    have h12 := hx.trans h2
    clear hx
    have hx := Ext.refl w2
    replace hc0 := cell_all (hc0 w1 (Ext.refl _) ⟨w2, h12⟩)
    replace hc1 := cell_all (hc1 w1 (Ext.refl _) ⟨w2, h12⟩)
    replace hc2 := cell_all (hc2 w1 (Ext.refl _) ⟨w2, h12⟩)
    replace hc3 := cell_all (hc3 w1 (Ext.refl _) ⟨w2, h12⟩)
    replace hd0 := cell_all (hd0 w1 (Ext.refl _) ⟨w2, h12⟩)
    replace hd1 := cell_all (hd1 w1 (Ext.refl _) ⟨w2, h12⟩)
    gi_wp2_with fail
    refine onePost_any (by kernel_rfl) ?_
    refine batchG hfn (fuel := 4) [2, 3, 4, 6, 7] (by kernel_rfl) rfl ?_
    repeat (go_big_quiet_step ((fail)))
    refine wpQuiet_nil ?_
    clear hc0 hc1 hc2 hc3 hd0 hd1 hx
    refine wpAnyG_one (j := 5) (by kernel_rfl) rfl ?_
    gi_wp2_with fail
    refine ⟨wide_room _, (callsIn_wide.2 (HTK.out w2 HM.out)).mono ?_⟩
    rintro e w4 ⟨rfl, h4⟩
    generalize sTk kd a b k v = U at *
    gi_wp2_with fail
    refine onePost_ext (h4) ?_
    cases nt <;> cases U
    all_goals
      refine batchG hfn (fuel := 0) [8, 9, 10] (by kernel_rfl) rfl ?_
      repeat (go_big_quiet_step ((fail)))
      refine wpQuiet_nil ?_
      refine wpAnyG_done (by kernel_rfl) ?_
      refine calmQ_normal ?_
      gi_wp2
      go_ret
      exact ⟨ret_bool HS.out.symm, (hE.trans h12).trans h4⟩
end Go.Proofs.YtoiohjifjmejkaaGreat
namespace Go.Proofs.YtoiohjifjmejkaaGreat
open Go Go.RowKit

/-- append, onto a row of one's own: and where it lies. -/
theorem append_pown2 {B : Nat} {w : World} {v u : Value} {zs ys : List (Int × Int)} (ty : TypeId) (hv : POwn B w v zs) (hu : PRow w u ys) (hlen : zs.length + ys.length ≤ 10000) (hB : B ≤ w.heap.size) (h0 : ys ≠ []) :
    ∃ v' w', (Builtin.append_ #[49, 49] ty #[v, u]).run Tryz.prog w = .ok v' w' ∧ POwn B w' v' (zs ++ ys) ∧ w.grownBy w' v.ownBlock ∧ (v'.ownBlock = v.ownBlock ∨ v'.ownBlock = some w.heap.size) := by
  obtain ⟨i, hi, hz, hs, hb⟩ := pair_info
  have hml : (10000 : Nat) ≤ maxLen := by decide
  rcases hu with ⟨h, _⟩ | ⟨b, o, c, rfl, _, hc, hr⟩
  · exact (h0 h).elim
  · obtain ⟨v', w', hrun, hown, hg, _, hw⟩ := run_append_own_at (P := Tryz.prog) w B _ ty _ i _ 2 16 Tryz.underlying49 hi hz hs hb rfl (by omega) v zs.length (pairCells zs) hv ⟨b, o, none⟩ ys.length c (pairCells ys) (pairCells_len ys)
      (fun j u hj => by rw [Addr.add_mid]; exact hr j u hj) (pairCells_one ys) (by omega) (by omega) hB
    refine ⟨v', w', hrun, ?_, hg, hw⟩
    show w'.ownsRow _ _ _ _ _ _
    rw [List.length_append, pairCells_append]
    exact hown
theorem wpList_append_pairs2 {ops : Array Oper} {rest : List Oper} {o : Oper} {a : Act} {Q : Exit → Act → World → Prop} (hgd : o.guard = none) (s x : Operand) (ho : o.op = .call { callee := .builtin .append, args := #[s, x], argTypes := #[49, 49] })
    {B : Nat} {w : World} {v u : Value} {zs ys : List (Int × Int)} (hs : a.eval s = v) (hx : a.eval x = u) (hv : POwn B w v zs) (hu : PRow w u ys) (hlen : zs.length + ys.length ≤ 10000) (hB : B ≤ w.heap.size) (h0 : ys ≠ [])
    (h : ∀ v' w', POwn B w' v' (zs ++ ys) → w.grownBy w' v.ownBlock → (v'.ownBlock = v.ownBlock ∨ v'.ownBlock = some w.heap.size) → wpList Tryz.prog ops Q rest (a.put o.dst v') w') : wpList Tryz.prog ops Q (o :: rest) a w := by
  refine wpList_plain hgd fun K hK => ?_
  obtain ⟨v', w', hr, h2, h3, h4⟩ := append_pown2 o.type hv hu hlen hB h0
  unfold Oper.wp execOp
  simp only [ho, resolve, invoke, builtin, Sem.run_bind, Sem.run_pure, Result.andThen_ok, List.map_toArray, List.map_cons, List.map_nil, hs, hx, hr]
  exact hK _ _ (h v' w' h2 h3 h4)
/-- two rows of one's own that lie apart. -/
def Apart (B : Nat) (w : World) (v u : Value) (xs ys : List (Int × Int)) : Prop := POwn B w v xs ∧ POwn B w u ys ∧ (v.ownBlock = none ∨ v.ownBlock ≠ u.ownBlock)
theorem Apart.symm {B : Nat} {w : World} {v u : Value} {xs ys : List (Int × Int)} (h : Apart B w v u xs ys) : Apart B w u v ys xs :=
  ⟨h.2.1, h.1, by rcases h.2.2 with h | h
                  · by_cases hu : u.ownBlock = none
                    · exact .inl hu
                    · exact .inr (by rw [h]; exact hu)
                  · exact .inr (Ne.symm h)⟩
theorem Apart.ext {B : Nat} {w w' : World} {v u : Value} {xs ys : List (Int × Int)} (h : Apart B w v u xs ys) (e : Ext w w') : Apart B w' v u xs ys := ⟨h.1.ext e, h.2.1.ext e, h.2.2⟩
theorem Apart.grow {B : Nat} {w w' : World} {v u v' : Value} {xs ys xs' : List (Int × Int)} (h : Apart B w v u xs ys) (h1 : POwn B w' v' xs') (h2 : w.grownBy w' v.ownBlock) (h3 : v'.ownBlock = v.ownBlock ∨ v'.ownBlock = some w.heap.size) : Apart B w' v' u xs' ys := by
  have hlt := World.ownsRow.lt h.2.1
  have hk : u.ownBlock = none ∨ u.ownBlock ≠ v.ownBlock := h.symm.2.2
  refine ⟨h1, World.ownsRow.kept h.2.1 h2 hk, ?_⟩
  cases hu : u.ownBlock with
  | none =>
    cases hv : v'.ownBlock with
    | none => exact .inl rfl
    | some g => exact .inr (by simp)
  | some g =>
    rcases h3 with h3 | h3
    · rw [h3, ← hu]; exact h.2.2
    · right
      rw [h3]
      intro e
      have := hlt g hu
      simp at e
      omega
theorem Apart.yes {B : Nat} {w : World} {v u : Value} {xs ys X Y : List (Int × Int)} {z : Int × Int} (h : Apart B w v u (xs ++ [z]) ys) (h1 : X = xs ++ if true = true then [z] else []) (h2 : Y = ys ++ if (!true) = true then [z] else []) : Apart B w v u X Y := by
  subst h1 h2; simpa using h
theorem Apart.no {B : Nat} {w : World} {v u : Value} {xs ys X Y : List (Int × Int)} {z : Int × Int} (h : Apart B w v u xs (ys ++ [z])) (h1 : X = xs ++ if false = true then [z] else []) (h2 : Y = ys ++ if (!false) = true then [z] else []) : Apart B w v u X Y := by
  subst h1 h2; simpa using h
/-- the cells of a pair of a row. -/
theorem prow_cells {w : World} {b o : Nat} {zs : List (Int × Int)} (hr : w.rangeAt b o (pairCells zs)) (k : Nat) (hk : k < zs.length) :
    w.cell? ⟨b, o + k * 2, none⟩ = some (.int .i64 (zs.getD k (0, 0)).1) ∧ w.cell? ⟨b, o + k * 2 + 1, none⟩ = some (.int .i64 (zs.getD k (0, 0)).2) := by
  have hz : zs[k]? = some (zs.getD k (0, 0)) := by rw [List.getD_eq_getElem?_getD, List.getElem?_eq_getElem hk]; rfl
  exact ⟨pair_cell hr hz (j := 0) rfl, pair_cell hr hz (j := 1) rfl⟩
theorem take_filter (f : Int × Int → Bool) (zs : List (Int × Int)) (k : Nat) (hk : k < zs.length) : (zs.take (k + 1)).filter f = (zs.take k).filter f ++ if f (zs.getD k (0, 0)) then [zs.getD k (0, 0)] else [] := by
  have hz : zs[k]? = some (zs.getD k (0, 0)) := by rw [List.getD_eq_getElem?_getD, List.getElem?_eq_getElem hk]; rfl
  rw [List.take_add_one, hz, List.filter_append]
  congr 1
  simp only [Option.toList_some, List.filter_cons, List.filter_nil]
theorem wrap_k {k n : Nat} (h : k < n) (hn : n ≤ 5000) : wrap64 ((k : Int) + 1) = ((k + 1 : Nat) : Int) := by unfold wrap64; omega
theorem int_k {k n : Nat} (h : k < n) (hn : n ≤ 5000) : Value.int .i64 (wrap64 ((k : Int) + 1)) = .int .i64 ((k + 1 : Nat) : Int) := by rw [wrap_k h hn]
theorem meas_k {k n : Nat} (h : k < n) (hn : n ≤ 5000) : n - (intOf (.int .i64 (wrap64 ((k : Int) + 1)))).toNat < n - (intOf (.int .i64 (k : Int))).toNat := by
  rw [wrap_k h hn]
  show n - (k + 1) < n - k
  omega
theorem flen (f : Int × Int → Bool) {zs : List (Int × Int)} (k : Nat) (z : Int × Int) (h : zs.length ≤ 5000) : ((zs.take k).filter f).length + [z].length ≤ 10000 := by
  have h1 := List.length_filter_le f (zs.take k)
  rw [List.length_take] at h1
  rw [List.length_singleton]
  omega
/-- the state of Split's loop. -/
def SplitSt (w1 : World) (f : Int × Int → Bool) (zs : List (Int × Int)) (v u i : Value) (W : World) : Prop :=
  ∃ k : Nat, k ≤ zs.length ∧ i = .int .i64 k ∧ Apart w1.heap.size W v u ((zs.take k).filter f) ((zs.take k).filter (fun z => !f z)) ∧ Ext w1 W
/-- the error. -/
def eMay (kd : Nat) (a b : Int) : Int := if sMay kd a b then 0 else 2
/-- what Split hands back. -/
def Splits (kd : Nat) (a b : Int) (nt : Bool) (zs : List (Int × Int)) (w : World) (e : Ending) (w' : World) : Prop :=
  ∃ v u, e = .returned (.tuple #[v, u, .int .i64 (eMay kd a b)]) ∧ POwn w.heap.size w' v (if sMay kd a b then zs.filter (fun z => sTakes kd a b nt z.1 z.2) else []) ∧ POwn w.heap.size w' u (if sMay kd a b then zs.filter (fun z => !sTakes kd a b nt z.1 z.2) else []) ∧ Ext w w'
/-- what Keep hands back. -/
def Keeps (kd : Nat) (a b : Int) (nt : Bool) (zs : List (Int × Int)) (w : World) (e : Ending) (w' : World) : Prop :=
  ∃ v, e = .returned (.tuple #[v, .int .i64 (eMay kd a b)]) ∧ POwn w.heap.size w' v (if sMay kd a b then zs.filter (fun z => sTakes kd a b nt z.1 z.2) else []) ∧ Ext w w'
end Go.Proofs.YtoiohjifjmejkaaGreat
namespace Go.Proofs.YtoiohjifjmejkaaGreat
open Go Go.RowKit

end Go.Proofs.YtoiohjifjmejkaaGreat
namespace Go.Proofs.YtoiohjifjmejkaaGreat
open Go Go.RowKit

theorem takes_v (w : World) (kd : Nat) (a b : Int) (nt : Bool) (k v : Int) (hk : kd < 256) (t : Bool) (ht : sTakes kd a b nt k v = t) : Calls Tryz.prog 39 #[.agg #[.int .u8 kd, .int .i64 a, .int .i64 b, .bool nt], .agg #[.int .i64 k, .int .i64 v]] w (Ret (.bool t) w) := by
  rw [← ht]; exact siftTakes_any w kd a b nt k v hk
theorem may_v (w : World) (kd : Nat) (a b : Int) (nt : Bool) (hk : kd < 256) (t : Bool) (ht : sMay kd a b = t) : Calls Tryz.prog 34 #[.agg #[.int .u8 kd, .int .i64 a, .int .i64 b, .bool nt]] w (Ret (.bool t) w) := by
  rw [← ht]; exact siftMay_any w kd a b nt hk
end Go.Proofs.YtoiohjifjmejkaaGreat
