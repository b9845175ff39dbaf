/- joineryref06: May, takes, Takes, Not; joinerylaw06.pair. -/
import Derived.Test.YteibbdieckephaaSift3
namespace Go.Proofs.Yteibbdieckephaa
open Go Go.RowKit

theorem bv_or {A B : BitVec 64} : (A ||| B = A) ↔ (B &&& ~~~A = 0#64) := by
  constructor
  · intro h
    apply BitVec.eq_of_getLsbD_eq
    intro i hi
    have := congrArg (fun x => x.getLsbD i) h
    simp [hi] at this ⊢
    exact this
  · intro h
    apply BitVec.eq_of_getLsbD_eq
    intro i hi
    have := congrArg (fun x => x.getLsbD i) h
    simp [hi] at this ⊢
    exact this
theorem wrap_toNat (X : BitVec 64) : IntKind.i64.wrap (X.toNat : Int) = X.toInt := by
  have := X.isLt
  simp [IntKind.wrap, IntKind.bits, IntKind.signed, BitVec.toInt_eq_toNat_cond]
  omega
theorem ofInt_self {a : Int} (h : -9223372036854775808 ≤ a) (h' : a ≤ 9223372036854775807) : (BitVec.ofInt 64 a).toInt = a := by
  rw [BitVec.toInt_ofInt, Int.bmod_def]
  omega
theorem ofInt_wrap (a : Int) : BitVec.ofInt 64 (IntKind.u64.wrap a) = BitVec.ofInt 64 a := by
  apply BitVec.eq_of_toInt_eq
  rw [BitVec.toInt_ofInt, BitVec.toInt_ofInt, IntKind.wrap_u64, Int.bmod_def, Int.bmod_def]
  omega
theorem ofInt_toNat (a : Int) : ((BitVec.ofInt 64 a).toNat : Int) = IntKind.u64.wrap a := by
  rw [BitVec.toNat_ofInt, IntKind.wrap_u64]
  omega
theorem bits64 (a b : Int) (ha : -9223372036854775808 ≤ a) (ha' : a ≤ 9223372036854775807) :
    (Go.bits .or .i64 a b == a) = (Go.bits .andNot .u64 (IntKind.u64.wrap b) (IntKind.u64.wrap a) == 0) := by
  rw [Bool.eq_iff_iff, beq_iff_eq, beq_iff_eq]
  show IntKind.i64.wrap ((BitVec.ofInt 64 a ||| BitVec.ofInt 64 b).toNat : Int) = a ↔ IntKind.u64.wrap ((BitVec.ofInt 64 (IntKind.u64.wrap b) &&& ~~~BitVec.ofInt 64 (IntKind.u64.wrap a)).toNat : Int) = 0
  rw [wrap_toNat, ofInt_wrap, ofInt_wrap]
  have e1 : ((BitVec.ofInt 64 a ||| BitVec.ofInt 64 b).toInt = a) ↔ (BitVec.ofInt 64 a ||| BitVec.ofInt 64 b = BitVec.ofInt 64 a) := by
    constructor
    · intro h
      apply BitVec.eq_of_toInt_eq
      rw [h, ofInt_self ha ha']
    · intro h
      rw [h, ofInt_self ha ha']
  rw [e1, bv_or]
  generalize BitVec.ofInt 64 b &&& ~~~BitVec.ofInt 64 a = X
  have := X.isLt
  rw [IntKind.wrap_u64]
  constructor
  · intro h; subst h; rfl
  · intro h
    apply BitVec.eq_of_toNat_eq
    simp
    omega
theorem bits64' (k a b : Int) (hb : -9223372036854775808 ≤ b) (hb' : b ≤ 9223372036854775807) :
    (Go.bits .and .i64 k a == b) = (Go.bits .and .u64 (IntKind.u64.wrap k) (IntKind.u64.wrap a) == IntKind.u64.wrap b) := by
  rw [Bool.eq_iff_iff, beq_iff_eq, beq_iff_eq]
  show IntKind.i64.wrap ((BitVec.ofInt 64 k &&& BitVec.ofInt 64 a).toNat : Int) = b ↔ IntKind.u64.wrap ((BitVec.ofInt 64 (IntKind.u64.wrap k) &&& BitVec.ofInt 64 (IntKind.u64.wrap a)).toNat : Int) = IntKind.u64.wrap b
  rw [wrap_toNat, ofInt_wrap, ofInt_wrap]
  generalize BitVec.ofInt 64 k &&& BitVec.ofInt 64 a = X
  have hX := X.isLt
  rw [IntKind.wrap_u64]
  have e : ((X.toNat : Int) % 18446744073709551616) = X.toNat := by omega
  rw [e, ← ofInt_toNat b]
  constructor
  · intro h
    rw [← h, BitVec.ofInt_toInt]
  · intro h
    have : X = BitVec.ofInt 64 b := BitVec.eq_of_toNat_eq (by omega)
    rw [this, ofInt_self hb hb']
/-- numbers of 64 bits. -/
def I64 (a : Int) : Prop := -9223372036854775808 ≤ a ∧ a ≤ 9223372036854775807
set_option maxRecDepth 100000 in
set_option maxHeartbeats 2000000 in
theorem refMay_any (w : World) (kd : Nat) (a b : Int) (nt : Bool) (ha : I64 a) : Calls Try.prog 11 #[predV kd a b nt] w (Ret (.bool (sMay kd a b)) w) := by
  have HB := Lib.hid (bits64 a b ha.1 ha.2)
  clear ha
  unfold predV
  have hE := Lib.hid ((Ext.refl w).alloc (.cells #[.int .u8 kd, .int .i64 a, .int .i64 b, .bool nt] 23))
  have hcases : kd = 1 ∨ kd = 2 ∨ kd = 3 ∨ kd = 4 ∨ kd = 5 ∨ (kd = 0 ∨ 6 ≤ kd) := by omega
  rcases hcases with rfl | rfl | rfl | rfl | rfl | hk
  · rw [show sMay 1 a b = (a == 0 && b == 0) from rfl]
    go_enter Try.func11, Try.ntmps11
    go_wp2
    all_goals
      go_ret
      exact ⟨ret_bool (by simp_all), (Ext.refl w).alloc _⟩
  · rw [show sMay 2 a b = true from rfl]
    go_enter Try.func11, Try.ntmps11
    go_wp2
    all_goals
      go_ret
      exact ⟨ret_bool rfl, (Ext.refl w).alloc _⟩
  · rw [show sMay 3 a b = true from rfl]
    go_enter Try.func11, Try.ntmps11
    go_wp2
    all_goals
      go_ret
      exact ⟨ret_bool rfl, (Ext.refl w).alloc _⟩
  · rw [show sMay 4 a b = (decide (0 < a) && decide (0 ≤ b) && decide (b < a)) from rfl]
    go_enter Try.func11, Try.ntmps11
    go_wp2
    all_goals
      go_ret
      exact ⟨ret_bool (by simp; try omega), (Ext.refl w).alloc _⟩
  · rw [show sMay 5 a b = (Go.bits .or .i64 a b == a) from rfl]
    go_enter Try.func11, Try.ntmps11
    go_wp2
    all_goals
      go_ret
      exact ⟨ret_bool (by rw [HB.out]), (Ext.refl w).alloc _⟩
  · have h1 : ((kd : Int) == 1) = false := by simp; omega
    have h2 : ((kd : Int) == 2) = false := by simp; omega
    have h3 : ((kd : Int) == 3) = false := by simp; omega
    have h4 : ((kd : Int) == 4) = false := by simp; omega
    have h5 : ((kd : Int) == 5) = false := by simp; omega
    have hm : sMay kd a b = false := by unfold sMay; rw [if_neg (by omega), if_neg (by omega), if_neg (by omega), if_neg (by omega), if_neg (by omega)]
    rw [hm]
    clear hm hk
    go_enter Try.func11, Try.ntmps11
    go_wp2
    go_ret
    exact Ret.mk ((Ext.refl w).alloc _)
/-- what a key leaves. -/
def restV (k a : Int) : Int := if k.tmod a < 0 then wrap64 (k.tmod a + a) else k.tmod a
theorem tmod_range (k a : Int) (ha : 0 < a) : -a < k.tmod a ∧ k.tmod a < a := by
  refine ⟨?_, Int.tmod_lt_of_pos k ha⟩
  have h := Int.tmod_lt_of_pos (-k) ha
  rw [Int.neg_tmod] at h
  omega
theorem rest_any (w : World) (k a : Int) (ha : 0 < a) : Calls Try.prog 30 #[.int .i64 k, .int .i64 a] w (Ret (.int .i64 (restV k a)) w) := by
  have hne : ¬ a = 0 := by omega
  unfold restV
  by_cases h : k.tmod a < 0
  · rw [if_pos h]
    go_enter Try.func30, Try.ntmps30
    go_wp2
    all_goals
      go_ret
      exact Ret.mk (Ext.refl _)
  · rw [if_neg h]
    go_enter Try.func30, Try.ntmps30
    go_wp2
    all_goals
      go_ret
      exact Ret.mk (Ext.refl _)
theorem rest_law (k a b : Int) (ha : 0 < a) (ha' : a ≤ 9223372036854775807) (hb : 0 ≤ b) (hba : b < a) : (k.tmod a == b || wrap64 (k.tmod a + a) == b) = (restV k a == b) := by
  obtain ⟨h1, h2⟩ := tmod_range k a ha
  unfold restV
  generalize k.tmod a = r at *
  rw [Bool.eq_iff_iff, Bool.or_eq_true, beq_iff_eq, beq_iff_eq, beq_iff_eq]
  unfold wrap64
  split <;> omega
set_option maxRecDepth 100000 in
set_option maxHeartbeats 2000000 in
theorem refTk_any (w : World) (kd : Nat) (a b : Int) (nt : Bool) (k v : Int) (ha : I64 a) (hb : I64 b) (hm : sMay kd a b = true) : Calls Try.prog 19 #[predV kd a b nt, pairV k v] w (Ret (.bool (sTk kd a b k v)) w) := by
  have hfn : ∀ f, Fence.wide.fn f := fun _ => trivial
  have HB := Lib.hid (bits64' k a b hb.1 hb.2)
  obtain ⟨h1, h5⟩ := sMay_kind hm
  have H4 : kd = 4 → 0 < a ∧ a ≤ 9223372036854775807 ∧ 0 ≤ b ∧ b < a := fun h => by subst h; unfold sMay at hm; simp at hm; have := ha.2; omega
  clear hm ha hb
  unfold predV pairV
  have hcases : kd = 1 ∨ kd = 2 ∨ kd = 3 ∨ kd = 4 ∨ kd = 5 := by omega
  rcases hcases with rfl | rfl | rfl | rfl | rfl
  · rw [show sTk 1 a b k v = true from rfl]
    go_enter Try.func19, Try.ntmps19
    go_wp2
    all_goals
      go_ret
      exact ⟨ret_bool rfl, ((Ext.refl w).alloc _).alloc _⟩
  · rw [show sTk 2 a b k v = (decide (a ≤ k) && decide (k ≤ b)) from rfl]
    go_enter Try.func19, Try.ntmps19
    go_wp2
    all_goals
      go_ret
      exact ⟨ret_bool (by simp; try omega), ((Ext.refl w).alloc _).alloc _⟩
  · rw [show sTk 3 a b k v = (decide (a ≤ v) && decide (v ≤ b)) from rfl]
    go_enter Try.func19, Try.ntmps19
    go_wp2
    all_goals
      go_ret
      exact ⟨ret_bool (by simp; try omega), ((Ext.refl w).alloc _).alloc _⟩
  · have hl := rest_law k a b (H4 rfl).1 (H4 rfl).2.1 (H4 rfl).2.2.1 (H4 rfl).2.2.2
    have HR := Lib.hid (fun W => rest_any W k a (H4 rfl).1)
    rw [show sTk 4 a b k v = (k.tmod a == b || wrap64 (k.tmod a + a) == b) from rfl, hl]
    clear hl H4 h1 h5
    go_enter Try.func19, Try.ntmps19
    obtain ⟨m⟩ : Nonempty Nat := ⟨0⟩
    refine (wpIn_wide (n := m)).1 ?_
    gi_wp2_with fail
    obtain ⟨w1, hw1⟩ : ∃ w1, w1 = (w.alloc (.cells #[.int .u8 4, .int .i64 a, .int .i64 b, .bool nt] 23)).alloc (.cells #[.int .i64 k, .int .i64 v] 25) := ⟨_, rfl⟩
    have hE : Ext w w1 := by rw [hw1]; exact ((Ext.refl w).alloc _).alloc _
    have hb0 : w1.heap[w.heap.size]? = some (.cells #[.int .u8 4, .int .i64 a, .int .i64 b, .bool nt] 23 (0, 0)) := by rw [hw1, alloc_lt _ _ _ (by simp)]; exact alloc_at _ _ _ rfl
    have hb1 : w1.heap[w.heap.size + 1]? = some (.cells #[.int .i64 k, .int .i64 v] 25 (0, 0)) := by rw [hw1]; exact alloc_at _ _ _ (by simp)
    rw [← hw1]
    clear hw1
    have hc1 := cell_of hb0 1
    have hc2 := cell_of hb0 2
    have hd0 := cell_of hb1 0
    simp at hc1 hc2 hd0
    replace hc1 := cell_all hc1
    replace hc2 := cell_all hc2
    replace hd0 := cell_all hd0
    have hx := Ext.drew w1
    refine wpIn_region_G (fun j => !(List.contains (α := Nat) [] j)) (by kernel_rfl) ?_
    refine batchG hfn (fuel := 3) [0, 1, 2, 3, 5, 6] (by kernel_rfl) rfl ?_
    repeat (go_big_quiet_step ((fail)))
    refine wpQuiet_nil ?_
    refine wpAnyG_one (j := 4) (by kernel_rfl) rfl ?_
    gi_wp2_with fail
    refine ⟨wide_room _, (callsIn_wide.2 (HR.out _)).mono ?_⟩
    generalize restV k a = U at *
    rintro e w2 ⟨rfl, h2⟩
    have h12 := hx.trans h2
    gi_wp2_with fail
    refine onePost_ext (h2) ?_
    refine batchG hfn (fuel := 0) [7, 8] (by kernel_rfl) rfl ?_
    repeat (go_big_quiet_step ((fail)))
    refine wpQuiet_nil ?_
    refine wpAnyG_done (by kernel_rfl) ?_
    refine calmQ_normal ?_
    gi_wp2
    go_ret
    exact Ret.mk (hE.trans h12)
  · rw [show sTk 5 a b k v = (Go.bits .and .i64 k a == b) from rfl, HB.out]
    go_enter Try.func19, Try.ntmps19
    go_wp2
    all_goals
      go_ret
      exact ⟨ret_bool rfl, ((Ext.refl w).alloc _).alloc _⟩
end Go.Proofs.Yteibbdieckephaa
