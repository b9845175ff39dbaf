/- Rows of words in memory; nat.trim, May, From, fits, wide. -/
import Derived.Test.YtejknkhahjgdnaaNatLaw
import Derived.Test.YtejknkhahjgdnaaDraw
import Derived.Deep.MidRow
import Derived.Laws.CopyOwn
import Derived.Laws.MakeOwn
namespace Go.Proofs.Ytejknkhahjgdnaa
open Go Go.RowKit

def u32 (d : Nat) : Value := .int .u32 (d : Int)
theorem rangeAt_ext' {w w' : World} {b o : Nat} {cs : List Value} (h : w.rangeAt b o cs) (e : Ext w w') : w'.rangeAt b o cs := fun q u hq => by
  have hc := h q u hq
  exact (RowKit.Below.cell e (World.block_lt_of_cell? w _ hc)).trans hc
/-- a row of words: empty, whatever its address; or laid at an address. -/
def URow (w : World) (v : Value) (xs : List Nat) : Prop :=
  (xs = [] ∧ ∃ a c, v = .slice a 0 c) ∨ ∃ b o c, v = .slice (some ⟨b, o, none⟩) xs.length c ∧ xs ≠ [] ∧ xs.length ≤ c ∧ w.rangeAt b o (xs.map u32)
theorem URow.ext {w w' : World} {v : Value} {xs : List Nat} (h : URow w v xs) (e : Ext w w') : URow w' v xs := by
  rcases h with h | ⟨b, o, c, h0, h1, h2, h3⟩
  · exact .inl h
  · exact .inr ⟨b, o, c, h0, h1, h2, rangeAt_ext' h3 e⟩
theorem URow.slice {w : World} {v : Value} {xs : List Nat} (h : URow w v xs) : ∃ a c, v = .slice a xs.length c := by
  rcases h with ⟨rfl, a, c, rfl⟩ | ⟨b, o, c, h0, _⟩
  · exact ⟨a, c, rfl⟩
  · exact ⟨_, c, h0⟩
/-- a word of a row. -/
theorem urow_cell {w : World} {b o : Nat} {xs : List Nat} (h : w.rangeAt b o (xs.map u32)) (k : Nat) (hk : k < xs.length) : w.cell? ⟨b, o + k, none⟩ = some (.int .u32 (xs.getD k 0 : Nat)) := by
  refine h k _ ?_
  rw [List.getElem?_map, List.getD_eq_getElem?_getD, List.getElem?_eq_getElem hk]
  rfl
/-- the first words of a row. -/
theorem URow.take {w : World} {a : Option Addr} {n c : Nat} {xs : List Nat} (h : URow w (.slice a n c) xs) (k : Nat) (hk : k ≤ xs.length) : URow w (.slice a k c) (xs.take k) := by
  rcases h with ⟨rfl, a', c', e⟩ | ⟨b, o, c', e, h1, h2, h3⟩
  · cases e
    obtain rfl : k = 0 := by simpa using hk
    exact .inl ⟨rfl, _, _, rfl⟩
  · cases e
    by_cases h0 : k = 0
    · subst h0; exact .inl ⟨by simp, _, _, rfl⟩
    · refine .inr ⟨b, o, c, by rw [List.length_take, Nat.min_eq_left hk], ?_, by rw [List.length_take]; omega, ?_⟩
      · intro e
        have := congrArg List.length e
        rw [List.length_take, List.length_nil] at this
        have h1' := List.length_pos_iff.2 h1
        omega
      · intro q u hq
        rw [List.map_take, List.getElem?_take] at hq
        split at hq
        · exact h3 q u hq
        · cases hq
/-- what trim hands back. -/
def Trims (a : Option Addr) (xs : List Nat) (c : Nat) (w : World) (e : Ending) (w' : World) : Prop :=
  ∃ k, e = .returned (.slice a k c) ∧ k ≤ xs.length ∧ (∀ j, k ≤ j → xs.getD j 0 = 0) ∧ (k = 0 ∨ xs.getD (k - 1) 0 ≠ 0) ∧ Ext w w'
set_option maxHeartbeats 1000000 in
theorem trim_any (w : World) (a : Option Addr) (c : Nat) (xs : List Nat) (h : URow w (.slice a xs.length c) xs) (hl : xs.length ≤ 2000) : Calls Try.prog 37 #[.slice a xs.length c] w (Trims a xs c w) := by
  have HL := Lib.hid hl
  have H := Lib.hid h
  clear h hl
  go_enter Try.func37, Try.ntmps37
  go_wp2_with fail
  go_loopw [0] (fun v W => W = w ∧ ∃ k : Nat, v = .slice a k c ∧ Hid (k ≤ xs.length ∧ ∀ j, k ≤ j → xs.getD j 0 = 0)) (fun v _ => match v with | .slice _ k _ => k | _ => 0)
  case atStart => exact ⟨rfl, xs.length, rfl, Lib.hid ⟨Nat.le_refl _, fun j hj => getD_past xs j hj⟩⟩
  case round =>
    obtain ⟨rfl, k, rfl, HK⟩ := hrel
    by_cases h0 : k = 0
    · subst h0
      go_wp2
      go_ret
      exact ⟨0, rfl, HK.out.1, HK.out.2, .inl rfl, Ext.refl _⟩
    · obtain ⟨m, rfl⟩ : ∃ m, k = m + 1 := ⟨k - 1, by omega⟩
      clear h0
      have hm : m < xs.length := HK.out.1
      have hm2 : m < 2000 := Nat.lt_of_lt_of_le hm HL.out
      rcases H.out with ⟨h, _⟩ | ⟨b, o, c', hv, _, h2, h3⟩
      · exact absurd h (by intro e; rw [e] at hm; exact absurd hm (Nat.not_lt_zero _))
      · obtain ⟨rfl, rfl⟩ : a = some ⟨b, o, none⟩ ∧ c = c' := by cases hv; exact ⟨rfl, rfl⟩
        have hc := urow_cell h3 m hm
        have hcap : m + 1 ≤ c := by omega
        clear hv h2 h3
        by_cases hz : xs.getD m 0 = 0
        · rw [hz] at hc
          have HZ := Lib.hid hz
          clear hz
          go_wp2
          exact ⟨⟨trivial, m, rfl, Lib.hid ⟨Nat.le_of_lt hm, fun j hj => by
            rcases Nat.eq_or_lt_of_le hj with e | e
            · rw [← e]; exact HZ.out
            · exact HK.out.2 j e⟩⟩, Nat.lt_succ_self m⟩
        · have HZ := Lib.hid hz
          obtain ⟨d, hd⟩ : ∃ d, xs.getD m 0 = d := ⟨_, rfl⟩
          rw [hd] at hc hz
          have hz' : ¬ (d : Int) = 0 := by omega
          have hz2 : ((d : Int) == 0) = false := by simpa using hz
          clear hz hd
          go_wp2
          go_ret
          exact ⟨m + 1, rfl, HK.out.1, HK.out.2, .inr HZ.out, Ext.refl _⟩
/-- a number lies in memory. -/
def NumIs (w : World) (v : Value) (n : Nat) : Prop := ∃ xs, URow w v xs ∧ Norm xs ∧ nval xs = n
theorem NumIs.ext {w w' : World} {v : Value} {n : Nat} (h : NumIs w v n) (e : Ext w w') : NumIs w' v n := by
  obtain ⟨xs, h1, h2⟩ := h; exact ⟨xs, h1.ext e, h2⟩
/-- a number is handed back. -/
def Num (n : Nat) (w : World) (e : Ending) (w' : World) : Prop := ∃ v, e = .returned v ∧ NumIs w' v n ∧ Ext w w'
theorem trim_num (w : World) (a : Option Addr) (c : Nat) (xs : List Nat) (h : URow w (.slice a xs.length c) xs) (hw : Words xs) (hl : xs.length ≤ 2000) : Calls Try.prog 37 #[.slice a xs.length c] w (Num (nval xs) w) := by
  refine (trim_any w a c xs h hl).mono ?_
  rintro e w1 ⟨k, rfl, h1, h2, h3, h4⟩
  obtain ⟨h5, h6⟩ := trim_norm hw h1 h2 h3
  exact ⟨_, rfl, ⟨xs.take k, (h.take k h1).ext h4, h5, h6⟩, h4⟩
/-- may a row of words be a number? -/
def mayN (xs : List Nat) : Bool := decide (xs.length ≤ 128) && decide (xs = [] ∨ xs.getD (xs.length - 1) 0 ≠ 0)
theorem mayN_norm {xs : List Nat} (hw : Words xs) : mayN xs = true ↔ Norm xs ∧ xs.length ≤ 128 := by
  simp only [mayN, Bool.and_eq_true, decide_eq_true_eq]
  exact ⟨fun h => ⟨⟨hw, h.2⟩, h.1⟩, fun h => ⟨h.2, h.1.2⟩⟩
set_option maxHeartbeats 1000000 in
theorem natMay_any (w : World) (p : Value) (xs : List Nat) (h : URow w p xs) : Calls Try.prog 33 #[p] w (Ret (.bool (mayN xs)) w) := by
  by_cases hl : xs.length ≤ 128
  · obtain ⟨a, c, rfl⟩ := h.slice
    have HT := Lib.hid (trim_any w a c xs h (by omega))
    obtain ⟨B, hB⟩ : ∃ B, mayN xs = B := ⟨_, rfl⟩
    have HB := Lib.hid hB
    rw [hB]
    have hl' : (xs.length : Int) ≤ 128 := by omega
    have HL := Lib.hid hl
    clear h hB hl
    go_enter Try.func33, Try.ntmps33
    go_wp2_with fail
    clear hl'
    refine HT.out.mono ?_
    rintro e w1 ⟨k, rfl, h1, h2, h3, h4⟩
    have HK := Lib.hid (And.intro h1 (And.intro h2 h3))
    clear h1 h2 h3
    by_cases hk : k = xs.length
    · subst hk
      go_wp2
      go_ret
      refine ⟨ret_bool ?_, h4⟩
      rw [← HB.out]
      unfold mayN
      have := HL.out
      have h3 := HK.out.2.2
      simp only [this, decide_true, Bool.true_and]
      symm
      rw [decide_eq_true_eq]
      rcases h3 with h3 | h3
      · exact .inl (List.length_eq_zero_iff.1 h3)
      · exact .inr h3
    · have hk' : ¬ (k : Int) = xs.length := by omega
      have HKN := Lib.hid hk
      clear hk
      go_wp2
      go_ret
      refine ⟨ret_bool ?_, h4⟩
      rw [← HB.out]
      unfold mayN
      have h1 := HK.out.1
      have h2 := HK.out.2.1
      have h0 := HKN.out
      rw [show ((k : Int) == (xs.length : Int)) = false by simp; omega]
      symm
      rw [Bool.and_eq_false_iff]
      right
      rw [decide_eq_false_iff_not]
      rintro (h | h)
      · subst h; simp at h1; simp [h1] at h0
      · exact h (h2 _ (by omega))
  · obtain ⟨a, c, rfl⟩ := h.slice
    have e : mayN xs = false := by unfold mayN; simp [hl]
    rw [e]
    have hl' : ¬ (xs.length : Int) ≤ 128 := by omega
    clear h e hl
    go_enter Try.func33, Try.ntmps33
    go_wp2
    go_ret
    exact Ret.mk (Ext.refl _)
theorem wrap_u32 (n : Nat) : IntKind.u32.wrap (n : Int) = ((n % beta : Nat) : Int) := by
  rw [show IntKind.u32.wrap (n : Int) = (n : Int) % 4294967296 by simp [IntKind.wrap, IntKind.bits, IntKind.signed]]
  show _ = ((n % 4294967296 : Nat) : Int)
  omega
set_option maxHeartbeats 1000000 in
theorem from_any (w : World) (n : Nat) (hn : n < 18446744073709551616) : Calls Try.prog 17 #[.int .u64 (n : Nat)] w (Num n w) := by
  have hd : n / beta < beta := Nat.div_lt_of_lt_mul (show n < beta * beta from hn)
  have hE := (Ext.refl w).alloc (.cells #[.int .u32 ((n : Int) % 4294967296), .int .u32 ((n : Int) / 4294967296 % 4294967296)] 34)
  have hrow : URow (w.alloc (.cells #[.int .u32 ((n : Int) % 4294967296), .int .u32 ((n : Int) / 4294967296 % 4294967296)] 34)) (.slice (some ⟨w.heap.size, 0, none⟩) 2 2) [n % beta, n / beta] :=
    .inr ⟨_, 0, 2, rfl, by simp, by simp, fun q u hq => by
      rw [Nat.zero_add, cell_of (alloc_at w _ _ rfl) q]
      have e1 : ((n : Int) % 4294967296) = ((n % beta : Nat) : Int) := by show _ = ((n % 4294967296 : Nat) : Int); omega
      have e2 : ((n : Int) / 4294967296 % 4294967296) = ((n / beta : Nat) : Int) := by
        rw [← Nat.mod_eq_of_lt hd]; show _ = ((n / 4294967296 % 4294967296 : Nat) : Int); omega
      rw [e1, e2]
      simpa [u32] using hq⟩
  have hv : nval [n % beta, n / beta] = n := by
    simp only [nval, Nat.mul_zero, Nat.add_zero]
    exact Nat.mod_add_div n beta
  have HT := Lib.hid (trim_num _ _ 2 [n % beta, n / beta] hrow (fun d hd' => by
    simp only [List.mem_cons, List.not_mem_nil, or_false] at hd'
    rcases hd' with rfl | rfl
    · exact Nat.mod_lt _ beta_pos
    · exact hd) (by simp))
  rw [hv] at HT
  have HE := Lib.hid hE
  clear hrow hv hd hE hn
  go_enter Try.func17, Try.ntmps17
  go_wp2_with fail
  refine HT.out.mono ?_
  rintro e w1 ⟨v, rfl, h1, h2⟩
  go_wp2
  go_ret
  exact ⟨_, rfl, h1, HE.out.trans h2⟩
/-- a number that is not too long. -/
def fitE (n : Nat) : Int := if n < beta ^ 128 then 0 else 5
def fitN (n : Nat) : Nat := if n < beta ^ 128 then n else 0
def Fits (n : Nat) (w : World) (e : Ending) (w' : World) : Prop := ∃ v, e = .returned (.tuple #[v, .int .i64 (fitE n)]) ∧ NumIs w' v (fitN n) ∧ Ext w w'
theorem num_nil (w : World) (a : Option Addr) (c : Nat) : NumIs w (.slice a 0 c) 0 := ⟨[], .inl ⟨rfl, _, _, rfl⟩, ⟨(fun d hd => by cases hd), .inl rfl⟩, rfl⟩
set_option maxHeartbeats 1000000 in
theorem fits_any (w : World) (p : Value) (xs : List Nat) (h : URow w p xs) (hw : Words xs) (hl : xs.length ≤ 2000) : Calls Try.prog 75 #[p] w (Fits (nval xs) w) := by
  obtain ⟨a, c, rfl⟩ := h.slice
  have HT := Lib.hid (trim_num w a c xs h hw hl)
  obtain ⟨n, hn⟩ : ∃ n, nval xs = n := ⟨_, rfl⟩
  rw [hn] at HT ⊢
  clear h hn
  go_enter Try.func75, Try.ntmps75
  go_wp2_with fail
  refine HT.out.mono ?_
  rintro e w1 ⟨v, rfl, ⟨ys, h1, h2, h3⟩, h4⟩
  obtain ⟨b, d, rfl⟩ := h1.slice
  have HL := Lib.hid (norm_len h2 128)
  have H1 := Lib.hid h1
  have H2 := Lib.hid h2
  have H3 := Lib.hid h3
  clear h1 h2 h3
  by_cases hk : ys.length ≤ 128
  · have hk' : ¬ (128 : Int) < ys.length := by omega
    have HK := Lib.hid hk
    clear hk
    go_wp2
    go_ret2
    have h5 : n < beta ^ 128 := by rw [← H3.out]; exact HL.out.1 HK.out
    unfold Fits fitE fitN
    rw [if_pos h5, if_pos h5]
    exact ⟨_, rfl, ⟨ys, H1.out, H2.out, H3.out⟩, h4⟩
  · have hk' : (128 : Int) < ys.length := by omega
    have HK := Lib.hid hk
    clear hk
    go_wp2
    go_ret2
    have h5 : ¬ n < beta ^ 128 := by rw [← H3.out]; exact fun h => HK.out (HL.out.2 h)
    unfold Fits fitE fitN
    rw [if_neg h5, if_neg h5]
    exact ⟨_, rfl, num_nil _ _ _, h4⟩
/-- words in a block of one's own. -/
def UBlk (w : World) (g : Nat) (ds : List Nat) : Prop := w.heap[g]? = some (.cells (ds.map u32).toArray 34 (0, 0))
theorem UBlk.row {w : World} {g : Nat} {ds : List Nat} (h : UBlk w g ds) (c : Nat) (hc : ds.length ≤ c) : URow w (.slice (some ⟨g, 0, none⟩) ds.length c) ds := by
  by_cases h0 : ds = []
  · subst h0; exact .inl ⟨rfl, _, _, rfl⟩
  · refine .inr ⟨g, 0, c, rfl, h0, hc, fun q u hq => ?_⟩
    rw [Nat.zero_add, cell_of h q]
    simpa using hq
theorem UBlk.cell {w : World} {g : Nat} {ds : List Nat} (h : UBlk w g ds) (k : Nat) (hk : k < ds.length) : w.cell? ⟨g, k, none⟩ = some (.int .u32 (ds.getD k 0 : Nat)) ∧ w.frozen? ⟨g, k, none⟩ = false := by
  refine ⟨?_, frozen_of h k⟩
  rw [cell_of h k]
  simp [hk, u32, List.getD_eq_getElem?_getD]
theorem UBlk.set {w : World} {g : Nat} {ds : List Nat} (h : UBlk w g ds) (k d : Nat) : UBlk (w.setCell ⟨g, k, none⟩ (.int .u32 (d : Nat))) g (ds.set k d) := by
  unfold UBlk at *
  simp only [World.setCell, Array.getElem?_modify, h]
  simp [u32, List.map_set]
theorem u32_info : (Try.prog.info? 34).map (·.size) = some 1 := by kernel_rfl
theorem u32_make (w : World) (n : Nat) (hn : n ≤ 3000) : (Instr.makeSlice 23 (.int .i64 (n : Nat)) (.int .i64 (n : Nat))).run Try.prog w = .ok (.slice (some ⟨w.heap.size, 0, none⟩) n n) (w.alloc (.cells ((List.replicate n 0).map u32).toArray 34)) := by
  have h : (Try.prog.info? 34).map (fun i => (i.zero, i.size, i.bytes)) = some (some (.int .u32 0), 1, 4) := by kernel_rfl
  cases hi : Try.prog.info? 34 with
  | none => rw [hi] at h; cases h
  | some i =>
    rw [hi] at h
    simp only [Option.map_some, Option.some.injEq, Prod.mk.injEq] at h
    have := run_make (P := Try.prog) w 23 34 i _ Try.underlying23 hi h.1 .i64 .i64 (n : Nat) (n : Nat) (by omega) (Int.le_refl _) (by rw [h.2.2]; omega) (by omega)
    have e : madeCells (Value.int .u32 0).cells ((n : Int).toNat * 1) = ((List.replicate n 0).map u32).toArray := by
      simp only [madeCells, Value.cells]
      apply Array.ext
      · simp
      · intro i h1 h2
        simp [Nat.mod_one, u32]
    rw [this, h.2.1, e]
    rfl
theorem u32_copy (w0 w : World) (g n : Nat) (xs : List Nat) (a : Option Addr) (c : Nat) (ty : TypeId) (h : URow w (.slice a xs.length c) xs) (hg : w.heap[g]? = some (.cells (Array.replicate n (u32 0)) 34 (0, 0))) (hn : xs.length ≤ n) (hE : Ext w0 w) (hgb : w0.heap.size ≤ g) :
    ∃ w', (Builtin.copy_ #[23, 23] ty #[.slice (some ⟨g, 0, none⟩) n n, .slice a xs.length c]).run Try.prog w = .ok (goInt xs.length) w' ∧ UBlk w' g (xs ++ List.replicate (n - xs.length) 0) ∧ Ext w0 w' := by
  rcases h with ⟨rfl, a', c', e⟩ | ⟨b, o, c', e, h1, h2, h3⟩
  · refine ⟨w, ?_, by unfold UBlk; simpa using hg, hE⟩
    exact run_copy_none (P := Try.prog) w _ _ ty 34 _ _ n n 0 c Try.underlying23 u32_info (by simp)
  · cases e
    have hr := run_copy_row (P := Try.prog) w 23 23 ty 34 g 0 n n ⟨b, o, none⟩ xs.length c _ _ (xs.map u32) Try.underlying23 u32_info hg (by rw [List.length_map]; exact (Nat.min_eq_left hn).symm)
      (fun j v hj => by rw [Addr.add_mid]; exact h3 j v hj) (by simp; omega) (fun v hv => by obtain ⟨d, _, rfl⟩ := List.mem_map.1 hv; rfl)
    rw [List.length_map] at hr
    refine ⟨_, hr, ?_, below_setRow hE hgb _⟩
    have hs := setRow_heap w g _ (((Array.replicate n (u32 0)).toList.take 0 ++ xs.map u32 ++ (Array.replicate n (u32 0)).toList.drop (0 + xs.length)).toArray) _ _ hg
    unfold UBlk
    rw [hs]
    simp [u32]
/-- a number with room for so many words. -/
def Wide (xs : List Nat) (n : Nat) (w : World) (e : Ending) (w' : World) : Prop :=
  ∃ g, e = .returned (.slice (some ⟨g, 0, none⟩) n n) ∧ w.heap.size ≤ g ∧ UBlk w' g (xs ++ List.replicate (n - xs.length) 0) ∧ Ext w w'
set_option maxHeartbeats 1000000 in
theorem wide_any (w : World) (p : Value) (xs : List Nat) (n : Nat) (h : URow w p xs) (hn : xs.length ≤ n) (hl : n ≤ 2000) : Calls Try.prog 34 #[p, .int .i64 (n : Nat)] w (Wide xs n w) := by
  have HU := Lib.hid h
  have HN := Lib.hid (And.intro hn hl)
  obtain ⟨a, c, rfl⟩ := h.slice
  have hmk := u32_make w n (by omega)
  have hE := (Ext.refl w).alloc (.cells (Array.replicate n (u32 0)) 34)
  obtain ⟨w2, hcp, hb, hE2⟩ := u32_copy w (w.alloc (.cells (Array.replicate n (u32 0)) 34)) w.heap.size n xs a c 3 (h.ext hE) (alloc_at _ _ _ rfl) hn hE (Nat.le_refl _)
  have HB := Lib.hid (And.intro hb hE2)
  clear h hn hl hb hE2 hE
  go_enter Try.func34, Try.ntmps34
  go_wp2_with fail
  go_ret
  exact ⟨_, rfl, Nat.le_refl _, HB.out.1, HB.out.2⟩
end Go.Proofs.Ytejknkhahjgdnaa
