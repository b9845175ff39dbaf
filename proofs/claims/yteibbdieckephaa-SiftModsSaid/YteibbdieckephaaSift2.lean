/- sift.May. -/
import Derived.Test.YteibbdieckephaaSift1
import Derived.Test.YteibbdieckephaaDraw2
namespace Go.Proofs.Yteibbdieckephaa
open Go Go.RowKit

theorem call_may (kd : Nat) (a : Array Value) (w : World) : (callFunc (mayF kd) a).run Try.prog w = .ok (.enter (mayF kd) a) w := by
  unfold mayF
  split
  · kernel_rfl
  · split
    · kernel_rfl
    · split
      · kernel_rfl
      · split <;> kernel_rfl
/-- what a kind takes. -/
def tkF (kd : Nat) : Nat := if kd = 1 then 23 else if kd = 2 then 24 else if kd = 3 then 25 else if kd = 4 then 27 else 29
def tkC (b kd : Nat) : Array Value := if kd = 2 then #[.pointer (some ⟨b, 0, none⟩)] else if kd = 3 then #[.pointer (some ⟨b, 0, none⟩)] else #[]
theorem kindV_eq (b kd : Nat) (h1 : 1 ≤ kd) (h5 : kd ≤ 5) : kindV b kd = .agg #[.func (.func (mayF kd)) #[] #[], (.func (.func (tkF kd)) #[] (tkC b kd))] := by
  have hcases : kd = 1 ∨ kd = 2 ∨ kd = 3 ∨ kd = 4 ∨ kd = 5 := by omega
  rcases hcases with rfl | rfl | rfl | rfl | rfl <;> rfl
/-- the kinds, as they lie in memory. -/
def KindsAt (W : World) (R b : Nat) : Prop := W.heap[R]? = some (.map (kindsEntries b) 5) ∧ W.heap[b]? = some (.cells #[.func (.func 21) #[] #[]] 51 (0, 0))
theorem KindsAt.ext {W W' : World} {R b : Nat} (h : KindsAt W R b) (hE : Ext W W') : KindsAt W' R b := ⟨hE.get h.1, hE.get h.2⟩
theorem kinds_at (w : World) : Calls Try.prog 18 #[] w fun e w' => ∃ R b, e = .returned (.map (some R)) ∧ KindsAt w' R b ∧ Ext w w' := by
  refine (kinds_any w).mono ?_
  rintro e w1 ⟨rfl, rfl⟩
  exact ⟨_, w.heap.size, rfl, ⟨alloc_at _ _ _ (by simp), by rw [alloc_lt _ _ _ (by simp)]; exact alloc_at _ _ _ rfl⟩, ((Ext.refl w).alloc _).alloc _⟩
theorem look_all {a : World} {R b : Nat} (kd : Nat) (h : KindsAt a R b) (co : Bool) (v : Value) (hk : co = true ∨ (1 ≤ kd ∧ kd ≤ 5)) (hv : v = if co then .tuple #[kindV b kd, .bool (isKind kd)] else kindV b kd) :
    ∀ (w : World), Ext a w → ∀ Y : ExtOf w, (Instr.lookup 48 (.map (some R)) (.int .u8 kd) co).run Try.prog Y.W = .ok v Y.W := fun w hE Y => by
  rw [hv]; exact kind_lookup Y.W R b 5 kd ((hE.trans Y.h).get h.1) co hk
theorem set2 {w : World} {N : Nat} {T : TypeId} {a0 a1 : Value} (h : w.heap[N]? = some (.cells #[a0, a1] T (0, 0))) (b0 b1 : Value) :
    ((w.setCell ⟨N, 0, none⟩ b0).setCell ⟨N, 1, none⟩ b1).heap[N]? = some (.cells #[b0, b1] T (0, 0)) := by
  simp [World.setCell, Array.getElem?_modify, h]
theorem put_own {w w1 : World} (h : Ext w w1) {N : Nat} (hN : w.heap.size ≤ N) (j : Nat) (u : Value) : Ext w (w1.setCell ⟨N, j, none⟩ u) := Below.setCell (B := w.heap.size) h hN u
/-- what a predicate's box holds. -/
abbrev PredAt (W : World) (N : Nat) (kd : Nat) (a b : Int) (nt : Bool) : Prop :=
  W.heap[N]? = some (.cells #[.int .u8 kd, .int .i64 a, .int .i64 b, .bool nt] 23 (0, 0))
set_option maxRecDepth 100000 in
set_option maxHeartbeats 2000000 in
theorem siftMay_any (w : World) (kd : Nat) (a b : Int) (nt : Bool) (hk : kd < 256) : Calls Try.prog 10 #[predV kd a b nt] w (Ret (.bool (sMay kd a b)) w) := by
  have hfn : ∀ f, Fence.wide.fn f := fun _ => trivial
  unfold predV
  have hbox := alloc_at w (.cells #[.int .u8 kd, .int .i64 a, .int .i64 b, .bool nt] 23) _ rfl
  have hE := (Ext.refl w).alloc (.cells #[.int .u8 kd, .int .i64 a, .int .i64 b, .bool nt] 23)
  have hLook := Lib.hid (fun (w3 : World) R bb (h : KindsAt w3 R bb) => look_all kd h true (.tuple #[kindV bb kd, .bool (isKind kd)]) (.inl rfl) rfl)
  have HK := Lib.hid hk
  clear hk
  by_cases h15 : 1 ≤ kd ∧ kd ≤ 5
  · have h1 : isKind kd = true := by unfold isKind; simp; omega
    have hv := fun bb => kindV_eq bb kd h15.1 h15.2
    simp only [h1, hv] at hLook
    have hcm := call_may kd
    have HM := Lib.hid (fun W => mayF_any kd a b W h15.1 h15.2)
    clear h1 hv h15
    go_enter Try.func10, Try.ntmps10
    obtain ⟨m⟩ : Nonempty Nat := ⟨0⟩
    refine (wpIn_wide (n := m)).1 ?_
    gi_wp2_with fail
    generalize w.alloc (.cells #[.int .u8 kd, .int .i64 a, .int .i64 b, .bool nt] 23) = w1 at *
    have hc0 := cell_of hbox 0
    simp at hc0
    replace hc0 := cell_all hc0
    have hx := Ext.drew w1
    refine wpIn_region_G (fun j => !(List.contains (α := Nat) [8] j)) (by kernel_rfl) ?_
    refine batchG hfn (fuel := 8) [1, 2] (by kernel_rfl) rfl ?_
    repeat (go_big_quiet_step ((fail)))
    refine wpQuiet_nil ?_
    refine wpAnyG_two (j := 0) (k := 7) (by kernel_rfl) rfl rfl ?_ ?_
    · gi_wp2_with fail
      refine ⟨wide_room _, (callsIn_wide.2 (kinds_at _)).mono ?_⟩
      rintro e w3 ⟨R, bb, rfl, hK, h3⟩
      have hlk := hLook.out w3 R bb hK
      have hy := Ext.refl w3
      gi_wp2_with fail
      refine onePost_ext (h3) ?_
      refine batchG hfn (fuel := 4) [3, 4, 5] (by kernel_rfl) rfl ?_
      repeat (go_big_quiet_step ((fail)))
      refine wpQuiet_nil ?_
      refine takeG0 hfn 6 (by kernel_rfl) rfl ?_
      repeat (go_big_quiet_step ((fail)))
      refine wpQuiet_nil ?_
      have hn3 := alloc_at w3 (.cells #[.nilFunc, .nilFunc] 46) _ rfl
      have hE3 : Ext w1 w3 := hx.trans h3
      have hE4 := hE3.alloc (.cells #[.nilFunc, .nilFunc] 46)
      have hs3 := hE3.size
      refine wpAnyG_one (j := 7) (by kernel_rfl) rfl ?_
      gi_wp2_with fail
      clear hy hlk hx hc0 hn3
      refine onePost_ext ((Ext.refl w3).alloc _) ?_
      refine wpAnyG_one (j := 8) (by kernel_rfl) rfl ?_
      gi_wp2_with fail
      have hE5 : Ext w1 (w3.alloc (.cells #[.func (.func (mayF kd)) #[] #[], .func (.func (tkF kd)) #[] (tkC bb kd)] 46)) := hE3.alloc _
      have hn5 := alloc_at w3 (.cells #[.func (.func (mayF kd)) #[] #[], .func (.func (tkF kd)) #[] (tkC bb kd)] 46) _ rfl
      generalize w3.alloc (.cells #[.func (.func (mayF kd)) #[] #[], .func (.func (tkF kd)) #[] (tkC bb kd)] 46) = w5 at *
      generalize w3.heap.size = N at *
      gi_wp2_with fail
      refine onePost_any (by kernel_rfl) ?_
      refine batchG hfn (fuel := 0) [9] (by kernel_rfl) rfl ?_
      repeat (go_big_quiet_step ((fail)))
      refine wpQuiet_nil ?_
      refine wpAnyG_done (by kernel_rfl) ?_
      refine calmQ_normal ?_
      have hb5 := hE5.get hbox
      have ha := cell_of hb5 1
      have hb := cell_of hb5 2
      have hf := cell_of hn5 0
      simp at ha hb hf
      gi_wp2_with fail
      clear ha hb hf
      refine ⟨wide_room _, (callsIn_wide.2 (HM.out _)).mono ?_⟩
      rintro e w6 ⟨rfl, h6⟩
      gi_wp2
      go_ret
      exact Ret.mk ((hE.trans hE5).trans h6)
    · gi_wp2_with fail
      have hn2 : (w1.alloc (.cells #[.nilFunc, .nilFunc] 46)).drew.heap[w1.heap.size]? = some (.cells #[.nilFunc, .nilFunc] 46 (0, 0)) := alloc_at w1 (.cells #[.nilFunc, .nilFunc] 46) _ rfl
      have hE2 : Ext w1 (w1.alloc (.cells #[.nilFunc, .nilFunc] 46)).drew := ((Ext.refl w1).alloc _).trans (Ext.drew _)
      refine onePost_ext ((Ext.refl w1.drew).alloc (.cells #[.nilFunc, .nilFunc] 46)) ?_
      generalize (w1.alloc (.cells #[.nilFunc, .nilFunc] 46)).drew = w2 at *
      obtain ⟨N, hN⟩ : ∃ N, w1.heap.size = N := ⟨_, rfl⟩
      rw [hN] at hn2 ⊢
      have HN := Lib.hid hN
      clear hN
      refine wpAnyG_one (j := 0) (by kernel_rfl) rfl ?_
      gi_wp2_with fail
      refine ⟨wide_room _, (callsIn_wide.2 (kinds_at _)).mono ?_⟩
      rintro e w3 ⟨R, bb, rfl, hK, h3⟩
      have hlk := hLook.out w3 R bb hK
      have hy := Ext.refl w3
      have hn3 := h3.get hn2
      have hE3 := hE2.trans h3
      gi_wp2_with fail
      refine onePost_ext (h3) ?_
      refine batchG hfn (fuel := 3) [3, 4, 5] (by kernel_rfl) rfl ?_
      repeat (go_big_quiet_step ((fail)))
      refine wpQuiet_nil ?_
      refine takeG0 hfn 6 (by kernel_rfl) rfl ?_
      repeat (go_big_quiet_step ((fail)))
      refine wpQuiet_nil ?_
      have hn30 := cell_of hn3 0
      have hn31 := cell_of hn3 1
      have hf30 := frozen_of hn3 0
      have hf31 := frozen_of hn3 1
      simp at hn30 hn31
      clear hy hlk hx hc0
      refine wpAnyG_one (j := 8) (by kernel_rfl) rfl ?_
      gi_wp2_with fail
      have hE5 : Ext w1 ((w3.setCell ⟨N, 0, none⟩ (.func (.func (mayF kd)) #[] #[])).setCell ⟨N, 1, none⟩ (.func (.func (tkF kd)) #[] (tkC bb kd))) := put_own (put_own hE3 (by rw [HN.out]; exact Nat.le_refl _) 0 _) (by rw [HN.out]; exact Nat.le_refl _) 1 _
      have hn5 := set2 hn3 (.func (.func (mayF kd)) #[] #[]) (.func (.func (tkF kd)) #[] (tkC bb kd))
      clear hn30 hn31 hf30 hf31 hn3
      generalize (w3.setCell ⟨N, 0, none⟩ (.func (.func (mayF kd)) #[] #[])).setCell ⟨N, 1, none⟩ (.func (.func (tkF kd)) #[] (tkC bb kd)) = w5 at *
      gi_wp2_with fail
      refine onePost_any (by kernel_rfl) ?_
      refine batchG hfn (fuel := 0) [9] (by kernel_rfl) rfl ?_
      repeat (go_big_quiet_step ((fail)))
      refine wpQuiet_nil ?_
      refine wpAnyG_done (by kernel_rfl) ?_
      refine calmQ_normal ?_
      have hb5 := hE5.get hbox
      have ha := cell_of hb5 1
      have hb := cell_of hb5 2
      have hf := cell_of hn5 0
      simp at ha hb hf
      gi_wp2_with fail
      clear ha hb hf
      refine ⟨wide_room _, (callsIn_wide.2 (HM.out _)).mono ?_⟩
      rintro e w6 ⟨rfl, h6⟩
      gi_wp2
      go_ret
      exact Ret.mk ((hE.trans hE5).trans h6)
  · have h1 : isKind kd = false := by unfold isKind; simp; omega
    have hv : ∀ bb, kindV bb kd = .agg #[.nilFunc, .nilFunc] := fun bb => by unfold kindV; rw [if_neg (by omega), if_neg (by omega), if_neg (by omega), if_neg (by omega), if_neg (by omega)]
    simp only [h1, hv] at hLook
    have hm : sMay kd a b = false := by unfold sMay; rw [if_neg (by omega), if_neg (by omega), if_neg (by omega), if_neg (by omega), if_neg (by omega)]
    rw [hm]
    clear h1 hv h15 hm
    go_enter Try.func10, Try.ntmps10
    obtain ⟨m⟩ : Nonempty Nat := ⟨0⟩
    refine (wpIn_wide (n := m)).1 ?_
    gi_wp2_with fail
    generalize w.alloc (.cells #[.int .u8 kd, .int .i64 a, .int .i64 b, .bool nt] 23) = w1 at *
    have hc0 := cell_of hbox 0
    simp at hc0
    replace hc0 := cell_all hc0
    have hx := Ext.drew w1
    refine wpIn_region_G (fun j => !(List.contains (α := Nat) [8] j)) (by kernel_rfl) ?_
    refine batchG hfn (fuel := 8) [1, 2] (by kernel_rfl) rfl ?_
    repeat (go_big_quiet_step ((fail)))
    refine wpQuiet_nil ?_
    refine wpAnyG_two (j := 0) (k := 7) (by kernel_rfl) rfl rfl ?_ ?_
    · gi_wp2_with fail
      refine ⟨wide_room _, (callsIn_wide.2 (kinds_at _)).mono ?_⟩
      rintro e w3 ⟨R, bb, rfl, hK, h3⟩
      have hlk := hLook.out w3 R bb hK
      have hy := Ext.refl w3
      gi_wp2_with fail
      refine onePost_ext (h3) ?_
      refine batchG hfn (fuel := 4) [3, 4, 5] (by kernel_rfl) rfl ?_
      repeat (go_big_quiet_step ((fail)))
      refine wpQuiet_nil ?_
      refine takeG0 hfn 6 (by kernel_rfl) rfl ?_
      repeat (go_big_quiet_step ((fail)))
      refine wpQuiet_nil ?_
      have hE3 : Ext w1 w3 := hx.trans h3
      have hE4 := hE3.alloc (.cells #[.nilFunc, .nilFunc] 46)
      have hs3 := hE3.size
      refine wpAnyG_one (j := 7) (by kernel_rfl) rfl ?_
      gi_wp2_with fail
      clear hy hlk hx hc0
      refine onePost_ext ((Ext.refl w3).alloc _) ?_
      refine wpAnyG_one (j := 8) (by kernel_rfl) rfl ?_
      gi_wp2_with fail
      have hE5 : Ext w1 (w3.alloc (.cells #[.nilFunc, .nilFunc] 46)) := hE3.alloc _
      have hn5 := alloc_at w3 (.cells #[.nilFunc, .nilFunc] 46) _ rfl
      generalize w3.alloc (.cells #[.nilFunc, .nilFunc] 46) = w5 at *
      generalize w3.heap.size = N at *
      gi_wp2_with fail
      refine onePost_any (by kernel_rfl) ?_
      refine batchG hfn (fuel := 0) [9] (by kernel_rfl) rfl ?_
      repeat (go_big_quiet_step ((fail)))
      refine wpQuiet_nil ?_
      refine wpAnyG_done (by kernel_rfl) ?_
      refine calmQ_normal ?_
      gi_wp2
      go_ret
      exact Ret.mk (hE.trans hE5)
    · gi_wp2_with fail
      have hn2 : (w1.alloc (.cells #[.nilFunc, .nilFunc] 46)).drew.heap[w1.heap.size]? = some (.cells #[.nilFunc, .nilFunc] 46 (0, 0)) := alloc_at w1 (.cells #[.nilFunc, .nilFunc] 46) _ rfl
      have hE2 : Ext w1 (w1.alloc (.cells #[.nilFunc, .nilFunc] 46)).drew := ((Ext.refl w1).alloc _).trans (Ext.drew _)
      refine onePost_ext ((Ext.refl w1.drew).alloc (.cells #[.nilFunc, .nilFunc] 46)) ?_
      generalize (w1.alloc (.cells #[.nilFunc, .nilFunc] 46)).drew = w2 at *
      obtain ⟨N, hN⟩ : ∃ N, w1.heap.size = N := ⟨_, rfl⟩
      rw [hN] at hn2 ⊢
      have HN := Lib.hid hN
      clear hN
      refine wpAnyG_one (j := 0) (by kernel_rfl) rfl ?_
      gi_wp2_with fail
      refine ⟨wide_room _, (callsIn_wide.2 (kinds_at _)).mono ?_⟩
      rintro e w3 ⟨R, bb, rfl, hK, h3⟩
      have hlk := hLook.out w3 R bb hK
      have hy := Ext.refl w3
      have hn3 := h3.get hn2
      have hE3 := hE2.trans h3
      gi_wp2_with fail
      refine onePost_ext (h3) ?_
      refine batchG hfn (fuel := 3) [3, 4, 5] (by kernel_rfl) rfl ?_
      repeat (go_big_quiet_step ((fail)))
      refine wpQuiet_nil ?_
      refine takeG0 hfn 6 (by kernel_rfl) rfl ?_
      repeat (go_big_quiet_step ((fail)))
      refine wpQuiet_nil ?_
      have hn30 := cell_of hn3 0
      have hn31 := cell_of hn3 1
      have hf30 := frozen_of hn3 0
      have hf31 := frozen_of hn3 1
      simp at hn30 hn31
      clear hy hlk hx hc0
      refine wpAnyG_one (j := 8) (by kernel_rfl) rfl ?_
      gi_wp2_with fail
      have hE5 : Ext w1 ((w3.setCell ⟨N, 0, none⟩ .nilFunc).setCell ⟨N, 1, none⟩ .nilFunc) := put_own (put_own hE3 (by rw [HN.out]; exact Nat.le_refl _) 0 _) (by rw [HN.out]; exact Nat.le_refl _) 1 _
      have hn5 := set2 hn3 .nilFunc .nilFunc
      clear hn30 hn31 hf30 hf31 hn3
      generalize (w3.setCell ⟨N, 0, none⟩ .nilFunc).setCell ⟨N, 1, none⟩ .nilFunc = w5 at *
      gi_wp2_with fail
      refine onePost_any (by kernel_rfl) ?_
      refine batchG hfn (fuel := 0) [9] (by kernel_rfl) rfl ?_
      repeat (go_big_quiet_step ((fail)))
      refine wpQuiet_nil ?_
      refine wpAnyG_done (by kernel_rfl) ?_
      refine calmQ_normal ?_
      gi_wp2
      go_ret
      exact Ret.mk (hE.trans hE5)
end Go.Proofs.Yteibbdieckephaa
