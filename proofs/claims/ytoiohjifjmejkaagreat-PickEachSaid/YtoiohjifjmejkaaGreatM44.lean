/- sift.May. sift.Takes, and what its kinds take. -/
import Derived.Test.YtoiohjifjmejkaaGreatM28
import Derived.Test.YtoiohjifjmejkaaGreatM43
namespace Go.Proofs.YtoiohjifjmejkaaGreat
open Go Go.RowKit

theorem call_may (kd : Nat) (a : Array Value) (w : World) : (callFunc (mayF kd) a).run Tryz.prog w = .ok (.enter (mayF kd) a) w := by
  unfold mayF
  split
  · kernel_rfl
  · split
    · kernel_rfl
    · split
      · kernel_rfl
      · split <;> kernel_rfl
/-- what a kind takes. -/
def tkF (kd : Nat) : Nat := if kd = 1 then 95 else if kd = 2 then 96 else if kd = 3 then 97 else if kd = 4 then 99 else 101
def tkC (b kd : Nat) : Array Value := if kd = 2 then #[.pointer (some ⟨b, 0, none⟩)] else if kd = 3 then #[.pointer (some ⟨b, 0, none⟩)] else #[]
theorem kindV_eq (b kd : Nat) (h1 : 1 ≤ kd) (h5 : kd ≤ 5) : kindV b kd = .agg #[.func (.func (mayF kd)) #[] #[], (.func (.func (tkF kd)) #[] (tkC b kd))] := by
  have hcases : kd = 1 ∨ kd = 2 ∨ kd = 3 ∨ kd = 4 ∨ kd = 5 := by omega
  rcases hcases with rfl | rfl | rfl | rfl | rfl <;> rfl
/-- the kinds, as they lie in memory. -/
def KindsAt (W : World) (R b : Nat) : Prop := W.heap[R]? = some (.map (kindsEntries b) 5) ∧ W.heap[b]? = some (.cells #[.func (.func 93) #[] #[]] 152 (0, 0))
theorem KindsAt.ext {W W' : World} {R b : Nat} (h : KindsAt W R b) (hE : Ext W W') : KindsAt W' R b := ⟨hE.get h.1, hE.get h.2⟩
theorem kinds_at (w : World) : Calls Tryz.prog 58 #[] w fun e w' => ∃ R b, e = .returned (.map (some R)) ∧ KindsAt w' R b ∧ Ext w w' := by
  refine (kinds_any w).mono ?_
  rintro e w1 ⟨rfl, rfl⟩
  exact ⟨_, w.heap.size, rfl, ⟨alloc_at _ _ _ (by simp), by rw [alloc_lt _ _ _ (by simp)]; exact alloc_at _ _ _ rfl⟩, ((Ext.refl w).alloc _).alloc _⟩
theorem look_all {a : World} {R b : Nat} (kd : Nat) (h : KindsAt a R b) (co : Bool) (v : Value) (hk : co = true ∨ (1 ≤ kd ∧ kd ≤ 5)) (hv : v = if co then .tuple #[kindV b kd, .bool (isKind kd)] else kindV b kd) :
    ∀ (w : World), Ext a w → ∀ Y : ExtOf w, (Instr.lookup 128 (.map (some R)) (.int .u8 kd) co).run Tryz.prog Y.W = .ok v Y.W := fun w hE Y => by
  rw [hv]; exact kind_lookup Y.W R b 5 kd ((hE.trans Y.h).get h.1) co hk
theorem sset2 {w : World} {N : Nat} {T : TypeId} {a0 a1 : Value} (h : w.heap[N]? = some (.cells #[a0, a1] T (0, 0))) (b0 b1 : Value) :
    ((w.setCell ⟨N, 0, none⟩ b0).setCell ⟨N, 1, none⟩ b1).heap[N]? = some (.cells #[b0, b1] T (0, 0)) := by
  simp [World.setCell, Array.getElem?_modify, h]
theorem put_own {w w1 : World} (h : Ext w w1) {N : Nat} (hN : w.heap.size ≤ N) (j : Nat) (u : Value) : Ext w (w1.setCell ⟨N, j, none⟩ u) := Below.setCell (B := w.heap.size) h hN u
/-- what a predicate's box holds. -/
abbrev PredAt (W : World) (N : Nat) (kd : Nat) (a b : Int) (nt : Bool) : Prop :=
  W.heap[N]? = some (.cells #[.int .u8 kd, .int .i64 a, .int .i64 b, .bool nt] 23 (0, 0))
set_option maxRecDepth 100000 in
set_option maxHeartbeats 2000000 in
theorem siftMay_any (w : World) (kd : Nat) (a b : Int) (nt : Bool) (hk : kd < 256) : Calls Tryz.prog 34 #[predV kd a b nt] w (Ret (.bool (sMay kd a b)) w) := by
  have hfn : ∀ f, Fence.wide.fn f := fun _ => trivial
  unfold predV
  have hbox := alloc_at w (.cells #[.int .u8 kd, .int .i64 a, .int .i64 b, .bool nt] 23) _ rfl
  have hE := (Ext.refl w).alloc (.cells #[.int .u8 kd, .int .i64 a, .int .i64 b, .bool nt] 23)
  have hLook := Lib.hid (fun (w3 : World) R bb (h : KindsAt w3 R bb) => look_all kd h true (.tuple #[kindV bb kd, .bool (isKind kd)]) (.inl rfl) rfl)
  have HK := Lib.hid hk
  clear hk
  by_cases h15 : 1 ≤ kd ∧ kd ≤ 5
  · have h1 : isKind kd = true := by unfold isKind; simp; omega
    have hv := fun bb => kindV_eq bb kd h15.1 h15.2
    simp only [h1, hv] at hLook
    have hcm := call_may kd
    have HM := Lib.hid (fun W => mayF_any kd a b W h15.1 h15.2)
    clear h1 hv h15
    go_enter Tryz.func34, Tryz.ntmps34
    obtain ⟨m⟩ : Nonempty Nat := ⟨0⟩
    refine (wpIn_wide (n := m)).1 ?_
    gi_wp2_with fail
    generalize w.alloc (.cells #[.int .u8 kd, .int .i64 a, .int .i64 b, .bool nt] 23) = w1 at *
    have hc0 := cell_of hbox 0
    simp at hc0
    replace hc0 := cell_all hc0
    have hx := Ext.drew w1
    refine wpIn_region_G (fun j => !(List.contains (α := Nat) [8] j)) (by kernel_rfl) ?_
    refine batchG hfn (fuel := 8) [1, 2] (by kernel_rfl) rfl ?_
    repeat (go_big_quiet_step ((fail)))
    refine wpQuiet_nil ?_
    refine wpAnyG_two (j := 0) (k := 7) (by kernel_rfl) rfl rfl ?_ ?_
    · gi_wp2_with fail
      refine ⟨wide_room _, (callsIn_wide.2 (kinds_at _)).mono ?_⟩
      rintro e w3 ⟨R, bb, rfl, hK, h3⟩
      have hlk := hLook.out w3 R bb hK
      have hy := Ext.refl w3
      gi_wp2_with fail
      refine onePost_ext (h3) ?_
      refine batchG hfn (fuel := 4) [3, 4, 5] (by kernel_rfl) rfl ?_
      repeat (go_big_quiet_step ((fail)))
      refine wpQuiet_nil ?_
      refine takeG0 hfn 6 (by kernel_rfl) rfl ?_
      repeat (go_big_quiet_step ((fail)))
      refine wpQuiet_nil ?_
      have hn3 := alloc_at w3 (.cells #[.nilFunc, .nilFunc] 126) _ rfl
      have hE3 : Ext w1 w3 := hx.trans h3
      have hE4 := hE3.alloc (.cells #[.nilFunc, .nilFunc] 126)
      have hs3 := hE3.size
      refine wpAnyG_one (j := 7) (by kernel_rfl) rfl ?_
      gi_wp2_with fail
      clear hy hlk hx hc0 hn3
      refine onePost_ext ((Ext.refl w3).alloc _) ?_
      refine wpAnyG_one (j := 8) (by kernel_rfl) rfl ?_
      gi_wp2_with fail
      have hE5 : Ext w1 (w3.alloc (.cells #[.func (.func (mayF kd)) #[] #[], .func (.func (tkF kd)) #[] (tkC bb kd)] 126)) := hE3.alloc _
      have hn5 := alloc_at w3 (.cells #[.func (.func (mayF kd)) #[] #[], .func (.func (tkF kd)) #[] (tkC bb kd)] 126) _ rfl
      generalize w3.alloc (.cells #[.func (.func (mayF kd)) #[] #[], .func (.func (tkF kd)) #[] (tkC bb kd)] 126) = w5 at *
      generalize w3.heap.size = N at *
      gi_wp2_with fail
      refine onePost_any (by kernel_rfl) ?_
      refine batchG hfn (fuel := 0) [9] (by kernel_rfl) rfl ?_
      repeat (go_big_quiet_step ((fail)))
      refine wpQuiet_nil ?_
      refine wpAnyG_done (by kernel_rfl) ?_
      refine calmQ_normal ?_
      have hb5 := hE5.get hbox
      have ha := cell_of hb5 1
      have hb := cell_of hb5 2
      have hf := cell_of hn5 0
      simp at ha hb hf
      gi_wp2_with fail
      clear ha hb hf
      refine ⟨wide_room _, (callsIn_wide.2 (HM.out _)).mono ?_⟩
      rintro e w6 ⟨rfl, h6⟩
      gi_wp2
      go_ret
      exact Ret.mk ((hE.trans hE5).trans h6)
    · gi_wp2_with fail
      have hn2 : (w1.alloc (.cells #[.nilFunc, .nilFunc] 126)).drew.heap[w1.heap.size]? = some (.cells #[.nilFunc, .nilFunc] 126 (0, 0)) := alloc_at w1 (.cells #[.nilFunc, .nilFunc] 126) _ rfl
      have hE2 : Ext w1 (w1.alloc (.cells #[.nilFunc, .nilFunc] 126)).drew := ((Ext.refl w1).alloc _).trans (Ext.drew _)
      refine onePost_ext ((Ext.refl w1.drew).alloc (.cells #[.nilFunc, .nilFunc] 126)) ?_
      generalize (w1.alloc (.cells #[.nilFunc, .nilFunc] 126)).drew = w2 at *
      obtain ⟨N, hN⟩ : ∃ N, w1.heap.size = N := ⟨_, rfl⟩
      rw [hN] at hn2 ⊢
      have HN := Lib.hid hN
      clear hN
      refine wpAnyG_one (j := 0) (by kernel_rfl) rfl ?_
      gi_wp2_with fail
      refine ⟨wide_room _, (callsIn_wide.2 (kinds_at _)).mono ?_⟩
      rintro e w3 ⟨R, bb, rfl, hK, h3⟩
      have hlk := hLook.out w3 R bb hK
      have hy := Ext.refl w3
      have hn3 := h3.get hn2
      have hE3 := hE2.trans h3
      gi_wp2_with fail
      refine onePost_ext (h3) ?_
      refine batchG hfn (fuel := 3) [3, 4, 5] (by kernel_rfl) rfl ?_
      repeat (go_big_quiet_step ((fail)))
      refine wpQuiet_nil ?_
      refine takeG0 hfn 6 (by kernel_rfl) rfl ?_
      repeat (go_big_quiet_step ((fail)))
      refine wpQuiet_nil ?_
      have hn30 := cell_of hn3 0
      have hn31 := cell_of hn3 1
      have hf30 := frozen_of hn3 0
      have hf31 := frozen_of hn3 1
      simp at hn30 hn31
      clear hy hlk hx hc0
      refine wpAnyG_one (j := 8) (by kernel_rfl) rfl ?_
      gi_wp2_with fail
      have hE5 : Ext w1 ((w3.setCell ⟨N, 0, none⟩ (.func (.func (mayF kd)) #[] #[])).setCell ⟨N, 1, none⟩ (.func (.func (tkF kd)) #[] (tkC bb kd))) := put_own (put_own hE3 (by rw [HN.out]; exact Nat.le_refl _) 0 _) (by rw [HN.out]; exact Nat.le_refl _) 1 _
      have hn5 := sset2 hn3 (.func (.func (mayF kd)) #[] #[]) (.func (.func (tkF kd)) #[] (tkC bb kd))
      clear hn30 hn31 hf30 hf31 hn3
      generalize (w3.setCell ⟨N, 0, none⟩ (.func (.func (mayF kd)) #[] #[])).setCell ⟨N, 1, none⟩ (.func (.func (tkF kd)) #[] (tkC bb kd)) = w5 at *
      gi_wp2_with fail
      refine onePost_any (by kernel_rfl) ?_
      refine batchG hfn (fuel := 0) [9] (by kernel_rfl) rfl ?_
      repeat (go_big_quiet_step ((fail)))
      refine wpQuiet_nil ?_
      refine wpAnyG_done (by kernel_rfl) ?_
      refine calmQ_normal ?_
      have hb5 := hE5.get hbox
      have ha := cell_of hb5 1
      have hb := cell_of hb5 2
      have hf := cell_of hn5 0
      simp at ha hb hf
      gi_wp2_with fail
      clear ha hb hf
      refine ⟨wide_room _, (callsIn_wide.2 (HM.out _)).mono ?_⟩
      rintro e w6 ⟨rfl, h6⟩
      gi_wp2
      go_ret
      exact Ret.mk ((hE.trans hE5).trans h6)
  · have h1 : isKind kd = false := by unfold isKind; simp; omega
    have hv : ∀ bb, kindV bb kd = .agg #[.nilFunc, .nilFunc] := fun bb => by unfold kindV; rw [if_neg (by omega), if_neg (by omega), if_neg (by omega), if_neg (by omega), if_neg (by omega)]
    simp only [h1, hv] at hLook
    have hm : sMay kd a b = false := by unfold sMay; rw [if_neg (by omega), if_neg (by omega), if_neg (by omega), if_neg (by omega), if_neg (by omega)]
    rw [hm]
    clear h1 hv h15 hm
    go_enter Tryz.func34, Tryz.ntmps34
    obtain ⟨m⟩ : Nonempty Nat := ⟨0⟩
    refine (wpIn_wide (n := m)).1 ?_
    gi_wp2_with fail
    generalize w.alloc (.cells #[.int .u8 kd, .int .i64 a, .int .i64 b, .bool nt] 23) = w1 at *
    have hc0 := cell_of hbox 0
    simp at hc0
    replace hc0 := cell_all hc0
    have hx := Ext.drew w1
    refine wpIn_region_G (fun j => !(List.contains (α := Nat) [8] j)) (by kernel_rfl) ?_
    refine batchG hfn (fuel := 8) [1, 2] (by kernel_rfl) rfl ?_
    repeat (go_big_quiet_step ((fail)))
    refine wpQuiet_nil ?_
    refine wpAnyG_two (j := 0) (k := 7) (by kernel_rfl) rfl rfl ?_ ?_
    · gi_wp2_with fail
      refine ⟨wide_room _, (callsIn_wide.2 (kinds_at _)).mono ?_⟩
      rintro e w3 ⟨R, bb, rfl, hK, h3⟩
      have hlk := hLook.out w3 R bb hK
      have hy := Ext.refl w3
      gi_wp2_with fail
      refine onePost_ext (h3) ?_
      refine batchG hfn (fuel := 4) [3, 4, 5] (by kernel_rfl) rfl ?_
      repeat (go_big_quiet_step ((fail)))
      refine wpQuiet_nil ?_
      refine takeG0 hfn 6 (by kernel_rfl) rfl ?_
      repeat (go_big_quiet_step ((fail)))
      refine wpQuiet_nil ?_
      have hE3 : Ext w1 w3 := hx.trans h3
      have hE4 := hE3.alloc (.cells #[.nilFunc, .nilFunc] 126)
      have hs3 := hE3.size
      refine wpAnyG_one (j := 7) (by kernel_rfl) rfl ?_
      gi_wp2_with fail
      clear hy hlk hx hc0
      refine onePost_ext ((Ext.refl w3).alloc _) ?_
      refine wpAnyG_one (j := 8) (by kernel_rfl) rfl ?_
      gi_wp2_with fail
      have hE5 : Ext w1 (w3.alloc (.cells #[.nilFunc, .nilFunc] 126)) := hE3.alloc _
      have hn5 := alloc_at w3 (.cells #[.nilFunc, .nilFunc] 126) _ rfl
      generalize w3.alloc (.cells #[.nilFunc, .nilFunc] 126) = w5 at *
      generalize w3.heap.size = N at *
      gi_wp2_with fail
      refine onePost_any (by kernel_rfl) ?_
      refine batchG hfn (fuel := 0) [9] (by kernel_rfl) rfl ?_
      repeat (go_big_quiet_step ((fail)))
      refine wpQuiet_nil ?_
      refine wpAnyG_done (by kernel_rfl) ?_
      refine calmQ_normal ?_
      gi_wp2
      go_ret
      exact Ret.mk (hE.trans hE5)
    · gi_wp2_with fail
      have hn2 : (w1.alloc (.cells #[.nilFunc, .nilFunc] 126)).drew.heap[w1.heap.size]? = some (.cells #[.nilFunc, .nilFunc] 126 (0, 0)) := alloc_at w1 (.cells #[.nilFunc, .nilFunc] 126) _ rfl
      have hE2 : Ext w1 (w1.alloc (.cells #[.nilFunc, .nilFunc] 126)).drew := ((Ext.refl w1).alloc _).trans (Ext.drew _)
      refine onePost_ext ((Ext.refl w1.drew).alloc (.cells #[.nilFunc, .nilFunc] 126)) ?_
      generalize (w1.alloc (.cells #[.nilFunc, .nilFunc] 126)).drew = w2 at *
      obtain ⟨N, hN⟩ : ∃ N, w1.heap.size = N := ⟨_, rfl⟩
      rw [hN] at hn2 ⊢
      have HN := Lib.hid hN
      clear hN
      refine wpAnyG_one (j := 0) (by kernel_rfl) rfl ?_
      gi_wp2_with fail
      refine ⟨wide_room _, (callsIn_wide.2 (kinds_at _)).mono ?_⟩
      rintro e w3 ⟨R, bb, rfl, hK, h3⟩
      have hlk := hLook.out w3 R bb hK
      have hy := Ext.refl w3
      have hn3 := h3.get hn2
      have hE3 := hE2.trans h3
      gi_wp2_with fail
      refine onePost_ext (h3) ?_
      refine batchG hfn (fuel := 3) [3, 4, 5] (by kernel_rfl) rfl ?_
      repeat (go_big_quiet_step ((fail)))
      refine wpQuiet_nil ?_
      refine takeG0 hfn 6 (by kernel_rfl) rfl ?_
      repeat (go_big_quiet_step ((fail)))
      refine wpQuiet_nil ?_
      have hn30 := cell_of hn3 0
      have hn31 := cell_of hn3 1
      have hf30 := frozen_of hn3 0
      have hf31 := frozen_of hn3 1
      simp at hn30 hn31
      clear hy hlk hx hc0
      refine wpAnyG_one (j := 8) (by kernel_rfl) rfl ?_
      gi_wp2_with fail
      have hE5 : Ext w1 ((w3.setCell ⟨N, 0, none⟩ .nilFunc).setCell ⟨N, 1, none⟩ .nilFunc) := put_own (put_own hE3 (by rw [HN.out]; exact Nat.le_refl _) 0 _) (by rw [HN.out]; exact Nat.le_refl _) 1 _
      have hn5 := sset2 hn3 .nilFunc .nilFunc
      clear hn30 hn31 hf30 hf31 hn3
      generalize (w3.setCell ⟨N, 0, none⟩ .nilFunc).setCell ⟨N, 1, none⟩ .nilFunc = w5 at *
      gi_wp2_with fail
      refine onePost_any (by kernel_rfl) ?_
      refine batchG hfn (fuel := 0) [9] (by kernel_rfl) rfl ?_
      repeat (go_big_quiet_step ((fail)))
      refine wpQuiet_nil ?_
      refine wpAnyG_done (by kernel_rfl) ?_
      refine calmQ_normal ?_
      gi_wp2
      go_ret
      exact Ret.mk (hE.trans hE5)
end Go.Proofs.YtoiohjifjmejkaaGreat
namespace Go.Proofs.YtoiohjifjmejkaaGreat
open Go Go.RowKit

/-- what a predicate takes, the right way round. -/
def sTk (kd : Nat) (a b k v : Int) : Bool :=
  if kd = 1 then true else if kd = 2 then decide (a ≤ k) && decide (k ≤ b) else if kd = 3 then decide (a ≤ v) && decide (v ≤ b) else if kd = 4 then k.tmod a == b || wrap64 (k.tmod a + a) == b else Go.bits .and .i64 k a == b
def sTakes (kd : Nat) (a b : Int) (nt : Bool) (k v : Int) : Bool := sMay kd a b && (sTk kd a b k v != nt)
def pairV (k v : Int) : Value := .agg #[.int .i64 k, .int .i64 v]
theorem siftFrom_any (a b x : Int) (w : World) : Calls Tryz.prog 93 #[.int .i64 a, .int .i64 b, .int .i64 x] w (Ret (.bool (decide (a ≤ x) && decide (x ≤ b))) w) := by
  go_enter Tryz.func93, Tryz.ntmps93
  go_wp2
  all_goals
    go_ret
    exact ⟨ret_bool (by simp; try omega), Ext.refl _⟩
theorem call_tk (kd : Nat) (a : Array Value) (w : World) : (callFunc (tkF kd) a).run Tryz.prog w = .ok (.enter (tkF kd) a) w := by
  unfold tkF
  split
  · kernel_rfl
  · split
    · kernel_rfl
    · split
      · kernel_rfl
      · split <;> kernel_rfl
set_option maxHeartbeats 1000000 in
theorem tkF_any (kd : Nat) (a b k v : Int) (w : World) (R bb : Nat) (hK : KindsAt w R bb) (h1 : 1 ≤ kd) (h5 : kd ≤ 5) (h4 : kd = 4 → 0 < a) :
    Calls Tryz.prog (tkF kd) (#[.int .i64 a, .int .i64 b, pairV k v] ++ tkC bb kd) w (Ret (.bool (sTk kd a b k v)) w) := by
  have hcases : kd = 1 ∨ kd = 2 ∨ kd = 3 ∨ kd = 4 ∨ kd = 5 := by omega
  have hfr := cell_of hK.2 0
  simp at hfr
  have hF := Lib.hid (fun x W => siftFrom_any a b x W)
  have hlb := (Array.getElem?_eq_some_iff.1 hK.2).1
  have hne := Nat.ne_of_lt hlb
  have hE := Lib.hid ((Ext.refl w).alloc (.cells #[.int .i64 k, .int .i64 v] 52))
  clear hK
  rcases hcases with rfl | rfl | rfl | rfl | rfl
  · rw [show tkF 1 = 95 from rfl, show sTk 1 a b k v = true from rfl, show tkC bb 1 = #[] from rfl]
    unfold pairV
    go_enter Tryz.func95, Tryz.ntmps95
    go_wp2
    go_ret
    exact Ret.mk hE.out
  · rw [show tkF 2 = 96 from rfl, show sTk 2 a b k v = (decide (a ≤ k) && decide (k ≤ b)) from rfl, show tkC bb 2 = #[.pointer (some ⟨bb, 0, none⟩)] from rfl]
    unfold pairV
    go_enter Tryz.func96, Tryz.ntmps96
    go_wp2_with fail
    refine (hF.out _ _).mono ?_
    rintro e w1 ⟨rfl, hx⟩
    go_wp2
    go_ret
    exact Ret.mk (hE.out.trans hx)
  · rw [show tkF 3 = 97 from rfl, show sTk 3 a b k v = (decide (a ≤ v) && decide (v ≤ b)) from rfl, show tkC bb 3 = #[.pointer (some ⟨bb, 0, none⟩)] from rfl]
    unfold pairV
    go_enter Tryz.func97, Tryz.ntmps97
    go_wp2_with fail
    refine (hF.out _ _).mono ?_
    rintro e w1 ⟨rfl, hx⟩
    go_wp2
    go_ret
    exact Ret.mk (hE.out.trans hx)
  · have h40 := h4 rfl
    have hne0 : ¬ a = 0 := by omega
    rw [show tkF 4 = 99 from rfl, show sTk 4 a b k v = (k.tmod a == b || wrap64 (k.tmod a + a) == b) from rfl, show tkC bb 4 = #[] from rfl]
    unfold pairV
    go_enter Tryz.func99, Tryz.ntmps99
    go_wp2
    all_goals
      go_ret
      exact ⟨ret_bool (by simp_all), hE.out⟩
  · rw [show tkF 5 = 101 from rfl, show sTk 5 a b k v = (Go.bits .and .i64 k a == b) from rfl, show tkC bb 5 = #[] from rfl]
    unfold pairV
    go_enter Tryz.func101, Tryz.ntmps101
    go_wp2
    all_goals
      go_ret
      exact ⟨ret_bool (by simp_all), hE.out⟩
theorem sMay_kind {kd : Nat} {a b : Int} (h : sMay kd a b = true) : 1 ≤ kd ∧ kd ≤ 5 := by
  unfold sMay at h
  rcases Nat.lt_or_ge 5 kd with h5 | h5
  · rw [if_neg (by omega), if_neg (by omega), if_neg (by omega), if_neg (by omega), if_neg (by omega)] at h; cases h
  · rcases Nat.eq_zero_or_pos kd with h0 | h0
    · subst h0; simp at h
    · omega
set_option maxRecDepth 100000 in
set_option maxHeartbeats 2000000 in
theorem siftTakes_any (w : World) (kd : Nat) (a b : Int) (nt : Bool) (k v : Int) (hk : kd < 256) : Calls Tryz.prog 39 #[predV kd a b nt, pairV k v] w (Ret (.bool (sTakes kd a b nt k v)) w) := by
  have hfn : ∀ f, Fence.wide.fn f := fun _ => trivial
  have hpv : predV kd a b nt = .agg #[.int .u8 kd, .int .i64 a, .int .i64 b, .bool nt] := rfl
  have hqv : pairV k v = .agg #[.int .i64 k, .int .i64 v] := rfl
  have HMAY := Lib.hid (fun W => siftMay_any W kd a b nt hk)
  rw [hpv] at HMAY
  rw [hpv, hqv]
  clear hpv hqv hk
  obtain ⟨w1, hw1⟩ : ∃ w1, w1 = (w.alloc (.cells #[.int .u8 kd, .int .i64 a, .int .i64 b, .bool nt] 23)).alloc (.cells #[.int .i64 k, .int .i64 v] 52) := ⟨_, rfl⟩
  have hE : Ext w w1 := by rw [hw1]; exact ((Ext.refl w).alloc _).alloc _
  have hb0 : w1.heap[w.heap.size]? = some (.cells #[.int .u8 kd, .int .i64 a, .int .i64 b, .bool nt] 23 (0, 0)) := by rw [hw1, alloc_lt _ _ _ (by simp)]; exact alloc_at _ _ _ rfl
  have hb1 : w1.heap[w.heap.size + 1]? = some (.cells #[.int .i64 k, .int .i64 v] 52 (0, 0)) := by rw [hw1]; exact alloc_at _ _ _ (by simp)
  have HW := Lib.hid hw1
  clear hw1
  go_enter Tryz.func39, Tryz.ntmps39
  obtain ⟨m⟩ : Nonempty Nat := ⟨0⟩
  refine (wpIn_wide (n := m)).1 ?_
  gi_wp2_with fail
  rw [← HW.out]
  clear HW
  have hc0 := cell_of hb0 0
  have hc1 := cell_of hb0 1
  have hc2 := cell_of hb0 2
  have hc3 := cell_of hb0 3
  have hd0 := cell_of hb1 0
  have hd1 := cell_of hb1 1
  simp at hc0 hc1 hc2 hc3 hd0 hd1
  replace hc0 := cell_all hc0
  replace hc1 := cell_all hc1
  replace hc2 := cell_all hc2
  replace hc3 := cell_all hc3
  replace hd0 := cell_all hd0
  replace hd1 := cell_all hd1
  have hx := Ext.drew w1
  refine wpIn_region_G (fun j => !(List.contains (α := Nat) [1] j)) (by kernel_rfl) ?_
  refine batchG hfn (fuel := 18) [0] (by kernel_rfl) rfl ?_
  repeat (go_big_quiet_step ((fail)))
  refine wpQuiet_nil ?_
  refine wpAnyG_one (j := 1) (by kernel_rfl) rfl ?_
  gi_wp2_with fail
  refine ⟨wide_room _, (callsIn_wide.2 (HMAY.out _)).mono ?_⟩
  cases hm : sMay kd a b with
  | false =>
    have HS := Lib.hid (show sTakes kd a b nt k v = false by unfold sTakes; rw [hm]; rfl)
    clear hm
    rintro e w2 ⟨rfl, h2⟩
    have h12 := hx.trans h2
    clear hx
    have hx := Ext.refl w2
    gi_wp2_with fail
    refine onePost_any (by kernel_rfl) ?_
    refine batchG hfn (fuel := 7) [2, 4, 5, 8, 9, 10, 11, 12, 14, 15] (by kernel_rfl) rfl ?_
    repeat (go_big_quiet_step ((fail)))
    refine wpQuiet_nil ?_
    refine wpAnyG_skip hfn (j := 3) (by kernel_rfl) rfl rfl ?_
    simp only [Act.put, List.setIfInBounds_toArray, List.set_cons_zero, List.set_cons_succ]
    refine batchG hfn (fuel := 4) [6, 7] (by kernel_rfl) rfl ?_
    repeat (go_big_quiet_step ((fail)))
    refine wpQuiet_nil ?_
    refine wpAnyG_skip hfn (j := 13) (by kernel_rfl) rfl rfl ?_
    simp only [Act.put, List.setIfInBounds_toArray, List.set_cons_zero, List.set_cons_succ]
    refine batchG hfn (fuel := 0) [16, 17, 18] (by kernel_rfl) rfl ?_
    repeat (go_big_quiet_step ((fail)))
    refine wpQuiet_nil ?_
    refine wpAnyG_done (by kernel_rfl) ?_
    refine calmQ_normal ?_
    gi_wp2
    go_ret
    exact ⟨ret_bool HS.out.symm, hE.trans h12⟩
  | true =>
    have HS := Lib.hid (show sTakes kd a b nt k v = (sTk kd a b k v != nt) by unfold sTakes; rw [hm]; rfl)
    obtain ⟨h1, h5⟩ := sMay_kind hm
    have hLook := Lib.hid (fun (w3 : World) R bb (h : KindsAt w3 R bb) => look_all kd h false (kindV bb kd) (.inr ⟨h1, h5⟩) rfl)
    simp only [fun bb => kindV_eq bb kd h1 h5] at hLook
    have HT := Lib.hid (fun W R bb hK => tkF_any kd a b k v W R bb hK h1 h5 (fun h => by subst h; unfold sMay at hm; simp at hm; omega))
    have hct := call_tk kd
    have hfld := fun (x y : Value) (W : World) => (by kernel_rfl : (Instr.field 126 (.agg #[x, y]) 1).run Tryz.prog W = .ok y W)
    clear hm h1 h5
    rintro e w2 ⟨rfl, h2⟩
    have h12 := hx.trans h2
    clear hx
    have hx := Ext.refl w2
    replace hc0 := cell_all (hc0 w1 (Ext.refl _) ⟨w2, h12⟩)
    replace hc1 := cell_all (hc1 w1 (Ext.refl _) ⟨w2, h12⟩)
    replace hc2 := cell_all (hc2 w1 (Ext.refl _) ⟨w2, h12⟩)
    replace hc3 := cell_all (hc3 w1 (Ext.refl _) ⟨w2, h12⟩)
    replace hd0 := cell_all (hd0 w1 (Ext.refl _) ⟨w2, h12⟩)
    replace hd1 := cell_all (hd1 w1 (Ext.refl _) ⟨w2, h12⟩)
    gi_wp2_with fail
    refine onePost_any (by kernel_rfl) ?_
    refine batchG hfn (fuel := 7) [2, 4, 5, 8, 9, 10, 11, 12, 14, 15] (by kernel_rfl) rfl ?_
    repeat (go_big_quiet_step ((fail)))
    refine wpQuiet_nil ?_
    refine wpAnyG_one (j := 3) (by kernel_rfl) rfl ?_
    gi_wp2_with fail
    refine ⟨wide_room _, (callsIn_wide.2 (kinds_at _)).mono ?_⟩
    rintro e w3 ⟨R, bb, rfl, hK, h3⟩
    have hlk := hLook.out w3 R bb hK
    have hy := Ext.refl w3
    gi_wp2_with fail
    refine onePost_ext (h3) ?_
    refine batchG hfn (fuel := 4) [6, 7] (by kernel_rfl) rfl ?_
    repeat (go_big_quiet_step ((fail)))
    refine wpQuiet_nil ?_
    clear hlk hy hc0 hc1 hc2 hc3 hd0 hd1 hx
    refine wpAnyG_one (j := 13) (by kernel_rfl) rfl ?_
    gi_wp2_with fail
    refine ⟨wide_room _, (callsIn_wide.2 (HT.out w3 R bb hK)).mono ?_⟩
    rintro e w4 ⟨rfl, h4⟩
    generalize sTk kd a b k v = U at *
    gi_wp2_with fail
    refine onePost_ext (h4) ?_
    cases nt <;> cases U
    all_goals
      refine batchG hfn (fuel := 0) [16, 17, 18] (by kernel_rfl) rfl ?_
      repeat (go_big_quiet_step ((fail)))
      refine wpQuiet_nil ?_
      refine wpAnyG_done (by kernel_rfl) ?_
      refine calmQ_normal ?_
      gi_wp2
      go_ret
      exact ⟨ret_bool HS.out.symm, (hE.trans h12).trans (h3.trans h4)⟩
end Go.Proofs.YtoiohjifjmejkaaGreat
