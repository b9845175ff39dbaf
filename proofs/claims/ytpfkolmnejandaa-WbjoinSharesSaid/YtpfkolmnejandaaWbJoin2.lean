/- wbjoin: once, twice. -/
import Derived.Test.YtpfkolmnejandaaWbJoin
namespace Go.Proofs.Ytpfkolmnejandaa
open Go Go.RowKit

theorem out_not (s : Bool) (t : Tr) : outOf (!s) t = inOf s t := by cases s <;> rfl
theorem in_ok2 {w : World} {s : Bool} {t : Tr} (h : InH w t) : InH w (inOf s t) := by
  cases s
  · exact right_ok h
  · exact left_ok h
theorem out_ok2 {w : World} {s : Bool} {t : Tr} (h : InH w t) : InH w (outOf s t) := by
  cases s
  · exact left_ok h
  · exact right_ok h
theorem wbIn_any (s : Bool) (w : World) (t : Tr) (ht : InH w t) : Calls Try.prog 50 #[sideV (!s), .pointer t.ptr] w (Ret (.pointer (inOf s t).ptr) w) := by
  have := wbAt_any (!s) w t ht
  rwa [out_not] at this
/-- what a turn hands back. -/
def OnceW (s : Bool) (i t x : Tr) (w : World) (e : Ending) (w' : World) : Prop :=
  ∃ b3 b4, e = .returned (.pointer (mkN s b4 (mkN s b3 i t.key t.val 0 (inOf s x)) x.key x.val 0 (outOf s x)).ptr) ∧ w.heap.size ≤ b3 ∧ w.heap.size ≤ b4 ∧ InH w' (mkN s b4 (mkN s b3 i t.key t.val 0 (inOf s x)) x.key x.val 0 (outOf s x)) ∧ Ext w w'
def TwiceW (s : Bool) (i t x : Tr) (w : World) (e : Ending) (w' : World) : Prop :=
  ∃ b3 b4 b5, e = .returned (.pointer (mkN s b5 (mkN s b3 i t.key t.val 0 (inOf s (inOf s x))) (inOf s x).key (inOf s x).val 0 (mkN s b4 (outOf s (inOf s x)) x.key x.val 0 (outOf s x))).ptr) ∧ w.heap.size ≤ b3 ∧ w.heap.size ≤ b4 ∧ w.heap.size ≤ b5 ∧
    InH w' (mkN s b5 (mkN s b3 i t.key t.val 0 (inOf s (inOf s x))) (inOf s x).key (inOf s x).val 0 (mkN s b4 (outOf s (inOf s x)) x.key x.val 0 (outOf s x))) ∧ Ext w w'
theorem wbOnce_any (s : Bool) (w : World) (i t x : Tr) (hi : InH w i) (ht : InH w t) (hx : InH w x) : Calls Try.prog 51 #[sideV s, .pointer i.ptr, .pointer t.ptr, .pointer x.ptr] w (OnceW s i t x w) := by
  go_enter Try.func51, Try.ntmps51
  go_wp2_with fail
  refine (wbOther_any s w).mono ?_
  rintro e w1 ⟨rfl, h1⟩
  go_wp2_with fail
  refine (wbIn_any s w1 x (hx.ext h1)).mono ?_
  rintro e w2 ⟨rfl, h2⟩
  have h02 := h1.trans h2
  go_wp2_with fail
  refine (wbMk_any s w2 i t (inOf s x) (hi.ext h02) (ht.ext h02) (in_ok2 (hx.ext h02))).mono ?_
  rintro e w3 ⟨b3, rfl, hb3, hT3, h3⟩
  have h03 := h02.trans h3
  obtain ⟨T3, e3⟩ : ∃ T3, T3 = mkN s b3 i t.key t.val 0 (inOf s x) := ⟨_, rfl⟩
  rw [← e3] at hT3 ⊢
  have E3 := Lib.hid e3
  clear e3
  go_wp2_with fail
  refine (wbAt_any s w3 x (hx.ext h03)).mono ?_
  rintro e w4 ⟨rfl, h4⟩
  have h04 := h03.trans h4
  go_wp2_with fail
  refine (wbMk_any s w4 T3 x (outOf s x) (hT3.ext h4) (hx.ext h04) (out_ok2 (hx.ext h04))).mono ?_
  rintro e w5 ⟨b4, rfl, hb4, hT4, h5⟩
  go_wp2
  go_ret
  rw [E3.out] at hT4 ⊢
  exact ⟨b3, b4, rfl, Nat.le_trans h02.size hb3, Nat.le_trans h04.size hb4, hT4, h04.trans h5⟩
theorem wbTwice_any (s : Bool) (w : World) (i t x : Tr) (hi : InH w i) (ht : InH w t) (hx : InH w x) : Calls Try.prog 52 #[sideV s, .pointer i.ptr, .pointer t.ptr, .pointer x.ptr] w (TwiceW s i t x w) := by
  obtain ⟨m, em⟩ : ∃ m, m = inOf s x := ⟨_, rfl⟩
  have hm : InH w m := em ▸ in_ok2 hx
  go_enter Try.func52, Try.ntmps52
  go_wp2_with fail
  refine (wbOther_any s w).mono ?_
  rintro e w1 ⟨rfl, h1⟩
  go_wp2_with fail
  refine (wbIn_any s w1 x (hx.ext h1)).mono ?_
  rw [← em]
  have EM := Lib.hid em
  clear em
  rintro e w2 ⟨rfl, h2⟩
  have h02 := h1.trans h2
  go_wp2_with fail
  refine (wbOther_any s w2).mono ?_
  rintro e w3 ⟨rfl, h3⟩
  have h03 := h02.trans h3
  go_wp2_with fail
  refine (wbIn_any s w3 m (hm.ext h03)).mono ?_
  rintro e w4 ⟨rfl, h4⟩
  have h04 := h03.trans h4
  go_wp2_with fail
  refine (wbMk_any s w4 i t (inOf s m) (hi.ext h04) (ht.ext h04) (in_ok2 (hm.ext h04))).mono ?_
  rintro e w5 ⟨b3, rfl, hb3, hT3, h5⟩
  have h05 := h04.trans h5
  obtain ⟨T3, e3⟩ : ∃ T3, T3 = mkN s b3 i t.key t.val 0 (inOf s m) := ⟨_, rfl⟩
  rw [← e3] at hT3 ⊢
  have E3 := Lib.hid e3
  clear e3
  go_wp2_with fail
  refine (wbAt_any s w5 m (hm.ext h05)).mono ?_
  rintro e w6 ⟨rfl, h6⟩
  have h06 := h05.trans h6
  go_wp2_with fail
  refine (wbAt_any s w6 x (hx.ext h06)).mono ?_
  rintro e w7 ⟨rfl, h7⟩
  have h07 := h06.trans h7
  go_wp2_with fail
  refine (wbMk_any s w7 (outOf s m) x (outOf s x) (out_ok2 (hm.ext h07)) (hx.ext h07) (out_ok2 (hx.ext h07))).mono ?_
  rintro e w8 ⟨b4, rfl, hb4, hT4, h8⟩
  have h08 := h07.trans h8
  obtain ⟨T4, e4⟩ : ∃ T4, T4 = mkN s b4 (outOf s m) x.key x.val 0 (outOf s x) := ⟨_, rfl⟩
  rw [← e4] at hT4 ⊢
  have E4 := Lib.hid e4
  clear e4
  go_wp2_with fail
  refine (wbMk_any s w8 T3 m T4 (((hT3.ext h6).ext h7).ext h8) (hm.ext h08) hT4).mono ?_
  rintro e w9 ⟨b5, rfl, hb5, hT5, h9⟩
  go_wp2
  go_ret
  rw [E3.out, E4.out] at hT5 ⊢
  have em := EM.out
  subst em
  exact ⟨b3, b4, b5, rfl, Nat.le_trans h04.size hb3, Nat.le_trans h07.size hb4, Nat.le_trans h08.size hb5, hT5, h08.trans h9⟩
end Go.Proofs.Ytpfkolmnejandaa
