/- wbjoin: once, twice. wbjoin.hang. -/
import Derived.MapKept
import Derived.Test.YtoiohjifjmejkaaGreatM23
namespace Go.Proofs.YtoiohjifjmejkaaGreat
open Go Go.RowKit

theorem out_not (s : Bool) (t : Tr) : outOf (!s) t = inOf s t := by cases s <;> rfl
theorem in_ok2 {w : World} {s : Bool} {t : Tr} (h : InH w t) : InH w (inOf s t) := by
  cases s
  · exact right_ok h
  · exact left_ok h
theorem out_ok2 {w : World} {s : Bool} {t : Tr} (h : InH w t) : InH w (outOf s t) := by
  cases s
  · exact left_ok h
  · exact right_ok h
theorem wbIn_any (s : Bool) (w : World) (t : Tr) (ht : InH w t) : Calls Tryz.prog 147 #[wsideV (!s), .pointer t.ptr] w (Ret (.pointer (inOf s t).ptr) w) := by
  have := wbAt_any (!s) w t ht
  rwa [out_not] at this
/-- what a turn hands back. -/
def OnceW (s : Bool) (i t x : Tr) (w : World) (e : Ending) (w' : World) : Prop :=
  ∃ b3 b4, e = .returned (.pointer (mkN s b4 (mkN s b3 i t.key t.val 0 (inOf s x)) x.key x.val 0 (outOf s x)).ptr) ∧ w.heap.size ≤ b3 ∧ w.heap.size ≤ b4 ∧ InH w' (mkN s b4 (mkN s b3 i t.key t.val 0 (inOf s x)) x.key x.val 0 (outOf s x)) ∧ Ext w w'
def TwiceW (s : Bool) (i t x : Tr) (w : World) (e : Ending) (w' : World) : Prop :=
  ∃ b3 b4 b5, e = .returned (.pointer (mkN s b5 (mkN s b3 i t.key t.val 0 (inOf s (inOf s x))) (inOf s x).key (inOf s x).val 0 (mkN s b4 (outOf s (inOf s x)) x.key x.val 0 (outOf s x))).ptr) ∧ w.heap.size ≤ b3 ∧ w.heap.size ≤ b4 ∧ w.heap.size ≤ b5 ∧
    InH w' (mkN s b5 (mkN s b3 i t.key t.val 0 (inOf s (inOf s x))) (inOf s x).key (inOf s x).val 0 (mkN s b4 (outOf s (inOf s x)) x.key x.val 0 (outOf s x))) ∧ Ext w w'
theorem wbOnce_any (s : Bool) (w : World) (i t x : Tr) (hi : InH w i) (ht : InH w t) (hx : InH w x) : Calls Tryz.prog 148 #[wsideV s, .pointer i.ptr, .pointer t.ptr, .pointer x.ptr] w (OnceW s i t x w) := by
  go_enter Tryz.func148, Tryz.ntmps148
  go_wp2_with fail
  refine (wbOther_any s w).mono ?_
  rintro e w1 ⟨rfl, h1⟩
  go_wp2_with fail
  refine (wbIn_any s w1 x (hx.ext h1)).mono ?_
  rintro e w2 ⟨rfl, h2⟩
  have h02 := h1.trans h2
  go_wp2_with fail
  refine (wbMk_any s w2 i t (inOf s x) (hi.ext h02) (ht.ext h02) (in_ok2 (hx.ext h02))).mono ?_
  rintro e w3 ⟨b3, rfl, hb3, hT3, h3⟩
  have h03 := h02.trans h3
  obtain ⟨T3, e3⟩ : ∃ T3, T3 = mkN s b3 i t.key t.val 0 (inOf s x) := ⟨_, rfl⟩
  rw [← e3] at hT3 ⊢
  have E3 := Lib.hid e3
  clear e3
  go_wp2_with fail
  refine (wbAt_any s w3 x (hx.ext h03)).mono ?_
  rintro e w4 ⟨rfl, h4⟩
  have h04 := h03.trans h4
  go_wp2_with fail
  refine (wbMk_any s w4 T3 x (outOf s x) (hT3.ext h4) (hx.ext h04) (out_ok2 (hx.ext h04))).mono ?_
  rintro e w5 ⟨b4, rfl, hb4, hT4, h5⟩
  go_wp2
  go_ret
  rw [E3.out] at hT4 ⊢
  exact ⟨b3, b4, rfl, Nat.le_trans h02.size hb3, Nat.le_trans h04.size hb4, hT4, h04.trans h5⟩
theorem wbTwice_any (s : Bool) (w : World) (i t x : Tr) (hi : InH w i) (ht : InH w t) (hx : InH w x) : Calls Tryz.prog 149 #[wsideV s, .pointer i.ptr, .pointer t.ptr, .pointer x.ptr] w (TwiceW s i t x w) := by
  obtain ⟨m, em⟩ : ∃ m, m = inOf s x := ⟨_, rfl⟩
  have hm : InH w m := em ▸ in_ok2 hx
  go_enter Tryz.func149, Tryz.ntmps149
  go_wp2_with fail
  refine (wbOther_any s w).mono ?_
  rintro e w1 ⟨rfl, h1⟩
  go_wp2_with fail
  refine (wbIn_any s w1 x (hx.ext h1)).mono ?_
  rw [← em]
  have EM := Lib.hid em
  clear em
  rintro e w2 ⟨rfl, h2⟩
  have h02 := h1.trans h2
  go_wp2_with fail
  refine (wbOther_any s w2).mono ?_
  rintro e w3 ⟨rfl, h3⟩
  have h03 := h02.trans h3
  go_wp2_with fail
  refine (wbIn_any s w3 m (hm.ext h03)).mono ?_
  rintro e w4 ⟨rfl, h4⟩
  have h04 := h03.trans h4
  go_wp2_with fail
  refine (wbMk_any s w4 i t (inOf s m) (hi.ext h04) (ht.ext h04) (in_ok2 (hm.ext h04))).mono ?_
  rintro e w5 ⟨b3, rfl, hb3, hT3, h5⟩
  have h05 := h04.trans h5
  obtain ⟨T3, e3⟩ : ∃ T3, T3 = mkN s b3 i t.key t.val 0 (inOf s m) := ⟨_, rfl⟩
  rw [← e3] at hT3 ⊢
  have E3 := Lib.hid e3
  clear e3
  go_wp2_with fail
  refine (wbAt_any s w5 m (hm.ext h05)).mono ?_
  rintro e w6 ⟨rfl, h6⟩
  have h06 := h05.trans h6
  go_wp2_with fail
  refine (wbAt_any s w6 x (hx.ext h06)).mono ?_
  rintro e w7 ⟨rfl, h7⟩
  have h07 := h06.trans h7
  go_wp2_with fail
  refine (wbMk_any s w7 (outOf s m) x (outOf s x) (out_ok2 (hm.ext h07)) (hx.ext h07) (out_ok2 (hx.ext h07))).mono ?_
  rintro e w8 ⟨b4, rfl, hb4, hT4, h8⟩
  have h08 := h07.trans h8
  obtain ⟨T4, e4⟩ : ∃ T4, T4 = mkN s b4 (outOf s m) x.key x.val 0 (outOf s x) := ⟨_, rfl⟩
  rw [← e4] at hT4 ⊢
  have E4 := Lib.hid e4
  clear e4
  go_wp2_with fail
  refine (wbMk_any s w8 T3 m T4 (((hT3.ext h6).ext h7).ext h8) (hm.ext h08) hT4).mono ?_
  rintro e w9 ⟨b5, rfl, hb5, hT5, h9⟩
  go_wp2
  go_ret
  rw [E3.out, E4.out] at hT5 ⊢
  have em := EM.out
  subst em
  exact ⟨b3, b4, b5, rfl, Nat.le_trans h04.size hb3, Nat.le_trans h07.size hb4, Nat.le_trans h08.size hb5, hT5, h08.trans h9⟩
end Go.Proofs.YtoiohjifjmejkaaGreat
namespace Go.Proofs.YtoiohjifjmejkaaGreat
open Go Go.RowKit

theorem turn_up {P : Program} (w : World) (mty kt et : TypeId) (clock : Nat) (es : Array MapEntry) (k : Bool) (val : Value) (hm : P.underlying mty = some (.map kt et)) (hk : P.underlying kt = some .bool)
    (hf : Instr.findNow .bool (.bool k) es.toList 0 = some none) (b : Nat) (hb : w.heap.size = b) :
    (Instr.mapUpdate mty (.map (some b)) (.bool k) val).run P (w.alloc (.map es clock)) = .ok () (w.alloc (.map (es.push { key := .bool k, val := val, born := clock }) (clock + 1))) := by
  subst hb
  have hb : (w.alloc (.map es clock)).heap[w.heap.size]? = some (.map es clock) := by show (w.heap.push _)[w.heap.size]? = _; simp
  have hc : (Instr.checkKey false 10000 kt (.bool k)).run P (w.alloc (.map es clock)) = .ok () (w.alloc (.map es clock)) := MapKept.run_checkKey hk (by simp [MapKept.IsKey]) false 9999
  have hk' : (Instr.findKey kt (.bool k) es.toList).run P (w.alloc (.map es clock)) = .ok none (w.alloc (.map es clock)) := MapKept.run_findKey hk hf
  have hs : ∀ (o o' : Obj), ({ (w.alloc o) with heap := (w.alloc o).heap.setIfInBounds w.heap.size o' } : World) = w.alloc o' := fun o o' => by
    simp only [World.alloc]; congr 1; apply Array.ext_getElem?; intro i; rw [Array.getElem?_setIfInBounds, Array.getElem?_push, Array.getElem?_push]; simp; grind
  simp [Instr.mapUpdate, run_underlying hm, MapKept.run_getObj_map hb, hc, hk', MapKept.run_setObj_map _ hb, Result.andThen]
  exact hs (.map es clock) _
theorem turn_look {P : Program} {w : World} {N : Nat} {mty kt et : TypeId} {es : Array MapEntry} {clock i : Nat} {k : Bool} {v : Value} (hm : P.underlying mty = some (.map kt et)) (hk : P.underlying kt = some .bool) (hb : w.heap[N]? = some (.map es clock))
    (hf : Instr.findNow .bool (.bool k) es.toList 0 = some (some (i, v))) : (Instr.lookup mty (.map (some N)) (.bool k) false).run P w = .ok v w := by
  have hc : ∀ e, (Instr.checkKey e 10000 kt (.bool k)).run P w = .ok () w := fun e => MapKept.run_checkKey hk (by simp [MapKept.IsKey]) e 9999
  have hk' : (Instr.findKey kt (.bool k) es.toList).run P w = .ok (some (i, v)) w := MapKept.run_findKey hk hf
  simp [Instr.lookup, run_underlying hm, MapKept.run_getObj_map hb, hc, hk', Result.andThen]
/-- the map of turns. -/
def turnF (c : Bool) : Nat := if c then 148 else 149
def turnsE (s : Bool) : Array MapEntry := #[{ key := .bool true, val := .func (.func 148) #[wsideV s] #[], born := 0 }, { key := .bool false, val := .func (.func 149) #[wsideV s] #[], born := 1 }]
theorem turns_once {w : World} {N : Nat} (s : Bool) (h : w.heap[N]? = some (.map (turnsE s) 2)) : (Instr.lookup 192 (.map (some N)) (.bool true) false).run Tryz.prog w = .ok (.func (.func 148) #[wsideV s] #[]) w :=
  turn_look Tryz.underlying192 Tryz.underlying4 h rfl
theorem turns_twice {w : World} {N : Nat} (s : Bool) (h : w.heap[N]? = some (.map (turnsE s) 2)) : (Instr.lookup 192 (.map (some N)) (.bool false) false).run Tryz.prog w = .ok (.func (.func 149) #[wsideV s] #[]) w :=
  turn_look Tryz.underlying192 Tryz.underlying4 h rfl
/-- what hang hands back. -/
def WHangs (n : Nat) (s : Bool) (t low : Tr) (k v : Int) (w : World) (e : Ending) (w' : World) : Prop :=
  ∃ T : Tr, e = .returned (.pointer T.ptr) ∧ WHang n s t low k v T ∧ InH w' T ∧ Ext w w'
def WHangSpec (s : Bool) (n : Nat) (P low : Tr) (t : Tr) : Prop :=
  ∀ (w : World), n ≤ w.heap.size → InH w t → InH w P → InH w low → WbH t → (lk (t.count + 1) (low.count + 1) ∨ low.count ≤ t.count) → t.count + low.count ≤ 90000 → t.news n = 0 →
    Calls Tryz.prog 120 #[wsideV s, .pointer t.ptr, .pointer P.ptr, .pointer low.ptr] w (WHangs n s t low P.key P.val w)
/-- the numbers of a level. -/
theorem wnum {W L i o : Nat} (e : W = i + o) (h : lk i o) (hno : ¬ lk W L) (hL : L ≤ W) : 71 * L < 29 * (i + o) ∧ (lk o L ∨ L ≤ o) := by
  unfold lk at *
  omega
theorem wadd {a b : Tr} (h : a.count + b.count ≤ 95000) : IntKind.i64.wrap (wt a + wt b) = wt a + wt b := by
  rw [wt_count a (by omega), wt_count b (by omega)]
  have : (2 : Int) ^ 64 = 18446744073709551616 := by decide
  have : (2 : Int) ^ 63 = 9223372036854775808 := by decide
  simp only [IntKind.wrap, IntKind.bits, IntKind.signed]
  simp
  omega
theorem wlike {a b : Tr} (h : a.count + b.count ≤ 95000) : likeB (wt a) (wt b) = true ↔ lk (a.count + 1) (b.count + 1) := by
  rw [wt_count a (by omega), wt_count b (by omega)]
  exact likeB_lk (by omega) (by omega) (by omega) (by omega)
theorem wlike2 {a b c : Tr} (h : a.count + b.count + c.count ≤ 95000) : likeB (wt a + wt b) (wt c) = true ↔ lk (a.count + 1 + (b.count + 1)) (c.count + 1) := by
  rw [wt_count a (by omega), wt_count b (by omega), wt_count c (by omega), ← likeB_lk (by omega) (by omega) (by omega) (by omega)]
  exact Iff.rfl
end Go.Proofs.YtoiohjifjmejkaaGreat
