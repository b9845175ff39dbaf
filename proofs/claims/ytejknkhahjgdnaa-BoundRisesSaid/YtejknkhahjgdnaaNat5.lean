/- slices.Reverse, Compare at words; nat.Cmp. -/
import Derived.Test.YtejknkhahjgdnaaNat4
namespace Go.Proofs.Ytejknkhahjgdnaa
open Go Go.RowKit

/-- a row, of which so many at either end are turned about. -/
def RevK (ds es : List Nat) (k : Nat) : Prop := es.length = ds.length ∧ ∀ p, p < ds.length → es.getD p 0 = if p < k ∨ ds.length ≤ p + k then ds.getD (ds.length - 1 - p) 0 else ds.getD p 0
theorem revK_zero (ds : List Nat) : RevK ds ds 0 := ⟨rfl, fun p hp => by rw [if_neg (by omega)]⟩
theorem getD_set (es : List Nat) (i p d : Nat) (hp : p < es.length) : (es.set i d).getD p 0 = if i = p then d else es.getD p 0 := by
  simp only [List.getD_eq_getElem?_getD, List.getElem?_set]
  split
  · rename_i h; subst h; simp [hp]
  · rfl
theorem revK_step {ds es : List Nat} {k : Nat} (h : RevK ds es k) (hk : k < ds.length - 1 - k) : RevK ds ((es.set k (ds.getD (ds.length - 1 - k) 0)).set (ds.length - 1 - k) (ds.getD k 0)) (k + 1) := by
  obtain ⟨h1, h2⟩ := h
  refine ⟨by simp [h1], fun p hp => ?_⟩
  rw [getD_set _ _ _ _ (by simp [h1, hp]), getD_set _ _ _ _ (by rw [h1]; exact hp)]
  by_cases e1 : ds.length - 1 - k = p
  · rw [if_pos e1, if_pos (by omega)]
    congr 1; omega
  · rw [if_neg e1]
    by_cases e2 : k = p
    · rw [if_pos e2, if_pos (by omega)]
      congr 1; omega
    · rw [if_neg e2, h2 p hp]
      by_cases e3 : p < k ∨ ds.length ≤ p + k
      · rw [if_pos e3, if_pos (by omega)]
      · rw [if_neg e3, if_neg (by omega)]
theorem revK_end {ds es : List Nat} {k : Nat} (h : RevK ds es k) (hk : ¬ k < ds.length - 1 - k) (hk2 : 2 * k ≤ ds.length) : es = ds.reverse := by
  obtain ⟨h1, h2⟩ := h
  apply List.ext_getElem?
  intro p
  rcases Nat.lt_or_ge p ds.length with hp | hp
  · have := h2 p hp
    rw [List.getElem?_reverse hp, List.getElem?_eq_getElem (by rw [h1]; exact hp), List.getElem?_eq_getElem (by omega)]
    rw [List.getD_eq_getElem?_getD, List.getElem?_eq_getElem (by rw [h1]; exact hp)] at this
    simp only [Option.getD_some] at this
    rw [this]
    split
    · rw [List.getD_eq_getElem?_getD, List.getElem?_eq_getElem (by omega)]; rfl
    · have hpk : p = ds.length - 1 - p := by omega
      have : ds.getD p 0 = ds.getD (ds.length - 1 - p) 0 := by rw [← hpk]
      rw [this, List.getD_eq_getElem?_getD, List.getElem?_eq_getElem (by omega)]; rfl
  · rw [List.getElem?_eq_none (by rw [h1]; exact hp), List.getElem?_eq_none (by simpa using hp)]
/-- nothing but a block has turned. -/
def Only (g : Nat) (w w' : World) : Prop := (∀ w0, Ext w0 w → w0.heap.size ≤ g → Ext w0 w') ∧ ∀ h o, h ≠ g → w.heap[h]? = some o → w'.heap[h]? = some o
theorem Only.refl (g : Nat) (w : World) : Only g w w := ⟨fun _ h _ => h, fun _ _ _ h => h⟩
theorem Only.set {g : Nat} {w W : World} (h : Only g w W) (k : Nat) (v : Value) : Only g w (W.setCell ⟨g, k, none⟩ v) :=
  ⟨fun w0 h0 hg => Below.setCell (B := w0.heap.size) (h.1 w0 h0 hg) hg v, fun b o hb ho => by
    rw [Below.heap_setCell _ _ _ b hb]; exact h.2 b o hb ho⟩
theorem Only.drew {g : Nat} {w W : World} (h : Only g w W) : Only g w W.drew := ⟨fun w0 h0 hg => (h.1 w0 h0 hg).trans (Ext.drew W), h.2⟩
theorem rev_j {k m n : Nat} (hm : n - 1 - k = m) (hk : k < m) : Value.int .i64 ((m : Int) - 1) = .int .i64 ((n : Int) - 1 - ((k + 1 : Nat) : Int)) := by rw [show (m : Int) - 1 = (n : Int) - 1 - ((k + 1 : Nat) : Int) by omega]
set_option maxHeartbeats 2000000 in
theorem reverse_any (w : World) (g c : Nat) (ds : List Nat) (hU : UBlk w g ds) (hl : ds.length ≤ 2000) : Calls Try.prog 35 #[.slice (some ⟨g, 0, none⟩) ds.length c] w fun e w' =>
    (∃ v, e = .returned v) ∧ UBlk w' g ds.reverse ∧ Only g w w' := by
  have HU := Lib.hid hU
  have HL := Lib.hid hl
  have hl' : (ds.length : Int) ≤ 2000 := by omega
  clear hU hl
  go_enter Try.func35, Try.ntmps35
  go_wp2_with fail
  go_loopw [2, 3] (fun i j W => ∃ (k : Nat) (es : List Nat), i = .int .i64 (k : Nat) ∧ j = .int .i64 ((ds.length : Int) - 1 - (k : Nat)) ∧ UBlk W g es ∧ Only g w W ∧ Hid (RevK ds es k ∧ 2 * k ≤ ds.length)) (fun i _ _ => ds.length - (intOf i).toNat)
  case atStart => exact ⟨0, ds, rfl, by simp, HU.out, Only.refl _ _, Lib.hid ⟨revK_zero ds, by omega⟩⟩
  case round =>
    obtain ⟨k, es, rfl, rfl, hU, hO, HH⟩ := hrel
    by_cases hk : k < ds.length - 1 - k
    · obtain ⟨m, hm⟩ : ∃ m, ds.length - 1 - k = m := ⟨_, rfl⟩
      have hj : (ds.length : Int) - 1 - k = (m : Int) := by omega
      rw [hm] at hk
      have HST := Lib.hid (revK_step HH.out.1 (by rw [hm]; exact hk))
      rw [hm] at HST
      have hmd : m < ds.length := by omega
      have hlen := HH.out.1.1
      obtain ⟨ck, fk⟩ := hU.cell k (by omega)
      obtain ⟨cm, fm⟩ := hU.cell m (by omega)
      rw [HH.out.1.2 k (by omega), if_neg (by omega)] at ck
      rw [HH.out.1.2 m hmd, if_neg (by omega)] at cm
      obtain ⟨x, hx⟩ : ∃ x, ds.getD k 0 = x := ⟨_, rfl⟩
      obtain ⟨y, hy⟩ : ∃ y, ds.getD m 0 = y := ⟨_, rfl⟩
      rw [hx] at ck HST
      rw [hy] at cm HST
      have HU2 := Lib.hid hU
      have HO := Lib.hid hO
      have HN := Lib.hid (And.intro hm (And.intro hk hmd))
      rw [hj]
      have hkd : k < ds.length := by omega
      clear hU hO hm hx hy hlen hj
      go_wp2_with fail
      go_region
      have HU3 := Lib.hid (show UBlk ((wr.setCell ⟨g, k, none⟩ (.int .u32 (y : Nat))).setCell ⟨g, m, none⟩ (.int .u32 (x : Nat))).drew g ((es.set k y).set m x) from (HU2.out.set k y).set m x)
      have HO3 := Lib.hid (((HO.out.set k (.int .u32 (y : Nat))).set m (.int .u32 (x : Nat))).drew)
      clear ck cm fk fm
      generalize ((wr.setCell ⟨g, k, none⟩ (.int .u32 (y : Nat))).setCell ⟨g, m, none⟩ (.int .u32 (x : Nat))).drew = w5 at *
      go_wp2
      go_roundw
      case rel =>
        refine ⟨k + 1, _, rfl, rev_j HN.out.1 HN.out.2.1, HU3.out, HO3.out, Lib.hid ⟨HST.out, by have := HN.out; omega⟩⟩
      case measure => exact meas_s hkd
    · have hke := revK_end HH.out.1 hk HH.out.2
      have HU2 := Lib.hid hU
      have HO := Lib.hid hO
      have hkj : ¬ (k : Int) < (ds.length : Int) - 1 - k := by omega
      rw [hke] at HU2
      clear hU hO hk hke
      go_wp2
      go_end0
      exact ⟨⟨_, rfl⟩, HU2.out, HO.out⟩
/-- how two rows stand, the first word that differs being what counts. -/
def cmpL : List Nat → List Nat → Int
  | x :: xs, y :: ys => if x < y then -1 else if y < x then 1 else cmpL xs ys
  | _, _ => 0
def cmpV (a b : Nat) : Int := if a < b then -1 else if b < a then 1 else 0
theorem cmpL_rev : ∀ (u v : List Nat), u.length = v.length → Words u → Words v → cmpL u v = cmpV (nval u.reverse) (nval v.reverse)
  | [], [], _, _, _ => rfl
  | [], _ :: _, h, _, _ => by simp at h
  | _ :: _, [], h, _, _ => by simp at h
  | x :: u, y :: v, h, hu, hv => by
    have hl : u.length = v.length := by simpa using h
    have ih := cmpL_rev u v hl (words_tail hu) (words_tail hv)
    have hu' : nval u.reverse < beta ^ u.length := by
      have := nval_lt (xs := u.reverse) (fun d hd => words_tail hu d (List.mem_reverse.1 hd))
      rwa [List.length_reverse] at this
    have hv' : nval v.reverse < beta ^ u.length := by
      have := nval_lt (xs := v.reverse) (fun d hd => words_tail hv d (List.mem_reverse.1 hd))
      rwa [List.length_reverse, ← hl] at this
    rw [cmpL, List.reverse_cons, List.reverse_cons, nval_append, nval_append, List.length_reverse, List.length_reverse, ← hl, ih]
    simp only [nval, Nat.mul_zero, Nat.add_zero]
    generalize beta ^ u.length = B at *
    generalize nval u.reverse = A at *
    generalize nval v.reverse = C at *
    unfold cmpV
    rcases Nat.lt_trichotomy x y with hxy | hxy | hxy
    · rw [if_pos hxy]
      have : B * (x + 1) ≤ B * y := Nat.mul_le_mul_left _ hxy
      rw [Nat.mul_add, Nat.mul_one] at this
      rw [if_pos (by omega)]
    · subst hxy
      rw [if_neg (Nat.lt_irrefl _), if_neg (Nat.lt_irrefl _)]
      have e1 : (A + B * x < C + B * x) = (A < C) := by apply propext; omega
      have e2 : (C + B * x < A + B * x) = (C < A) := by apply propext; omega
      simp only [e1, e2]
    · have : B * (y + 1) ≤ B * x := Nat.mul_le_mul_left _ hxy
      rw [Nat.mul_add, Nat.mul_one] at this
      rw [if_neg (by omega), if_pos hxy, if_neg (by omega), if_pos (by omega)]
theorem isNaN_any (w : World) (x : Nat) : Calls Try.prog 83 #[.int .u32 (x : Nat)] w (Ret (.bool false) w) := by
  go_enter Try.func83, Try.ntmps83
  go_wp2
  go_ret
  exact ⟨ret_bool (by simp), Ext.refl _⟩
theorem cmpU_any (w : World) (x y : Nat) : Calls Try.prog 61 #[.int .u32 (x : Nat), .int .u32 (y : Nat)] w (Ret (.int .i64 (cmpV x y)) w) := by
  have hc : (x < y ∧ cmpV x y = -1) ∨ (x = y ∧ cmpV x y = 0) ∨ (y < x ∧ cmpV x y = 1) := by unfold cmpV; omega
  have H1 := Lib.hid (fun W => isNaN_any W x)
  have H2 := Lib.hid (fun W => isNaN_any W y)
  rcases hc with ⟨hxy, hv⟩ | ⟨hxy, hv⟩ | ⟨hxy, hv⟩
  all_goals
    rw [hv]
    clear hv
    try subst hxy
    go_enter Try.func61, Try.ntmps61
    go_wp2_with fail
    refine (H1.out _).mono ?_
    rintro e w1 ⟨rfl, h1⟩
    go_wp2_with fail
    refine (H2.out _).mono ?_
    rintro e w2 ⟨rfl, h2⟩
    go_wp2
    all_goals
      go_ret
      exact Ret.mk (h1.trans h2)
set_option maxHeartbeats 2000000 in
theorem compare_any (w : World) (g1 g2 c1 c2 : Nat) (xs ys : List Nat) (h1 : UBlk w g1 xs) (h2 : UBlk w g2 ys) (hl : xs.length = ys.length) (hn : xs.length ≤ 2000) : Calls Try.prog 36 #[.slice (some ⟨g1, 0, none⟩) xs.length c1, .slice (some ⟨g2, 0, none⟩) xs.length c2] w (Ret (.int .i64 (cmpL xs ys)) w) := by
  have H1 := Lib.hid h1
  have H2 := Lib.hid h2
  have HL := Lib.hid hl
  have HN := Lib.hid hn
  have hn' : (xs.length : Int) ≤ 2000 := by omega
  obtain ⟨n, hxn⟩ : ∃ n, xs.length = n := ⟨_, rfl⟩
  rw [hxn] at HL HN hn' ⊢
  have HXN := Lib.hid hxn
  obtain ⟨R, hR⟩ : ∃ R, cmpL xs ys = R := ⟨_, rfl⟩
  rw [hR]
  have HR := Lib.hid hR
  clear h1 h2 hl hn hxn hR
  go_enter Try.func36, Try.ntmps36
  go_wp2_with fail
  go_loopw [11] (fun i W => ∃ k : Nat, i = .int .i64 (k : Nat) ∧ Ext w W ∧ Hid (k ≤ n ∧ cmpL (xs.drop k) (ys.drop k) = R)) (fun i _ => n - (intOf i).toNat)
  case atStart => exact ⟨0, rfl, Ext.refl _, Lib.hid ⟨Nat.zero_le _, HR.out⟩⟩
  case round =>
    obtain ⟨k, rfl, hX, HH⟩ := hrel
    by_cases hk : k < n
    · have c1' := (show UBlk wr g1 xs from hX.get H1.out).cell k (by rw [HXN.out]; exact hk)
      have c2' := (show UBlk wr g2 ys from hX.get H2.out).cell k (by rw [← HL.out]; exact hk)
      have hdr : cmpL (xs.drop k) (ys.drop k) = if xs.getD k 0 < ys.getD k 0 then -1 else if ys.getD k 0 < xs.getD k 0 then 1 else cmpL (xs.drop (k + 1)) (ys.drop (k + 1)) := by
        have a1 : k < xs.length := by rw [HXN.out]; exact hk
        have a2 : k < ys.length := by rw [← HL.out]; exact hk
        rw [List.drop_eq_getElem_cons a1, List.drop_eq_getElem_cons a2, cmpL, List.getD_eq_getElem?_getD, List.getD_eq_getElem?_getD, List.getElem?_eq_getElem a1, List.getElem?_eq_getElem a2]
        rfl
      have cx := c1'.1
      have cy := c2'.1
      obtain ⟨x, hx⟩ : ∃ x, xs.getD k 0 = x := ⟨_, rfl⟩
      obtain ⟨y, hy⟩ : ∃ y, ys.getD k 0 = y := ⟨_, rfl⟩
      rw [hx, hy] at hdr
      rw [hx] at cx
      rw [hy] at cy
      have HD := Lib.hid hdr
      have HX := Lib.hid hX
      clear c1' c2' hx hy hdr hX
      go_wp2_with fail
      refine (cmpU_any _ x y).mono ?_
      clear cx cy
      have hcv : (cmpV x y = 0 ∧ ¬ x < y ∧ ¬ y < x) ∨ (cmpV x y = -1 ∧ x < y) ∨ (cmpV x y = 1 ∧ y < x ∧ ¬ x < y) := by unfold cmpV; omega
      rcases hcv with ⟨h0, h1, h2⟩ | ⟨h0, h1⟩ | ⟨h0, h1, h2⟩
      · rw [h0]
        have HD2 := Lib.hid (show cmpL (xs.drop (k + 1)) (ys.drop (k + 1)) = R by rw [← HH.out.2, HD.out, if_neg h1, if_neg h2])
        clear h0 h1 h2
        rintro e w2 ⟨rfl, hS⟩
        have HS := Lib.hid hS
        clear hS
        go_wp2
        go_roundw
        case rel => exact ⟨k + 1, rfl, HX.out.trans HS.out, Lib.hid ⟨hk, HD2.out⟩⟩
        case measure => exact meas_s hk
      · rw [h0]
        have HD2 := Lib.hid (show -1 = R by rw [← HH.out.2, HD.out, if_pos h1])
        clear h0 h1
        rintro e w2 ⟨rfl, hS⟩
        have HS := Lib.hid hS
        clear hS
        go_wp2
        go_ret
        exact ⟨ret_int HD2.out, HX.out.trans HS.out⟩
      · rw [h0]
        have HD2 := Lib.hid (show 1 = R by rw [← HH.out.2, HD.out, if_neg h2, if_pos h1])
        clear h0 h1 h2
        rintro e w2 ⟨rfl, hS⟩
        have HS := Lib.hid hS
        clear hS
        go_wp2
        go_ret
        exact ⟨ret_int HD2.out, HX.out.trans HS.out⟩
    · have HD2 := Lib.hid (show 0 = R by
        have hke : k = n := Nat.le_antisymm HH.out.1 (Nat.le_of_not_lt hk)
        rw [← HH.out.2, hke, ← HXN.out, List.drop_length]; rfl)
      have HX := Lib.hid hX
      clear hX
      go_wp2
      go_ret
      exact ⟨ret_int HD2.out, HX.out⟩
end Go.Proofs.Ytejknkhahjgdnaa
