/- slices.Reverse, Compare at words; nat.Cmp. nat.Cmp. Rows of bytes that a call owns; slices.Reverse at bytes; ten-digits (plain). nat.Text. nat.fibs, the statement that goes over it, nat.Fib. nat.Fib. nat.Fib. The contracts at numbers; joinerylaw07.alive. bound.weights, the statement that goes over it, bound.weight. bound.kinds, fewer. -/
import Derived.Test.YtejknkhahjgdnaaM1
import Derived.Laws.BytesArg
import Derived.Maps.AppendAt
import Derived.Deep.LoopGhost
import Derived.MapKept
namespace Go.Proofs.Ytejknkhahjgdnaa
open Go Go.RowKit

/-- a row, of which so many at either end are turned about. -/
def RevK (ds es : List Nat) (k : Nat) : Prop := es.length = ds.length ∧ ∀ p, p < ds.length → es.getD p 0 = if p < k ∨ ds.length ≤ p + k then ds.getD (ds.length - 1 - p) 0 else ds.getD p 0
theorem revK_zero (ds : List Nat) : RevK ds ds 0 := ⟨rfl, fun p hp => by rw [if_neg (by omega)]⟩
theorem getD_set (es : List Nat) (i p d : Nat) (hp : p < es.length) : (es.set i d).getD p 0 = if i = p then d else es.getD p 0 := by
  simp only [List.getD_eq_getElem?_getD, List.getElem?_set]
  split
  · rename_i h; subst h; simp [hp]
  · rfl
theorem revK_step {ds es : List Nat} {k : Nat} (h : RevK ds es k) (hk : k < ds.length - 1 - k) : RevK ds ((es.set k (ds.getD (ds.length - 1 - k) 0)).set (ds.length - 1 - k) (ds.getD k 0)) (k + 1) := by
  obtain ⟨h1, h2⟩ := h
  refine ⟨by simp [h1], fun p hp => ?_⟩
  rw [getD_set _ _ _ _ (by simp [h1, hp]), getD_set _ _ _ _ (by rw [h1]; exact hp)]
  by_cases e1 : ds.length - 1 - k = p
  · rw [if_pos e1, if_pos (by omega)]
    congr 1; omega
  · rw [if_neg e1]
    by_cases e2 : k = p
    · rw [if_pos e2, if_pos (by omega)]
      congr 1; omega
    · rw [if_neg e2, h2 p hp]
      by_cases e3 : p < k ∨ ds.length ≤ p + k
      · rw [if_pos e3, if_pos (by omega)]
      · rw [if_neg e3, if_neg (by omega)]
theorem revK_end {ds es : List Nat} {k : Nat} (h : RevK ds es k) (hk : ¬ k < ds.length - 1 - k) (hk2 : 2 * k ≤ ds.length) : es = ds.reverse := by
  obtain ⟨h1, h2⟩ := h
  apply List.ext_getElem?
  intro p
  rcases Nat.lt_or_ge p ds.length with hp | hp
  · have := h2 p hp
    rw [List.getElem?_reverse hp, List.getElem?_eq_getElem (by rw [h1]; exact hp), List.getElem?_eq_getElem (by omega)]
    rw [List.getD_eq_getElem?_getD, List.getElem?_eq_getElem (by rw [h1]; exact hp)] at this
    simp only [Option.getD_some] at this
    rw [this]
    split
    · rw [List.getD_eq_getElem?_getD, List.getElem?_eq_getElem (by omega)]; rfl
    · have hpk : p = ds.length - 1 - p := by omega
      have : ds.getD p 0 = ds.getD (ds.length - 1 - p) 0 := by rw [← hpk]
      rw [this, List.getD_eq_getElem?_getD, List.getElem?_eq_getElem (by omega)]; rfl
  · rw [List.getElem?_eq_none (by rw [h1]; exact hp), List.getElem?_eq_none (by simpa using hp)]
/-- nothing but a block has turned. -/
def Only (g : Nat) (w w' : World) : Prop := (∀ w0, Ext w0 w → w0.heap.size ≤ g → Ext w0 w') ∧ ∀ h o, h ≠ g → w.heap[h]? = some o → w'.heap[h]? = some o
theorem Only.refl (g : Nat) (w : World) : Only g w w := ⟨fun _ h _ => h, fun _ _ _ h => h⟩
theorem Only.set {g : Nat} {w W : World} (h : Only g w W) (k : Nat) (v : Value) : Only g w (W.setCell ⟨g, k, none⟩ v) :=
  ⟨fun w0 h0 hg => Below.setCell (B := w0.heap.size) (h.1 w0 h0 hg) hg v, fun b o hb ho => by
    rw [Below.heap_setCell _ _ _ b hb]; exact h.2 b o hb ho⟩
theorem Only.drew {g : Nat} {w W : World} (h : Only g w W) : Only g w W.drew := ⟨fun w0 h0 hg => (h.1 w0 h0 hg).trans (Ext.drew W), h.2⟩
theorem rev_j {k m n : Nat} (hm : n - 1 - k = m) (hk : k < m) : Value.int .i64 ((m : Int) - 1) = .int .i64 ((n : Int) - 1 - ((k + 1 : Nat) : Int)) := by rw [show (m : Int) - 1 = (n : Int) - 1 - ((k + 1 : Nat) : Int) by omega]
set_option maxHeartbeats 2000000 in
theorem reverse_any (w : World) (g c : Nat) (ds : List Nat) (hU : UBlk w g ds) (hl : ds.length ≤ 2000) : Calls Try.prog 35 #[.slice (some ⟨g, 0, none⟩) ds.length c] w fun e w' =>
    (∃ v, e = .returned v) ∧ UBlk w' g ds.reverse ∧ Only g w w' := by
  have HU := Lib.hid hU
  have HL := Lib.hid hl
  have hl' : (ds.length : Int) ≤ 2000 := by omega
  clear hU hl
  go_enter Try.func35, Try.ntmps35
  go_wp2_with fail
  go_loopw [2, 3] (fun i j W => ∃ (k : Nat) (es : List Nat), i = .int .i64 (k : Nat) ∧ j = .int .i64 ((ds.length : Int) - 1 - (k : Nat)) ∧ UBlk W g es ∧ Only g w W ∧ Hid (RevK ds es k ∧ 2 * k ≤ ds.length)) (fun i _ _ => ds.length - (intOf i).toNat)
  case atStart => exact ⟨0, ds, rfl, by simp, HU.out, Only.refl _ _, Lib.hid ⟨revK_zero ds, by omega⟩⟩
  case round =>
    obtain ⟨k, es, rfl, rfl, hU, hO, HH⟩ := hrel
    by_cases hk : k < ds.length - 1 - k
    · obtain ⟨m, hm⟩ : ∃ m, ds.length - 1 - k = m := ⟨_, rfl⟩
      have hj : (ds.length : Int) - 1 - k = (m : Int) := by omega
      rw [hm] at hk
      have HST := Lib.hid (revK_step HH.out.1 (by rw [hm]; exact hk))
      rw [hm] at HST
      have hmd : m < ds.length := by omega
      have hlen := HH.out.1.1
      obtain ⟨ck, fk⟩ := hU.cell k (by omega)
      obtain ⟨cm, fm⟩ := hU.cell m (by omega)
      rw [HH.out.1.2 k (by omega), if_neg (by omega)] at ck
      rw [HH.out.1.2 m hmd, if_neg (by omega)] at cm
      obtain ⟨x, hx⟩ : ∃ x, ds.getD k 0 = x := ⟨_, rfl⟩
      obtain ⟨y, hy⟩ : ∃ y, ds.getD m 0 = y := ⟨_, rfl⟩
      rw [hx] at ck HST
      rw [hy] at cm HST
      have HU2 := Lib.hid hU
      have HO := Lib.hid hO
      have HN := Lib.hid (And.intro hm (And.intro hk hmd))
      rw [hj]
      have hkd : k < ds.length := by omega
      clear hU hO hm hx hy hlen hj
      go_wp2_with fail
      go_region
      have HU3 := Lib.hid (show UBlk ((wr.setCell ⟨g, k, none⟩ (.int .u32 (y : Nat))).setCell ⟨g, m, none⟩ (.int .u32 (x : Nat))).drew g ((es.set k y).set m x) from (HU2.out.set k y).set m x)
      have HO3 := Lib.hid (((HO.out.set k (.int .u32 (y : Nat))).set m (.int .u32 (x : Nat))).drew)
      clear ck cm fk fm
      generalize ((wr.setCell ⟨g, k, none⟩ (.int .u32 (y : Nat))).setCell ⟨g, m, none⟩ (.int .u32 (x : Nat))).drew = w5 at *
      go_wp2
      go_roundw
      case rel =>
        refine ⟨k + 1, _, rfl, rev_j HN.out.1 HN.out.2.1, HU3.out, HO3.out, Lib.hid ⟨HST.out, by have := HN.out; omega⟩⟩
      case measure => exact meas_s hkd
    · have hke := revK_end HH.out.1 hk HH.out.2
      have HU2 := Lib.hid hU
      have HO := Lib.hid hO
      have hkj : ¬ (k : Int) < (ds.length : Int) - 1 - k := by omega
      rw [hke] at HU2
      clear hU hO hk hke
      go_wp2
      go_end0
      exact ⟨⟨_, rfl⟩, HU2.out, HO.out⟩
/-- how two rows stand, the first word that differs being what counts. -/
def cmpL : List Nat → List Nat → Int
  | x :: xs, y :: ys => if x < y then -1 else if y < x then 1 else cmpL xs ys
  | _, _ => 0
def cmpV (a b : Nat) : Int := if a < b then -1 else if b < a then 1 else 0
theorem cmpL_rev : ∀ (u v : List Nat), u.length = v.length → Words u → Words v → cmpL u v = cmpV (nval u.reverse) (nval v.reverse)
  | [], [], _, _, _ => rfl
  | [], _ :: _, h, _, _ => by simp at h
  | _ :: _, [], h, _, _ => by simp at h
  | x :: u, y :: v, h, hu, hv => by
    have hl : u.length = v.length := by simpa using h
    have ih := cmpL_rev u v hl (words_tail hu) (words_tail hv)
    have hu' : nval u.reverse < beta ^ u.length := by
      have := nval_lt (xs := u.reverse) (fun d hd => words_tail hu d (List.mem_reverse.1 hd))
      rwa [List.length_reverse] at this
    have hv' : nval v.reverse < beta ^ u.length := by
      have := nval_lt (xs := v.reverse) (fun d hd => words_tail hv d (List.mem_reverse.1 hd))
      rwa [List.length_reverse, ← hl] at this
    rw [cmpL, List.reverse_cons, List.reverse_cons, nval_append, nval_append, List.length_reverse, List.length_reverse, ← hl, ih]
    simp only [nval, Nat.mul_zero, Nat.add_zero]
    generalize beta ^ u.length = B at *
    generalize nval u.reverse = A at *
    generalize nval v.reverse = C at *
    unfold cmpV
    rcases Nat.lt_trichotomy x y with hxy | hxy | hxy
    · rw [if_pos hxy]
      have : B * (x + 1) ≤ B * y := Nat.mul_le_mul_left _ hxy
      rw [Nat.mul_add, Nat.mul_one] at this
      rw [if_pos (by omega)]
    · subst hxy
      rw [if_neg (Nat.lt_irrefl _), if_neg (Nat.lt_irrefl _)]
      have e1 : (A + B * x < C + B * x) = (A < C) := by apply propext; omega
      have e2 : (C + B * x < A + B * x) = (C < A) := by apply propext; omega
      simp only [e1, e2]
    · have : B * (y + 1) ≤ B * x := Nat.mul_le_mul_left _ hxy
      rw [Nat.mul_add, Nat.mul_one] at this
      rw [if_neg (by omega), if_pos hxy, if_neg (by omega), if_pos (by omega)]
theorem isNaN_any (w : World) (x : Nat) : Calls Try.prog 83 #[.int .u32 (x : Nat)] w (Ret (.bool false) w) := by
  go_enter Try.func83, Try.ntmps83
  go_wp2
  go_ret
  exact ⟨ret_bool (by simp), Ext.refl _⟩
theorem cmpU_any (w : World) (x y : Nat) : Calls Try.prog 61 #[.int .u32 (x : Nat), .int .u32 (y : Nat)] w (Ret (.int .i64 (cmpV x y)) w) := by
  have hc : (x < y ∧ cmpV x y = -1) ∨ (x = y ∧ cmpV x y = 0) ∨ (y < x ∧ cmpV x y = 1) := by unfold cmpV; omega
  have H1 := Lib.hid (fun W => isNaN_any W x)
  have H2 := Lib.hid (fun W => isNaN_any W y)
  rcases hc with ⟨hxy, hv⟩ | ⟨hxy, hv⟩ | ⟨hxy, hv⟩
  all_goals
    rw [hv]
    clear hv
    try subst hxy
    go_enter Try.func61, Try.ntmps61
    go_wp2_with fail
    refine (H1.out _).mono ?_
    rintro e w1 ⟨rfl, h1⟩
    go_wp2_with fail
    refine (H2.out _).mono ?_
    rintro e w2 ⟨rfl, h2⟩
    go_wp2
    all_goals
      go_ret
      exact Ret.mk (h1.trans h2)
set_option maxHeartbeats 2000000 in
theorem compare_any (w : World) (g1 g2 c1 c2 : Nat) (xs ys : List Nat) (h1 : UBlk w g1 xs) (h2 : UBlk w g2 ys) (hl : xs.length = ys.length) (hn : xs.length ≤ 2000) : Calls Try.prog 36 #[.slice (some ⟨g1, 0, none⟩) xs.length c1, .slice (some ⟨g2, 0, none⟩) xs.length c2] w (Ret (.int .i64 (cmpL xs ys)) w) := by
  have H1 := Lib.hid h1
  have H2 := Lib.hid h2
  have HL := Lib.hid hl
  have HN := Lib.hid hn
  have hn' : (xs.length : Int) ≤ 2000 := by omega
  obtain ⟨n, hxn⟩ : ∃ n, xs.length = n := ⟨_, rfl⟩
  rw [hxn] at HL HN hn' ⊢
  have HXN := Lib.hid hxn
  obtain ⟨R, hR⟩ : ∃ R, cmpL xs ys = R := ⟨_, rfl⟩
  rw [hR]
  have HR := Lib.hid hR
  clear h1 h2 hl hn hxn hR
  go_enter Try.func36, Try.ntmps36
  go_wp2_with fail
  go_loopw [11] (fun i W => ∃ k : Nat, i = .int .i64 (k : Nat) ∧ Ext w W ∧ Hid (k ≤ n ∧ cmpL (xs.drop k) (ys.drop k) = R)) (fun i _ => n - (intOf i).toNat)
  case atStart => exact ⟨0, rfl, Ext.refl _, Lib.hid ⟨Nat.zero_le _, HR.out⟩⟩
  case round =>
    obtain ⟨k, rfl, hX, HH⟩ := hrel
    by_cases hk : k < n
    · have c1' := (show UBlk wr g1 xs from hX.get H1.out).cell k (by rw [HXN.out]; exact hk)
      have c2' := (show UBlk wr g2 ys from hX.get H2.out).cell k (by rw [← HL.out]; exact hk)
      have hdr : cmpL (xs.drop k) (ys.drop k) = if xs.getD k 0 < ys.getD k 0 then -1 else if ys.getD k 0 < xs.getD k 0 then 1 else cmpL (xs.drop (k + 1)) (ys.drop (k + 1)) := by
        have a1 : k < xs.length := by rw [HXN.out]; exact hk
        have a2 : k < ys.length := by rw [← HL.out]; exact hk
        rw [List.drop_eq_getElem_cons a1, List.drop_eq_getElem_cons a2, cmpL, List.getD_eq_getElem?_getD, List.getD_eq_getElem?_getD, List.getElem?_eq_getElem a1, List.getElem?_eq_getElem a2]
        rfl
      have cx := c1'.1
      have cy := c2'.1
      obtain ⟨x, hx⟩ : ∃ x, xs.getD k 0 = x := ⟨_, rfl⟩
      obtain ⟨y, hy⟩ : ∃ y, ys.getD k 0 = y := ⟨_, rfl⟩
      rw [hx, hy] at hdr
      rw [hx] at cx
      rw [hy] at cy
      have HD := Lib.hid hdr
      have HX := Lib.hid hX
      clear c1' c2' hx hy hdr hX
      go_wp2_with fail
      refine (cmpU_any _ x y).mono ?_
      clear cx cy
      have hcv : (cmpV x y = 0 ∧ ¬ x < y ∧ ¬ y < x) ∨ (cmpV x y = -1 ∧ x < y) ∨ (cmpV x y = 1 ∧ y < x ∧ ¬ x < y) := by unfold cmpV; omega
      rcases hcv with ⟨h0, h1, h2⟩ | ⟨h0, h1⟩ | ⟨h0, h1, h2⟩
      · rw [h0]
        have HD2 := Lib.hid (show cmpL (xs.drop (k + 1)) (ys.drop (k + 1)) = R by rw [← HH.out.2, HD.out, if_neg h1, if_neg h2])
        clear h0 h1 h2
        rintro e w2 ⟨rfl, hS⟩
        have HS := Lib.hid hS
        clear hS
        go_wp2
        go_roundw
        case rel => exact ⟨k + 1, rfl, HX.out.trans HS.out, Lib.hid ⟨hk, HD2.out⟩⟩
        case measure => exact meas_s hk
      · rw [h0]
        have HD2 := Lib.hid (show -1 = R by rw [← HH.out.2, HD.out, if_pos h1])
        clear h0 h1
        rintro e w2 ⟨rfl, hS⟩
        have HS := Lib.hid hS
        clear hS
        go_wp2
        go_ret
        exact ⟨ret_int HD2.out, HX.out.trans HS.out⟩
      · rw [h0]
        have HD2 := Lib.hid (show 1 = R by rw [← HH.out.2, HD.out, if_neg h2, if_pos h1])
        clear h0 h1 h2
        rintro e w2 ⟨rfl, hS⟩
        have HS := Lib.hid hS
        clear hS
        go_wp2
        go_ret
        exact ⟨ret_int HD2.out, HX.out.trans HS.out⟩
    · have HD2 := Lib.hid (show 0 = R by
        have hke : k = n := Nat.le_antisymm HH.out.1 (Nat.le_of_not_lt hk)
        rw [← HH.out.2, hke, ← HXN.out, List.drop_length]; rfl)
      have HX := Lib.hid hX
      clear hX
      go_wp2
      go_ret
      exact ⟨ret_int HD2.out, HX.out⟩
end Go.Proofs.Ytejknkhahjgdnaa
namespace Go.Proofs.Ytejknkhahjgdnaa
open Go Go.RowKit

/-- what Cmp answers. -/
def CmpR (xs ys : List Nat) : Int := if mayN xs && mayN ys then cmpV (nval xs) (nval ys) else 0
theorem nval_pad (xs : List Nat) (n : Nat) : nval (xs ++ List.replicate n 0) = nval xs := by
  rw [nval_append, nval_zero (fun d hd => (List.mem_replicate.1 hd).2), Nat.mul_zero, Nat.add_zero]
theorem words_pad {xs : List Nat} (h : Words xs) (n : Nat) : Words (xs ++ List.replicate n 0) := fun y hy => by
  rcases List.mem_append.1 hy with h1 | h1
  · exact h y h1
  · rw [(List.mem_replicate.1 h1).2]; exact beta_pos
theorem words_rev {xs : List Nat} (h : Words xs) : Words xs.reverse := fun y hy => h y (List.mem_reverse.1 hy)
theorem cmp_pad (xs ys : List Nat) (n : Nat) (hx : Words xs) (hy : Words ys) (h1 : xs.length ≤ n) (h2 : ys.length ≤ n) :
    cmpL (xs ++ List.replicate (n - xs.length) 0).reverse (ys ++ List.replicate (n - ys.length) 0).reverse = cmpV (nval xs) (nval ys) := by
  rw [cmpL_rev _ _ (by simp; omega) (words_rev (words_pad hx _)) (words_rev (words_pad hy _)), List.reverse_reverse, List.reverse_reverse, nval_pad, nval_pad]
set_option maxHeartbeats 4000000 in
theorem natCmp_any (w : World) (p q : Value) (xs ys : List Nat) (hp : URow w p xs) (hq : URow w q ys) (hx : Words xs) (hy : Words ys) : Calls Try.prog 16 #[p, q] w (Ret (.int .i64 (CmpR xs ys)) w) := by
  have HM1 := Lib.hid (natMay_any w p xs hp)
  have HM2 := Lib.hid (fun W (h : Ext w W) => natMay_any W q ys (hq.ext h))
  have HP := Lib.hid hp
  have HQ := Lib.hid hq
  have HX := Lib.hid (And.intro hx hy)
  cases m1 : mayN xs with
  | false =>
    have HE := Lib.hid (show CmpR xs ys = 0 by unfold CmpR; rw [m1]; rfl)
    rw [m1] at HM1
    clear hp hq hx hy m1
    go_enter Try.func16, Try.ntmps16
    go_wp2_with fail
    refine HM1.out.mono ?_
    rintro e w1 ⟨rfl, h1⟩
    go_wp2
    go_ret
    exact ⟨ret_int HE.out.symm, h1⟩
  | true =>
    cases m2 : mayN ys with
    | false =>
      have HE := Lib.hid (show CmpR xs ys = 0 by unfold CmpR; rw [m1, m2]; rfl)
      rw [m1] at HM1
      rw [m2] at HM2
      clear hp hq hx hy m1 m2
      go_enter Try.func16, Try.ntmps16
      go_wp2_with fail
      refine HM1.out.mono ?_
      rintro e w1 ⟨rfl, h1⟩
      go_wp2_with fail
      refine (HM2.out w1 h1).mono ?_
      rintro e w2 ⟨rfl, h2⟩
      go_wp2
      go_ret
      exact ⟨ret_int HE.out.symm, h1.trans h2⟩
    | true =>
      have HE := Lib.hid (show CmpR xs ys = cmpV (nval xs) (nval ys) by unfold CmpR; rw [m1, m2]; rfl)
      have n1 := ((mayN_norm hx).1 m1).2
      have n2 := ((mayN_norm hy).1 m2).2
      rw [m1] at HM1
      rw [m2] at HM2
      obtain ⟨pa, pc, rfl⟩ := hp.slice
      obtain ⟨qa, qc, rfl⟩ := hq.slice
      have l1 : (xs.length : Int) ≤ 128 := by omega
      have l2 : (ys.length : Int) ≤ 128 := by omega
      by_cases hlt : xs.length < ys.length
      · obtain ⟨size, hsize⟩ : ∃ size, ys.length = size := ⟨_, rfl⟩
        have HS := Lib.hid (show xs.length ≤ size ∧ ys.length ≤ size ∧ size ≤ 2000 by omega)
        have hsz : (ys.length : Int) = (size : Int) := by omega
        clear hp hq hx hy m1 m2 n1 n2 hsize
        go_enter Try.func16, Try.ntmps16
        go_wp2_with fail
        refine HM1.out.mono ?_
        rintro e w1 ⟨rfl, h1⟩
        go_wp2_with fail
        refine (HM2.out w1 h1).mono ?_
        rintro e w2 ⟨rfl, h2⟩
        have h02 := h1.trans h2
        clear h1 h2
        go_wp2_with fail
        (try rw [hsz])
        refine (wide_any w2 _ xs size (HP.out.ext h02) HS.out.1 HS.out.2.2).mono ?_
        rintro e w3 ⟨g, rfl, hg, hb, h3⟩
        have h03 := h02.trans h3
        have HB := Lib.hid hb
        have HG := Lib.hid (Nat.le_trans h02.size hg)
        clear h02 h3 hg hb
        go_wp2_with fail
        (try rw [hsz])
        refine (wide_any w3 _ ys size (HQ.out.ext h03) HS.out.2.1 HS.out.2.2).mono ?_
        rintro e w4 ⟨g', rfl, hg', hb', h4⟩
        have hne : g' ≠ g := by have := (Array.getElem?_eq_some_iff.1 HB.out).1; omega
        have HNE := Lib.hid hne
        have HB := Lib.hid (show UBlk w4 g _ from h4.get HB.out)
        have HB' := Lib.hid hb'
        have HG' := Lib.hid (Nat.le_trans h03.size hg')
        have h04 := h03.trans h4
        clear h03 h4 hg' hb' hne
        go_wp2_with fail
        obtain ⟨A, hA⟩ : ∃ A, xs ++ List.replicate (size - xs.length) 0 = A := ⟨_, rfl⟩
        obtain ⟨B, hB⟩ : ∃ B, ys ++ List.replicate (size - ys.length) 0 = B := ⟨_, rfl⟩
        rw [hA] at HB
        rw [hB] at HB'
        have hla : A.length = size := by rw [← hA]; simp; exact Nat.add_sub_cancel' HS.out.1
        have hlb : B.length = size := by rw [← hB]; simp; exact Nat.add_sub_cancel' HS.out.2.1
        have HCP := Lib.hid (cmp_pad xs ys size HX.out.1 HX.out.2 HS.out.1 HS.out.2.1)
        rw [hA, hB] at HCP
        have HLA := Lib.hid (And.intro hla hlb)
        have HRA := Lib.hid (fun W (h : UBlk W g A) => reverse_any W g size A h (by rw [hla]; exact Nat.le_trans HS.out.2.2 (by decide)))
        have HRB := Lib.hid (fun W (h : UBlk W g' B) => reverse_any W g' size B h (by rw [hlb]; exact Nat.le_trans HS.out.2.2 (by decide)))
        rw [hla] at HRA
        rw [hlb] at HRB
        clear hA hB hla hlb
        refine (HRA.out w4 HB.out).mono ?_
        rintro e w5 ⟨⟨v5, rfl⟩, hb5, ho5⟩
        have HB5 := Lib.hid hb5
        have HB5' := Lib.hid (show UBlk w5 g' B from ho5.2 g' _ HNE.out HB'.out)
        have h05 := ho5.1 w h04 HG.out
        clear hb5 ho5 h04
        go_wp2_with fail
        refine (HRB.out w5 HB5'.out).mono ?_
        rintro e w6 ⟨⟨v6, rfl⟩, hb6, ho6⟩
        have HB6 := Lib.hid (show UBlk w6 g A.reverse from ho6.2 g _ (Ne.symm HNE.out) HB5.out)
        have HB6' := Lib.hid hb6
        have h06 := ho6.1 w h05 HG'.out
        clear hb6 ho6 h05
        go_wp2_with fail
        have HCC := Lib.hid (compare_any w6 g g' size size A.reverse B.reverse HB6.out HB6'.out (by rw [List.length_reverse, List.length_reverse, HLA.out.1, HLA.out.2]) (by rw [List.length_reverse, HLA.out.1]; exact Nat.le_trans HS.out.2.2 (by decide)))
        rw [List.length_reverse, HLA.out.1, HCP.out] at HCC
        refine HCC.out.mono ?_
        rintro e w7 ⟨rfl, h7⟩
        go_wp2
        go_ret
        exact ⟨ret_int HE.out.symm, h06.trans h7⟩
      · obtain ⟨size, hsize⟩ : ∃ size, xs.length = size := ⟨_, rfl⟩
        have HS := Lib.hid (show xs.length ≤ size ∧ ys.length ≤ size ∧ size ≤ 2000 by omega)
        have hsz : (xs.length : Int) = (size : Int) := by omega
        clear hp hq hx hy m1 m2 n1 n2 hsize
        go_enter Try.func16, Try.ntmps16
        go_wp2_with fail
        refine HM1.out.mono ?_
        rintro e w1 ⟨rfl, h1⟩
        go_wp2_with fail
        refine (HM2.out w1 h1).mono ?_
        rintro e w2 ⟨rfl, h2⟩
        have h02 := h1.trans h2
        clear h1 h2
        go_wp2_with fail
        (try rw [hsz])
        refine (wide_any w2 _ xs size (HP.out.ext h02) HS.out.1 HS.out.2.2).mono ?_
        rintro e w3 ⟨g, rfl, hg, hb, h3⟩
        have h03 := h02.trans h3
        have HB := Lib.hid hb
        have HG := Lib.hid (Nat.le_trans h02.size hg)
        clear h02 h3 hg hb
        go_wp2_with fail
        (try rw [hsz])
        refine (wide_any w3 _ ys size (HQ.out.ext h03) HS.out.2.1 HS.out.2.2).mono ?_
        rintro e w4 ⟨g', rfl, hg', hb', h4⟩
        have hne : g' ≠ g := by have := (Array.getElem?_eq_some_iff.1 HB.out).1; omega
        have HNE := Lib.hid hne
        have HB := Lib.hid (show UBlk w4 g _ from h4.get HB.out)
        have HB' := Lib.hid hb'
        have HG' := Lib.hid (Nat.le_trans h03.size hg')
        have h04 := h03.trans h4
        clear h03 h4 hg' hb' hne
        go_wp2_with fail
        obtain ⟨A, hA⟩ : ∃ A, xs ++ List.replicate (size - xs.length) 0 = A := ⟨_, rfl⟩
        obtain ⟨B, hB⟩ : ∃ B, ys ++ List.replicate (size - ys.length) 0 = B := ⟨_, rfl⟩
        rw [hA] at HB
        rw [hB] at HB'
        have hla : A.length = size := by rw [← hA]; simp; exact Nat.add_sub_cancel' HS.out.1
        have hlb : B.length = size := by rw [← hB]; simp; exact Nat.add_sub_cancel' HS.out.2.1
        have HCP := Lib.hid (cmp_pad xs ys size HX.out.1 HX.out.2 HS.out.1 HS.out.2.1)
        rw [hA, hB] at HCP
        have HLA := Lib.hid (And.intro hla hlb)
        have HRA := Lib.hid (fun W (h : UBlk W g A) => reverse_any W g size A h (by rw [hla]; exact Nat.le_trans HS.out.2.2 (by decide)))
        have HRB := Lib.hid (fun W (h : UBlk W g' B) => reverse_any W g' size B h (by rw [hlb]; exact Nat.le_trans HS.out.2.2 (by decide)))
        rw [hla] at HRA
        rw [hlb] at HRB
        clear hA hB hla hlb
        refine (HRA.out w4 HB.out).mono ?_
        rintro e w5 ⟨⟨v5, rfl⟩, hb5, ho5⟩
        have HB5 := Lib.hid hb5
        have HB5' := Lib.hid (show UBlk w5 g' B from ho5.2 g' _ HNE.out HB'.out)
        have h05 := ho5.1 w h04 HG.out
        clear hb5 ho5 h04
        go_wp2_with fail
        refine (HRB.out w5 HB5'.out).mono ?_
        rintro e w6 ⟨⟨v6, rfl⟩, hb6, ho6⟩
        have HB6 := Lib.hid (show UBlk w6 g A.reverse from ho6.2 g _ (Ne.symm HNE.out) HB5.out)
        have HB6' := Lib.hid hb6
        have h06 := ho6.1 w h05 HG'.out
        clear hb6 ho6 h05
        go_wp2_with fail
        have HCC := Lib.hid (compare_any w6 g g' size size A.reverse B.reverse HB6.out HB6'.out (by rw [List.length_reverse, List.length_reverse, HLA.out.1, HLA.out.2]) (by rw [List.length_reverse, HLA.out.1]; exact Nat.le_trans HS.out.2.2 (by decide)))
        rw [List.length_reverse, HLA.out.1, HCP.out] at HCC
        refine HCC.out.mono ?_
        rintro e w7 ⟨rfl, h7⟩
        go_wp2
        go_ret
        exact ⟨ret_int HE.out.symm, h06.trans h7⟩
end Go.Proofs.Ytejknkhahjgdnaa
namespace Go.Proofs.Ytejknkhahjgdnaa
open Go Go.RowKit

/-- a number's ten-digits, the lowest one first. -/
def decF : Nat → Nat → List Nat
  | 0, _ => []
  | f + 1, n => if n < 10 then [n] else n % 10 :: decF f (n / 10)
def decs (n : Nat) : List Nat := decF (n + 1) n
theorem decF_more : ∀ (f n : Nat), n < f → ∀ g, n < g → decF f n = decF g n
  | 0, _, h, _, _ => absurd h (Nat.not_lt_zero _)
  | f + 1, n, h, 0, h' => absurd h' (Nat.not_lt_zero _)
  | f + 1, n, h, g + 1, h' => by
    rw [decF, decF]
    split
    · rfl
    · rw [decF_more f (n / 10) (by omega) g (by omega)]
theorem decs_eq (n : Nat) : decs n = if n < 10 then [n] else n % 10 :: decs (n / 10) := by
  unfold decs
  rw [decF]
  split
  · rfl
  · rw [decF_more n (n / 10) (by omega) (n / 10 + 1) (by omega)]
theorem decs_lt (n : Nat) : ∀ d ∈ decs n, d < 10 := by
  induction n using Nat.strongRecOn with
  | ind n ih =>
    intro d hd
    rw [decs_eq] at hd
    split at hd
    · simp at hd; omega
    · rcases List.mem_cons.1 hd with rfl | hd
      · omega
      · exact ih (n / 10) (by omega) d hd
/-- what there is of the digits, while they are told. -/
def Digs (n : Nat) (D : List Nat) (N : Nat) : Prop := (D = [] ∧ N = n) ∨ (D ≠ [] ∧ D ++ (if N = 0 then [] else decs N) = decs n)
theorem digs_step {n N : Nat} {D : List Nat} (h : Digs n D N) (h0 : N ≠ 0 ∨ D = []) : Digs n (D ++ [N % 10]) (N / 10) := by
  right
  refine ⟨by simp, ?_⟩
  have e : decs N = [N % 10] ++ (if N / 10 = 0 then [] else decs (N / 10)) := by
    rw [decs_eq]
    by_cases h : N < 10
    · rw [if_pos h, if_pos (by omega), Nat.mod_eq_of_lt h]; rfl
    · rw [if_neg h, if_neg (by omega)]; rfl
  rcases h with ⟨rfl, rfl⟩ | ⟨h1, h2⟩
  · rw [List.nil_append, ← e]
  · rcases h0 with h0 | h0
    · rw [if_neg h0, e, ← List.append_assoc] at h2
      exact h2
    · exact absurd h0 h1
theorem digs_end {n : Nat} {D : List Nat} (h : Digs n D 0) (h1 : D ≠ []) : D = decs n := by
  rcases h with ⟨h, _⟩ | ⟨_, h⟩
  · exact absurd h h1
  · simpa using h
/-- the round of a division by ten. -/
theorem div_step {es : List Nat} {L m c Td : Nat} (hm : m < L) (hL : L ≤ es.length) (h : Td + 9 * nval (es.take (m + 1)) = 10 * nval (es.take L) + c * beta ^ (m + 1)) :
    let s := c * beta + es.getD m 0
    Td + 9 * nval ((es.set m (s / 10)).take m) = 10 * nval ((es.set m (s / 10)).take L) + (s % 10) * beta ^ m := by
  intro s
  have e1 : (es.set m (s / 10)).take m = es.take m := by
    apply List.ext_getElem?
    intro i
    rw [List.getElem?_take, List.getElem?_take]
    split
    · rw [List.getElem?_set_ne (by omega)]
    · rfl
  have e2 : (es.set m (s / 10)).take L = (es.take L).set m (s / 10) := by
    apply List.ext_getElem?
    intro i
    simp only [List.getElem?_take, List.getElem?_set, List.length_take]
    repeat' split
    all_goals first | rfl | omega
  have e3 := nval_set (es.take L) m (s / 10) (by rw [List.length_take]; omega)
  have e4 : (es.take L).getD m 0 = es.getD m 0 := by rw [List.getD_eq_getElem?_getD, List.getElem?_take, if_pos hm, ← List.getD_eq_getElem?_getD]
  rw [e4] at e3
  rw [nval_take es m (by omega), Nat.pow_succ] at h
  rw [e1, e2]
  have hs := Nat.mod_add_div s 10
  have hse : c * (beta ^ m * beta) + beta ^ m * es.getD m 0 = beta ^ m * (s % 10) + 10 * (beta ^ m * (s / 10)) := by
    have : c * (beta ^ m * beta) + beta ^ m * es.getD m 0 = beta ^ m * s := by
      show _ = beta ^ m * (c * beta + es.getD m 0)
      rw [Nat.mul_add]
      congr 1
      rw [Nat.mul_comm (beta ^ m) beta, ← Nat.mul_assoc, Nat.mul_comm (beta ^ m)]
    rw [this, Nat.mul_left_comm 10, ← Nat.mul_add, hs]
  rw [Nat.mul_comm (s % 10)]
  generalize beta ^ m * (s % 10) = X at *
  generalize beta ^ m * (s / 10) = Y at *
  generalize beta ^ m * es.getD m 0 = Z at *
  generalize c * (beta ^ m * beta) = W at *
  generalize nval (es.take m) = A at *
  generalize nval ((es.take L).set m (s / 10)) = B at *
  generalize nval (es.take L) = C at *
  omega
def by8 (d : Nat) : Value := .int .u8 (d : Int)
/-- a row of bytes that was made since the heap had B blocks. -/
def DOwn (B : Nat) (w : World) (v : Value) (zs : List Nat) : Prop := w.ownsRow B 5 1 v zs.length (zs.map by8)
theorem DOwn.nil (B : Nat) (w : World) : DOwn B w (.slice none 0 0) [] := ⟨rfl, .inl ⟨rfl, rfl⟩⟩
theorem DOwn.slice {B : Nat} {w : World} {v : Value} {zs : List Nat} (h : DOwn B w v zs) : ∃ a c, v = .slice a zs.length c := by
  obtain ⟨h1, ⟨rfl, h0⟩ | ⟨g, cap, cur, rfl, _⟩⟩ := h
  · exact ⟨none, 0, by rw [h0]⟩
  · exact ⟨_, _, rfl⟩
theorem DOwn.kept {B g : Nat} {w w' : World} {v : Value} {zs : List Nat} (h : DOwn B w v zs) (hO : Only g w w') (hg : v.ownBlock ≠ some g) : DOwn B w' v zs := by
  obtain ⟨h1, h | ⟨b, cap, cur, hv, hb, hh, hc⟩⟩ := h
  · exact ⟨h1, .inl h⟩
  · exact ⟨h1, .inr ⟨b, cap, cur, hv, hb, hO.2 b _ (fun e => hg (by rw [hv, ← e]; rfl)) hh, hc⟩⟩
theorem DOwn.ext {B : Nat} {w w' : World} {v : Value} {zs : List Nat} (h : DOwn B w v zs) (e : Ext w w') : DOwn B w' v zs := by
  obtain ⟨h1, h | ⟨g, cap, cur, hv, hb, hg, hc⟩⟩ := h
  · exact ⟨h1, .inl h⟩
  · exact ⟨h1, .inr ⟨g, cap, cur, hv, hb, (e.block g (lt_of hg)).trans hg, hc⟩⟩
theorem u8_info : ∃ i : TypeInfo, Try.prog.info? 5 = some i ∧ i.zero = some (.int .u8 0) ∧ i.size = 1 ∧ i.bytes = 1 := by
  have h : (Try.prog.info? 5).map (fun i => (i.zero, i.size, i.bytes)) = some (some (.int .u8 0), 1, 1) := by kernel_rfl
  cases hi : Try.prog.info? 5 with
  | none => rw [hi] at h; cases h
  | some i =>
    rw [hi] at h
    simp only [Option.map_some, Option.some.injEq, Prod.mk.injEq] at h
    exact ⟨i, rfl, h.1, h.2.1, h.2.2⟩
/-- a byte is put behind a row. -/
theorem wpList_append_byte {ops : Array Oper} {rest : List Oper} {o : Oper} {a : Act} {Q : Exit → Act → World → Prop} (hgd : o.guard = none) (s x : Operand) (ho : o.op = .call { callee := .builtin .append, args := #[s, x], argTypes := #[39, 39] })
    {B : Nat} {w : World} {v : Value} {zs : List Nat} {d b : Nat} (hs : a.eval s = v) (hx : a.eval x = .slice (some ⟨b, 0, none⟩) 1 1) (hv : DOwn B w v zs) (hb : w.cell? ⟨b, 0, none⟩ = some (.int .u8 (d : Nat))) (hlen : zs.length ≤ 10000) (hB : B ≤ w.heap.size)
    (h : ∀ v' w', DOwn B w' v' (zs ++ [d]) → w.grownBy w' v.ownBlock → (v'.ownBlock = v.ownBlock ∨ v'.ownBlock = some w.heap.size) → wpList Try.prog ops Q rest (a.put o.dst v') w') : wpList Try.prog ops Q (o :: rest) a w := by
  refine wpList_plain hgd fun K hK => ?_
  obtain ⟨i, hi, hz, hsz, hby⟩ := u8_info
  have hml : (20000 : Nat) ≤ maxLen := by decide
  obtain ⟨v', w', hr, h2, h3, _, h4⟩ := run_append_own_at (P := Try.prog) w B _ o.type _ i _ 1 1 Try.underlying39 hi hz hsz hby rfl (by omega) v zs.length (zs.map by8) hv ⟨b, 0, none⟩ 1 1 [by8 d] rfl
    (fun j u hj => by
      rcases j with _ | j
      · simp at hj; subst hj; rw [Addr.add_mid]; simpa [by8] using hb
      · simp at hj) (fun u hu => by simp at hu; subst hu; rfl) (by omega) (by omega) hB
  unfold Oper.wp execOp
  simp only [ho, resolve, invoke, builtin, Sem.run_bind, Sem.run_pure, Result.andThen_ok, List.map_toArray, List.map_cons, List.map_nil, hs, hx, hr]
  refine hK _ _ (h v' w' ?_ h3 h4)
  show w'.ownsRow _ _ _ _ _ _
  rw [List.length_append, List.map_append]
  exact h2
/-- a row, of which the first n stand the other way round, so many at either end. -/
def RevV (cs es : List Value) (n k : Nat) : Prop := es.length = cs.length ∧ ∀ p, p < n → es[p]? = if p < k ∨ n ≤ p + k then cs[n - 1 - p]? else cs[p]?
theorem revV_step {cs es : List Value} {n k : Nat} {x y : Value} (h : RevV cs es n k) (hn : n ≤ cs.length) (hk : k < n - 1 - k) (hx : cs[k]? = some x) (hy : cs[n - 1 - k]? = some y) : RevV cs ((es.set k y).set (n - 1 - k) x) n (k + 1) := by
  obtain ⟨h1, h2⟩ := h
  refine ⟨by simp [h1], fun p hp => ?_⟩
  rw [List.getElem?_set, List.getElem?_set]
  by_cases e1 : n - 1 - k = p
  · rw [if_pos e1, if_pos (by simp; omega), if_pos (by omega), show n - 1 - p = k by omega, hx]
  · rw [if_neg e1]
    by_cases e2 : k = p
    · rw [if_pos e2, if_pos (by omega), if_pos (by omega), ← e2, hy]
    · rw [if_neg e2, h2 p hp]
      by_cases e3 : p < k ∨ n ≤ p + k
      · rw [if_pos e3, if_pos (by omega)]
      · rw [if_neg e3, if_neg (by omega)]
theorem revV_end {cs es : List Value} {n k : Nat} (h : RevV cs es n k) (hn : n ≤ cs.length) (hk : ¬ k < n - 1 - k) (hk2 : 2 * k ≤ n) : es.take n = (cs.take n).reverse := by
  obtain ⟨h1, h2⟩ := h
  apply List.ext_getElem?
  intro p
  rcases Nat.lt_or_ge p n with hp | hp
  · have e1 : (es.take n)[p]? = es[p]? := by rw [List.getElem?_take, if_pos hp]
    have hlt : n - 1 - p < n := by omega
    have e2 : (cs.take n).reverse[p]? = cs[n - 1 - p]? := by
      rw [List.getElem?_reverse (by rw [List.length_take, Nat.min_eq_left hn]; exact hp), List.length_take, Nat.min_eq_left hn, List.getElem?_take, if_pos hlt]
    rw [e1, e2, h2 p hp]
    split
    · rfl
    · rename_i h3
      have h4 : n - 1 - p = p := by omega
      rw [h4]
  · rw [List.getElem?_eq_none (by rw [List.length_take]; omega), List.getElem?_eq_none (by rw [List.length_reverse, List.length_take]; omega)]
set_option maxHeartbeats 2000000 in
theorem reverseB_any (w : World) (g n c : Nat) (cs : List Value) (zs : List Nat) (hU : w.heap[g]? = some (.cells cs.toArray 5 (0, 0))) (hz : cs.take n = zs.map by8) (hzl : zs.length = n) (hc : n ≤ cs.length) (hl : n ≤ 20000) : Calls Try.prog 80 #[.slice (some ⟨g, 0, none⟩) n c] w fun e w' =>
    (∃ v, e = .returned v) ∧ (∃ es : List Value, w'.heap[g]? = some (.cells es.toArray 5 (0, 0)) ∧ es.take n = zs.reverse.map by8) ∧ Only g w w' := by
  have HU := Lib.hid hU
  have HL := Lib.hid (And.intro hl (And.intro hc (And.intro hz hzl)))
  have hl' : (n : Int) ≤ 20000 := by omega
  clear hU hl hc hz hzl
  go_enter Try.func80, Try.ntmps80
  go_wp2_with fail
  go_loopw [2, 3] (fun i j W => ∃ (k : Nat) (es : List Value), i = .int .i64 (k : Nat) ∧ j = .int .i64 ((n : Int) - 1 - (k : Nat)) ∧ Hid (W.heap[g]? = some (.cells es.toArray 5 (0, 0))) ∧ Only g w W ∧ Hid (RevV cs es n k ∧ 2 * k ≤ n)) (fun i _ _ => n - (intOf i).toNat)
  case atStart => exact ⟨0, cs, rfl, by simp, HU.out, Only.refl _ _, Lib.hid ⟨⟨rfl, fun p hp => by rw [if_neg (by omega)]⟩, by omega⟩⟩
  case round =>
    obtain ⟨k, es, rfl, rfl, HU2, hO, HH⟩ := hrel
    by_cases hk : k < n - 1 - k
    · obtain ⟨m, hm⟩ : ∃ m, n - 1 - k = m := ⟨_, rfl⟩
      have hj : (n : Int) - 1 - k = (m : Int) := by omega
      have hkn : k < n := by omega
      have hmn : m < n := by omega
      have hcell : ∀ p, p < n → cs[p]? = some (by8 (zs.getD p 0)) := fun p hp => by
        have h1 : (cs.take n)[p]? = cs[p]? := by rw [List.getElem?_take, if_pos hp]
        rw [← h1, HL.out.2.2.1, List.getElem?_map, List.getD_eq_getElem?_getD, List.getElem?_eq_getElem (by rw [HL.out.2.2.2]; exact hp)]
        rfl
      have hx := hcell k hkn
      have hy := hcell m hmn
      have HST := Lib.hid (revV_step HH.out.1 HL.out.2.1 hk hx (by rw [hm]; exact hy))
      rw [hm] at HST hk
      have ck := cell_of HU2.out k
      have cm := cell_of HU2.out m
      have fk := frozen_of HU2.out k
      have fm := frozen_of HU2.out m
      rw [List.getElem?_toArray, HH.out.1.2 k hkn, if_neg (by omega), hx] at ck
      rw [List.getElem?_toArray, HH.out.1.2 m hmn, if_neg (by omega), hy] at cm
      unfold by8 at ck cm HST
      generalize zs.getD k 0 = x at *
      generalize zs.getD m 0 = y at *
      have HO := Lib.hid hO
      have HN := Lib.hid (And.intro hm (And.intro hk hmn))
      rw [hj]
      clear hO hm hj hcell hx hy
      go_wp2_with fail
      go_region
      have HU3 := Lib.hid (show ((wr.setCell ⟨g, k, none⟩ (.int .u8 (y : Nat))).setCell ⟨g, m, none⟩ (.int .u8 (x : Nat))).drew.heap[g]? = some (.cells ((es.set k (.int .u8 (y : Nat))).set m (.int .u8 (x : Nat))).toArray 5 (0, 0)) by
        show ((wr.setCell ⟨g, k, none⟩ (.int .u8 (y : Nat))).setCell ⟨g, m, none⟩ (.int .u8 (x : Nat))).heap[g]? = _
        simp [World.setCell, Array.getElem?_modify, HU2.out])
      have HO3 := Lib.hid (((HO.out.set k (.int .u8 (y : Nat))).set m (.int .u8 (x : Nat))).drew)
      clear ck cm fk fm
      generalize ((wr.setCell ⟨g, k, none⟩ (.int .u8 (y : Nat))).setCell ⟨g, m, none⟩ (.int .u8 (x : Nat))).drew = w5 at *
      go_wp2
      go_roundw
      case rel =>
        refine ⟨k + 1, _, rfl, rev_j HN.out.1 HN.out.2.1, HU3, HO3.out, Lib.hid ⟨HST.out, by have := HN.out; omega⟩⟩
      case measure => exact meas_s hkn
    · have hke := revV_end HH.out.1 HL.out.2.1 hk HH.out.2
      have HKE := Lib.hid hke
      have HO := Lib.hid hO
      have hkj : ¬ (k : Int) < (n : Int) - 1 - k := by omega
      clear hO hk hke
      go_wp2
      go_end0
      exact ⟨⟨_, rfl⟩, ⟨es, HU2.out, by rw [HKE.out, HL.out.2.2.1]⟩, HO.out⟩
end Go.Proofs.Ytejknkhahjgdnaa
namespace Go.Proofs.Ytejknkhahjgdnaa
open Go Go.RowKit

/-- a number's text. -/
def textOf (n : Nat) : ByteArray := strOfNums ((decs n).reverse.map (fun d => ((48 + d : Nat) : Int)))
def TextV (xs : List Nat) : ByteArray := if mayN xs then textOf (nval xs) else ByteArray.empty
/-- what holds at each round's head. -/
structure TextH (K n gh L : Nat) (ds D : List Nat) : Prop where
  len : L ≤ ds.length
  big : ds.length ≤ 200
  words : Words ds
  norm : Norm (ds.take L)
  digs : Digs n D (nval (ds.take L))
  lt : ∀ d ∈ D, d < 10
  most : D.length ≤ K ∧ nval (ds.take L) < 2 ^ (K - D.length)
  cap : 1 ≤ K ∧ K ≤ 5000
  gh : 2 * nval (ds.take L) + (if D = [] then 1 else 0) ≤ gh
theorem take_nil_iff {xs : List Nat} {L : Nat} (h : L ≤ xs.length) (hN : Norm (xs.take L)) : nval (xs.take L) = 0 ↔ L = 0 := by
  constructor
  · intro h0
    have := norm_zero hN h0
    have h1 := congrArg List.length this
    rw [List.length_take, Nat.min_eq_left h] at h1
    exact h1
  · intro h0; subst h0; rfl
theorem TextH.step {K n gh L k : Nat} {ds es D : List Nat} {c : Nat} (h : TextH K n gh L ds D) (hc : 0 < L ∨ D = []) (he : es.length ≤ 200) (hLe : L ≤ es.length) (hw : Words es)
    (ht : nval (ds.take L) = 10 * nval (es.take L) + c) (hc10 : c < 10) (hk : k ≤ L) (hn : Norm (es.take k)) (hv : nval (es.take k) = nval (es.take L)) :
    c = nval (ds.take L) % 10 ∧ ∃ gh', gh' < gh ∧ TextH K n gh' k es (D ++ [c]) := by
  have e1 : c = nval (ds.take L) % 10 := by omega
  have e2 : nval (es.take L) = nval (ds.take L) / 10 := by omega
  have h0 : nval (ds.take L) ≠ 0 ∨ D = [] := by
    rcases hc with h1 | h1
    · exact .inl (fun h2 => by have := (take_nil_iff h.len h.norm).1 h2; omega)
    · exact .inr h1
  refine ⟨e1, 2 * nval (es.take k), ?_, by omega, he, hw, hn, ?_, ?_, ?_, h.cap, ?_⟩
  · have hg := h.gh
    rw [hv, e2]
    rcases h0 with h1 | h1
    · omega
    · rw [if_pos h1] at hg; omega
  · rw [hv, e2, e1]; exact digs_step h.digs h0
  · intro d hd
    rcases List.mem_append.1 hd with hd | hd
    · exact h.lt d hd
    · rw [List.mem_singleton] at hd; omega
  · rw [hv, e2, List.length_append, List.length_singleton]
    obtain ⟨m1, m2⟩ := h.most
    by_cases hz : nval (ds.take L) = 0
    · have hD : D = [] := h0.resolve_left (fun h => h hz)
      rw [hz, hD]
      exact ⟨h.cap.1, by rw [Nat.zero_div]; exact Nat.pow_pos (by decide)⟩
    · have hlt : D.length < K := by
        rcases Nat.lt_or_ge D.length K with h1 | h1
        · exact h1
        · rw [Nat.sub_eq_zero_of_le h1, Nat.pow_zero] at m2; omega
      refine ⟨hlt, ?_⟩
      have e3 : K - D.length = (K - (D.length + 1)) + 1 := by omega
      rw [e3, Nat.pow_succ] at m2
      generalize 2 ^ (K - (D.length + 1)) = P at *
      omega
  · rw [if_neg (by simp)]; omega
theorem pow_bits {a b c K : Nat} (h : a = 2 ^ b) (hK : K = b * c) : a ^ c = 2 ^ K := by rw [h, hK, Nat.pow_mul]
theorem text_bits {xs : List Nat} {K : Nat} (hK : 2 ^ K = beta ^ 128) (h : nval xs < beta ^ 128) : nval (xs.take xs.length) < 2 ^ (K - ([] : List Nat).length) := by
  rw [List.take_length, List.length_nil, Nat.sub_zero, hK]
  exact h
theorem text_cell (D : List Nat) (i : Nat) (hi : i < D.length) : (List.map by8 (List.map (fun x => 48 + x) D).reverse)[i]? = some (.int .u8 ((List.map (fun d => ((48 + d : Nat) : Int)) D.reverse).getD i 0)) := by
  have h : i < D.reverse.length := by rw [List.length_reverse]; exact hi
  rw [← List.map_reverse, List.getElem?_map, List.getElem?_map, List.getD_eq_getElem?_getD, List.getElem?_map, List.getElem?_eq_getElem h]
  rfl
/-- the state of Text's outer loop. -/
def TextSt (w : World) (K g n gh : Nat) (r v : Value) (W : World) : Prop :=
  ∃ (L c : Nat) (ds D : List Nat), r = .slice (some ⟨g, 0, none⟩) L c ∧ L ≤ c ∧ UBlk W g ds ∧ Ext w W ∧ DOwn (g + 1) W v (D.map (48 + ·)) ∧ Hid (TextH K n gh L ds D)
/-- the state of its inner loop. -/
def TextIn (W0 : World) (g L Td : Nat) (c k : Value) (W : World) : Prop :=
  ∃ (es : List Nat) (kk cc : Nat), c = .int .u64 (cc : Nat) ∧ k = .int .i64 (kk : Nat) ∧ UBlk W g es ∧ Only g W0 W ∧
    Hid (kk ≤ L ∧ L ≤ es.length ∧ es.length ≤ 200 ∧ cc < 10 ∧ Words es ∧ Td + 9 * nval (es.take (L - kk)) = 10 * nval (es.take L) + cc * beta ^ (L - kk))
theorem UBlk.rowTake {w : World} {g : Nat} {ds : List Nat} (h : UBlk w g ds) (L c : Nat) (hL : L ≤ ds.length) (hc : L ≤ c) : URow w (.slice (some ⟨g, 0, none⟩) L c) (ds.take L) := by
  by_cases h0 : L = 0
  · subst h0; exact .inl ⟨by simp, _, _, rfl⟩
  · refine .inr ⟨g, 0, c, by rw [List.length_take, Nat.min_eq_left hL], ?_, by rw [List.length_take]; omega, fun q u hq => ?_⟩
    · intro e
      have := congrArg List.length e
      rw [List.length_take, List.length_nil] at this
      omega
    · rw [Nat.zero_add, cell_of h q]
      rw [List.map_take, List.getElem?_take] at hq
      split at hq
      · simpa using hq
      · cases hq
theorem div_close {W0 W : World} {g L Td kk m cc e : Nat} {es : List Nat} (hU : UBlk W g es) (hO : Only g W0 W)
    (HJ : Hid (kk ≤ L ∧ L ≤ es.length ∧ es.length ≤ 200 ∧ cc < 10 ∧ Words es ∧ Td + 9 * nval (es.take (L - kk)) = 10 * nval (es.take L) + cc * beta ^ (L - kk)))
    (hk : kk < L) (hm : L - (kk + 1) = m) (_hml : m < L) (hst : let s := cc * beta + e; Td + 9 * nval ((es.set m (s / 10)).take m) = 10 * nval ((es.set m (s / 10)).take L) + (s % 10) * beta ^ m) (be : e < 4294967296) :
    TextIn W0 g L Td (.int .u64 (((cc : Int) * 4294967296 + (e : Int)) % 10)) (.int .i64 ((kk : Int) + 1)) (W.setCell ⟨g, m, none⟩ (.int .u32 (((cc : Int) * 4294967296 + (e : Int)) / 10))) ∧
      L - (intOf (.int .i64 ((kk : Int) + 1))).toNat < L - (intOf (.int .i64 (kk : Int))).toNat := by
  obtain ⟨h1, h2, h3, h4, h5, h6⟩ := HJ.out
  have e1 : ((cc : Int) * 4294967296 + (e : Int)) % 10 = (((cc * beta + e) % 10 : Nat) : Int) := by
    show _ = (((cc * 4294967296 + e) % 10 : Nat) : Int); omega
  have e2 : ((cc : Int) * 4294967296 + (e : Int)) / 10 = (((cc * beta + e) / 10 : Nat) : Int) := by
    show _ = (((cc * 4294967296 + e) / 10 : Nat) : Int); omega
  rw [e1, e2]
  refine ⟨⟨es.set m ((cc * beta + e) / 10), kk + 1, (cc * beta + e) % 10, rfl, rfl, hU.set m _, hO.set m _, Lib.hid ⟨hk, by rw [List.length_set]; exact h2, by rw [List.length_set]; exact h3, Nat.mod_lt _ (by decide), words_set h5 ?_, by rw [hm]; exact hst⟩⟩, meas_s hk⟩
  show (cc * 4294967296 + e) / 10 < 4294967296
  omega
set_option maxRecDepth 100000 in
set_option maxHeartbeats 4000000 in
theorem natText_any (w : World) (p : Value) (xs : List Nat) (hp : URow w p xs) (hx : Words xs) : Calls Try.prog 59 #[p] w (Ret (.string (TextV xs)) w) := by
  have HM1 := Lib.hid (natMay_any w p xs hp)
  have HP := Lib.hid hp
  have HX := Lib.hid hx
  obtain ⟨T, hT⟩ : ∃ T, TextV xs = T := ⟨_, rfl⟩
  rw [hT]
  have HT := Lib.hid hT
  cases m1 : mayN xs with
  | false =>
    have HE := Lib.hid (show T = ByteArray.empty by rw [← hT]; unfold TextV; rw [m1]; rfl)
    rw [m1] at HM1
    clear hp hx m1 hT
    go_enter Try.func59, Try.ntmps59
    go_wp2_with fail
    refine HM1.out.mono ?_
    rintro e w1 ⟨rfl, h1⟩
    go_wp2
    go_ret
    exact ⟨by rw [HE.out]; rfl, h1⟩
  | true =>
    obtain ⟨n, hn⟩ : ∃ n, nval xs = n := ⟨_, rfl⟩
    have HE := Lib.hid (show T = textOf n by rw [← hT]; unfold TextV; rw [m1, ← hn]; rfl)
    have HN := Lib.hid ((mayN_norm hx).1 m1)
    have HNV := Lib.hid hn
    rw [m1] at HM1
    obtain ⟨pa, pc, rfl⟩ := hp.slice
    clear hp hx m1 hT hn
    go_enter Try.func59, Try.ntmps59
    go_wp2_with fail
    refine HM1.out.mono ?_
    rintro e w1 ⟨rfl, h1⟩
    go_wp2_with fail
    refine (wide_any w1 _ xs xs.length (HP.out.ext h1) (Nat.le_refl _) (Nat.le_trans HN.out.2 (by decide))).mono ?_
    rintro e w2 ⟨g, rfl, hg, hb, h2⟩
    rw [Nat.sub_self, List.replicate_zero, List.append_nil] at hb
    have HB := Lib.hid hb
    have HX2 := Lib.hid (h1.trans h2)
    have HG := Lib.hid (Nat.le_trans h1.size hg)
    clear h1 h2 hg hb
    go_wp2_with fail
    obtain ⟨K, hK⟩ : ∃ K, K = 32 * 128 := ⟨_, rfl⟩
    go_loopg [3, 4] (2 * n + 1) (fun gh r v W => TextSt w K g n gh r v W)
    case atStart =>
      refine ⟨xs.length, xs.length, xs, [], rfl, Nat.le_refl _, HB.out, HX2.out, DOwn.nil _ _, Lib.hid ?_⟩
      refine ⟨Nat.le_refl _, Nat.le_trans HN.out.2 (by decide), HX.out, by rw [List.take_length]; exact HN.out.1, ?_, (fun d hd => by cases hd), ?_, ⟨by rw [hK]; decide, by rw [hK]; decide⟩, ?_⟩
      · left; exact ⟨rfl, by rw [List.take_length]; exact HNV.out⟩
      · refine ⟨Nat.zero_le _, ?_⟩
        have := (norm_len HN.out.1 128).1 HN.out.2
        exact text_bits (pow_bits rfl hK).symm this
      · rw [List.take_length, HNV.out, if_pos rfl]; exact Nat.le_refl _
    case round =>
      obtain ⟨L, c, ds, D, rfl, hLc, hU, hE, hD, HH⟩ := hrel
      by_cases hgo : 0 < L ∨ D = []
      · have HGO := Lib.hid hgo
        have HU := Lib.hid hU
        have HE2 := Lib.hid hE
        have HD := Lib.hid hD
        have HLC := Lib.hid hLc
        obtain ⟨va, vc, hv⟩ := hD.slice
        have hlt : L ≤ 200 := Nat.le_trans HH.out.len HH.out.big
        subst hv
        by_cases hL0 : 0 < L
        · have hL : (0 : Int) < (L : Int) := by omega
          clear hgo hU hE hD hLc hL0
          go_wp2_with fail
          clear hL
          obtain ⟨W0, rfl⟩ : ∃ W0, W0 = wr := ⟨_, rfl⟩
          go_loopw [5, 25] (fun c k W => TextIn W0 g L (nval (ds.take L)) c k W) (fun _ k _ => L - (intOf k).toNat)
          case atStart => exact ⟨ds, 0, 0, rfl, rfl, HU.out, Only.refl _ _, Lib.hid ⟨Nat.zero_le _, HH.out.len, HH.out.big, by decide, HH.out.words, by rw [Nat.sub_zero, Nat.zero_mul]; omega⟩⟩
          case round =>
            obtain ⟨es, kk, cc, rfl, rfl, hU3, hO, HJ⟩ := hrel
            by_cases hk : kk < L
            · obtain ⟨m, hm⟩ : ∃ m, L - (kk + 1) = m := ⟨_, rfl⟩
              have hat : (L : Int) - 1 - (kk : Int) = (m : Int) := by omega
              have hml : m < L := by omega
              obtain ⟨cx, cf⟩ := hU3.cell m (Nat.lt_of_lt_of_le hml HJ.out.2.1)
              have be := words_getD HJ.out.2.2.2.2.1 m
              have hcc := HJ.out.2.2.2.1
              have HST := Lib.hid (div_step (c := cc) (Td := nval (ds.take L)) hml HJ.out.2.1 (by have := HJ.out.2.2.2.2.2; rw [show L - kk = m + 1 by omega] at this; exact this))
              obtain ⟨e, he⟩ : ∃ e, es.getD m 0 = e := ⟨_, rfl⟩
              rw [he] at cx be HST
              unfold beta at be
              have HU3 := Lib.hid hU3
              have HO := Lib.hid hO
              have HM := Lib.hid (And.intro hm hml)
              clear hU3 hO hm he
              go_wp2
              exact div_close HU3.out HO.out HJ hk HM.out.1 HM.out.2 HST.out be
            · have hq := HJ.out.2.2.2.2.2
              rw [Nat.le_antisymm HJ.out.1 (Nat.le_of_not_lt hk), Nat.sub_self, Nat.pow_zero, Nat.mul_one, List.take_zero] at hq
              have HQ := Lib.hid (show nval (ds.take L) = 10 * nval (es.take L) + cc from by simpa [nval] using hq)
              have hcc := HJ.out.2.2.2.1
              have HE3 := Lib.hid (hO.1 w HE2.out HG.out)
              have hown : (Value.slice va (D.map (48 + ·)).length vc).ownBlock ≠ some g := fun e => by
                have := (World.ownsRow.lt HD.out) g e
                omega
              have hA := (Ext.refl wr).alloc (.cells #[.int .u8 (48 + (cc : Int))] 5)
              have hD5 := (HD.out.kept hO hown).ext hA
              rw [List.length_map] at hD5 hown
              have HD5 := Lib.hid hD5
              have HOWN := Lib.hid hown
              have HU5 := Lib.hid (show UBlk _ g es from hA.get hU3)
              have HE5 := Lib.hid (HE3.out.trans hA)
              have hcell : (wr.alloc (.cells #[.int .u8 (48 + (cc : Int))] 5)).cell? ⟨wr.heap.size, 0, none⟩ = some (.int .u8 ((48 + cc : Nat) : Int)) := cell_of (alloc_at wr (.cells #[.int .u8 (48 + (cc : Int))] 5) _ rfl) 0
              have HC := Lib.hid (show (wr.alloc (.cells #[.int .u8 (48 + (cc : Int))] 5)).cell? ⟨wr.heap.size, 0, none⟩ = some (.int .u8 ((48 + cc : Nat) : Int)) from hcell)
              clear hq hO hown hA hD5 hU3 hcell
              go_wp2_with (at_builtin; refine wpList_append_byte (B := g + 1) (zs := D.map (48 + ·)) (d := 48 + cc) (b := wr.heap.size) rfl (.tmp 50) (.tmp 54) rfl rfl rfl HD5.out HC.out (by rw [List.length_map]; have := HH.out.most.1; have := HH.out.cap.2; omega) (Array.getElem?_eq_some_iff.1 HU5.out).1 ?_)
              intro v6 w6 ho6 hg6 hw6
              have hlt6 := World.ownsRow.lt HD5.out
              have HE6 := Lib.hid (show Ext w w6 from RowKit.Below.grown HE5.out hg6 HE5.out.size (fun k hk => Nat.le_trans (Nat.le_trans HG.out (Nat.le_succ g)) (hlt6 k hk).1))
              have HU6 := Lib.hid (show UBlk w6 g es from (hg6.block g (Array.getElem?_eq_some_iff.1 HU5.out).1 (Ne.symm HOWN.out)).trans HU5.out)
              have HO6 := Lib.hid (show DOwn (g + 1) w6 v6 ((D ++ [cc]).map (48 + ·)) by simpa using ho6)
              clear ho6 hg6 hw6 hlt6
              have hLe : L ≤ es.length := HJ.out.2.1
              have htl : (es.take L).length = L := by rw [List.length_take]; exact Nat.min_eq_left hLe
              have HTR := Lib.hid (trim_any w6 (some ⟨g, 0, none⟩) c (es.take L) (by rw [htl]; exact HU6.out.rowTake L c hLe HLC.out) (by rw [htl]; exact Nat.le_trans hlt (by decide)))
              rw [htl] at HTR
              clear hLe htl
              go_wp2_with fail
              refine HTR.out.mono ?_
              rintro r w7 ⟨k, rfl, k1, k2, k3, k4⟩
              rw [List.length_take, Nat.min_eq_left HJ.out.2.1] at k1
              have hW : Words (es.take L) := words_take HJ.out.2.2.2.2.1 L
              obtain ⟨t1, t2⟩ := trim_norm hW (by rw [List.length_take, Nat.min_eq_left HJ.out.2.1]; exact k1) k2 k3
              rw [List.take_take, Nat.min_eq_left k1] at t1 t2
              obtain ⟨-, gh', hlt', hH'⟩ := HH.out.step HGO.out HJ.out.2.2.1 HJ.out.2.1 HJ.out.2.2.2.2.1 HQ.out HJ.out.2.2.2.1 k1 t1 t2
              have HH' := Lib.hid hH'
              have HU7 := Lib.hid (show UBlk w7 g es from k4.get HU6.out)
              have HE7 := Lib.hid (HE6.out.trans k4)
              have HO7 := Lib.hid (HO6.out.ext k4)
              have HK := Lib.hid (Nat.le_trans k1 HLC.out)
              have HLT := Lib.hid hlt'
              clear hW t1 t2 hH' k1 k2 k3 k4 hlt' hcc
              go_wp2
              go_roundg gh'
              case measure => exact HLT.out
              case rel => exact ⟨k, c, es, D ++ [cc], rfl, HK.out, HU7.out, HE7.out, HO7.out, HH'.out⟩
        · have hL1 : L = 0 := Nat.eq_zero_of_not_pos hL0
          have hD1 : D = [] := hgo.resolve_left hL0
          subst hL1 hD1
          rw [show ([] : List Nat).map (48 + ·) = [] from rfl] at HD ⊢
          clear hgo hU hE hD hLc hL0 hlt
          go_wp2_with fail
          refine wp_loop_rounds 1 ?_
          rw [rounds_succ]
          have hA := (Ext.refl wr).alloc (.cells #[.int .u8 48] 5)
          have HD5 := Lib.hid (HD.out.ext hA)
          have HU5 := Lib.hid (show UBlk _ g ds from hA.get HU.out)
          have HE5 := Lib.hid (HE2.out.trans hA)
          have hcell : (wr.alloc (.cells #[.int .u8 48] 5)).cell? ⟨wr.heap.size, 0, none⟩ = some (.int .u8 ((48 : Nat) : Int)) := cell_of (alloc_at wr (.cells #[.int .u8 48] 5) _ rfl) 0
          have HC := Lib.hid hcell
          have HOWN := Lib.hid (show (Value.slice va ([] : List Nat).length vc).ownBlock ≠ some g from fun e => by
            have := (World.ownsRow.lt HD.out) g e
            omega)
          clear hA hcell
          go_wp2_with (at_builtin; refine wpList_append_byte (B := g + 1) (zs := []) (d := 48) (b := wr.heap.size) rfl (.tmp 50) (.tmp 54) rfl rfl rfl HD5.out HC.out (by simp) (Array.getElem?_eq_some_iff.1 HU5.out).1 ?_)
          intro v6 w6 ho6 hg6 hw6
          have hlt6 := World.ownsRow.lt HD5.out
          have HE6 := Lib.hid (show Ext w w6 from RowKit.Below.grown HE5.out hg6 HE5.out.size (fun k hk => Nat.le_trans (Nat.le_trans HG.out (Nat.le_succ g)) (hlt6 k hk).1))
          have HU6 := Lib.hid (show UBlk w6 g ds from (hg6.block g (Array.getElem?_eq_some_iff.1 HU5.out).1 (Ne.symm HOWN.out)).trans HU5.out)
          have HO6 := Lib.hid (show DOwn (g + 1) w6 v6 (([] ++ [0]).map (48 + ·)) from ho6)
          clear ho6 hg6 hw6 hlt6
          have HTR := Lib.hid (trim_any w6 (some ⟨g, 0, none⟩) c [] (.inl ⟨rfl, _, _, rfl⟩) (by simp))
          rw [List.length_nil] at HTR
          go_wp2_with fail
          refine HTR.out.mono ?_
          rintro r w7 ⟨k, rfl, k1, k2, k3, k4⟩
          obtain rfl : k = 0 := Nat.le_zero.1 k1
          obtain ⟨-, gh', hlt', hH'⟩ := HH.out.step (.inr rfl) HH.out.big HH.out.len HH.out.words (c := 0) rfl (by decide) (Nat.le_refl _) HH.out.norm rfl
          have HH' := Lib.hid hH'
          have HU7 := Lib.hid (show UBlk w7 g ds from k4.get HU6.out)
          have HE7 := Lib.hid (HE6.out.trans k4)
          have HO7 := Lib.hid (HO6.out.ext k4)
          have HLT := Lib.hid hlt'
          clear hH' k1 k2 k3 k4 hlt'
          go_wp2
          go_roundg gh'
          case measure => exact HLT.out
          case rel => exact ⟨0, c, ds, [0], rfl, Nat.zero_le _, HU7.out, HE7.out, HO7.out, HH'.out⟩
      · have hL0 : L = 0 := Nat.eq_zero_of_not_pos (fun h => hgo (.inl h))
        have hD0 : D ≠ [] := fun h => hgo (.inr h)
        subst hL0
        have hDD := digs_end (n := n) (D := D) (by have := HH.out.digs; rw [List.take_zero] at this; exact this) hD0
        have HDD := Lib.hid hDD
        have hpos : 0 < D.length := List.length_pos_iff.2 hD0
        obtain ⟨va, vc, hv⟩ := hD.slice
        subst hv
        (try rw [List.length_map])
        obtain ⟨h1, h | ⟨b, cap, cur, hv, hb, hh, hc1, hc2, hc3, hc4⟩⟩ := hD
        · exact absurd (by simpa using h.2) hD0
        · rw [List.length_map] at hv
          cases hv
          have hle : D.length ≤ cur.size := by
            have := congrArg List.length hc4
            simp only [List.length_take, List.length_map, Nat.mul_one, Array.length_toList] at this
            omega
          have HR := Lib.hid (reverseB_any wr b D.length vc cur.toList (D.map (48 + ·)) (by simpa using hh) (by
            rw [List.length_map, Nat.mul_one] at hc4; exact hc4) (by simp) (by rw [Array.length_toList]; exact hle) (by have := HH.out.most.1; have := HH.out.cap.2; omega))
          have HGB := Lib.hid (Nat.le_trans (Nat.le_trans HG.out (Nat.le_succ g)) hb)
          have HE2 := Lib.hid hE
          have hguard : ¬ (D.length : Int) = 0 := by omega
          have HP0 := Lib.hid hpos
          clear hh hb hc1 hc2 hc3 hc4 hle h1 hgo hDD hU hE hD0 hLc hpos
          go_wp2_with fail
          refine HR.out.mono ?_
          rintro r w7 ⟨⟨v7, rfl⟩, ⟨fs, hf, hft⟩, hO⟩
          have hcv := run_convert_bytes_arg (P := Try.prog) w7 39 5 Try.underlying39 Try.underlying5 b 0 D.length vc ((decs n).reverse.map (fun d => ((48 + d : Nat) : Int))) (by rw [List.length_map, List.length_reverse, ← HDD.out]) (fun i hi => by
            rw [Nat.zero_add, cell_of hf i, List.getElem?_toArray]
            have e1 : (fs.take D.length)[i]? = fs[i]? := by rw [List.getElem?_take, if_pos hi]
            rw [← e1, hft, ← HDD.out]
            exact text_cell D i hi) 9 Try.underlying9
          have HXX := Lib.hid (hO.1 w HE2.out HGB.out)
          clear hf hft hO
          go_wp2_with fail
          go_ret
          exact ⟨by rw [HE.out]; unfold textOf; simp, HXX.out⟩
end Go.Proofs.Ytejknkhahjgdnaa
namespace Go.Proofs.Ytejknkhahjgdnaa
open Go Go.RowKit Go.Shelf
attribute [local go_sem] Oper.semAt_some

/-- Fibonacci's numbers. -/
def fibN : Nat → Nat
  | 0 => 0
  | 1 => 1
  | n + 2 => fibN n + fibN (n + 1)
theorem fibN_le : ∀ n, fibN n ≤ 2 ^ n ∧ fibN (n + 1) ≤ 2 ^ (n + 1)
  | 0 => ⟨by decide, by decide⟩
  | n + 1 => by
    obtain ⟨h1, h2⟩ := fibN_le n
    refine ⟨h2, ?_⟩
    show fibN n + fibN (n + 1) ≤ 2 ^ (n + 1 + 1)
    rw [Nat.pow_succ 2 (n + 1)]
    rw [Nat.pow_succ] at h2 ⊢
    omega
theorem fibN_lt {n : Nat} (h : n ≤ 210) : fibN n < beta ^ 7 := by
  have h1 := (fibN_le n).1
  have h2 : 2 ^ n ≤ 2 ^ 210 := Nat.pow_le_pow_right (by decide) h
  have h3 : 2 ^ 210 < beta ^ 7 := by decide +kernel
  omega
abbrev KN (a b : World) : Prop := Keep (fun _ => False) a b
theorem rangeAt_kn {w w' : World} {b o : Nat} {cs : List Value} (h : w.rangeAt b o cs) (e : KN w w') : w'.rangeAt b o cs := fun q u hq => by
  have hc := h q u hq
  unfold World.cell? at hc ⊢
  cases ho : w.heap[b]? with
  | none => simp [ho] at hc
  | some x =>
    cases x with
    | cells c t f => rw [e.cells _ _ _ _ id ho]; rw [ho] at hc; exact hc
    | _ => simp [ho] at hc
theorem URow.kn {w w' : World} {v : Value} {xs : List Nat} (h : URow w v xs) (e : KN w w') : URow w' v xs := by
  rcases h with h | ⟨b, o, c, h0, h1, h2, h3⟩
  · exact .inl h
  · exact .inr ⟨b, o, c, h0, h1, h2, rangeAt_kn h3 e⟩
theorem NumIs.kn {w w' : World} {v : Value} {n : Nat} (h : NumIs w v n) (e : KN w w') : NumIs w' v n := by
  obtain ⟨xs, h1, h2⟩ := h; exact ⟨xs, h1.kn e, h2⟩
/-- a number's row lies off a box that holds a slice. -/
theorem NumIs.box {w : World} {v u u' : Value} {n B : Nat} {t : TypeId} (h : NumIs w v n) (hB : Boxed w B t u) (hu : ∀ k m, u ≠ .int k m) : NumIs (w.setCell ⟨B, 0, none⟩ u') v n := by
  obtain ⟨xs, h1, h2⟩ := h
  refine ⟨xs, ?_, h2⟩
  rcases h1 with h | ⟨b, o, c, h0, h1, h2, h3⟩
  · exact .inl h
  · refine .inr ⟨b, o, c, h0, h1, h2, fun q y hq => ?_⟩
    have hc := h3 q y hq
    by_cases hb : B = b
    · subst hb
      exfalso
      have h4 : w.cell? ⟨B, o + q, none⟩ = _ := cell_of (show w.heap[B]? = some (.cells #[u] t (0, 0)) from hB) (o + q)
      rw [hc] at h4
      rw [List.getElem?_map] at hq
      obtain ⟨z, _, rfl⟩ := Option.map_eq_some_iff.1 hq
      rcases Nat.eq_zero_or_pos (o + q) with e | e
      · rw [e] at h4; simp [u32] at h4; exact hu _ _ h4.symm
      · have : (#[u] : Array Value)[o + q]? = none := by simp; omega
        simp [this] at h4
    · unfold World.cell? at hc ⊢
      rw [Below.heap_setCell _ _ _ b (fun e => hb (by first | exact e | exact e.symm))]; exact hc
set_option maxRecDepth 100000 in
set_option maxHeartbeats 2000000 in
theorem fibs1_in (l N : Nat) (J Jx : World → Prop) (hN : Hid (N ≤ 200)) (hJE : ∀ W W', J W → Ext W W' → J W')
    (hY : ∀ m k v W, k < N → J W → NumIs W v (fibN k) → YieldAt Fence.wide m Try.prog l #[.int .i64 (k : Nat), v] W fun e W' => e = .returned (.bool true) ∧ J W' ∧ KN W W')
    (hYx : ∀ m v W, J W → NumIs W v (fibN N) → YieldAt Fence.wide m Try.prog l #[.int .i64 (N : Nat), v] W fun e W' => e = .returned (.bool false) ∧ Jx W') (n : Nat) (W : World) (hJ : J W) :
    CallsIn Fence.wide n Try.prog 96 #[.func (.yield l) #[] #[]] W fun e W' => (∃ v, e = .returned v) ∧ Jx W' := by
  have hfn : ∀ f, Fence.wide.fn f := fun _ => trivial
  have HJE := Lib.hid hJE
  have HY := Lib.hid hY
  have HYX := Lib.hid hYx
  have HJ := Lib.hid hJ
  clear hJE hY hYx hJ
  refine callsIn_of_wp Try.func96 rfl trivial ?_ rfl
  simp only [Try.ntmps96, List.size_toArray, List.length_cons, List.length_nil, Nat.reduceAdd, Nat.reduceSub, Array.replicate_succ, Array.replicate_zero, List.push_toArray, List.append_toArray, List.nil_append, List.cons_append]
  gi_wp2_with fail
  refine ⟨wide_room _, (callsIn_wide.2 (from_any W 0 (by decide))).mono ?_⟩
  rintro e W1 ⟨v0, rfl, n0, h1⟩
  gi_wp2_with fail
  refine ⟨wide_room _, (callsIn_wide.2 (from_any W1 1 (by decide))).mono ?_⟩
  rintro e W2 ⟨v1, rfl, n1, h2⟩
  have HS := Lib.hid (And.intro (n0.ext h2) (And.intro n1 (HJE.out _ _ HJ.out (h1.trans h2))))
  clear h1 h2 n0 n1
  gi_wp2_with fail
  gi_loopw [2, 3, 4] (fun a b i W => ∃ k : Nat, i = .int .i64 (k : Nat) ∧ Hid (k ≤ N ∧ NumIs W a (fibN k) ∧ NumIs W b (fibN (k + 1)) ∧ J W)) (fun _ _ i _ => N - (intOf i).toNat)
  case atStart => exact ⟨0, rfl, Lib.hid ⟨Nat.zero_le _, HS.out.1, HS.out.2.1, HS.out.2.2⟩⟩
  case round =>
    obtain ⟨k, rfl, HH⟩ := hrel
    clear HS
    by_cases hk : k < N
    · have HK := Lib.hid hk
      have hkn : k < 200 := Nat.lt_of_lt_of_le hk hN.out
      obtain ⟨fn, tmps, assign, body, hy1, hR⟩ := HY.out n k u2 wr hk HH.out.2.2.2 HH.out.2.1
      have HR := Lib.hid hR
      clear hR hk
      gi_wp2_with fail
      clear hy1
      refine ⟨wide_room _, (RoundIn.any HR.out).mono ?_⟩
      rintro e W3 ⟨rfl, hJ3, hk3⟩
      have HA := Lib.hid (HH.out.2.1.kn hk3)
      have HB := Lib.hid (HH.out.2.2.1.kn hk3)
      obtain ⟨xs, x1, x2, x3⟩ := HA.out
      obtain ⟨ys, y1, y2, y3⟩ := HB.out
      have HC := Lib.hid (natAdd_any W3 u2 u3 xs ys x1 y1 x2.1 y2.1 (Nat.le_trans ((norm_len x2 7).2 (by rw [x3]; exact fibN_lt (by omega))) (by decide)) (Nat.le_trans ((norm_len y2 7).2 (by rw [y3]; exact fibN_lt (by omega))) (by decide)))
      rw [x3, y3, show fibN k + fibN (k + 1) = fibN (k + 1 + 1) from rfl] at HC
      have HJ3 := Lib.hid hJ3
      clear x1 x2 x3 y1 y2 y3 hJ3 hk3 hkn
      gi_wp2_with fail
      refine ⟨wide_room _, (callsIn_wide.2 HC.out).mono ?_⟩
      rintro e W4 ⟨v4, rfl, n4, h4⟩
      have HS4 := Lib.hid (And.intro n4 h4)
      have hk2 : k < 200 := Nat.lt_of_lt_of_le HK.out hN.out
      clear n4 h4
      gi_wp2
      go_roundw
      case rel => exact ⟨k + 1, by first | rfl | (rw [show wrap64 ((k : Int) + 1) = ((k + 1 : Nat) : Int) by unfold wrap64; omega]), Lib.hid ⟨HK.out, HB.out.ext HS4.out.2, HS4.out.1, HJE.out _ _ HJ3.out HS4.out.2⟩⟩
      case measure => first | exact meas_s HK.out | (rw [show wrap64 ((k : Int) + 1) = ((k + 1 : Nat) : Int) by unfold wrap64; omega]; exact meas_s HK.out)
    · obtain rfl : k = N := Nat.le_antisymm HH.out.1 (Nat.le_of_not_lt hk)
      clear hk
      obtain ⟨fn, tmps, assign, body, hy1, hR⟩ := HYX.out n u2 wr HH.out.2.2.2 HH.out.2.1
      have HR := Lib.hid hR
      clear hR
      gi_wp2_with fail
      clear hy1
      refine ⟨wide_room _, (RoundIn.any HR.out).mono ?_⟩
      rintro e W3 ⟨rfl, hJ3⟩
      gi_wp2
      go_end0
      exact ⟨⟨_, rfl⟩, hJ3⟩
theorem fibs_any (w : World) : Calls Try.prog 74 #[] w fun e w' => e = .returned (.func (.func 96) #[] #[]) ∧ w' = w := by
  go_enter Try.func74, Try.ntmps74
  go_wp2
  go_ret
  exact ⟨rfl, rfl⟩
end Go.Proofs.Ytejknkhahjgdnaa
namespace Go.Proofs.Ytejknkhahjgdnaa
open Go Go.RowKit Go.Shelf
attribute [local go_sem] Oper.semAt_some

/-- a round over fibs: it goes on without turning a cell, or it leaves. -/
def fibPost (B id : Nat) (I Ix : World → Prop) (last : Bool) (W : World) : Exit → Act → World → Prop
  | .normal, _, W' => last = false ∧ KeepsFrom B W W' ∧ KN W W' ∧ I W'
  | .exit i, _, W' => last = true ∧ i = id ∧ KeepsFrom B W W' ∧ Ix W'
  | _, _, _ => False
set_option maxHeartbeats 1000000 in
/-- **for k, f := range fibs() { .. }**, whose round number N leaves it. -/
theorem range_fibs {g : Operand} {p q : Tmp} {assign body : Code} {N n id : Nat} {Q : Exit → Act → World → Prop} {a : Act} {w : World} (h1 : 1 ≤ n) (hN : N ≤ 200) (hg : a.eval g = .func (.func 96) #[] #[]) (I Ix : World → Prop)
    (hIE : ∀ W W', w.heap.size ≤ W.heap.size → I W → Ext W W' → I W') (hIp : ∀ W l o o', w.heap.size ≤ l → W.heap[l]? = some o → o.isCells = false → I W → I (W.putObj l o')) (hXp : ∀ W l o o', w.heap.size ≤ l → W.heap[l]? = some o → o.isCells = false → Ix W → Ix (W.putObj l o'))
    (h0 : I w) (a₁ : Nat → Value → Act)
    (hassign : ∀ (m l k : Nat) (v : Value) (W : World) (K : Act → World → Prop), K (a₁ k v) W → assign.wpIn (Fence.wide.inRound l) m Try.prog (Exit.then K (fun _ _ _ => False)) { tmps := ((#[p, q] : Array Tmp).zip (#[.int .i64 (k : Nat), v] : Array Value)).foldl (fun t (p, v) => t.setIfInBounds p v) a.tmps, defers := [] } W)
    (hbody : ∀ (m l k : Nat) (v : Value) (W : World), k ≤ N → w.heap.size ≤ W.heap.size → I W → NumIs W v (fibN k) → body.wpIn (Fence.wide.inRound l) m Try.prog (fibPost w.heap.size id I Ix (decide (k = N)) W) (a₁ k v) W)
    (hstop : ∀ (D : Nat) (W : World), w.heap.size ≤ D → Ix W → W.heap[D]? = some (.deferred (some [])) → (Code.exit id).wpIn Fence.wide n Try.prog Q { a with defers := { target := .collected D, args := #[] } :: a.defers } W) :
    (Code.rangeFunc g #[p, q] assign body).wpIn Fence.wide n Try.prog Q a w := by
  refine wpIn_rangeFunc ?_
  intro fn hfn
  rw [show Fence.wide.round = none from rfl]
  obtain ⟨rec, hrec⟩ : ∃ rec : LoopState → Option Code → Loop, rec = fun st pe => { state := st, pending := pe, fn, tmps := a.tmps, params := #[p, q], assign, body, defers := w.heap.size } := ⟨_, rfl⟩
  obtain ⟨W1, hW1⟩ : ∃ W1, (w.alloc (.deferred (some []))).alloc (.loop (rec .ready none)) = W1 := ⟨_, rfl⟩
  have hE1 : Ext w W1 := by rw [← hW1]; exact ((Ext.refl w).alloc _).alloc _
  have hL1 : W1.heap[w.heap.size + 1]? = some (.loop (rec .ready none)) := by rw [← hW1]; exact alloc_at _ _ _ (by simp)
  have hK1 : W1.heap[w.heap.size]? = some (.deferred (some [])) := by rw [← hW1, alloc_lt _ _ _ (by simp)]; exact alloc_at _ _ _ rfl
  have hI1 : I W1 := hIE _ _ (Nat.le_refl _) h0 hE1
  refine ⟨w.heap.size + 1, [{ target := .collected w.heap.size, args := #[] }], W1, { target := .fn (.func 96) #[], args := #[.func (.yield (w.heap.size + 1)) #[] #[]] }, W1, 96,
    #[.func (.yield (w.heap.size + 1)) #[] #[]], W1, ?_, ?_, ?_, ?_, fun _ => h1, ?_⟩
  · rw [← hW1, hrec]; exact run_enterLoop_outer _ _ _ _ _
  · simp only [resolve, hg]
    simp [go_sem]
  · intro f' _; trivial
  · kernel_rfl
  · have fin : ∀ (W W3 : World) (jump : Option Code), W.heap[w.heap.size + 1]? = some (.loop (rec .ready none)) → W.heap[w.heap.size]? = some (.deferred (some [])) → KeepsFrom w.heap.size (W.putObj (w.heap.size + 1) (.loop { rec .ready none with state := .busy })) W3 →
        (Instr.endRound (w.heap.size + 1) jump).run Try.prog W3 = .ok (.bool jump.isNone) (W3.putObj (w.heap.size + 1) (.loop (rec (if jump.isNone then .ready else .done) jump))) ∧
        W3.heap[w.heap.size + 1]? = some (.loop { rec .ready none with state := .busy }) ∧
        (W3.putObj (w.heap.size + 1) (.loop (rec (if jump.isNone then .ready else .done) jump))).heap[w.heap.size + 1]? = some (.loop (rec (if jump.isNone then .ready else .done) jump)) ∧
        (W3.putObj (w.heap.size + 1) (.loop (rec (if jump.isNone then .ready else .done) jump))).heap[w.heap.size]? = some (.deferred (some [])) := fun W W3 jump hl hk hk3 => by
      have hl2 : (W.putObj (w.heap.size + 1) (.loop { rec .ready none with state := .busy })).heap[w.heap.size + 1]? = some (.loop { rec .ready none with state := .busy }) := World.putObj_heap_same (Array.getElem?_eq_some_iff.1 hl).1
      have hk2 : (W.putObj (w.heap.size + 1) (.loop { rec .ready none with state := .busy })).heap[w.heap.size]? = some (.deferred (some [])) := (World.putObj_heap_other (by omega)).trans hk
      have hl3 := hk3.same _ _ (by omega) hl2 rfl
      have := run_endRound (P := Try.prog) jump hl3
      rw [hrec] at this ⊢
      exact ⟨this, by rw [hrec] at hl3; exact hl3, World.putObj_heap_same (Array.getElem?_eq_some_iff.1 hl3).1, (World.putObj_heap_other (by omega)).trans (hk3.same _ _ (Nat.le_refl _) hk2 rfl)⟩
    refine (fibs1_in (w.heap.size + 1) N (fun W => I W ∧ W.heap[w.heap.size + 1]? = some (.loop (rec .ready none)) ∧ W.heap[w.heap.size]? = some (.deferred (some [])))
      (fun W => Ix W ∧ W.heap[w.heap.size + 1]? = some (.loop (rec .done (some (.exit id)))) ∧ W.heap[w.heap.size]? = some (.deferred (some [])))
      (Lib.hid hN) (fun W W' ⟨i1, i2, i3⟩ hE => ⟨hIE _ _ (by have := (Array.getElem?_eq_some_iff.1 i3).1; omega) i1 hE, hE.get i2, hE.get i3⟩) ?_ ?_ (n - 1) W1 ⟨hI1, hL1, hK1⟩).mono ?_
    · rintro m k v W hk ⟨hi, hl, hd⟩ hv
      have hlt : w.heap.size + 1 < W.heap.size := (Array.getElem?_eq_some_iff.1 hl).1
      have hy := run_yield (P := Try.prog) (args := #[.int .i64 (k : Nat), v]) hl (by rw [hrec]; rfl)
      rw [hrec] at hy
      refine ⟨fn, _, assign, body, hy, roundIn_of_wpIn hfn (hassign _ _ k v W _ ?_)⟩
      clear hy
      refine ⟨_, run_beginRound hl (by rw [hrec]), ?_⟩
      have hK2 : KN W (W.putObj (w.heap.size + 1) (.loop { rec .ready none with state := .busy })) := Keep.putObj _ _ _ _ hl rfl
      refine wpIn_mono (hbody _ _ k v _ (Nat.le_of_lt hk) (by simp; omega) (hIp _ _ _ _ (by omega) hl rfl hi) (hv.kn hK2)) ?_
      rintro e a3 W3 hp
      cases e with
      | normal =>
        obtain ⟨-, hk3, hkn, hi3⟩ := hp
        obtain ⟨hr, hl3, hl4, hk4⟩ := fin W W3 none hl hd hk3
        exact ⟨_, _, hr, rfl, ⟨hIp _ _ _ _ (by omega) hl3 rfl hi3, hl4, hk4⟩, (hK2.trans hkn).trans (Keep.putObj _ _ _ _ hl3 rfl)⟩
      | exit i => exact absurd (of_decide_eq_true hp.1) (Nat.ne_of_lt hk)
      | ret => exact hp.elim
      | goto t => exact hp.elim
      | panic ch => exact hp.elim
      | outgrown => exact hp.elim
    · rintro m v W ⟨hi, hl, hd⟩ hv
      have hlt : w.heap.size + 1 < W.heap.size := (Array.getElem?_eq_some_iff.1 hl).1
      have hy := run_yield (P := Try.prog) (args := #[.int .i64 (N : Nat), v]) hl (by rw [hrec]; rfl)
      rw [hrec] at hy
      refine ⟨fn, _, assign, body, hy, roundIn_of_wpIn hfn (hassign _ _ N v W _ ?_)⟩
      clear hy
      refine ⟨_, run_beginRound hl (by rw [hrec]), ?_⟩
      have hK2 : KN W (W.putObj (w.heap.size + 1) (.loop { rec .ready none with state := .busy })) := Keep.putObj _ _ _ _ hl rfl
      refine wpIn_mono (hbody _ _ N v _ (Nat.le_refl _) (by simp; omega) (hIp _ _ _ _ (by omega) hl rfl hi) (hv.kn hK2)) ?_
      rintro e a3 W3 hp
      cases e with
      | normal => exact absurd hp.1 (by simp)
      | exit i =>
        obtain ⟨-, rfl, hk3, hi3⟩ := hp
        obtain ⟨hr, hl3, hl4, hk4⟩ := fin W W3 (some (.exit i)) hl hd hk3
        exact ⟨_, _, hr, rfl, hXp _ _ _ _ (by omega) hl3 rfl hi3, hl4, hk4⟩
      | ret => exact hp.elim
      | goto t => exact hp.elim
      | panic ch => exact hp.elim
      | outgrown => exact hp.elim
    · rintro e W2 ⟨⟨v, rfl⟩, hi, hl, hk⟩
      exact ⟨some (.exit id), _, by have := run_endLoop (P := Try.prog) hl (by rw [hrec]; simp); rw [hrec] at this; exact this, hstop _ _ (Nat.le_refl _) (hXp _ _ _ _ (by omega) hl rfl hi) ((World.putObj_heap_other (by omega)).trans hk)⟩
end Go.Proofs.Ytejknkhahjgdnaa
namespace Go.Proofs.Ytejknkhahjgdnaa
open Go Go.RowKit Go.Shelf
attribute [local go_sem] Oper.semAt_some

def FibE (i : Int) : Int := if 0 ≤ i ∧ i ≤ 200 then 0 else 2
def FibV (i : Int) : Nat := if 0 ≤ i ∧ i ≤ 200 then fibN i.toNat else 0
def Fibs (i : Int) (w : World) (r : Ending) (w' : World) : Prop := ∃ v, r = .returned (.tuple #[v, .int .i64 (FibE i)]) ∧ NumIs w' v (FibV i) ∧ Ext w w'
theorem results_cell_slot {fn : Func} {t u : Tmp} {A : TypeId} (h : fn.results = #[.cell t A, .tmp u]) (tmps : Array Value) (w : World) {a b : Value} {p : Addr} (ht : tmps.getD t undef = .pointer (some p)) (hu : tmps.getD u undef = b)
    (hA : ∀ w : World, (isAgg A).run Try.prog w = .ok false w) (hp : w.cell? p = some a) :
    (results fn tmps).run Try.prog w = .ok (.tuple #[a, b]) w := by
  simp only [Array.getD_eq_getD_getElem?] at ht hu
  simp [results, h, ht, hu, loadVar, hA, asAddr, hp]
theorem below_putN {N : Nat} {a W : World} (h : Below N a W) (hs : N ≤ W.heap.size) {l : Nat} (hl : N ≤ l) (o : Obj) : Below N a (W.putObj l o) :=
  h.grown (grownBy_putObj' W l o) hs (fun k e => by cases e; exact hl)
def fibW (w : World) (i : Int) : World := (w.alloc (.cells #[.int .i64 i] 3)).alloc (.cells #[.slice none 0 0] 23)
theorem fibW_all (w : World) (i : Int) : Ext w (fibW w i) ∧ (fibW w i).heap.size = w.heap.size + 2 ∧ Boxed (fibW w i) w.heap.size 3 (.int .i64 i) ∧ Boxed (fibW w i) (w.heap.size + 1) 23 (.slice none 0 0) := by
  refine ⟨((Ext.refl w).alloc _).alloc _, by simp [fibW], ?_, ?_⟩ <;> unfold fibW <;> (try unfold Boxed) <;> (repeat (first | exact alloc_at _ _ _ (by simp) | rw [alloc_lt _ _ _ (by simp <;> omega)]))
set_option maxRecDepth 100000 in
set_option maxHeartbeats 2000000 in
theorem natFib_in (n : Nat) (hn : Hid (1 ≤ n)) (w : World) (i : Int) : CallsIn Fence.wide n Try.prog 56 #[.int .i64 i] w (Fibs i w) := by
  have hfn : ∀ f, Fence.wide.fn f := fun _ => trivial
  by_cases hi : 0 ≤ i ∧ i ≤ 200
  · have HE := Lib.hid (show FibE i = 0 ∧ FibV i = fibN i.toNat by unfold FibE FibV; rw [if_pos hi, if_pos hi]; exact ⟨rfl, rfl⟩)
    obtain ⟨hi0, hi1⟩ := hi
    obtain ⟨N, rfl⟩ := Int.eq_ofNat_of_zero_le hi0
    rw [Int.toNat_natCast] at HE
    refine callsIn_of_wp_marks Try.func56 rfl trivial ?_ rfl
    simp only [Try.ntmps56, List.size_toArray, List.length_cons, List.length_nil, Nat.reduceAdd, Nat.reduceSub, Array.replicate_succ, Array.replicate_zero, List.push_toArray, List.append_toArray, List.nil_append, List.cons_append]
    gi_wp2_with fail
    refine ⟨wide_room _, (callsIn_wide.2 (fibs_any _)).mono ?_⟩
    rintro e w1 ⟨rfl, rfl⟩
    gi_wp2_with fail
    change Code.wpIn _ _ _ _ _ _ (fibW w N)
    obtain ⟨hE, hsz, hbx, hbo⟩ := fibW_all w N
    have HN := Lib.hid (show N ≤ 200 by omega)
    generalize fibW w N = W0 at *
    have HSZ := Lib.hid hsz
    have HBX := Lib.hid hbx
    have HBO := Lib.hid hbo
    have HEX := Lib.hid hE
    clear hbx hbo hE hsz
    refine range_fibs (N := N) (id := 0) hn.out HN.out rfl (fun W => Boxed W w.heap.size 3 (.int .i64 N) ∧ Boxed W (w.heap.size + 1) 23 (.slice none 0 0) ∧ Below w.heap.size W0 W)
      (fun W => ∃ a l c, Boxed W (w.heap.size + 1) 23 (.slice a l c) ∧ NumIs W (.slice a l c) (fibN N) ∧ Below w.heap.size W0 W)
      (fun W W' hs ⟨i1, i2, i3⟩ hE => ⟨hE.get i1, hE.get i2, i3.trans (RowKit.Below.mono hE (by have := HSZ.out; omega))⟩) ?put ?putx ⟨HBX.out, HBO.out, RowKit.Below.refl _ _⟩
      (fun k v => { tmps := #[Value.int IntKind.i64 N, Value.pointer (some { block := w.heap.size, off := 0 }), Value.pointer (some { block := w.heap.size + 1, off := 0 }), Value.int IntKind.i64 0, Value.int IntKind.i64 k, v,
                Value.int IntKind.i64 N, Value.bool (decide ((N : Int) < 0)), Value.bool (decide ((N : Int) < 0)), Value.int IntKind.i64 N, Value.bool (decide (200 < (N : Int))),
                Value.bool (decide ((N : Int) < 0) || decide (200 < (N : Int))), Value.func (Fn.func 96) #[] #[], Value.int IntKind.i64 k, v, undef, undef, undef, undef, undef], defers := [] }) ?assign ?body ?stop
    case put =>
      rintro W l o o' hl ho hc ⟨i1, i2, i3⟩
      have h0 := (Array.getElem?_eq_some_iff.1 ho).1
      exact ⟨i1.kept (grownBy_putObj' _ l _) (by have := HSZ.out; simp; omega), i2.kept (grownBy_putObj' _ l _) (by have := HSZ.out; simp; omega), below_putN i3 (by have := HSZ.out; omega) (by have := HSZ.out; omega) _⟩
    case putx =>
      rintro W l o o' hl ho hc ⟨a, ln, c, i1, i2, i3⟩
      have h0 := (Array.getElem?_eq_some_iff.1 ho).1
      exact ⟨a, ln, c, i1.kept (grownBy_putObj' _ l _) (by have := HSZ.out; simp; omega), i2.kn (Keep.putObj _ _ _ _ ho hc), below_putN i3 (by have := HSZ.out; omega) (by have := HSZ.out; omega) _⟩
    case assign =>
      intro m l k v W K hK
      gi_wp2
      exact hK
    case body =>
      rintro m l k v W hk hs ⟨i1, i2, i3⟩ hv
      obtain ⟨a, ln, c, rfl⟩ : ∃ a ln c, v = .slice a ln c := by
        obtain ⟨xs, g1, _⟩ := hv
        obtain ⟨a, c, e⟩ := g1.slice
        exact ⟨a, _, c, e⟩
      have HV := Lib.hid hv
      have HI := Lib.hid (And.intro i1 (And.intro i2 i3))
      have hc1 := i1.cell
      have hc2 := i2.cell
      have hf2 := i2.frozen
      clear hv i1 i2 i3
      by_cases e : k = N
      · subst e
        gi_wp2
        refine ⟨rfl, rfl, keepsFrom_set _ _ _, a, ln, c, HI.out.2.1.set _, HV.out.box HI.out.2.1 (fun k m e => by cases e), ?_⟩
        exact HI.out.2.2.setCell (p := ⟨w.heap.size + 1, 0, none⟩) (Nat.le_succ _) _
      · have e' : ¬ (k : Int) = (N : Int) := by omega
        have HX := Lib.hid e
        clear e
        gi_wp2
        exact ⟨by first | rfl | exact decide_eq_false HX.out, KeepsFrom.refl _ _, Keep.refl _ _, HI.out⟩
    case stop =>
      rintro D W hD ⟨a, ln, c, i1, i2, i3⟩ hK
      have HI := Lib.hid (And.intro i1 (And.intro i2 (And.intro i3 (And.intro hD hK))))
      have hc2 := i1.cell
      have hf2 := i1.frozen
      clear i1 i2 i3 hD hK
      gi_wp2_with fail
      have f1 : (W.setCell ⟨w.heap.size + 1, 0, none⟩ (.slice a ln c)).heap[D]? = some (.deferred (some [])) := (KeepsOthers.setCell _ _ _).same D _ HI.out.2.2.2.2 rfl
      have hD := HI.out.2.2.2.1
      have hs := HSZ.out
      have f2 := (HI.out.1.set (.slice a ln c)).kept (grownBy_putObj' _ D (.deferred none)) (by simp; omega)
      have f3 : NumIs ((W.setCell ⟨w.heap.size + 1, 0, none⟩ (.slice a ln c)).putObj D (.deferred none)) (.slice a ln c) (fibN N) := (HI.out.2.1.box HI.out.1 (fun k m e => by cases e)).kn (Keep.putObj _ _ _ _ f1 rfl)
      have hB : Below w.heap.size w W0 := HEX.out
      have hB2 := (hB.trans HI.out.2.2.1).setCell (p := ⟨w.heap.size + 1, 0, none⟩) (Nat.le_succ _) (.slice a ln c)
      refine ⟨by simp, .inl ⟨_, _, rfl, run_takeDeferred f1, ?_⟩⟩
      exact ⟨_, results_cell_slot rfl _ _ rfl rfl (fun _ => by kernel_rfl) f2.cell, .slice a ln c, by rw [HE.out.1]; rfl, by rw [HE.out.2]; exact f3, below_putN hB2 (Below.size hB2) (by omega) _⟩
  · have HE := Lib.hid (show FibE i = 2 ∧ FibV i = 0 by unfold FibE FibV; rw [if_neg hi, if_neg hi]; exact ⟨rfl, rfl⟩)
    by_cases e0 : i < 0
    · clear hi
      refine callsIn_of_wp_marks Try.func56 rfl trivial ?_ rfl
      simp only [Try.ntmps56, List.size_toArray, List.length_cons, List.length_nil, Nat.reduceAdd, Nat.reduceSub, Array.replicate_succ, Array.replicate_zero, List.push_toArray, List.append_toArray, List.nil_append, List.cons_append]
      gi_wp2_with fail
      exact ⟨_, results_cell_slot rfl _ _ rfl rfl (fun _ => by kernel_rfl) (fibW_all w i).2.2.2.cell, .slice none 0 0, by rw [HE.out.1]; rfl, by rw [HE.out.2]; exact num_nil _ _ _, (fibW_all w i).1⟩
    · have e1 : 200 < i := by omega
      clear hi
      refine callsIn_of_wp_marks Try.func56 rfl trivial ?_ rfl
      simp only [Try.ntmps56, List.size_toArray, List.length_cons, List.length_nil, Nat.reduceAdd, Nat.reduceSub, Array.replicate_succ, Array.replicate_zero, List.push_toArray, List.append_toArray, List.nil_append, List.cons_append]
      gi_wp2_with fail
      exact ⟨_, results_cell_slot rfl _ _ rfl rfl (fun _ => by kernel_rfl) (fibW_all w i).2.2.2.cell, .slice none 0 0, by rw [HE.out.1]; rfl, by rw [HE.out.2]; exact num_nil _ _ _, (fibW_all w i).1⟩
/-- **nat.Fib**, at any place. -/
theorem natFib_any (w : World) (i : Int) : Calls Try.prog 56 #[.int .i64 i] w (Fibs i w) := callsIn_wide.1 (natFib_in 1 (Lib.hid (Nat.le_refl 1)) w i)
end Go.Proofs.Ytejknkhahjgdnaa
namespace Go.Proofs.Ytejknkhahjgdnaa
open Go Go.RowKit

theorem may_of {xs : List Nat} {n : Nat} (h : Norm xs) (e : nval xs = n) (hn : n < beta ^ 128) : mayN xs = true := (mayN_norm h.1).2 ⟨h, (norm_len h 128).2 (by rw [e]; exact hn)⟩
theorem natMay_num (w : World) (p : Value) (n : Nat) (hp : NumIs w p n) (hn : n < beta ^ 128) : Calls Try.prog 33 #[p] w (Ret (.bool true) w) := by
  obtain ⟨xs, h1, h2, h3⟩ := hp
  have := natMay_any w p xs h1
  rwa [may_of h2 h3 hn] at this
theorem natAdd_num (w : World) (p q : Value) (a b : Nat) (hp : NumIs w p a) (hq : NumIs w q b) (ha : a < beta ^ 128) (hb : b < beta ^ 128) : Calls Try.prog 57 #[p, q] w (Fits (a + b) w) := by
  obtain ⟨xs, h1, h2, h3⟩ := hp
  obtain ⟨ys, g1, g2, g3⟩ := hq
  refine (natAddE_any w p q xs ys h1 g1 h2.1 g2.1).mono ?_
  rintro e w1 ⟨v, rfl, h, hE⟩
  have m1 := may_of h2 h3 ha
  have m2 := may_of g2 g3 hb
  rw [h3, g3] at h ⊢
  unfold SumE SumN at *
  simp only [m1, m2, Bool.and_self, if_true] at h ⊢
  exact ⟨v, rfl, h, hE⟩
theorem natCmp_num (w : World) (p q : Value) (a b : Nat) (hp : NumIs w p a) (hq : NumIs w q b) (ha : a < beta ^ 128) (hb : b < beta ^ 128) : Calls Try.prog 16 #[p, q] w (Ret (.int .i64 (cmpV a b)) w) := by
  obtain ⟨xs, h1, h2, h3⟩ := hp
  obtain ⟨ys, g1, g2, g3⟩ := hq
  have h := natCmp_any w p q xs ys h1 g1 h2.1 g2.1
  unfold CmpR at h
  rw [may_of h2 h3 ha, may_of g2 g3 hb, h3, g3] at h
  exact h
theorem natText_num (w : World) (p : Value) (a : Nat) (hp : NumIs w p a) (ha : a < beta ^ 128) : Calls Try.prog 59 #[p] w (Ret (.string (textOf a)) w) := by
  obtain ⟨xs, h1, h2, h3⟩ := hp
  have h := natText_any w p xs h1 h2.1
  unfold TextV at h
  rw [may_of h2 h3 ha, h3] at h
  exact h
theorem text0 : textOf 0 = ⟨#[48]⟩ := by decide +kernel
theorem text1 : textOf (fibN 10) = ⟨#[53, 53]⟩ := by decide +kernel
theorem text2 : textOf (2 ^ 100) = ⟨#[49, 50, 54, 55, 54, 53, 48, 54, 48, 48, 50, 50, 56, 50, 50, 57, 52, 48, 49, 52, 57, 54, 55, 48, 51, 50, 48, 53, 51, 55, 54]⟩ := by decide +kernel
theorem fit_of {n : Nat} (h : n < beta ^ 128) : fitE n = 0 ∧ fitN n = n := by unfold fitE fitN; rw [if_pos h, if_pos h]; exact ⟨rfl, rfl⟩
theorem fit1 : fitE (18446744073709551615 + 1) = 0 ∧ fitN (18446744073709551615 + 1) = 18446744073709551616 := fit_of (by decide +kernel)
theorem fit2 : fitE (2 ^ 100) = 0 ∧ fitN (2 ^ 100) = 2 ^ 100 := fit_of (by decide +kernel)
theorem fit3 : fitE (9223372036854775808 ^ 66) = 5 := by unfold fitE; exact if_neg (by decide +kernel)
theorem alive_lits (w : World) : NumIs (w.alloc (.cells #[.int .u32 0, .int .u32 1] 34)) (.slice (some ⟨w.heap.size, 0, none⟩) 2 2) 4294967296 ∧
    NumIs (w.alloc (.cells #[.int .u32 0, .int .u32 0, .int .u32 1] 34)) (.slice (some ⟨w.heap.size, 0, none⟩) 3 3) 18446744073709551616 := by
  refine ⟨⟨[0, 1], UBlk.row (alloc_at w _ _ rfl) 2 (by decide), ⟨?_, by decide⟩, by decide⟩, ⟨[0, 0, 1], UBlk.row (alloc_at w _ _ rfl) 3 (by decide), ⟨?_, by decide⟩, by decide⟩⟩ <;> (intro d hd; simp at hd; rcases hd with rfl | rfl <;> decide)
end Go.Proofs.Ytejknkhahjgdnaa
namespace Go.Proofs.Ytejknkhahjgdnaa
open Go Go.RowKit Go.Shelf
attribute [local go_sem] Oper.semAt_some

/-- the row of weights. -/
def wrow : Nat → Nat
  | 0 => 1
  | h + 1 => wrow h + (29 * wrow h + 70) / 71
theorem wrow_alt (h : Nat) : wrow (h + 1) = (100 * wrow h + 70) / 71 := by rw [wrow]; omega
theorem wrow_all : ∀ k, k < 103 → wrow k < 10000000000000000 := by decide +kernel
theorem wrow_lt {k : Nat} (h : k ≤ 102) : wrow k < 10000000000000000 := wrow_all k (by omega)
theorem wrow_pos : ∀ k, 1 ≤ wrow k
  | 0 => Nat.le_refl 1
  | k + 1 => by rw [wrow]; have := wrow_pos k; omega
set_option maxRecDepth 100000 in
set_option maxHeartbeats 2000000 in
theorem weights1_in (l N : Nat) (J Jx : World → Prop) (hN : Hid (N ≤ 101))
    (hY : ∀ m k W, k < N → J W → YieldAt Fence.wide m Try.prog l #[.int .i64 (k : Nat), .int .u64 (wrow k : Nat)] W fun e W' => e = .returned (.bool true) ∧ J W' ∧ KN W W')
    (hYx : ∀ m W, J W → YieldAt Fence.wide m Try.prog l #[.int .i64 (N : Nat), .int .u64 (wrow N : Nat)] W fun e W' => e = .returned (.bool false) ∧ Jx W') (n : Nat) (W : World) (hJ : J W) :
    CallsIn Fence.wide n Try.prog 95 #[.func (.yield l) #[] #[]] W fun e W' => (∃ v, e = .returned v) ∧ Jx W' := by
  have hfn : ∀ f, Fence.wide.fn f := fun _ => trivial
  have HY := Lib.hid hY
  have HYX := Lib.hid hYx
  have HJ := Lib.hid hJ
  clear hY hYx hJ
  refine callsIn_of_wp Try.func95 rfl trivial ?_ rfl
  simp only [Try.ntmps95, List.size_toArray, List.length_cons, List.length_nil, Nat.reduceAdd, Nat.reduceSub, Array.replicate_succ, Array.replicate_zero, List.push_toArray, List.append_toArray, List.nil_append, List.cons_append]
  gi_wp2_with fail
  gi_loopw [2, 3] (fun a i W => ∃ k : Nat, i = .int .i64 (k : Nat) ∧ a = .int .u64 (wrow k : Nat) ∧ Hid (k ≤ N ∧ J W)) (fun _ i _ => N - (intOf i).toNat)
  case atStart => exact ⟨0, rfl, rfl, Lib.hid ⟨Nat.zero_le _, HJ.out⟩⟩
  case round =>
    obtain ⟨k, rfl, rfl, HH⟩ := hrel
    by_cases hk : k < N
    · have HK := Lib.hid hk
      have hkn : k < 101 := Nat.lt_of_lt_of_le hk hN.out
      have HW := Lib.hid (wrow_lt (k := k) (by omega))
      have HS := Lib.hid (show wrow (k + 1) = wrow k + (29 * wrow k + 70) / 71 from rfl)
      obtain ⟨fn, tmps, assign, body, hy1, hR⟩ := HY.out n k wr hk HH.out.2
      have HR := Lib.hid hR
      generalize wrow k = a at *
      clear hR hk hkn
      gi_wp2_with fail
      clear hy1
      refine ⟨wide_room _, (RoundIn.any HR.out).mono ?_⟩
      rintro e W3 ⟨rfl, hJ3, hk3⟩
      have hkn : k < 101 := Nat.lt_of_lt_of_le HK.out hN.out
      have HJ3 := Lib.hid hJ3
      have ha : a < 10000000000000000 := HW.out
      clear hJ3 hk3
      gi_wp2
      go_roundw
      case rel => exact ⟨k + 1, by go_num, by rw [HS.out]; rfl, Lib.hid ⟨HK.out, HJ3.out⟩⟩
      case measure => exact meas_s HK.out
    · obtain rfl : k = N := Nat.le_antisymm HH.out.1 (Nat.le_of_not_lt hk)
      clear hk
      obtain ⟨fn, tmps, assign, body, hy1, hR⟩ := HYX.out n wr HH.out.2
      have HR := Lib.hid hR
      clear hR
      gi_wp2_with fail
      clear hy1
      refine ⟨wide_room _, (RoundIn.any HR.out).mono ?_⟩
      rintro e W3 ⟨rfl, hJ3⟩
      gi_wp2
      go_end0
      exact ⟨⟨_, rfl⟩, hJ3⟩
theorem weights_any (w : World) : Calls Try.prog 73 #[] w fun e w' => e = .returned (.func (.func 95) #[] #[]) ∧ w' = w := by
  go_enter Try.func73, Try.ntmps73
  go_wp2
  go_ret
  exact ⟨rfl, rfl⟩
/-- a round over weights: it goes on without turning a cell, or it leaves the function. -/
def wrowPost (B : Nat) (I Ix : World → Prop) (last : Bool) (W : World) : Exit → Act → World → Prop
  | .normal, _, W' => last = false ∧ KeepsFrom B W W' ∧ KN W W' ∧ I W'
  | .ret, _, W' => last = true ∧ KeepsFrom B W W' ∧ Ix W'
  | _, _, _ => False
set_option maxHeartbeats 1000000 in
/-- **for h, w := range weights() { .. }**, whose round number N leaves the function. -/
theorem range_weights {g : Operand} {p q : Tmp} {assign body : Code} {N n : Nat} {Q : Exit → Act → World → Prop} {a : Act} {w : World} (h1 : 1 ≤ n) (hN : N ≤ 101) (hg : a.eval g = .func (.func 95) #[] #[]) (I Ix : World → Prop)
    (hIE : ∀ W W', w.heap.size ≤ W.heap.size → I W → Ext W W' → I W') (hIp : ∀ W l o o', w.heap.size ≤ l → W.heap[l]? = some o → o.isCells = false → I W → I (W.putObj l o')) (hXp : ∀ W l o o', w.heap.size ≤ l → W.heap[l]? = some o → o.isCells = false → Ix W → Ix (W.putObj l o'))
    (h0 : I w) (a₁ : Nat → Act)
    (hassign : ∀ (m l k : Nat) (W : World) (K : Act → World → Prop), K (a₁ k) W → assign.wpIn (Fence.wide.inRound l) m Try.prog (Exit.then K (fun _ _ _ => False)) { tmps := ((#[p, q] : Array Tmp).zip (#[.int .i64 (k : Nat), .int .u64 (wrow k : Nat)] : Array Value)).foldl (fun t (p, v) => t.setIfInBounds p v) a.tmps, defers := [] } W)
    (hbody : ∀ (m l k : Nat) (W : World), k ≤ N → w.heap.size ≤ W.heap.size → I W → body.wpIn (Fence.wide.inRound l) m Try.prog (wrowPost w.heap.size I Ix (decide (k = N)) W) (a₁ k) W)
    (hstop : ∀ (D : Nat) (W : World), w.heap.size ≤ D → Ix W → W.heap[D]? = some (.deferred (some [])) → (Code.ret).wpIn Fence.wide n Try.prog Q { a with defers := { target := .collected D, args := #[] } :: a.defers } W) :
    (Code.rangeFunc g #[p, q] assign body).wpIn Fence.wide n Try.prog Q a w := by
  refine wpIn_rangeFunc ?_
  intro fn hfn
  rw [show Fence.wide.round = none from rfl]
  obtain ⟨rec, hrec⟩ : ∃ rec : LoopState → Option Code → Loop, rec = fun st pe => { state := st, pending := pe, fn, tmps := a.tmps, params := #[p, q], assign, body, defers := w.heap.size } := ⟨_, rfl⟩
  obtain ⟨W1, hW1⟩ : ∃ W1, (w.alloc (.deferred (some []))).alloc (.loop (rec .ready none)) = W1 := ⟨_, rfl⟩
  have hE1 : Ext w W1 := by rw [← hW1]; exact ((Ext.refl w).alloc _).alloc _
  have hL1 : W1.heap[w.heap.size + 1]? = some (.loop (rec .ready none)) := by rw [← hW1]; exact alloc_at _ _ _ (by simp)
  have hK1 : W1.heap[w.heap.size]? = some (.deferred (some [])) := by rw [← hW1, alloc_lt _ _ _ (by simp)]; exact alloc_at _ _ _ rfl
  have hI1 : I W1 := hIE _ _ (Nat.le_refl _) h0 hE1
  refine ⟨w.heap.size + 1, [{ target := .collected w.heap.size, args := #[] }], W1, { target := .fn (.func 95) #[], args := #[.func (.yield (w.heap.size + 1)) #[] #[]] }, W1, 95,
    #[.func (.yield (w.heap.size + 1)) #[] #[]], W1, ?_, ?_, ?_, ?_, fun _ => h1, ?_⟩
  · rw [← hW1, hrec]; exact run_enterLoop_outer _ _ _ _ _
  · simp only [resolve, hg]
    simp [go_sem]
  · intro f' _; trivial
  · kernel_rfl
  · have fin : ∀ (W W3 : World) (jump : Option Code), W.heap[w.heap.size + 1]? = some (.loop (rec .ready none)) → W.heap[w.heap.size]? = some (.deferred (some [])) → KeepsFrom w.heap.size (W.putObj (w.heap.size + 1) (.loop { rec .ready none with state := .busy })) W3 →
        (Instr.endRound (w.heap.size + 1) jump).run Try.prog W3 = .ok (.bool jump.isNone) (W3.putObj (w.heap.size + 1) (.loop (rec (if jump.isNone then .ready else .done) jump))) ∧
        W3.heap[w.heap.size + 1]? = some (.loop { rec .ready none with state := .busy }) ∧
        (W3.putObj (w.heap.size + 1) (.loop (rec (if jump.isNone then .ready else .done) jump))).heap[w.heap.size + 1]? = some (.loop (rec (if jump.isNone then .ready else .done) jump)) ∧
        (W3.putObj (w.heap.size + 1) (.loop (rec (if jump.isNone then .ready else .done) jump))).heap[w.heap.size]? = some (.deferred (some [])) := fun W W3 jump hl hk hk3 => by
      have hl2 : (W.putObj (w.heap.size + 1) (.loop { rec .ready none with state := .busy })).heap[w.heap.size + 1]? = some (.loop { rec .ready none with state := .busy }) := World.putObj_heap_same (Array.getElem?_eq_some_iff.1 hl).1
      have hk2 : (W.putObj (w.heap.size + 1) (.loop { rec .ready none with state := .busy })).heap[w.heap.size]? = some (.deferred (some [])) := (World.putObj_heap_other (by omega)).trans hk
      have hl3 := hk3.same _ _ (by omega) hl2 rfl
      have := run_endRound (P := Try.prog) jump hl3
      rw [hrec] at this ⊢
      exact ⟨this, by rw [hrec] at hl3; exact hl3, World.putObj_heap_same (Array.getElem?_eq_some_iff.1 hl3).1, (World.putObj_heap_other (by omega)).trans (hk3.same _ _ (Nat.le_refl _) hk2 rfl)⟩
    refine (weights1_in (w.heap.size + 1) N (fun W => I W ∧ W.heap[w.heap.size + 1]? = some (.loop (rec .ready none)) ∧ W.heap[w.heap.size]? = some (.deferred (some [])))
      (fun W => Ix W ∧ W.heap[w.heap.size + 1]? = some (.loop (rec .done (some .ret))) ∧ W.heap[w.heap.size]? = some (.deferred (some [])))
      (Lib.hid hN) ?_ ?_ (n - 1) W1 ⟨hI1, hL1, hK1⟩).mono ?_
    · rintro m k W hk ⟨hi, hl, hd⟩
      have hlt : w.heap.size + 1 < W.heap.size := (Array.getElem?_eq_some_iff.1 hl).1
      have hy := run_yield (P := Try.prog) (args := #[.int .i64 (k : Nat), .int .u64 (wrow k : Nat)]) hl (by rw [hrec]; rfl)
      rw [hrec] at hy
      refine ⟨fn, _, assign, body, hy, roundIn_of_wpIn hfn (hassign _ _ k W _ ?_)⟩
      clear hy
      refine ⟨_, run_beginRound hl (by rw [hrec]), ?_⟩
      have hK2 : KN W (W.putObj (w.heap.size + 1) (.loop { rec .ready none with state := .busy })) := Keep.putObj _ _ _ _ hl rfl
      refine wpIn_mono (hbody _ _ k _ (Nat.le_of_lt hk) (by simp; omega) (hIp _ _ _ _ (by omega) hl rfl hi)) ?_
      rintro e a3 W3 hp
      cases e with
      | normal =>
        obtain ⟨-, hk3, hkn, hi3⟩ := hp
        obtain ⟨hr, hl3, hl4, hk4⟩ := fin W W3 none hl hd hk3
        exact ⟨_, _, hr, rfl, ⟨hIp _ _ _ _ (by omega) hl3 rfl hi3, hl4, hk4⟩, (hK2.trans hkn).trans (Keep.putObj _ _ _ _ hl3 rfl)⟩
      | exit i => exact hp.elim
      | ret => exact absurd (of_decide_eq_true hp.1) (Nat.ne_of_lt hk)
      | goto t => exact hp.elim
      | panic ch => exact hp.elim
      | outgrown => exact hp.elim
    · rintro m W ⟨hi, hl, hd⟩
      have hlt : w.heap.size + 1 < W.heap.size := (Array.getElem?_eq_some_iff.1 hl).1
      have hy := run_yield (P := Try.prog) (args := #[.int .i64 (N : Nat), .int .u64 (wrow N : Nat)]) hl (by rw [hrec]; rfl)
      rw [hrec] at hy
      refine ⟨fn, _, assign, body, hy, roundIn_of_wpIn hfn (hassign _ _ N W _ ?_)⟩
      clear hy
      refine ⟨_, run_beginRound hl (by rw [hrec]), ?_⟩
      refine wpIn_mono (hbody _ _ N _ (Nat.le_refl _) (by simp; omega) (hIp _ _ _ _ (by omega) hl rfl hi)) ?_
      rintro e a3 W3 hp
      cases e with
      | normal => exact absurd hp.1 (by simp)
      | ret =>
        obtain ⟨-, hk3, hi3⟩ := hp
        obtain ⟨hr, hl3, hl4, hk4⟩ := fin W W3 (some .ret) hl hd hk3
        exact ⟨_, _, hr, rfl, hXp _ _ _ _ (by omega) hl3 rfl hi3, hl4, hk4⟩
      | exit i => exact hp.elim
      | goto t => exact hp.elim
      | panic ch => exact hp.elim
      | outgrown => exact hp.elim
    · rintro e W2 ⟨⟨v, rfl⟩, hi, hl, hk⟩
      exact ⟨some .ret, _, by have := run_endLoop (P := Try.prog) hl (by rw [hrec]; simp); rw [hrec] at this; exact this, hstop _ _ (Nat.le_refl _) (hXp _ _ _ _ (by omega) hl rfl hi) ((World.putObj_heap_other (by omega)).trans hk)⟩
theorem results_cell1 {fn : Func} {t : Tmp} {A : TypeId} (h : fn.results = #[.cell t A]) (tmps : Array Value) (w : World) {a : Value} {p : Addr} (ht : tmps.getD t undef = .pointer (some p))
    (hA : ∀ w : World, (isAgg A).run Try.prog w = .ok false w) (hp : w.cell? p = some a) :
    (results fn tmps).run Try.prog w = .ok a w := by
  simp only [Array.getD_eq_getD_getElem?] at ht
  simp [results, h, ht, loadVar, hA, asAddr, hp]
/-- what weight lays into memory. -/
def wrowW (w : World) (i : Int) : World := (w.alloc (.cells #[.int .i64 i] 3)).alloc (.cells #[.int .u64 0] 37)
theorem wrowW_all (w : World) (i : Int) : Ext w (wrowW w i) ∧ (wrowW w i).heap.size = w.heap.size + 2 ∧ Boxed (wrowW w i) w.heap.size 3 (.int .i64 i) ∧ Boxed (wrowW w i) (w.heap.size + 1) 37 (.int .u64 0) := by
  refine ⟨((Ext.refl w).alloc _).alloc _, by simp [wrowW], ?_, ?_⟩ <;> unfold wrowW <;> (try unfold Boxed) <;> (repeat (first | exact alloc_at _ _ _ (by simp) | rw [alloc_lt _ _ _ (by simp <;> omega)]))
set_option maxRecDepth 100000 in
set_option maxHeartbeats 2000000 in
theorem weight_in (n : Nat) (hn : Hid (1 ≤ n)) (w : World) (N : Nat) (hN0 : N ≤ 101) : CallsIn Fence.wide n Try.prog 54 #[.int .i64 (N : Nat)] w (Ret (.int .u64 (wrow N : Nat)) w) := by
  have hfn : ∀ f, Fence.wide.fn f := fun _ => trivial
  have HN := Lib.hid hN0
  clear hN0
  refine callsIn_of_wp_marks Try.func54 rfl trivial ?_ rfl
  simp only [Try.ntmps54, List.size_toArray, List.length_cons, List.length_nil, Nat.reduceAdd, Nat.reduceSub, Array.replicate_succ, Array.replicate_zero, List.push_toArray, List.append_toArray, List.nil_append, List.cons_append]
  gi_wp2_with fail
  refine ⟨wide_room _, (callsIn_wide.2 (weights_any _)).mono ?_⟩
  rintro e w1 ⟨rfl, rfl⟩
  gi_wp2_with fail
  change Code.wpIn _ _ _ _ _ _ (wrowW w N)
  obtain ⟨hE, hsz, hbx, hbo⟩ := wrowW_all w N
  generalize wrowW w N = W0 at *
  have HSZ := Lib.hid hsz
  have HBX := Lib.hid hbx
  have HBO := Lib.hid hbo
  have HEX := Lib.hid hE
  clear hbx hbo hE hsz
  refine range_weights (N := N) hn.out HN.out rfl (fun W => Boxed W w.heap.size 3 (.int .i64 N) ∧ Boxed W (w.heap.size + 1) 37 (.int .u64 0) ∧ Below w.heap.size W0 W)
    (fun W => Boxed W (w.heap.size + 1) 37 (.int .u64 (wrow N : Nat)) ∧ Below w.heap.size W0 W)
    (fun W W' hs ⟨i1, i2, i3⟩ hE => ⟨hE.get i1, hE.get i2, i3.trans (RowKit.Below.mono hE (by have := HSZ.out; omega))⟩) ?put ?putx ⟨HBX.out, HBO.out, RowKit.Below.refl _ _⟩
    (fun k => { tmps := #[Value.int IntKind.i64 N, Value.pointer (some { block := w.heap.size, off := 0 }), Value.pointer (some { block := w.heap.size + 1, off := 0 }), Value.int IntKind.i64 k, Value.int IntKind.u64 (wrow k : Nat),
              Value.func (Fn.func 95) #[] #[], Value.int IntKind.i64 k, Value.int IntKind.u64 (wrow k : Nat), undef, undef, undef, undef], defers := [] }) ?assign ?body ?stop
  case put =>
    rintro W l o o' hl ho hc ⟨i1, i2, i3⟩
    have h0 := (Array.getElem?_eq_some_iff.1 ho).1
    exact ⟨i1.kept (grownBy_putObj' _ l _) (by have := HSZ.out; simp; omega), i2.kept (grownBy_putObj' _ l _) (by have := HSZ.out; simp; omega), below_putN i3 (by have := HSZ.out; omega) (by have := HSZ.out; omega) _⟩
  case putx =>
    rintro W l o o' hl ho hc ⟨i2, i3⟩
    have h0 := (Array.getElem?_eq_some_iff.1 ho).1
    exact ⟨i2.kept (grownBy_putObj' _ l _) (by have := HSZ.out; simp; omega), below_putN i3 (by have := HSZ.out; omega) (by have := HSZ.out; omega) _⟩
  case assign =>
    intro m l k W K hK
    gi_wp2
    exact hK
  case body =>
    rintro m l k W hk hs ⟨i1, i2, i3⟩
    have HI := Lib.hid (And.intro i1 (And.intro i2 i3))
    have hc1 := i1.cell
    have hc2 := i2.cell
    have hf2 := i2.frozen
    clear i1 i2 i3
    by_cases e : k = N
    · subst e
      gi_wp2
      refine ⟨rfl, keepsFrom_set _ _ _, HI.out.2.1.set _, ?_⟩
      exact HI.out.2.2.setCell (p := ⟨w.heap.size + 1, 0, none⟩) (Nat.le_succ _) _
    · have e' : ¬ (k : Int) = (N : Int) := by omega
      have HX := Lib.hid e
      clear e
      gi_wp2
      exact ⟨by first | rfl | exact decide_eq_false HX.out, KeepsFrom.refl _ _, Keep.refl _ _, HI.out⟩
  case stop =>
    rintro D W hD ⟨i1, i3⟩ hK
    have HI := Lib.hid (And.intro i1 (And.intro i3 (And.intro hD hK)))
    clear i1 i3 hD hK
    gi_wp2_with fail
    have hD := HI.out.2.2.1
    have hs := HSZ.out
    have f2 := HI.out.1.kept (grownBy_putObj' _ D (.deferred none)) (by simp; omega)
    have hB : Below w.heap.size w W0 := HEX.out
    have hB2 := hB.trans HI.out.2.1
    refine ⟨by simp, .inl ⟨_, _, rfl, run_takeDeferred HI.out.2.2.2, ?_⟩⟩
    exact ⟨_, results_cell1 rfl _ _ rfl (fun _ => by kernel_rfl) f2.cell, rfl, below_putN hB2 (Below.size hB2) (by omega) _⟩
/-- **bound.weight**. -/
theorem weight_any (w : World) (N : Nat) (hN : N ≤ 101) : Calls Try.prog 54 #[.int .i64 (N : Nat)] w (Ret (.int .u64 (wrow N : Nat)) w) := callsIn_wide.1 (weight_in 1 (Lib.hid (Nat.le_refl 1)) w N hN)
set_option maxHeartbeats 1000000 in
theorem weight34_any (w : World) (N : Nat) (hN : N ≤ 101) : Calls Try.prog 32 #[.int .i64 (N : Nat)] w (Ret (.int .u64 (wrow N : Nat)) w) := by
  have HN := Lib.hid hN
  go_enter Try.func32, Try.ntmps32
  go_wp2
  go_loop [3, 4] (fun a i => ∃ k : Nat, i = .int .i64 (k : Nat) ∧ a = .int .u64 (wrow k : Nat) ∧ Hid (k ≤ N)) (fun _ i => N - (intOf i).toNat)
  case atStart => exact ⟨0, rfl, rfl, Lib.hid (Nat.zero_le _)⟩
  case round =>
    obtain ⟨k, rfl, rfl, HH⟩ := hrel
    by_cases hk : k < N
    · have HK := Lib.hid hk
      have hkn : k < 101 := Nat.lt_of_lt_of_le hk HN.out
      have ha := wrow_lt (k := k) (by omega)
      have HS := Lib.hid (wrow_alt k)
      generalize wrow k = a at *
      go_wp2
      go_round
      case rel => exact ⟨k + 1, by go_num, by rw [HS.out]; rfl, Lib.hid HK.out⟩
      case measure => exact meas_s HK.out
    · obtain rfl : k = N := Nat.le_antisymm HH.out (Nat.le_of_not_lt hk)
      go_wp2
      go_ret
      exact Ret.mk (Ext.refl _)
end Go.Proofs.Ytejknkhahjgdnaa
namespace Go.Proofs.Ytejknkhahjgdnaa
open Go Go.RowKit

theorem put_u8 {P : Program} (w : World) (mty kt et : TypeId) (clock : Nat) (es : Array MapEntry) (k : Int) (val : Value) (hm : P.underlying mty = some (.map kt et)) (hk : P.underlying kt = some (.int .u8))
    (hf : Instr.findNow (.int .u8) (.int .u8 k) es.toList 0 = some none) (b : Nat) (hb : w.heap.size = b) :
    (Instr.mapUpdate mty (.map (some b)) (.int .u8 k) val).run P (w.alloc (.map es clock)) = .ok () (w.alloc (.map (es.push { key := .int .u8 k, val := val, born := clock }) (clock + 1))) := by
  subst hb
  have hb : (w.alloc (.map es clock)).heap[w.heap.size]? = some (.map es clock) := by show (w.heap.push _)[w.heap.size]? = _; simp
  have hc : (Instr.checkKey false 10000 kt (.int .u8 k)).run P (w.alloc (.map es clock)) = .ok () (w.alloc (.map es clock)) := MapKept.run_checkKey hk (by simp [MapKept.IsKey]) false 9999
  have hk' : (Instr.findKey kt (.int .u8 k) es.toList).run P (w.alloc (.map es clock)) = .ok none (w.alloc (.map es clock)) := MapKept.run_findKey hk hf
  have hs : ∀ (o o' : Obj), ({ (w.alloc o) with heap := (w.alloc o).heap.setIfInBounds w.heap.size o' } : World) = w.alloc o' := fun o o' => by
    simp only [World.alloc]; congr 1; apply Array.ext_getElem?; intro i; rw [Array.getElem?_setIfInBounds, Array.getElem?_push, Array.getElem?_push]; simp; grind
  simp [Instr.mapUpdate, run_underlying hm, MapKept.run_getObj_map hb, hc, hk', MapKept.run_setObj_map _ hb, Result.andThen]
  exact hs (.map es clock) _
theorem look_u8 {P : Program} {w : World} {N : Nat} {mty kt et : TypeId} {es : Array MapEntry} {clock i : Nat} {k : Int} {v : Value} (hm : P.underlying mty = some (.map kt et)) (hk : P.underlying kt = some (.int .u8)) (hb : w.heap[N]? = some (.map es clock))
    (hf : Instr.findNow (.int .u8) (.int .u8 k) es.toList 0 = some (some (i, v))) : (Instr.lookup mty (.map (some N)) (.int .u8 k) true).run P w = .ok (.tuple #[v, .bool true]) w := by
  have hc : ∀ e, (Instr.checkKey e 10000 kt (.int .u8 k)).run P w = .ok () w := fun e => MapKept.run_checkKey hk (by simp [MapKept.IsKey]) e 9999
  have hk' : (Instr.findKey kt (.int .u8 k) es.toList).run P w = .ok (some (i, v)) w := MapKept.run_findKey hk hf
  simp [Instr.lookup, run_underlying hm, MapKept.run_getObj_map hb, hc, hk', Result.andThen]
theorem miss_u8 {P : Program} {w : World} {N : Nat} {mty kt et : TypeId} {es : Array MapEntry} {clock : Nat} {k : Int} {z : Value} (hm : P.underlying mty = some (.map kt et)) (hk : P.underlying kt = some (.int .u8)) (hb : w.heap[N]? = some (.map es clock))
    (hz : (zeroValue et).run P w = .ok z w) (hf : Instr.findNow (.int .u8) (.int .u8 k) es.toList 0 = some none) : (Instr.lookup mty (.map (some N)) (.int .u8 k) true).run P w = .ok (.tuple #[z, .bool false]) w := by
  have hc : ∀ e, (Instr.checkKey e 10000 kt (.int .u8 k)).run P w = .ok () w := fun e => MapKept.run_checkKey hk (by simp [MapKept.IsKey]) e 9999
  have hk' : (Instr.findKey kt (.int .u8 k) es.toList).run P w = .ok none w := MapKept.run_findKey hk hf
  simp [Instr.lookup, run_underlying hm, MapKept.run_getObj_map hb, hc, hk', hz, Result.andThen]
/-- the map of kinds. -/
def bkindV (m : Int) (f : Value) : Value := .agg #[.int .i64 m, f]
def kindsE (M : Int) : Array MapEntry := #[{ key := .int .u8 1, val := .agg #[.int .i64 100, .nilFunc], born := 0 }, { key := .int .u8 2, val := .agg #[.int .i64 100, .func (.func 52) #[] #[]], born := 1 },
  { key := .int .u8 3, val := .agg #[.int .i64 100, .func (.func 53) #[] #[]], born := 2 }, { key := .int .u8 4, val := .agg #[.int .i64 M, .func (.func 55) #[] #[]], born := 3 }]
set_option maxHeartbeats 1000000 in
theorem bkinds_any (w : World) (M : Int) (hM : M = 1099511627776) : Calls Try.prog 24 #[] w fun e w' => e = .returned (.map (some w.heap.size)) ∧ w' = w.alloc (.map (kindsE M) 4) := by
  have hmm := @run_makeMap Try.prog
  have hup := fun (w : World) (k : Int) (v : Value) (es : Array MapEntry) (c : Nat) (h : Instr.findNow (.int .u8) (.int .u8 k) es.toList 0 = some none) => put_u8 (P := Try.prog) w _ _ _ c es k v Try.underlying55 Try.underlying5 h
  have hf1 : ∀ d k i, Instr.findNow d k [] i = some none := fun _ _ _ => rfl
  have hf2 : ∀ (k a : Int) (v : Value) (n : Nat) (es : List MapEntry) i, (a == k) = false → Instr.findNow (.int .u8) (.int .u8 a) (⟨.int .u8 k, v, n⟩ :: es) i = Instr.findNow (.int .u8) (.int .u8 a) es (i + 1) := fun k a v n es i h => by
    simp [Instr.findNow, Instr.sameNow, h]
  go_enter Try.func24, Try.ntmps24
  rw [← hM]
  clear hM
  go_wp2_with fail
  go_ret
  trace_state
  exact ⟨rfl, rfl⟩
end Go.Proofs.Ytejknkhahjgdnaa
