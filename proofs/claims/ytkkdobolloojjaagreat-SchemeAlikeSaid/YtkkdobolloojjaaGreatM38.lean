/- joineryref22: Is, Name, Check, May, Part, Rank, Most. joineryref22: Items, Item, Has. -/
import Derived.Test.YtkkdobolloojjaaGreatM8
import Derived.Test.YtkkdobolloojjaaGreatM16
import Derived.Test.YtkkdobolloojjaaGreatM21
import Derived.Test.YtkkdobolloojjaaGreatM35
import Derived.Test.YtkkdobolloojjaaGreatM37
namespace Go.Proofs.YtkkdobolloojjaaGreat
open Go Go.RowKit

theorem fits_cnt {t : BT} {T : Tr} (h : t.fits T) : T.count = t.enc.length := BT.fits_len h
theorem is22_any (c : Nat) (w : World) : Calls Tryz.prog 25 #[.int .u8 c] w (Ret (.bool (decide (1 ≤ c ∧ c ≤ 4))) w) := by
  by_cases h1 : 1 ≤ c
  · by_cases h2 : c ≤ 4
    · rw [decide_eq_true ⟨h1, h2⟩]
      go_enter Tryz.func25, Tryz.ntmps25
      go_wp2
      go_ret
      exact ⟨ret_bool (by simp; omega), Ext.refl _⟩
    · rw [decide_eq_false (fun h => h2 h.2)]
      go_enter Tryz.func25, Tryz.ntmps25
      go_wp2
      go_ret
      exact ⟨ret_bool (by simp; omega), Ext.refl _⟩
  · rw [decide_eq_false (fun h => h1 h.1)]
    obtain rfl : c = 0 := by omega
    go_enter Tryz.func25, Tryz.ntmps25
    go_wp2
    go_ret
    exact Ret.mk (Ext.refl _)
def nm22 (c : Nat) : Array UInt8 := if 1 ≤ c ∧ c ≤ 4 then nmB c else #[]
theorem name22_any (c : Nat) (w : World) : Calls Tryz.prog 27 #[.int .u8 c] w (Ret (.string ⟨nm22 c⟩) w) := by
  by_cases h : 1 ≤ c ∧ c ≤ 4
  · rw [nm22, if_pos h]
    obtain rfl | rfl | rfl | rfl := fourC h
    all_goals
      go_enter Tryz.func27, Tryz.ntmps27
      go_wp2
      go_ret
      exact Ret.mk (Ext.refl _)
  · rw [nm22, if_neg h]
    have h1 : (c : Int) ≠ 1 := by omega
    have h2 : (c : Int) ≠ 2 := by omega
    have h3 : (c : Int) ≠ 3 := by omega
    have h4 : (c : Int) ≠ 4 := by omega
    clear h
    go_enter Tryz.func27, Tryz.ntmps27
    go_wp2
    go_ret
    exact Ret.mk (Ext.refl _)
set_option maxHeartbeats 1000000 in
theorem check22_any (c : Nat) (h4 : 1 ≤ c ∧ c ≤ 4) (t : BT) (T : Tr) (w : World) (p : Value) (hf : t.fits T) (ho : c = 2 → TagsOk T) (hb : Beads w p t.enc) (hl : t.enc.length ≤ 2000) :
    Calls Tryz.prog 29 #[.int .u8 c, p] w (Ret (.tuple #[.int .i64 (ckV c T).1, .int .i64 (ckV c T).2]) w) := by
  obtain rfl | rfl | rfl | rfl := fourC h4
  · have H := Lib.hid (check14_any t T w p hf hb hl)
    rw [show ckV 1 T = avlFirst T.pre from rfl]
    clear hf ho hb hl h4
    generalize avlFirst T.pre = F at *
    obtain ⟨F1, F2⟩ := F
    simp only at H ⊢
    go_enter Tryz.func29, Tryz.ntmps29
    go_wp2_with fail
    refine H.out.mono ?_
    rintro e w1 ⟨rfl, h1⟩
    go_wp2
    go_ret2
    exact ⟨rfl, h1⟩
  · have H := Lib.hid (check16_any t T w p hf (ho rfl) hb hl)
    rw [show ckV 2 T = rbChk T from rfl]
    clear hf ho hb hl h4
    generalize rbChk T = F at *
    obtain ⟨F1, F2⟩ := F
    simp only at H ⊢
    go_enter Tryz.func29, Tryz.ntmps29
    go_wp2_with fail
    refine H.out.mono ?_
    rintro e w1 ⟨rfl, h1⟩
    go_wp2
    go_ret2
    exact ⟨rfl, h1⟩
  · have H := Lib.hid (check18_any t T w p hf hb hl)
    rw [show ckV 3 T = firstOf wbOne T.pre from rfl]
    clear hf ho hb hl h4
    generalize firstOf wbOne T.pre = F at *
    obtain ⟨F1, F2⟩ := F
    simp only at H ⊢
    go_enter Tryz.func29, Tryz.ntmps29
    go_wp2_with fail
    refine H.out.mono ?_
    rintro e w1 ⟨rfl, h1⟩
    go_wp2
    go_ret2
    exact ⟨rfl, h1⟩
  · have H := Lib.hid (check20_any t T w p hf hb hl)
    rw [show ckV 4 T = firstOf tpOne T.pre from rfl]
    clear hf ho hb hl h4
    generalize firstOf tpOne T.pre = F at *
    obtain ⟨F1, F2⟩ := F
    simp only at H ⊢
    go_enter Tryz.func29, Tryz.ntmps29
    go_wp2_with fail
    refine H.out.mono ?_
    rintro e w1 ⟨rfl, h1⟩
    go_wp2
    go_ret2
    exact ⟨rfl, h1⟩
theorem may22_any (c : Nat) (h4 : 1 ≤ c ∧ c ≤ 4) (t : BT) (T : Tr) (w : World) (p : Value) (hf : t.fits T) (ho : c = 2 → TagsOk T) (hb : Beads w p t.enc) (hl : t.enc.length ≤ 2000) :
    Calls Tryz.prog 30 #[.int .u8 c, p] w (Ret (.bool ((ckV c T).2 == 0)) w) := by
  have H := Lib.hid (check22_any c h4 t T w p hf ho hb hl)
  clear hf ho hb hl
  generalize ckV c T = F at *
  obtain ⟨F1, F2⟩ := F
  simp only at H ⊢
  go_enter Tryz.func30, Tryz.ntmps30
  go_wp2_with fail
  refine (H.out).mono ?_
  rintro e w1 ⟨rfl, hS⟩
  go_wp2
  go_ret
  exact ⟨ret_bool rfl, hS⟩
theorem pt_ck {c : Nat} (h4 : 1 ≤ c ∧ c ≤ 4) (h2 : c ≠ 2) (T : Tr) : ((ckV c T).2 == 0) = ptV c T := by
  obtain rfl | rfl | rfl | rfl := fourC h4
  · rfl
  · exact (h2 rfl).elim
  · rfl
  · rfl
theorem part22_any (c : Nat) (h4 : 1 ≤ c ∧ c ≤ 4) (t : BT) (T : Tr) (w : World) (p : Value) (hf : t.fits T) (ho : c = 2 → TagsOk T) (hb : Beads w p t.enc) (hl : t.enc.length ≤ 2000) :
    Calls Tryz.prog 32 #[.int .u8 c, p] w (Ret (.bool (ptV c T)) w) := by
  by_cases h2 : c = 2
  · subst h2
    have H := Lib.hid (part16_any t T w p hf (ho rfl) hb hl)
    rw [show ptV 2 T = rbPart T from rfl]
    clear hf ho hb hl h4
    go_enter Tryz.func32, Tryz.ntmps32
    go_wp2_with fail
    refine (H.out).mono ?_
    rintro e w1 ⟨rfl, hS⟩
    go_wp2
    go_ret
    exact ⟨ret_bool rfl, hS⟩
  · have H := Lib.hid (may22_any c h4 t T w p hf ho hb hl)
    rw [pt_ck h4 h2] at H
    have h2' : (c : Int) ≠ 2 := by omega
    clear hf ho hb hl h2
    go_enter Tryz.func32, Tryz.ntmps32
    go_wp2_with fail
    refine (H.out).mono ?_
    rintro e w1 ⟨rfl, hS⟩
    go_wp2
    go_ret
    exact ⟨ret_bool rfl, hS⟩
set_option maxHeartbeats 1000000 in
theorem rank22_any (c : Nat) (h4 : 1 ≤ c ∧ c ≤ 4) (t : BT) (T : Tr) (w : World) (p : Value) (hf : t.fits T) (ho : c = 2 → TagsOk T) (hb : Beads w p t.enc) (hl : t.enc.length ≤ 2000) :
    Calls Tryz.prog 34 #[.int .u8 c, p] w (Ret (.int .i64 (rkV' c T)) w) := by
  obtain rfl | rfl | rfl | rfl := fourC h4
  · have H := Lib.hid (tag14_any w p t hb)
    rw [BT.fits_tag hf] at H
    rw [show rkV' 1 T = wrap64 T.tag from rfl]
    clear hf ho hb hl h4
    generalize T.tag = g at *
    go_enter Tryz.func34, Tryz.ntmps34
    go_wp2_with fail
    refine (H.out).mono ?_
    rintro e w1 ⟨rfl, hS⟩
    go_wp2
    go_ret
    exact ⟨ret_int rfl, hS⟩
  · have H := Lib.hid (rank16_any w p t T hf (ho rfl) hb (by omega))
    rw [show rkV' 2 T = wrap64 (2 * hiB T) from rfl]
    clear hf ho hb hl h4
    generalize wrap64 (2 * hiB T) = g at *
    go_enter Tryz.func34, Tryz.ntmps34
    go_wp2_with fail
    refine (H.out).mono ?_
    rintro e w1 ⟨rfl, hS⟩
    go_wp2
    go_ret
    exact ⟨ret_int rfl, hS⟩
  · have hc := fits_cnt hf
    have H := Lib.hid (rank18_any t.enc.length w (by omega))
    rw [show rkV' 3 T = ((Nat.log2 (T.count + 1) : Nat) : Int) from rfl, hc]
    obtain ⟨a, k, rfl⟩ := beads_slice hb
    clear hf ho hb hl h4 hc
    generalize t.enc.length = N at *
    generalize Nat.log2 (N + 1) = g at *
    go_enter Tryz.func34, Tryz.ntmps34
    go_wp2_with fail
    refine (H.out).mono ?_
    rintro e w1 ⟨rfl, hS⟩
    go_wp2
    go_ret
    exact ⟨ret_int rfl, hS⟩
  · rw [show rkV' 4 T = 0 from rfl]
    clear hf ho hb hl h4
    go_enter Tryz.func34, Tryz.ntmps34
    go_wp2
    go_ret
    exact Ret.mk (Ext.refl _)
def BT.rway : BT → Nat
  | .nil => 0
  | .node _ _ _ _ _ _ r => 1 + r.rway
def BT.lway : BT → Nat
  | .nil => 0
  | .node _ _ _ _ _ l _ => 1 + l.lway
theorem fits_ways : ∀ {t : BT} {T : Tr}, t.fits T → T.rway = t.rway ∧ T.lway = t.lway
  | .nil, .nil, _ => ⟨rfl, rfl⟩
  | .nil, .node .., h => h.elim
  | .node .., .nil, h => h.elim
  | .node .., .node .., h => by
    have h1 := (fits_ways h.2.2.2.1).2
    have h2 := (fits_ways h.2.2.2.2).1
    exact ⟨by rw [Tr.rway, BT.rway, h2], by rw [Tr.lway, BT.lway, h1]⟩
def BT.wayTo (left : Bool) (t : BT) : Nat := if left then t.lway else t.rway
theorem wayTo_le (x : Bool) : ∀ t : BT, t.wayTo x ≤ t.enc.length
  | .nil => by cases x <;> exact Nat.le_refl _
  | .node k v s n g l r => by
    have h1 := wayTo_le x l
    have h2 := wayTo_le x r
    cases x <;> simp [BT.wayTo, BT.rway, BT.lway, BT.enc] at h1 h2 ⊢ <;> omega
set_option maxHeartbeats 1000000 in
theorem way21_any (x : Bool) (t : BT) : ∀ (w : World) (p : Value), Beads w p t.enc → t.enc.length ≤ 2000 →
    Calls Tryz.prog 85 #[p, .bool x] w (Ret (.int .i64 (t.wayTo x : Nat)) w) := by
  induction t with
  | nil =>
    intro w p hb hl
    obtain ⟨a, c, rfl⟩ := beads_slice hb
    rw [show BT.nil.enc.length = 0 from rfl, show BT.nil.wayTo x = 0 by cases x <;> rfl]
    clear hb hl
    go_enter Tryz.func85, Tryz.ntmps85
    go_wp2
    go_ret
    exact Ret.mk (Ext.refl _)
  | node k v s n g l r ihl ihr =>
    intro w p hb hl
    have hlen : (BT.node k v s n g l r).enc.length = 1 + l.enc.length + r.enc.length := by simp [BT.enc]; omega
    have HP := Lib.hid (parts_any w p k v s n g l r hb hl)
    have h1 : 1 ≤ (BT.node k v s n g l r).enc.length := by omega
    have HLL := Lib.hid (show l.enc.length ≤ 2000 by omega)
    have HLR := Lib.hid (show r.enc.length ≤ 2000 by omega)
    have IHl := Lib.hid ihl
    have IHr := Lib.hid ihr
    have bl := Nat.le_trans (wayTo_le x l) HLL.out
    have br := Nat.le_trans (wayTo_le x r) HLR.out
    obtain ⟨a, c, rfl⟩ := beads_slice hb
    obtain ⟨X, hX⟩ : ∃ X, X = (BT.node k v s n g l r).wayTo x := ⟨_, rfl⟩
    rw [← hX]
    have HX := Lib.hid hX
    clear hb hl hlen ihl ihr hX
    generalize (BT.node k v s n g l r).enc.length = LL at *
    go_enter Tryz.func85, Tryz.ntmps85
    go_wp2_with fail
    refine (HP.out).mono ?_
    rintro e w1 ⟨v1, v2, rfl, hv1, hv2, hS⟩
    have hE2 := (Ext.refl w1).alloc (.cells #[.int .i64 k, .int .i64 v, .int .i64 s, .int .i64 n, .int .u64 g, .bool (!l.isNil), .bool (!r.isNil)] 96)
    have hx := hS.trans hE2
    have HV1 := Lib.hid (hv1.ext hE2)
    have HV2 := Lib.hid (hv2.ext hE2)
    clear hS hE2 hv1 hv2
    cases x with
    | true =>
      go_wp2_with fail
      refine (IHl.out _ v1 HV1.out HLL.out).mono ?_
      rintro e w2 ⟨rfl, h2⟩
      go_wp2
      go_ret
      exact ⟨ret_int (by rw [HX.out]; simp [BT.wayTo, BT.lway]), hx.trans h2⟩
    | false =>
      go_wp2_with fail
      refine (IHr.out _ v2 HV2.out HLR.out).mono ?_
      rintro e w2 ⟨rfl, h2⟩
      go_wp2
      go_ret
      exact ⟨ret_int (by rw [HX.out]; simp [BT.wayTo, BT.rway]), hx.trans h2⟩
theorem most21_any (w : World) (p q : Value) (l r : BT) (hl : Beads w p l.enc) (hr : Beads w q r.enc) (bl : l.enc.length ≤ 2000) (br : r.enc.length ≤ 2000) :
    Calls Tryz.prog 66 #[p, q] w (Ret (.int .i64 ((l.rway + r.lway + 1 : Nat) : Int)) w) := by
  have H1 := Lib.hid (way21_any false l w p hl bl)
  have H2 := Lib.hid (fun W (e : Ext w W) => way21_any true r W q (hr.ext e) br)
  have b1 := Nat.le_trans (wayTo_le false l) bl
  have b2 := Nat.le_trans (wayTo_le true r) br
  rw [show l.wayTo false = l.rway from rfl] at H1 b1
  rw [show r.wayTo true = r.lway from rfl] at H2 b2
  clear hl hr bl br
  generalize l.rway = a at *
  generalize r.lway = b at *
  go_enter Tryz.func66, Tryz.ntmps66
  go_wp2_with fail
  refine H1.out.mono ?_
  rintro e w1 ⟨rfl, e1⟩
  go_wp2_with fail
  refine (H2.out w1 e1).mono ?_
  rintro e w2 ⟨rfl, e2⟩
  go_wp2
  go_ret
  exact ⟨ret_int (by omega), e1.trans e2⟩
set_option maxHeartbeats 2000000 in
theorem most22_any (c : Nat) (h4 : 1 ≤ c ∧ c ≤ 4) (w : World) (p q : Value) (l r : BT) (L R : Tr) (fl : l.fits L) (fr : r.fits R) (hl : Beads w p l.enc) (hr : Beads w q r.enc) (pl : PartC c L) (pr : PartC c R) (bl : l.enc.length ≤ 400) (br : r.enc.length ≤ 400) :
    Calls Tryz.prog 37 #[.int .u8 c, p, q] w (Ret (.int .i64 (mostC c L R : Nat)) w) := by
  have cl := fits_cnt fl
  have cr := fits_cnt fr
  obtain rfl | rfl | rfl | rfl := fourC h4
  · have al := AvlH.tag (show AvlH L L.ht from pl)
    have ar := AvlH.tag (show AvlH R R.ht from pr)
    have b1 := L.ht_count
    have b2 := R.ht_count
    have H1 := Lib.hid (rank22_any 1 h4 l L w p fl (fun h => by cases h) hl (by omega))
    have H2 := Lib.hid (fun W (e : Ext w W) => rank22_any 1 h4 r R W q fr (fun h => by cases h) (hr.ext e) (by omega))
    rw [show rkV' 1 L = wrap64 L.tag from rfl, al, show wrap64 ((L.ht : Nat) : Int) = ((L.ht : Nat) : Int) by unfold wrap64; omega] at H1
    rw [show rkV' 1 R = wrap64 R.tag from rfl, ar, show wrap64 ((R.ht : Nat) : Int) = ((R.ht : Nat) : Int) by unfold wrap64; omega] at H2
    rw [show mostC 1 L R = max L.ht R.ht - min L.ht R.ht + 1 from rfl]
    have b1 : L.ht ≤ 400 := by omega
    have b2 : R.ht ≤ 400 := by omega
    clear pl pr fl fr hl hr bl br cl cr al ar h4
    generalize L.ht = a at *
    generalize R.ht = b at *
    rcases Nat.lt_or_ge a b with h | h
    all_goals
      go_enter Tryz.func37, Tryz.ntmps37
      go_wp2_with fail
      refine H1.out.mono ?_
      rintro e w1 ⟨rfl, e1⟩
      go_wp2_with fail
      refine (H2.out w1 e1).mono ?_
      rintro e w2 ⟨rfl, e2⟩
      go_wp2
      all_goals
        go_ret
        exact ⟨ret_int (by omega), e1.trans e2⟩
  · obtain ⟨a, ca, pl⟩ := pl
    obtain ⟨b, cb, pr⟩ := pr
    have b1 := pl.le
    have b2 := pr.le
    have H := Lib.hid (ref17Most_any w p q L R l r a b _ _ ca cb fl fr pl pr (by omega) (by omega) rfl rfl hl hr bl br)
    rw [show ((mostC 2 L R : Nat) : Int) = 2 * ((max (a + if ca then 1 else 0) (b + if cb then 1 else 0) : Nat) : Int) - 2 * ((min (a + if ca then 1 else 0) (b + if cb then 1 else 0) : Nat) : Int) + 3 by
      show ((2 * max (hiB L).toNat (hiB R).toNat - 2 * min (hiB L).toNat (hiB R).toNat + 3 : Nat) : Int) = _
      rw [pl.hiB (by omega), pr.hiB (by omega), Int.toNat_natCast, Int.toNat_natCast]
      omega]
    obtain ⟨X, hX⟩ : ∃ X, X = 2 * ((max (a + if ca then 1 else 0) (b + if cb then 1 else 0) : Nat) : Int) - 2 * ((min (a + if ca then 1 else 0) (b + if cb then 1 else 0) : Nat) : Int) + 3 := ⟨_, rfl⟩
    rw [← hX] at H ⊢
    clear pl pr fl fr hl hr bl br cl cr b1 b2 hX h4
    go_enter Tryz.func37, Tryz.ntmps37
    go_wp2_with fail
    refine (H.out).mono ?_
    rintro e w1 ⟨rfl, hS⟩
    go_wp2
    go_ret
    exact ⟨ret_int rfl, hS⟩
  · have H := Lib.hid (ref19Most_any w p q l.enc r.enc _ _ hl hr bl br rfl rfl)
    rw [show ((mostC 3 L R : Nat) : Int) = 6 * (((max (Nat.log2 (l.enc.length + 1)) (Nat.log2 (r.enc.length + 1)) : Nat) : Int) - ((min (Nat.log2 (l.enc.length + 1)) (Nat.log2 (r.enc.length + 1)) : Nat) : Int)) + 1 by
      show ((6 * (max (Nat.log2 (L.count + 1)) (Nat.log2 (R.count + 1)) - min (Nat.log2 (L.count + 1)) (Nat.log2 (R.count + 1))) + 1 : Nat) : Int) = _
      rw [cl, cr]
      omega]
    obtain ⟨X, hX⟩ : ∃ X, X = 6 * (((max (Nat.log2 (l.enc.length + 1)) (Nat.log2 (r.enc.length + 1)) : Nat) : Int) - ((min (Nat.log2 (l.enc.length + 1)) (Nat.log2 (r.enc.length + 1)) : Nat) : Int)) + 1 := ⟨_, rfl⟩
    rw [← hX] at H ⊢
    clear pl pr fl fr hl hr bl br cl cr hX h4
    go_enter Tryz.func37, Tryz.ntmps37
    go_wp2_with fail
    refine (H.out).mono ?_
    rintro e w1 ⟨rfl, hS⟩
    go_wp2
    go_ret
    exact ⟨ret_int rfl, hS⟩
  · have H := Lib.hid (most21_any w p q l r hl hr (by omega) (by omega))
    rw [show mostC 4 L R = L.rway + R.lway + 1 from rfl, (fits_ways fl).1, (fits_ways fr).2]
    generalize ((l.rway + r.lway + 1 : Nat) : Int) = X at *
    clear pl pr fl fr hl hr bl br cl cr h4
    go_enter Tryz.func37, Tryz.ntmps37
    go_wp2_with fail
    refine (H.out).mono ?_
    rintro e w1 ⟨rfl, hS⟩
    go_wp2
    go_ret
    exact ⟨ret_int rfl, hS⟩
end Go.Proofs.YtkkdobolloojjaaGreat
namespace Go.Proofs.YtkkdobolloojjaaGreat
open Go Go.RowKit

theorem itemCells_set : ∀ (zs : List (Int × Int × Int)) (k : Nat) (z : Int × Int × Int) (y : Int), zs[k]? = some z → itemCells (zs.set k (z.1, z.2.1, y)) = (itemCells zs).set (k * 3 + 2) (.int .u64 y)
  | [], k, z, y, h => by simp at h
  | x :: zs, 0, z, y, h => by
    obtain rfl : x = z := by simpa using h
    simp [itemCells, icells]
  | x :: zs, k + 1, z, y, h => by
    have ih := itemCells_set zs k z y (by simpa using h)
    show icells x ++ itemCells (zs.set k (z.1, z.2.1, y)) = (icells x ++ itemCells zs).set ((k + 1) * 3 + 2) (.int .u64 y)
    rw [ih, List.set_append_right (h := by show 3 ≤ _; omega)]
    congr 2
    show _ = (k + 1) * 3 + 2 - 3
    omega
theorem IOwn3.blk {B : Nat} {w : World} {v : Value} {zs : List (Int × Int × Int)} (h : IOwn3 B w v zs) (hne : zs ≠ []) : ∃ g cap, v = .slice (some ⟨g, 0, none⟩) zs.length cap ∧ B ≤ g ∧ zs.length ≤ cap ∧
    ∀ W xs, IOwn3 B W v xs → xs.length = zs.length → (∀ i, W.frozen? ⟨g, i, none⟩ = false) ∧ (∀ k z, xs[k]? = some z → W.cell? ⟨g, k * 3, none⟩ = some (.int .i64 z.1) ∧ W.cell? ⟨g, k * 3 + 1, none⟩ = some (.int .i64 z.2.1) ∧ W.cell? ⟨g, k * 3 + 2, none⟩ = some (.int .u64 z.2.2) ∧
      ∀ y, IOwn3 B (W.setCell ⟨g, k * 3 + 2, none⟩ (.int .u64 y)) v (xs.set k (z.1, z.2.1, y))) := by
  obtain ⟨h1, ⟨rfl, h0⟩ | ⟨g, cap, cur, rfl, hb, hg, hc, hm, hs, ht⟩⟩ := h
  · exact (hne (List.eq_nil_of_length_eq_zero h0)).elim
  · refine ⟨g, cap, rfl, hb, hc, fun W xs hx hl => ?_⟩
    have hrow := hx
    obtain ⟨k1, ⟨hv, h0⟩ | ⟨g', cap', cur', hv, hb', hg', hc', hm', hs', ht'⟩⟩ := hx
    · cases hv
    · injection hv with e1 e2 e3
      injection e1 with e1
      injection e1 with e1
      subst e1 e3
      refine ⟨frozen_of hg', fun k z hz => ?_⟩
      have hlt := (List.getElem?_eq_some_iff.1 hz).1
      have hcell : ∀ j u, (icells z)[j]? = some u → W.cell? ⟨g, k * 3 + j, none⟩ = some u := by
        intro j u hj
        have h2 := itemCells_at xs k z j hz (List.getElem?_eq_some_iff.1 hj).1
        rw [hj, ← ht', List.getElem?_take] at h2
        rw [cell_of hg']
        split at h2
        · simpa using h2
        · cases h2
      refine ⟨hcell 0 _ rfl, hcell 1 _ rfl, hcell 2 _ rfl, fun y => ?_⟩
      have hheap : (W.setCell ⟨g, k * 3 + 2, none⟩ (.int .u64 y)).heap[g]? = some (.cells (cur'.setIfInBounds (k * 3 + 2) (.int .u64 y)) 51 (0, 0)) := by
        simp [World.setCell, Array.getElem?_modify, hg']
      refine ⟨by rw [itemCells_len], .inr ⟨g, cap, _, by rw [List.length_set, hl], hb', hheap, by rw [List.length_set]; exact hc', hm', by simp [hs'], ?_⟩⟩
      rw [List.length_set, itemCells_set xs k z y hz, ← ht', Array.toList_setIfInBounds, List.take_set]
theorem IOwn3.sized {B : Nat} {w : World} {v : Value} {zs : List (Int × Int × Int)} (h : IOwn3 B w v zs) : ∃ a c, v = .slice a zs.length c := irow3_slice h.row
/-- a row whose first k items have lost their tags. -/
def untag (c k : Nat) (zs : List (Int × Int × Int)) : List (Int × Int × Int) := (zs.take k).map (itC c) ++ zs.drop k
theorem untag_len (c k : Nat) (zs : List (Int × Int × Int)) : (untag c k zs).length = zs.length := by simp [untag]; omega
theorem untag_at {c k : Nat} {zs : List (Int × Int × Int)} {z : Int × Int × Int} (h : zs[k]? = some z) : (untag c k zs)[k]? = some z := by
  have hlt := (List.getElem?_eq_some_iff.1 h).1
  rw [untag, List.getElem?_append_right (by simp; omega), List.length_map, List.length_take, Nat.min_eq_left (by omega), Nat.sub_self, List.getElem?_drop, Nat.add_zero, h]
theorem untag_set {c k : Nat} (hc : c ≠ 4) {zs : List (Int × Int × Int)} {z : Int × Int × Int} (h : zs[k]? = some z) : (untag c k zs).set k (z.1, z.2.1, 0) = untag c (k + 1) zs := by
  have hlt := (List.getElem?_eq_some_iff.1 h).1
  have hd : zs.drop k = z :: zs.drop (k + 1) := by
    rw [List.drop_eq_getElem_cons hlt]
    congr 1
    exact (List.getElem?_eq_some_iff.1 h).2
  rw [untag, untag, List.set_append_right (h := by simp; omega), List.length_map, List.length_take, Nat.min_eq_left (by omega), Nat.sub_self, hd, List.set_cons_zero, List.take_add_one, h]
  simp [itC, hc]
def BT.itsC (c : Nat) (t : BT) : List (Int × Int × Int) := t.its.map (itC c)
theorem fits_itsC {t : BT} {T : Tr} (c : Nat) (h : t.fits T) : Proofs.YtkkdobolloojjaaGreat.itsC c T = t.itsC c := by rw [Proofs.YtkkdobolloojjaaGreat.itsC, BT.itsC, BT.fits_its h]
set_option maxHeartbeats 2000000 in
theorem items22_any (c : Nat) (h4 : 1 ≤ c ∧ c ≤ 4) (t : BT) (w : World) (p : Value) (hb : Beads w p t.enc) (hl : t.enc.length ≤ 2000) :
    Calls Tryz.prog 24 #[.int .u8 c, p] w (GivesI3 (t.itsC c) w) := by
  have H := Lib.hid (items20_any t w p hb hl)
  have hzl : t.its.length ≤ 2000 := by rw [BT.its_len]; exact hl
  rw [BT.itsC]
  generalize hzs : t.its = zs at *
  clear hb hzs hl
  by_cases hc : c = 4
  · subst hc
    have he : zs.map (itC 4) = zs := by
      conv => rhs; rw [← List.map_id zs]
      exact List.map_congr_left fun z _ => rfl
    rw [he]
    clear he
    go_enter Tryz.func24, Tryz.ntmps24
    go_wp2_with fail
    refine H.out.mono ?_
    rintro e w1 ⟨v, rfl, ho, h1⟩
    go_wp2
    go_ret
    exact ⟨_, rfl, ho, h1⟩
  · have hc' : (c : Int) ≠ 4 := by omega
    have HC := Lib.hid hc
    clear hc
    go_enter Tryz.func24, Tryz.ntmps24
    go_wp2_with fail
    refine H.out.mono ?_
    rintro e w1 ⟨v, rfl, ho, h1⟩
    by_cases h0 : zs = []
    · subst h0
      obtain ⟨a, k, rfl⟩ := ho.sized
      rw [show ([] : List (Int × Int × Int)).length = 0 from rfl] at *
      have HO := Lib.hid ho
      clear ho
      go_wp2
      go_loop [6] (fun i => i = .int .i64 0) (fun _ => 0)
      case atStart => rfl
      case round =>
        subst hrel
        go_wp2
        go_ret
        exact ⟨_, rfl, HO.out, h1⟩
    · obtain ⟨g, cap, rfl, hB, hcap, hfact⟩ := ho.blk h0
      have HO := Lib.hid ho
      have HF := Lib.hid hfact
      clear ho hfact h0
      go_wp2
      go_loopw [6] (fun i W => Ext w W ∧ ∃ k : Nat, k ≤ zs.length ∧ i = .int .i64 k ∧ IOwn3 w.heap.size W (.slice (some ⟨g, 0, none⟩) zs.length cap) (untag c k zs)) (fun i _ => zs.length - (intOf i).toNat)
      case atStart => exact ⟨h1, 0, Nat.zero_le _, rfl, by simpa [untag] using HO.out⟩
      case round =>
        obtain ⟨hX, k, hk, rfl, hO⟩ := hrel
        have HO' := Lib.hid hO
        clear hO
        by_cases hlt : k < zs.length
        · obtain ⟨z, hz⟩ : ∃ z, zs[k]? = some z := ⟨_, List.getElem?_eq_getElem hlt⟩
          obtain ⟨hfz, hcs⟩ := HF.out wr _ HO'.out (untag_len c k zs)
          obtain ⟨c0, c1, c2, hset⟩ := hcs k z (untag_at hz)
          have hf2 := hfz (k * 3 + 2)
          have HS := Lib.hid (hset 0)
          have HZ := Lib.hid hz
          clear hfz hcs hset c0 c1 hz
          go_wp2
          go_roundw
          case rel => exact ⟨Below.setCell hX hB _, k + 1, by omega, by go_num, by rw [← untag_set HC.out HZ.out]; exact HS.out⟩
          case measure => simp [intOf]; omega
        · have hk' : k = zs.length := by omega
          have HK := Lib.hid hk'
          clear hk'
          go_wp2
          go_ret
          refine ⟨_, rfl, ?_, hX⟩
          have := HO'.out
          rw [HK.out] at this
          simpa [untag] using this
end Go.Proofs.YtkkdobolloojjaaGreat
