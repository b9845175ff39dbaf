/- joineryref22: Is, Name, Check, May, Part, Rank, Most. joineryref22: Items, Item, Has. joineryref22: Item, Has. -/
import Derived.BigQuiet
import Derived.Test.YtnhbcildpdhgnaaGreatM8
import Derived.Test.YtnhbcildpdhgnaaGreatM16
import Derived.Test.YtnhbcildpdhgnaaGreatM21
import Derived.Test.YtnhbcildpdhgnaaGreatM27
import Derived.Test.YtnhbcildpdhgnaaGreatM33
import Derived.Test.YtnhbcildpdhgnaaGreatM37
namespace Go.Proofs.YtnhbcildpdhgnaaGreat
open Go Go.RowKit

theorem fits_cnt {t : BT} {T : Tr} (h : t.fits T) : T.count = t.enc.length := BT.fits_len h
theorem is22_any (c : Nat) (w : World) : Calls Tryz.prog 8 #[.int .u8 c] w (Ret (.bool (decide (1 ≤ c ∧ c ≤ 4))) w) := by
  by_cases h1 : 1 ≤ c
  · by_cases h2 : c ≤ 4
    · rw [decide_eq_true ⟨h1, h2⟩]
      go_enter Tryz.func8, Tryz.ntmps8
      go_wp2
      go_ret
      exact ⟨ret_bool (by simp; omega), Ext.refl _⟩
    · rw [decide_eq_false (fun h => h2 h.2)]
      go_enter Tryz.func8, Tryz.ntmps8
      go_wp2
      go_ret
      exact ⟨ret_bool (by simp; omega), Ext.refl _⟩
  · rw [decide_eq_false (fun h => h1 h.1)]
    obtain rfl : c = 0 := by omega
    go_enter Tryz.func8, Tryz.ntmps8
    go_wp2
    go_ret
    exact Ret.mk (Ext.refl _)
def nm22 (c : Nat) : Array UInt8 := if 1 ≤ c ∧ c ≤ 4 then nmB c else #[]
set_option maxHeartbeats 1000000 in
theorem check22_any (c : Nat) (h4 : 1 ≤ c ∧ c ≤ 4) (t : BT) (T : Tr) (w : World) (p : Value) (hf : t.fits T) (ho : c = 2 → TagsOk T) (hb : Beads w p t.enc) (hl : t.enc.length ≤ 2000) :
    Calls Tryz.prog 77 #[.int .u8 c, p] w (Ret (.tuple #[.int .i64 (ckV c T).1, .int .i64 (ckV c T).2]) w) := by
  obtain rfl | rfl | rfl | rfl := fourC h4
  · have H := Lib.hid (check14_any t T w p hf hb hl)
    rw [show ckV 1 T = avlFirst T.pre from rfl]
    clear hf ho hb hl h4
    generalize avlFirst T.pre = F at *
    obtain ⟨F1, F2⟩ := F
    simp only at H ⊢
    go_enter Tryz.func77, Tryz.ntmps77
    go_wp2_with fail
    refine H.out.mono ?_
    rintro e w1 ⟨rfl, h1⟩
    go_wp2
    go_ret2
    exact ⟨rfl, h1⟩
  · have H := Lib.hid (check16_any t T w p hf (ho rfl) hb hl)
    rw [show ckV 2 T = rbChk T from rfl]
    clear hf ho hb hl h4
    generalize rbChk T = F at *
    obtain ⟨F1, F2⟩ := F
    simp only at H ⊢
    go_enter Tryz.func77, Tryz.ntmps77
    go_wp2_with fail
    refine H.out.mono ?_
    rintro e w1 ⟨rfl, h1⟩
    go_wp2
    go_ret2
    exact ⟨rfl, h1⟩
  · have H := Lib.hid (check18_any t T w p hf hb hl)
    rw [show ckV 3 T = firstOf wbOne T.pre from rfl]
    clear hf ho hb hl h4
    generalize firstOf wbOne T.pre = F at *
    obtain ⟨F1, F2⟩ := F
    simp only at H ⊢
    go_enter Tryz.func77, Tryz.ntmps77
    go_wp2_with fail
    refine H.out.mono ?_
    rintro e w1 ⟨rfl, h1⟩
    go_wp2
    go_ret2
    exact ⟨rfl, h1⟩
  · have H := Lib.hid (check20_any t T w p hf hb hl)
    rw [show ckV 4 T = firstOf tpOne T.pre from rfl]
    clear hf ho hb hl h4
    generalize firstOf tpOne T.pre = F at *
    obtain ⟨F1, F2⟩ := F
    simp only at H ⊢
    go_enter Tryz.func77, Tryz.ntmps77
    go_wp2_with fail
    refine H.out.mono ?_
    rintro e w1 ⟨rfl, h1⟩
    go_wp2
    go_ret2
    exact ⟨rfl, h1⟩
theorem may22_any (c : Nat) (h4 : 1 ≤ c ∧ c ≤ 4) (t : BT) (T : Tr) (w : World) (p : Value) (hf : t.fits T) (ho : c = 2 → TagsOk T) (hb : Beads w p t.enc) (hl : t.enc.length ≤ 2000) :
    Calls Tryz.prog 45 #[.int .u8 c, p] w (Ret (.bool ((ckV c T).2 == 0)) w) := by
  have H := Lib.hid (check22_any c h4 t T w p hf ho hb hl)
  clear hf ho hb hl
  generalize ckV c T = F at *
  obtain ⟨F1, F2⟩ := F
  simp only at H ⊢
  go_enter Tryz.func45, Tryz.ntmps45
  go_wp2_with fail
  refine (H.out).mono ?_
  rintro e w1 ⟨rfl, hS⟩
  go_wp2
  go_ret
  exact ⟨ret_bool rfl, hS⟩
theorem pt_ck {c : Nat} (h4 : 1 ≤ c ∧ c ≤ 4) (h2 : c ≠ 2) (T : Tr) : ((ckV c T).2 == 0) = ptV c T := by
  obtain rfl | rfl | rfl | rfl := fourC h4
  · rfl
  · exact (h2 rfl).elim
  · rfl
  · rfl
theorem part22_any (c : Nat) (h4 : 1 ≤ c ∧ c ≤ 4) (t : BT) (T : Tr) (w : World) (p : Value) (hf : t.fits T) (ho : c = 2 → TagsOk T) (hb : Beads w p t.enc) (hl : t.enc.length ≤ 2000) :
    Calls Tryz.prog 27 #[.int .u8 c, p] w (Ret (.bool (ptV c T)) w) := by
  by_cases h2 : c = 2
  · subst h2
    have H := Lib.hid (part16_any t T w p hf (ho rfl) hb hl)
    rw [show ptV 2 T = rbPart T from rfl]
    clear hf ho hb hl h4
    go_enter Tryz.func27, Tryz.ntmps27
    go_wp2_with fail
    refine (H.out).mono ?_
    rintro e w1 ⟨rfl, hS⟩
    go_wp2
    go_ret
    exact ⟨ret_bool rfl, hS⟩
  · have H := Lib.hid (may22_any c h4 t T w p hf ho hb hl)
    rw [pt_ck h4 h2] at H
    have h2' : (c : Int) ≠ 2 := by omega
    clear hf ho hb hl h2
    go_enter Tryz.func27, Tryz.ntmps27
    go_wp2_with fail
    refine (H.out).mono ?_
    rintro e w1 ⟨rfl, hS⟩
    go_wp2
    go_ret
    exact ⟨ret_bool rfl, hS⟩
def BT.rway : BT → Nat
  | .nil => 0
  | .node _ _ _ _ _ _ r => 1 + r.rway
def BT.lway : BT → Nat
  | .nil => 0
  | .node _ _ _ _ _ l _ => 1 + l.lway
theorem fits_ways : ∀ {t : BT} {T : Tr}, t.fits T → T.rway = t.rway ∧ T.lway = t.lway
  | .nil, .nil, _ => ⟨rfl, rfl⟩
  | .nil, .node .., h => h.elim
  | .node .., .nil, h => h.elim
  | .node .., .node .., h => by
    have h1 := (fits_ways h.2.2.2.1).2
    have h2 := (fits_ways h.2.2.2.2).1
    exact ⟨by rw [Tr.rway, BT.rway, h2], by rw [Tr.lway, BT.lway, h1]⟩
def BT.wayTo (left : Bool) (t : BT) : Nat := if left then t.lway else t.rway
theorem wayTo_le (x : Bool) : ∀ t : BT, t.wayTo x ≤ t.enc.length
  | .nil => by cases x <;> exact Nat.le_refl _
  | .node k v s n g l r => by
    have h1 := wayTo_le x l
    have h2 := wayTo_le x r
    cases x <;> simp [BT.wayTo, BT.rway, BT.lway, BT.enc] at h1 h2 ⊢ <;> omega
end Go.Proofs.YtnhbcildpdhgnaaGreat
namespace Go.Proofs.YtnhbcildpdhgnaaGreat
open Go Go.RowKit

theorem itemCells_set : ∀ (zs : List (Int × Int × Int)) (k : Nat) (z : Int × Int × Int) (y : Int), zs[k]? = some z → itemCells (zs.set k (z.1, z.2.1, y)) = (itemCells zs).set (k * 3 + 2) (.int .u64 y)
  | [], k, z, y, h => by simp at h
  | x :: zs, 0, z, y, h => by
    obtain rfl : x = z := by simpa using h
    simp [itemCells, icells]
  | x :: zs, k + 1, z, y, h => by
    have ih := itemCells_set zs k z y (by simpa using h)
    show icells x ++ itemCells (zs.set k (z.1, z.2.1, y)) = (icells x ++ itemCells zs).set ((k + 1) * 3 + 2) (.int .u64 y)
    rw [ih, List.set_append_right (h := by show 3 ≤ _; omega)]
    congr 2
    show _ = (k + 1) * 3 + 2 - 3
    omega
theorem IOwn3.blk {B : Nat} {w : World} {v : Value} {zs : List (Int × Int × Int)} (h : IOwn3 B w v zs) (hne : zs ≠ []) : ∃ g cap, v = .slice (some ⟨g, 0, none⟩) zs.length cap ∧ B ≤ g ∧ zs.length ≤ cap ∧
    ∀ W xs, IOwn3 B W v xs → xs.length = zs.length → (∀ i, W.frozen? ⟨g, i, none⟩ = false) ∧ (∀ k z, xs[k]? = some z → W.cell? ⟨g, k * 3, none⟩ = some (.int .i64 z.1) ∧ W.cell? ⟨g, k * 3 + 1, none⟩ = some (.int .i64 z.2.1) ∧ W.cell? ⟨g, k * 3 + 2, none⟩ = some (.int .u64 z.2.2) ∧
      ∀ y, IOwn3 B (W.setCell ⟨g, k * 3 + 2, none⟩ (.int .u64 y)) v (xs.set k (z.1, z.2.1, y))) := by
  obtain ⟨h1, ⟨rfl, h0⟩ | ⟨g, cap, cur, rfl, hb, hg, hc, hm, hs, ht⟩⟩ := h
  · exact (hne (List.eq_nil_of_length_eq_zero h0)).elim
  · refine ⟨g, cap, rfl, hb, hc, fun W xs hx hl => ?_⟩
    have hrow := hx
    obtain ⟨k1, ⟨hv, h0⟩ | ⟨g', cap', cur', hv, hb', hg', hc', hm', hs', ht'⟩⟩ := hx
    · cases hv
    · injection hv with e1 e2 e3
      injection e1 with e1
      injection e1 with e1
      subst e1 e3
      refine ⟨frozen_of hg', fun k z hz => ?_⟩
      have hlt := (List.getElem?_eq_some_iff.1 hz).1
      have hcell : ∀ j u, (icells z)[j]? = some u → W.cell? ⟨g, k * 3 + j, none⟩ = some u := by
        intro j u hj
        have h2 := itemCells_at xs k z j hz (List.getElem?_eq_some_iff.1 hj).1
        rw [hj, ← ht', List.getElem?_take] at h2
        rw [cell_of hg']
        split at h2
        · simpa using h2
        · cases h2
      refine ⟨hcell 0 _ rfl, hcell 1 _ rfl, hcell 2 _ rfl, fun y => ?_⟩
      have hheap : (W.setCell ⟨g, k * 3 + 2, none⟩ (.int .u64 y)).heap[g]? = some (.cells (cur'.setIfInBounds (k * 3 + 2) (.int .u64 y)) 43 (0, 0)) := by
        simp [World.setCell, Array.getElem?_modify, hg']
      refine ⟨by rw [itemCells_len], .inr ⟨g, cap, _, by rw [List.length_set, hl], hb', hheap, by rw [List.length_set]; exact hc', hm', by simp [hs'], ?_⟩⟩
      rw [List.length_set, itemCells_set xs k z y hz, ← ht', Array.toList_setIfInBounds, List.take_set]
theorem IOwn3.sized {B : Nat} {w : World} {v : Value} {zs : List (Int × Int × Int)} (h : IOwn3 B w v zs) : ∃ a c, v = .slice a zs.length c := irow3_slice h.row
/-- a row whose first k items have lost their tags. -/
def untag (c k : Nat) (zs : List (Int × Int × Int)) : List (Int × Int × Int) := (zs.take k).map (itC c) ++ zs.drop k
theorem untag_len (c k : Nat) (zs : List (Int × Int × Int)) : (untag c k zs).length = zs.length := by simp [untag]; omega
theorem untag_at {c k : Nat} {zs : List (Int × Int × Int)} {z : Int × Int × Int} (h : zs[k]? = some z) : (untag c k zs)[k]? = some z := by
  have hlt := (List.getElem?_eq_some_iff.1 h).1
  rw [untag, List.getElem?_append_right (by simp; omega), List.length_map, List.length_take, Nat.min_eq_left (by omega), Nat.sub_self, List.getElem?_drop, Nat.add_zero, h]
theorem untag_set {c k : Nat} (hc : c ≠ 4) {zs : List (Int × Int × Int)} {z : Int × Int × Int} (h : zs[k]? = some z) : (untag c k zs).set k (z.1, z.2.1, 0) = untag c (k + 1) zs := by
  have hlt := (List.getElem?_eq_some_iff.1 h).1
  have hd : zs.drop k = z :: zs.drop (k + 1) := by
    rw [List.drop_eq_getElem_cons hlt]
    congr 1
    exact (List.getElem?_eq_some_iff.1 h).2
  rw [untag, untag, List.set_append_right (h := by simp; omega), List.length_map, List.length_take, Nat.min_eq_left (by omega), Nat.sub_self, hd, List.set_cons_zero, List.take_add_one, h]
  simp [itC, hc]
def BT.itsC (c : Nat) (t : BT) : List (Int × Int × Int) := t.its.map (itC c)
theorem fits_itsC {t : BT} {T : Tr} (c : Nat) (h : t.fits T) : Proofs.YtnhbcildpdhgnaaGreat.itsC c T = t.itsC c := by rw [Proofs.YtnhbcildpdhgnaaGreat.itsC, BT.itsC, BT.fits_its h]
set_option maxHeartbeats 2000000 in
theorem items22_any (c : Nat) (h4 : 1 ≤ c ∧ c ≤ 4) (t : BT) (w : World) (p : Value) (hb : Beads w p t.enc) (hl : t.enc.length ≤ 2000) :
    Calls Tryz.prog 16 #[.int .u8 c, p] w (GivesI3 (t.itsC c) w) := by
  have H := Lib.hid (items20_any t w p hb hl)
  have hzl : t.its.length ≤ 2000 := by rw [BT.its_len]; exact hl
  rw [BT.itsC]
  generalize hzs : t.its = zs at *
  clear hb hzs hl
  by_cases hc : c = 4
  · subst hc
    have he : zs.map (itC 4) = zs := by
      conv => rhs; rw [← List.map_id zs]
      exact List.map_congr_left fun z _ => rfl
    rw [he]
    clear he
    go_enter Tryz.func16, Tryz.ntmps16
    go_wp2_with fail
    refine H.out.mono ?_
    rintro e w1 ⟨v, rfl, ho, h1⟩
    go_wp2
    go_ret
    exact ⟨_, rfl, ho, h1⟩
  · have hc' : (c : Int) ≠ 4 := by omega
    have HC := Lib.hid hc
    clear hc
    go_enter Tryz.func16, Tryz.ntmps16
    go_wp2_with fail
    refine H.out.mono ?_
    rintro e w1 ⟨v, rfl, ho, h1⟩
    by_cases h0 : zs = []
    · subst h0
      obtain ⟨a, k, rfl⟩ := ho.sized
      rw [show ([] : List (Int × Int × Int)).length = 0 from rfl] at *
      have HO := Lib.hid ho
      clear ho
      go_wp2
      go_loop [6] (fun i => i = .int .i64 0) (fun _ => 0)
      case atStart => rfl
      case round =>
        subst hrel
        go_wp2
        go_ret
        exact ⟨_, rfl, HO.out, h1⟩
    · obtain ⟨g, cap, rfl, hB, hcap, hfact⟩ := ho.blk h0
      have HO := Lib.hid ho
      have HF := Lib.hid hfact
      clear ho hfact h0
      go_wp2
      go_loopw [6] (fun i W => Ext w W ∧ ∃ k : Nat, k ≤ zs.length ∧ i = .int .i64 k ∧ IOwn3 w.heap.size W (.slice (some ⟨g, 0, none⟩) zs.length cap) (untag c k zs)) (fun i _ => zs.length - (intOf i).toNat)
      case atStart => exact ⟨h1, 0, Nat.zero_le _, rfl, by simpa [untag] using HO.out⟩
      case round =>
        obtain ⟨hX, k, hk, rfl, hO⟩ := hrel
        have HO' := Lib.hid hO
        clear hO
        by_cases hlt : k < zs.length
        · obtain ⟨z, hz⟩ : ∃ z, zs[k]? = some z := ⟨_, List.getElem?_eq_getElem hlt⟩
          obtain ⟨hfz, hcs⟩ := HF.out wr _ HO'.out (untag_len c k zs)
          obtain ⟨c0, c1, c2, hset⟩ := hcs k z (untag_at hz)
          have hf2 := hfz (k * 3 + 2)
          have HS := Lib.hid (hset 0)
          have HZ := Lib.hid hz
          clear hfz hcs hset c0 c1 hz
          go_wp2
          go_roundw
          case rel => exact ⟨Below.setCell hX hB _, k + 1, by omega, by go_num, by rw [← untag_set HC.out HZ.out]; exact HS.out⟩
          case measure => simp [intOf]; omega
        · have hk' : k = zs.length := by omega
          have HK := Lib.hid hk'
          clear hk'
          go_wp2
          go_ret
          refine ⟨_, rfl, ?_, hX⟩
          have := HO'.out
          rw [HK.out] at this
          simpa [untag] using this
end Go.Proofs.YtnhbcildpdhgnaaGreat
namespace Go.Proofs.YtnhbcildpdhgnaaGreat
open Go Go.RowKit
attribute [local go_sem] Oper.semAt_some

theorem put3_other {w : World} {N i : Nat} {o : Obj} (hi : i ≠ N) (h : w.heap[i]? = some o) (a b c : Value) : (put3 w N a b c).heap[i]? = some o := by
  unfold put3
  rw [Below.heap_setCell _ _ _ _ hi, Below.heap_setCell _ _ _ _ hi, Below.heap_setCell _ _ _ _ hi]
  exact h
end Go.Proofs.YtnhbcildpdhgnaaGreat
