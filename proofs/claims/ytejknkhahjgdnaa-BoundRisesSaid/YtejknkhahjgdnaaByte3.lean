/- joineryref07: add, mul. -/
import Derived.Test.YtejknkhahjgdnaaByte2
import Derived.Deep.QuietTactic
import Derived.BigQuiet
import Derived.IntWalk
namespace Go.Proofs.Ytejknkhahjgdnaa
open Go Go.RowKit

theorem badd_step {zs xs ys : List Nat} {k c : Nat} (hx : Byts xs) (hy : Byts ys) (hc : c ≤ 1) (hl : zs.length = k) (h : bval zs + bby ^ k * c = bval (xs.take k) + bval (ys.take k)) :
    let s := xs.getD k 0 + ys.getD k 0 + c
    s / bby ≤ 1 ∧ s < 512 ∧ bval (zs ++ [s % bby]) + bby ^ (k + 1) * (s / bby) = bval (xs.take (k + 1)) + bval (ys.take (k + 1)) := by
  intro s
  have h1 : xs.getD k 0 < 256 := b_words_getD hx k
  have h2 : ys.getD k 0 < 256 := b_words_getD hy k
  have hs : s < 512 := by show xs.getD k 0 + ys.getD k 0 + c < _; omega
  refine ⟨?_, hs, ?_⟩
  · show s / 256 ≤ 1; omega
  · rw [bval_snoc, hl, bval_take' xs k, bval_take' ys k, Nat.pow_succ, Nat.mul_assoc, Nat.add_assoc, ← Nat.mul_add, Nat.mod_add_div]
    show bval zs + bby ^ k * (xs.getD k 0 + ys.getD k 0 + c) = _
    rw [Nat.mul_add, Nat.mul_add]
    omega
theorem badd_over {zs xs ys : List Nat} {k c : Nat} (hx : Byts xs) (hy : Byts ys) (h : bval zs + bby ^ k * c = bval (xs.take k) + bval (ys.take k)) (hc : 0 < c) : k ≤ max xs.length ys.length := by
  rcases Nat.lt_or_ge (max xs.length ys.length) k with h0 | h0
  · exfalso
    rw [bval_take_past xs k (by omega), bval_take_past ys k (by omega)] at h
    have h1 := Nat.lt_of_lt_of_le (bval_lt hx) (Nat.pow_le_pow_right bby_pos (show xs.length ≤ k - 1 by omega))
    have h2 := Nat.lt_of_lt_of_le (bval_lt hy) (Nat.pow_le_pow_right bby_pos (show ys.length ≤ k - 1 by omega))
    have h3 : bby ^ k = bby ^ (k - 1) * bby := by rw [← Nat.pow_succ]; congr 1; omega
    have h4 : bby ^ (k - 1) * 2 ≤ bby ^ k := by rw [h3]; exact Nat.mul_le_mul_left _ (by decide)
    have := Nat.mul_le_mul_left (bby ^ k) hc
    omega
  · exact h0
/-- the state of the sum's loop. -/
def BAddSt (w : World) (xs ys : List Nat) (v c i : Value) (W : World) : Prop :=
  ∃ (zs : List Nat) (kk cc : Nat), c = .int .i64 (cc : Nat) ∧ i = .int .i64 (kk : Nat) ∧ IOwn w.heap.size W v zs ∧ Ext w W ∧
    Hid (kk ≤ max xs.length ys.length + 1 ∧ zs.length = kk ∧ cc ≤ 1 ∧ Byts zs ∧ bval zs + bby ^ kk * cc = bval (xs.take kk) + bval (ys.take kk))
theorem meas_i {k n : Nat} (h : k < n) : n - (intOf (.int .i64 ((k : Int) + 1))).toNat < n - (intOf (.int .i64 (k : Int))).toNat := by
  show n - (k + 1) < n - k
  omega
set_option maxRecDepth 100000 in
set_option maxHeartbeats 4000000 in
theorem add07_any (w : World) (p q : Value) (xs ys : List Nat) (hp : IRow w p xs) (hq : IRow w q ys) (hx : Byts xs) (hy : Byts ys) (lx : xs.length ≤ 5000) (ly : ys.length ≤ 5000) :
    Calls Try.prog 81 #[p, q] w (BNum (bval xs + bval ys) w) := by
  obtain ⟨a, c, rfl⟩ := hp.slice
  obtain ⟨b, d, rfl⟩ := hq.slice
  have HP := Lib.hid hp
  have HQ0 := Lib.hid hq
  have HX := Lib.hid (And.intro hx (And.intro hy (And.intro lx ly)))
  clear hp hq hx hy lx ly
  go_enter Try.func81, Try.ntmps81
  go_wp2_with fail
  go_loopw [5, 6, 7] (fun v c i W => BAddSt w xs ys v c i W) (fun _ _ i _ => max xs.length ys.length + 1 - (intOf i).toNat)
  case atStart => exact ⟨[], 0, 0, rfl, rfl, IOwn.nil _ _, Ext.refl _, Lib.hid ⟨Nat.zero_le _, rfl, Nat.zero_le _, (fun d hd => by cases hd), by simp [bval]⟩⟩
  case round =>
    obtain ⟨zs, kk, cc, rfl, rfl, hO, hE, HH⟩ := hrel
    obtain ⟨va, vc, hv⟩ := hO.slice
    subst hv
    have hcc := HH.out.2.2.1
    by_cases hgo : kk < xs.length ∨ kk < ys.length ∨ 0 < cc
    · have HK := Lib.hid (show kk ≤ max xs.length ys.length by
        rcases hgo with h | h | h
        · omega
        · omega
        · exact badd_over HX.out.1 HX.out.2.1 HH.out.2.2.2.2 h)
      have hkk : kk ≤ 5000 := by have := HK.out; have := HX.out.2.2; omega
      have HS := Lib.hid (badd_step HX.out.1 HX.out.2.1 hcc HH.out.2.1 HH.out.2.2.2.2)
      have A0 := Lib.hid (at07_any wr _ xs kk (HP.out.ext hE) (Nat.le_trans HX.out.2.2.1 (by decide)))
      have A1 := Lib.hid (at07_any wr _ ys kk (HQ0.out.ext hE) (Nat.le_trans HX.out.2.2.2 (by decide)))
      have bx : xs.getD kk 0 < 256 := b_words_getD HX.out.1 kk
      have by' : ys.getD kk 0 < 256 := b_words_getD HX.out.2.1 kk
      obtain ⟨x, hx⟩ : ∃ x, xs.getD kk 0 = x := ⟨_, rfl⟩
      obtain ⟨y, hy⟩ : ∃ y, ys.getD kk 0 = y := ⟨_, rfl⟩
      rw [hx] at bx A0 HS
      rw [hy] at by' A1 HS
      have hA := (Ext.refl wr).alloc (.cells #[.int .i64 (((x : Int) + (y : Int) + (cc : Int)) % 256)] 3)
      have HO3 := Lib.hid (hO.ext hA)
      have HE3 := Lib.hid (hE.trans hA)
      have HC := Lib.hid (show (wr.alloc (.cells #[.int .i64 (((x : Int) + (y : Int) + (cc : Int)) % 256)] 3)).cell? ⟨wr.heap.size, 0, none⟩ = some (.int .i64 (((x + y + cc) % bby : Nat) : Int)) from
        cell_of (alloc_at wr (.cells #[.int .i64 (((x : Int) + (y : Int) + (cc : Int)) % 256)] 3) _ rfl) 0)
      have HLEN := Lib.hid (show zs.length ≤ 20000 by have := HH.out.2.1; omega)
      have HQ := Lib.hid (show ((x : Int) + (y : Int) + (cc : Int)) / 256 = (((x + y + cc) / bby : Nat) : Int) from rfl)
      clear hx hy hA
      by_cases g1 : kk < xs.length
      · clear hgo
        clear hE hO
        go_wp2_with fail
        refine A0.out.mono ?_
        rintro e w2 ⟨rfl, rfl⟩
        go_wp2_with fail
        refine A1.out.mono ?_
        rintro e w2 ⟨rfl, rfl⟩
        go_wp2_with (at_builtin; refine wpList_append_int (B := w.heap.size) (zs := zs) (d := (x + y + cc) % bby) (b := wr.heap.size) rfl (.tmp 34) (.tmp 37) rfl rfl rfl HO3.out HC.out HLEN.out HE3.out.size ?_)
        intro v4 w4 ho4 hg4 _
        have HE4 := Lib.hid (HO3.out.grown HE3.out hg4)
        have HO4 := Lib.hid ho4
        clear ho4 hg4
        go_wp2
        go_roundw
        case rel =>
          refine ⟨zs ++ [(x + y + cc) % bby], kk + 1, (x + y + cc) / bby, ?_, by go_num, HO4.out, HE4.out, Lib.hid ⟨Nat.succ_le_succ HK.out, by rw [List.length_append, HH.out.2.1]; rfl, HS.out.1, byts_snoc HH.out.2.2.2.1 (Nat.mod_lt _ bby_pos), HS.out.2.2⟩⟩
          rw [← HQ.out]
        case measure => exact meas_i (Nat.lt_succ_of_le HK.out)
      · by_cases g2 : kk < ys.length
        · clear hgo
          clear hE hO
          go_wp2_with fail
          refine A0.out.mono ?_
          rintro e w2 ⟨rfl, rfl⟩
          go_wp2_with fail
          refine A1.out.mono ?_
          rintro e w2 ⟨rfl, rfl⟩
          go_wp2_with (at_builtin; refine wpList_append_int (B := w.heap.size) (zs := zs) (d := (x + y + cc) % bby) (b := wr.heap.size) rfl (.tmp 34) (.tmp 37) rfl rfl rfl HO3.out HC.out HLEN.out HE3.out.size ?_)
          intro v4 w4 ho4 hg4 _
          have HE4 := Lib.hid (HO3.out.grown HE3.out hg4)
          have HO4 := Lib.hid ho4
          clear ho4 hg4
          go_wp2
          go_roundw
          case rel =>
            refine ⟨zs ++ [(x + y + cc) % bby], kk + 1, (x + y + cc) / bby, ?_, by go_num, HO4.out, HE4.out, Lib.hid ⟨Nat.succ_le_succ HK.out, by rw [List.length_append, HH.out.2.1]; rfl, HS.out.1, byts_snoc HH.out.2.2.2.1 (Nat.mod_lt _ bby_pos), HS.out.2.2⟩⟩
            rw [← HQ.out]
          case measure => exact meas_i (Nat.lt_succ_of_le HK.out)
        · have g3 : 0 < (cc : Int) := by omega
          clear hgo
          clear hE hO
          go_wp2_with fail
          refine A0.out.mono ?_
          rintro e w2 ⟨rfl, rfl⟩
          go_wp2_with fail
          refine A1.out.mono ?_
          rintro e w2 ⟨rfl, rfl⟩
          go_wp2_with (at_builtin; refine wpList_append_int (B := w.heap.size) (zs := zs) (d := (x + y + cc) % bby) (b := wr.heap.size) rfl (.tmp 34) (.tmp 37) rfl rfl rfl HO3.out HC.out HLEN.out HE3.out.size ?_)
          intro v4 w4 ho4 hg4 _
          have HE4 := Lib.hid (HO3.out.grown HE3.out hg4)
          have HO4 := Lib.hid ho4
          clear ho4 hg4
          go_wp2
          go_roundw
          case rel =>
            refine ⟨zs ++ [(x + y + cc) % bby], kk + 1, (x + y + cc) / bby, ?_, by go_num, HO4.out, HE4.out, Lib.hid ⟨Nat.succ_le_succ HK.out, by rw [List.length_append, HH.out.2.1]; rfl, HS.out.1, byts_snoc HH.out.2.2.2.1 (Nat.mod_lt _ bby_pos), HS.out.2.2⟩⟩
            rw [← HQ.out]
          case measure => exact meas_i (Nat.lt_succ_of_le HK.out)
    · have g1 : ¬ kk < xs.length := fun h => hgo (.inl h)
      have g2 : ¬ kk < ys.length := fun h => hgo (.inr (.inl h))
      have g3 : cc = 0 := by omega
      subst g3
      have hsum := HH.out.2.2.2.2
      rw [Nat.mul_zero, Nat.add_zero, bval_take_past xs kk (by omega), bval_take_past ys kk (by omega)] at hsum
      have HT := Lib.hid (btrim_num wr _ zs hO.row HH.out.2.2.2.1 (by have := HH.out.1; have := HH.out.2.1; have := HX.out.2.2; omega))
      rw [hsum] at HT
      have HE := Lib.hid hE
      clear hgo hO hE hsum hcc
      go_wp2_with fail
      refine HT.out.mono ?_
      rintro e w3 ⟨v, bs, rfl, h1, h2, h3, h4⟩
      have HB := Lib.hid (And.intro h1 (And.intro h2 h3))
      clear h1 h2 h3
      go_wp2
      go_ret
      exact ⟨_, bs, rfl, HB.out.1, HB.out.2.1, HB.out.2.2, HE.out.trans h4⟩
/-- integers in a block of one's own. -/
def IBlk (w : World) (g : Nat) (ds : List Nat) : Prop := w.heap[g]? = some (.cells (ds.map i64).toArray 3 (0, 0))
theorem IBlk.row {w : World} {g : Nat} {ds : List Nat} (h : IBlk w g ds) (c : Nat) (hc : ds.length ≤ c) : IRow w (.slice (some ⟨g, 0, none⟩) ds.length c) ds := by
  by_cases h0 : ds = []
  · subst h0; exact .inl ⟨rfl, _, _, rfl⟩
  · refine .inr ⟨g, 0, c, rfl, h0, hc, fun q u hq => ?_⟩
    rw [Nat.zero_add, cell_of h q]
    simpa using hq
theorem IBlk.cell {w : World} {g : Nat} {ds : List Nat} (h : IBlk w g ds) (k : Nat) (hk : k < ds.length) : w.cell? ⟨g, k, none⟩ = some (.int .i64 (ds.getD k 0 : Nat)) ∧ w.frozen? ⟨g, k, none⟩ = false := by
  refine ⟨?_, frozen_of h k⟩
  rw [cell_of h k]
  simp [hk, i64, List.getD_eq_getElem?_getD]
theorem IBlk.set {w : World} {g : Nat} {ds : List Nat} (h : IBlk w g ds) (k d : Nat) : IBlk (w.setCell ⟨g, k, none⟩ (.int .i64 (d : Nat))) g (ds.set k d) := by
  unfold IBlk at *
  simp only [World.setCell, Array.getElem?_modify, h]
  simp [i64, List.map_set]
theorem i64_make (w : World) (n : Nat) (hn : n ≤ 20000) : (Instr.makeSlice 103 (.int .i64 (n : Nat)) (.int .i64 (n : Nat))).run Try.prog w = .ok (.slice (some ⟨w.heap.size, 0, none⟩) n n) (w.alloc (.cells ((List.replicate n 0).map i64).toArray 3)) := by
  have h : (Try.prog.info? 3).map (fun i => (i.zero, i.size, i.bytes)) = some (some (.int .i64 0), 1, 8) := by kernel_rfl
  cases hi : Try.prog.info? 3 with
  | none => rw [hi] at h; cases h
  | some i =>
    rw [hi] at h
    simp only [Option.map_some, Option.some.injEq, Prod.mk.injEq] at h
    have := run_make (P := Try.prog) w 103 3 i _ Try.underlying103 hi h.1 .i64 .i64 (n : Nat) (n : Nat) (by omega) (Int.le_refl _) (by rw [h.2.2]; omega) (by omega)
    have e : madeCells (Value.int .i64 0).cells ((n : Int).toNat * 1) = ((List.replicate n 0).map i64).toArray := by
      simp only [madeCells, Value.cells]
      apply Array.ext
      · simp
      · intro i h1 h2
        simp [Nat.mod_one, i64]
    rw [this, h.2.1, e]
    rfl
theorem Ext.drewN (w : World) (n : Nat) : Ext w (w.drewN n) := by
  have h := Below.refl w.heap.size w
  exact ⟨h.os, h.tape, h.output, h.size, h.block⟩
theorem IBlk.drewN {w : World} {g : Nat} {ds : List Nat} (h : IBlk w g ds) (n : Nat) : IBlk (w.drewN n) g ds := h
/-- the round of a product of bytes. -/
theorem bmul_step {ds ys : List Nat} {i k c x V : Nat} (hk : i + k < ds.length) (hd : Byts ds) (hy : Byts ys) (hx : x < bby) (hc : c < bby)
    (h : bval ds + bby ^ (i + k) * c = V + x * bval (ys.take k) * bby ^ i) :
    let s := ds.getD (i + k) 0 + x * ys.getD k 0 + c
    s < 65536 ∧ s / bby < bby ∧ bval (ds.set (i + k) (s % bby)) + bby ^ (i + k + 1) * (s / bby) = V + x * bval (ys.take (k + 1)) * bby ^ i := by
  intro s
  have := b_mul_step hk hd hy hx hc h
  have e : c + ds.getD (i + k) 0 + x * ys.getD k 0 = s := by show _ = ds.getD (i + k) 0 + x * ys.getD k 0 + c; omega
  simp only [e] at this
  exact this
/-- past the other number nothing is carried. -/
theorem bmul_over {ds xs ys : List Nat} {i k c V : Nat} (hx : Byts xs) (hy : Byts ys) (hi : i < xs.length) (hV : V = bval (xs.take i) * bval ys) (hk : ys.length ≤ k)
    (h : bval ds + bby ^ (i + k) * c = V + xs.getD i 0 * bval (ys.take k) * bby ^ i) : (k ≤ ys.length ∨ c = 0) ∧ (c = 0 → bval ds = bval (xs.take (i + 1)) * bval ys) := by
  rw [bval_take_past ys _ hk] at h
  have e : V + xs.getD i 0 * bval ys * bby ^ i = bval (xs.take (i + 1)) * bval ys := by
    rw [hV, bval_take xs i hi, Nat.add_mul]
    congr 1
    simp only [Nat.mul_comm, Nat.mul_assoc]
  rw [e] at h
  have h1 := bval_lt (b_words_take hx (i + 1))
  have h2 := bval_lt hy
  rw [List.length_take, Nat.min_eq_left (by omega)] at h1
  refine ⟨?_, fun hc => by rw [hc, Nat.mul_zero, Nat.add_zero] at h; exact h⟩
  rcases Nat.lt_or_ge ys.length k with hk2 | hk2
  · right
    have h3 : bval (xs.take (i + 1)) * bval ys < bby ^ (i + k) := by
      refine Nat.lt_of_lt_of_le (Nat.mul_lt_mul_of_lt_of_le h1 (Nat.le_of_lt h2) (Nat.pow_pos bby_pos)) ?_
      rw [← Nat.pow_add]
      exact Nat.pow_le_pow_right bby_pos (by omega)
    generalize bby ^ (i + k) = P at *
    rcases Nat.eq_zero_or_pos c with hc | hc
    · exact hc
    · exfalso
      have h4 : P * 1 ≤ P * c := Nat.mul_le_mul_left P hc
      omega
  · exact .inl hk2
/-- the state of the product's outer loop. -/
def BMulSt (w : World) (g size : Nat) (xs ys : List Nat) (i : Value) (W : World) : Prop :=
  ∃ (ds : List Nat) (ii : Nat), i = .int .i64 (ii : Nat) ∧ IBlk W g ds ∧ Ext w W ∧ Hid (ii ≤ xs.length ∧ ds.length = size ∧ Byts ds ∧ bval ds = bval (xs.take ii) * bval ys)
/-- the state of its inner loop. -/
def BMulIn (w : World) (g size : Nat) (ii V x : Nat) (ys : List Nat) (c k : Value) (W : World) : Prop :=
  ∃ (ds : List Nat) (kk cc : Nat), c = .int .i64 (cc : Nat) ∧ k = .int .i64 (kk : Nat) ∧ IBlk W g ds ∧ Ext w W ∧
    Hid (kk ≤ ys.length + 1 ∧ ds.length = size ∧ cc < bby ∧ Byts ds ∧ bval ds + bby ^ (ii + kk) * cc = V + x * bval (ys.take kk) * bby ^ ii)
theorem bmul_bound {x y : Nat} (hx : x < 256) (hy : y < 256) : (x : Int) * (y : Int) ≤ 65025 ∧ 0 ≤ (x : Int) * (y : Int) := by
  have h : x * y ≤ 255 * 255 := Nat.mul_le_mul (by omega) (by omega)
  have e : (x : Int) * (y : Int) = ((x * y : Nat) : Int) := by simp
  rw [e]
  omega
theorem bmul_close {w W : World} {g size ii V x y kk cc e : Nat} {es ys : List Nat} (hU : IBlk W g es) (hE : Ext w W) (hg : w.heap.size ≤ g)
    (HJ : Hid (kk ≤ ys.length + 1 ∧ es.length = size ∧ cc < bby ∧ Byts es ∧ bval es + bby ^ (ii + kk) * cc = V + x * bval (ys.take kk) * bby ^ ii)) (hk : kk ≤ ys.length)
    (hst : e + x * y + cc < 65536 ∧ (e + x * y + cc) / bby < bby ∧ bval (es.set (ii + kk) ((e + x * y + cc) % bby)) + bby ^ (ii + kk + 1) * ((e + x * y + cc) / bby) = V + x * bval (ys.take (kk + 1)) * bby ^ ii) :
    BMulIn w g size ii V x ys (.int .i64 (((e : Int) + (x : Int) * (y : Int) + (cc : Int)) / 256)) (.int .i64 ((kk : Int) + 1)) (W.setCell ⟨g, ii + kk, none⟩ (.int .i64 (((e : Int) + (x : Int) * (y : Int) + (cc : Int)) % 256))) ∧
      ys.length + 1 - (intOf (.int .i64 ((kk : Int) + 1))).toNat < ys.length + 1 - (intOf (.int .i64 (kk : Int))).toNat := by
  obtain ⟨h1, h2, h3, h4, h5⟩ := HJ.out
  have e1 : ((e : Int) + (x : Int) * (y : Int) + (cc : Int)) % 256 = (((e + x * y + cc) % bby : Nat) : Int) := rfl
  have e2 : ((e : Int) + (x : Int) * (y : Int) + (cc : Int)) / 256 = (((e + x * y + cc) / bby : Nat) : Int) := rfl
  rw [e1, e2]
  refine ⟨⟨es.set (ii + kk) ((e + x * y + cc) % bby), kk + 1, (e + x * y + cc) / bby, rfl, rfl, hU.set _ _, Below.setCell (B := w.heap.size) hE hg _, Lib.hid ⟨Nat.succ_le_succ hk, by rw [List.length_set]; exact h2, hst.2.1, b_words_set h4 (Nat.mod_lt _ bby_pos), hst.2.2⟩⟩, meas_i (Nat.lt_succ_of_le hk)⟩
end Go.Proofs.Ytejknkhahjgdnaa
