/- joineryref07: words, add, fits, From. -/
import Derived.Test.YtejknkhahjgdnaaByte
import Derived.Test.YtejknkhahjgdnaaNat9
namespace Go.Proofs.Ytejknkhahjgdnaa
open Go Go.RowKit

theorem norm_of_low {zs : List Nat} (h : Words zs) (h1 : zs = [] ∨ beta ^ (zs.length - 1) ≤ nval zs) : Norm zs := by
  refine ⟨h, ?_⟩
  rcases h1 with h1 | h1
  · exact .inl h1
  · by_cases h0 : zs = []
    · exact .inl h0
    · right
      intro e
      have hl := List.length_pos_iff.2 h0
      have e2 := nval_take zs (zs.length - 1) (by omega)
      rw [e, Nat.mul_zero, Nat.add_zero, show zs.length - 1 + 1 = zs.length by omega, List.take_length] at e2
      have e3 := nval_lt (words_take h (zs.length - 1))
      rw [List.length_take, Nat.min_eq_left (by omega)] at e3
      omega
theorem words4 {bs : List Nat} (k : Nat) : bval (bs.take (4 * (k + 1))) = bval (bs.take (4 * k)) + beta ^ k * (bs.getD (4 * k) 0 + bs.getD (4 * k + 1) 0 * 256 + bs.getD (4 * k + 2) 0 * 65536 + bs.getD (4 * k + 3) 0 * 16777216) := by
  rw [show 4 * (k + 1) = 4 * k + 1 + 1 + 1 + 1 by omega, bval_take', bval_take', bval_take', bval_take', beta_bby]
  have h0 := Nat.pow_succ (n := bby) (m := 4 * k)
  have h1 := Nat.pow_succ (n := bby) (m := 4 * k + 1)
  have h2 := Nat.pow_succ (n := bby) (m := 4 * k + 1 + 1)
  simp only [show 4 * k + 1 + 1 = 4 * k + 2 by omega] at *
  rw [h2, h1, h0]
  generalize bs.getD (4 * k) 0 = d0
  generalize bs.getD (4 * k + 1) 0 = d1
  generalize bs.getD (4 * k + 2) 0 = d2
  generalize bs.getD (4 * k + 3) 0 = d3
  generalize bby ^ (4 * k) = P
  have e1 : P * bby * d1 = P * (d1 * 256) := by rw [Nat.mul_assoc, Nat.mul_comm bby]; rfl
  have e2 : P * bby * bby * d2 = P * (d2 * 65536) := by rw [Nat.mul_assoc, Nat.mul_assoc, ← Nat.mul_assoc bby, Nat.mul_comm _ d2]; rfl
  have e3 : P * bby * bby * bby * d3 = P * (d3 * 16777216) := by rw [Nat.mul_assoc, Nat.mul_assoc, Nat.mul_assoc, ← Nat.mul_assoc bby, ← Nat.mul_assoc (bby * bby), Nat.mul_comm _ d3]; rfl
  rw [e1, e2, e3, Nat.mul_add, Nat.mul_add, Nat.mul_add]
  omega
theorem words_snoc {zs : List Nat} {d : Nat} (h : Words zs) (hd : d < beta) : Words (zs ++ [d]) := fun y hy => by
  rcases List.mem_append.1 hy with h1 | h1
  · exact h y h1
  · rw [List.mem_singleton.1 h1]; exact hd
theorem nval_snoc (zs : List Nat) (d : Nat) : nval (zs ++ [d]) = nval zs + beta ^ zs.length * d := by
  rw [nval_append]; simp [nval]
theorem words_end {zs bs : List Nat} {ii : Nat} (hw : Words zs) (hb : BNorm bs) (h1 : zs.length = ii) (h2 : 4 * ii < bs.length + 4) (h3 : bs.length ≤ 4 * ii) (h4 : nval zs = bval (bs.take (4 * ii))) : Norm zs ∧ nval zs = bval bs := by
  rw [List.take_of_length_le h3] at h4
  refine ⟨norm_of_low hw ?_, h4⟩
  by_cases h0 : zs = []
  · exact .inl h0
  · right
    have hl := List.length_pos_iff.2 h0
    have a1 := b_norm_low hb (by intro e; rw [e] at h2; simp at h2; omega)
    rw [h4, beta_bby]
    exact Nat.le_trans (Nat.pow_le_pow_right bby_pos (by omega)) a1
/-- the state of words' loop. -/
def WrdSt (w : World) (bs : List Nat) (v i : Value) (W : World) : Prop :=
  ∃ (zs : List Nat) (ii : Nat), i = .int .i64 ((4 * ii : Nat) : Int) ∧ UOwn w.heap.size W v zs ∧ Ext w W ∧ Hid (4 * ii < bs.length + 4 ∧ zs.length = ii ∧ Words zs ∧ nval zs = bval (bs.take (4 * ii)))
set_option maxRecDepth 100000 in
set_option maxHeartbeats 4000000 in
theorem words_any (w : World) (p : Value) (xs : List Nat) (h : IRow w p xs) (hw : Byts xs) (hl : xs.length ≤ 5000) : Calls Try.prog 98 #[p] w (Num (bval xs) w) := by
  have HT := Lib.hid (btrim_num w p xs h hw (by omega))
  clear h
  have HL := Lib.hid hl
  clear hl
  go_enter Try.func98, Try.ntmps98
  go_wp2_with fail
  refine HT.out.mono ?_
  rintro e w1 ⟨v, bs, rfl, h1, h2, h3, h4⟩
  obtain ⟨a, c, rfl⟩ := h1.slice
  have HB := Lib.hid (And.intro h1 (And.intro h2 h3))
  have HE1 := Lib.hid h4
  have HLB := Lib.hid (show bs.length ≤ 5000 by
    rcases Nat.lt_or_ge 5000 bs.length with h | h
    · exfalso
      have a1 := b_norm_low h2 (by intro e; rw [e] at h; simp at h)
      have a2 := bval_lt hw
      have a3 : bby ^ xs.length ≤ bby ^ (bs.length - 1) := Nat.pow_le_pow_right bby_pos (by have := HL.out; omega)
      omega
    · exact h)
  clear h1 h2 h3 h4
  go_wp2_with fail
  go_loopw [3, 4] (fun v i W => WrdSt w1 bs v i W) (fun _ i _ => bs.length + 4 - (intOf i).toNat)
  case atStart => exact ⟨[], 0, rfl, UOwn.nil _ _, Ext.refl _, Lib.hid ⟨by omega, rfl, (fun d hd => by cases hd), by simp [bval, nval]⟩⟩
  case round =>
    obtain ⟨zs, ii, rfl, hO, hE, HH⟩ := hrel
    by_cases hi : 4 * ii < bs.length
    · have HI := Lib.hid hi
      have HO := Lib.hid hO
      have HE := Lib.hid hE
      have HA := Lib.hid (fun j => at07_any wr _ bs j (HB.out.1.ext hE) (Nat.le_trans HLB.out (by decide)))
      have hii : 4 * ii ≤ 5000 := by have := HLB.out; omega
      obtain ⟨va, vc, hv⟩ := hO.slice
      subst hv
      obtain ⟨d0, hd0⟩ : ∃ d, bs.getD (4 * ii) 0 = d := ⟨_, rfl⟩
      obtain ⟨d1, hd1⟩ : ∃ d, bs.getD (4 * ii + 1) 0 = d := ⟨_, rfl⟩
      obtain ⟨d2, hd2⟩ : ∃ d, bs.getD (4 * ii + 2) 0 = d := ⟨_, rfl⟩
      obtain ⟨d3, hd3⟩ : ∃ d, bs.getD (4 * ii + 3) 0 = d := ⟨_, rfl⟩
      have b0 : d0 < 256 := by rw [← hd0]; exact b_words_getD HB.out.2.1.1 _
      have b1 : d1 < 256 := by rw [← hd1]; exact b_words_getD HB.out.2.1.1 _
      have b2 : d2 < 256 := by rw [← hd2]; exact b_words_getD HB.out.2.1.1 _
      have b3 : d3 < 256 := by rw [← hd3]; exact b_words_getD HB.out.2.1.1 _
      have A0 := Lib.hid (HA.out (4 * ii))
      have A1 := Lib.hid (HA.out (4 * ii + 1))
      have A2 := Lib.hid (HA.out (4 * ii + 2))
      have A3 := Lib.hid (HA.out (4 * ii + 3))
      have HW4 := Lib.hid (words4 (bs := bs) ii)
      rw [hd0] at A0
      rw [hd1] at A1
      rw [hd2] at A2
      rw [hd3] at A3
      rw [hd0, hd1, hd2, hd3] at HW4
      clear hO hE hd0 hd1 hd2 hd3
      go_wp2_with fail
      refine A0.out.mono ?_
      rintro e w2 ⟨rfl, rfl⟩
      go_wp2_with fail
      refine A1.out.mono ?_
      rintro e w2 ⟨rfl, rfl⟩
      go_wp2_with fail
      refine A2.out.mono ?_
      rintro e w2 ⟨rfl, rfl⟩
      go_wp2_with fail
      refine A3.out.mono ?_
      rintro e w2 ⟨rfl, rfl⟩
      have hA := (Ext.refl wr).alloc (.cells #[.int .u32 ((d0 : Int) + (d1 : Int) * 256 + (d2 : Int) * 65536 + (d3 : Int) * 16777216)] 34)
      have HO3 := Lib.hid (HO.out.ext hA)
      have HE3 := Lib.hid (HE.out.trans hA)
      have HC := Lib.hid (show (wr.alloc (.cells #[.int .u32 ((d0 : Int) + (d1 : Int) * 256 + (d2 : Int) * 65536 + (d3 : Int) * 16777216)] 34)).cell? ⟨wr.heap.size, 0, none⟩ = some (.int .u32 ((d0 + d1 * 256 + d2 * 65536 + d3 * 16777216 : Nat) : Int)) from
        cell_of (alloc_at wr (.cells #[.int .u32 ((d0 : Int) + (d1 : Int) * 256 + (d2 : Int) * 65536 + (d3 : Int) * 16777216)] 34) _ rfl) 0)
      have HLEN := Lib.hid (show zs.length ≤ 20000 by have := HH.out.2.1; omega)
      have HD := Lib.hid (show d0 + d1 * 256 + d2 * 65536 + d3 * 16777216 < beta by show _ < 4294967296; omega)
      clear hA
      go_wp2_with (at_builtin; refine wpList_append_word (B := w1.heap.size) (zs := zs) (d := d0 + d1 * 256 + d2 * 65536 + d3 * 16777216) (b := wr.heap.size) rfl (.tmp 13) (.tmp 39) rfl rfl rfl HO3.out HC.out HLEN.out HE3.out.size ?_)
      intro v4 w4 ho4 hg4 _
      have HE4 := Lib.hid (HO3.out.grown HE3.out hg4)
      have HO4 := Lib.hid ho4
      clear ho4 hg4 hi b0 b1 b2 b3
      go_wp2
      go_roundw
      case rel =>
        refine ⟨zs ++ [d0 + d1 * 256 + d2 * 65536 + d3 * 16777216], ii + 1, by first | rfl | (congr 1; omega), HO4.out, HE4.out, Lib.hid ⟨by have := HI.out; omega, by rw [List.length_append, HH.out.2.1]; rfl, words_snoc HH.out.2.2.1 HD.out, ?_⟩⟩
        rw [nval_snoc, HW4.out, HH.out.2.2.2, HH.out.2.1]
      case measure => simp [intOf]; have := HI.out; omega
    · obtain ⟨hN, hV⟩ := words_end HH.out.2.2.1 HB.out.2.1 HH.out.2.1 HH.out.1 (Nat.le_of_not_lt hi) HH.out.2.2.2
      have HN := Lib.hid (And.intro hN (hV.trans HB.out.2.2))
      have HO := Lib.hid hO
      have HE := Lib.hid (HE1.out.trans hE)
      obtain ⟨va, vc, hv⟩ := hO.slice
      subst hv
      have hi' : ¬ 4 * (ii : Int) < bs.length := by omega
      clear hO hE hi hN hV
      go_wp2
      go_ret
      exact ⟨_, rfl, ⟨zs, HO.out.row, HN.out.1, HN.out.2⟩, HE.out⟩
/-- a row of bytes lies in memory, whose number it is. -/
def BIs (w : World) (v : Value) (n : Nat) : Prop := ∃ bs, IRow w v bs ∧ BNorm bs ∧ bval bs = n
theorem BIs.ext {w w' : World} {v : Value} {n : Nat} (h : BIs w v n) (e : Ext w w') : BIs w' v n := by
  obtain ⟨bs, h1, h2⟩ := h; exact ⟨bs, h1.ext e, h2⟩
/-- how long the greatest rows of bytes are. -/
def bK : Nat := 5000
theorem bis_len {bs : List Nat} {n K : Nat} (h : BNorm bs) (hv : bval bs = n) (hn : n < bby ^ K) : bs.length ≤ K := (b_norm_len h K).2 (by rw [hv]; exact hn)
theorem beta_bby_lt {n K : Nat} (h : n < bby ^ (4 * K)) : n < beta ^ K := by rw [beta_bby]; exact h
theorem bis_lenK {bs : List Nat} {n : Nat} (h : BNorm bs) (hv : bval bs = n) (hn : n < bby ^ bK) : bs.length ≤ 5000 := bis_len (K := bK) h hv hn
set_option maxHeartbeats 1000000 in
theorem fits07_any (w : World) (v : Value) (n : Nat) (h : BIs w v n) (hn : n < bby ^ bK) : Calls Try.prog 82 #[v] w (Fits n w) := by
  obtain ⟨bs, h1, h2, h3⟩ := h
  have HT := Lib.hid (words_any w v bs h1 h2.1 (bis_lenK h2 h3 hn))
  rw [h3] at HT
  clear h1 h2 h3 hn
  go_enter Try.func82, Try.ntmps82
  go_wp2_with fail
  refine HT.out.mono ?_
  rintro e w1 ⟨v, rfl, ⟨ys, h1, h2, h3⟩, h4⟩
  obtain ⟨b, d, rfl⟩ := h1.slice
  have HL := Lib.hid (norm_len h2 128)
  have H1 := Lib.hid h1
  have H2 := Lib.hid h2
  have H3 := Lib.hid h3
  clear h1 h2 h3
  by_cases hk : ys.length ≤ 128
  · have hk' : ¬ (128 : Int) < ys.length := by omega
    have HK := Lib.hid hk
    clear hk
    go_wp2
    go_ret2
    have h5 : n < beta ^ 128 := by rw [← H3.out]; exact HL.out.1 HK.out
    unfold Fits fitE fitN
    rw [if_pos h5, if_pos h5]
    exact ⟨_, rfl, ⟨ys, H1.out, H2.out, H3.out⟩, h4⟩
  · have hk' : (128 : Int) < ys.length := by omega
    have HK := Lib.hid hk
    clear hk
    go_wp2
    go_ret2
    have h5 : ¬ n < beta ^ 128 := by rw [← H3.out]; exact fun h => HK.out (HL.out.2 h)
    unfold Fits fitE fitN
    rw [if_neg h5, if_neg h5]
    exact ⟨_, rfl, num_nil _ _ _, h4⟩
end Go.Proofs.Ytejknkhahjgdnaa
