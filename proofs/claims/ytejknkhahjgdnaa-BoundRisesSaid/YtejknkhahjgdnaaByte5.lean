/- joineryref07: Pow, From; joinerylaw07.own. -/
import Derived.Test.YtejknkhahjgdnaaByte4
import Derived.Deep.Upon
namespace Go.Proofs.Ytejknkhahjgdnaa
open Go Go.RowKit

theorem pow_fits {n k e : Nat} (hk : k ≤ e) (h : ¬ n ^ k < beta ^ 128) : fitE (n ^ k) = fitE (n ^ e) ∧ fitN (n ^ k) = fitN (n ^ e) := by
  have h2 := pow_big hk h
  unfold fitE fitN
  rw [if_neg h, if_neg h2, if_neg h, if_neg h2]
  exact ⟨rfl, rfl⟩
theorem pow_next {n k : Nat} (hn : n < beta ^ 128) (hk : n ^ k < beta ^ 128) : n ^ (k + 1) < beta ^ 256 := by
  rw [Nat.pow_succ, show (256 : Nat) = 128 + 128 from rfl, Nat.pow_add]
  exact Nat.mul_lt_mul_of_lt_of_le hk (Nat.le_of_lt hn) (Nat.pow_pos beta_pos)
theorem len4 {bs : List Nat} (h : BNorm bs) (K : Nat) : bs.length ≤ 4 * K ↔ bval bs < beta ^ K := by
  rw [beta_bby]; exact b_norm_len h (4 * K)
theorem len512 {bs : List Nat} (h : BNorm bs) : bs.length ≤ 512 ↔ bval bs < beta ^ 128 := len4 h 128
/-- the state of From's loop. -/
structure FromH (n : Nat) (zs : List Nat) (y : Nat) : Prop where
  words : Words zs
  sum : nval zs + beta ^ zs.length * y = n
  norm : y = 0 → Norm zs
  len : zs.length ≤ 2
  lt : y < beta ^ (2 - zs.length)
theorem FromH.step {n y : Nat} {zs : List Nat} (h : FromH n zs y) (h0 : 0 < y) : FromH n (zs ++ [y % beta]) (y / beta) := by
  have hlen : zs.length < 2 := by
    rcases Nat.lt_or_ge zs.length 2 with h1 | h1
    · exact h1
    · have := h.lt
      rw [show 2 - zs.length = 0 by omega, Nat.pow_zero] at this
      omega
  refine ⟨words_snoc h.words (Nat.mod_lt _ beta_pos), ?_, fun hy => ⟨words_snoc h.words (Nat.mod_lt _ beta_pos), .inr ?_⟩, by rw [List.length_append, List.length_singleton]; exact hlen, ?_⟩
  · rw [nval_snoc, List.length_append, List.length_singleton, Nat.pow_succ, Nat.mul_assoc, Nat.add_assoc, ← Nat.mul_add, Nat.mod_add_div]
    exact h.sum
  · have hlt : y < beta := by
      rcases Nat.lt_or_ge y beta with h1 | h1
      · exact h1
      · have := Nat.div_pos h1 beta_pos; omega
    rw [Nat.mod_eq_of_lt hlt]
    simp
    omega
  · have := h.lt
    rw [List.length_append, List.length_singleton]
    rw [show 2 - zs.length = (2 - (zs.length + 1)) + 1 by omega, Nat.pow_succ] at this
    exact Nat.div_lt_of_lt_mul (by rw [Nat.mul_comm]; exact this)
set_option maxHeartbeats 1000000 in
theorem from07_any (w : World) (n : Nat) (hn : n < 18446744073709551616) : Calls Try.prog 31 #[.int .u64 (n : Nat)] w (Num n w) := by
  have HN := Lib.hid hn
  clear hn
  go_enter Try.func31, Try.ntmps31
  go_wp2_with fail
  go_loopw [0, 3] (fun y v W => ∃ (zs : List Nat) (yy : Nat), y = .int .u64 (yy : Nat) ∧ UOwn w.heap.size W v zs ∧ Ext w W ∧ Hid (FromH n zs yy)) (fun y _ _ => (intOf y).toNat)
  case atStart => exact ⟨[], n, rfl, UOwn.nil _ _, Ext.refl _, Lib.hid ⟨(fun d hd => by cases hd), by simp [nval], fun _ => ⟨(fun d hd => by cases hd), .inl rfl⟩, by simp, HN.out⟩⟩
  case round =>
    obtain ⟨zs, y, rfl, hO, hE, HH⟩ := hrel
    have hy : y < 18446744073709551616 := Nat.lt_of_lt_of_le HH.out.lt (Nat.le_trans (Nat.pow_le_pow_right beta_pos (show 2 - zs.length ≤ 2 by omega)) (by decide))
    obtain ⟨va, vc, hv⟩ := hO.slice
    subst hv
    by_cases h0 : 0 < y
    · have h0' : 0 < (y : Int) := by omega
      have hA := (Ext.refl wr).alloc (.cells #[.int .u32 ((y : Int) % 4294967296)] 34)
      have HO3 := Lib.hid (hO.ext hA)
      have HE3 := Lib.hid (hE.trans hA)
      have HC := Lib.hid (show (wr.alloc (.cells #[.int .u32 ((y : Int) % 4294967296)] 34)).cell? ⟨wr.heap.size, 0, none⟩ = some (.int .u32 ((y % beta : Nat) : Int)) by
        rw [cast_mod]
        exact cell_of (alloc_at wr (.cells #[.int .u32 ((y : Int) % 4294967296)] 34) _ rfl) 0)
      have HLEN := Lib.hid (show zs.length ≤ 20000 by have := HH.out.len; omega)
      have HST := Lib.hid (HH.out.step h0)
      have HQ := Lib.hid (cast_div y)
      have H0 := Lib.hid h0
      clear hO hE hA h0
      go_wp2_with (at_builtin; refine wpList_append_word (B := w.heap.size) (zs := zs) (d := y % beta) (b := wr.heap.size) rfl (.tmp 6) (.tmp 10) rfl rfl rfl HO3.out HC.out HLEN.out HE3.out.size ?_)
      intro v4 w4 ho4 hg4 _
      have HE4 := Lib.hid (HO3.out.grown HE3.out hg4)
      have HO4 := Lib.hid ho4
      clear ho4 hg4
      go_wp2
      go_roundw
      case rel => exact ⟨zs ++ [y % beta], y / beta, by rw [HQ.out], HO4.out, HE4.out, HST.out⟩
      case measure =>
        simp [intOf]
        have := H0.out
        omega
    · have hy0 : y = 0 := Nat.eq_zero_of_not_pos h0
      subst hy0
      have HR := Lib.hid hO.row
      have HE := Lib.hid hE
      have HV := Lib.hid (show nval zs = n by have := HH.out.sum; rw [Nat.mul_zero, Nat.add_zero] at this; exact this)
      clear hO hE h0 hy
      go_wp2
      go_ret
      exact ⟨_, rfl, ⟨zs, HR.out, HH.out.norm rfl, HV.out⟩, HE.out⟩
theorem append_words {w : World} (ty : TypeId) {u : Value} {xs : List Nat} (hu : URow w u xs) (hl : xs.length ≤ 10000) :
    ∃ v' w', (Builtin.append_ #[23, 23] ty #[.slice none 0 0, u]).run Try.prog w = .ok v' w' ∧ UOwn w.heap.size w' v' xs ∧ Ext w w' := by
  have hI : (Try.prog.info? 34).map (fun i => (i.zero, i.size, i.bytes)) = some (some (.int .u32 0), 1, 4) := by kernel_rfl
  have hml : (10000 : Nat) ≤ maxLen := by decide
  cases hi : Try.prog.info? 34 with
  | none => rw [hi] at hI; cases hI
  | some i =>
    rw [hi] at hI
    simp only [Option.map_some, Option.some.injEq, Prod.mk.injEq] at hI
    rcases hu with ⟨rfl, a, c, rfl⟩ | ⟨b, o, c, rfl, _, hc, hr⟩
    · have hsrc : Src Try.prog i.size 23 (.slice a 0 c) 0 [] w := by
        cases a with
        | none => exact Src.ofNil w Try.underlying23 c
        | some a => exact Src.ofSlice w Try.underlying23 a 0 c [] (by simp) (by simp) (by simp)
      exact ⟨_, w, run_append_nothing w _ _ ty _ i Try.underlying23 hi none 0 0 (Nat.le_refl _) _ hsrc, UOwn.nil _ _, Ext.refl _⟩
    · obtain ⟨v', w', hrun, hown, hg, _, _⟩ := run_append_own_at (P := Try.prog) w w.heap.size _ ty _ i _ 1 4 Try.underlying23 hi hI.1 hI.2.1 hI.2.2 rfl (by omega) (.slice none 0 0) 0 [] (UOwn.nil _ w) ⟨b, o, none⟩ xs.length c (xs.map u32) (by simp)
        (fun j u hj => by rw [Addr.add_mid]; exact hr j u hj) (fun u hu => by obtain ⟨d, _, rfl⟩ := List.mem_map.1 hu; rfl) (by omega) (by omega) (Nat.le_refl _)
      refine ⟨v', w', hrun, ?_, RowKit.Below.grown (Ext.refl w) hg (Nat.le_refl _) (fun k hk => by cases hk)⟩
      show w'.ownsRow _ _ _ _ _ _
      simpa using hown
/-- a row of words is handed back. -/
def Row (xs : List Nat) (w : World) (e : Ending) (w' : World) : Prop := ∃ v, e = .returned v ∧ URow w' v xs ∧ Ext w w'
theorem wpList_append_words {ops : Array Oper} {rest : List Oper} {o : Oper} {a : Act} {Q : Exit → Act → World → Prop} (hgd : o.guard = none) (s x : Operand) (ho : o.op = .call { callee := .builtin .append, args := #[s, x], argTypes := #[23, 23] })
    {w : World} {u : Value} {xs : List Nat} (hs : a.eval s = .slice none 0 0) (hx : a.eval x = u) (hu : URow w u xs) (hl : xs.length ≤ 10000)
    (h : ∀ v' w', UOwn w.heap.size w' v' xs → Ext w w' → wpList Try.prog ops Q rest (a.put o.dst v') w') : wpList Try.prog ops Q (o :: rest) a w := by
  refine wpList_plain hgd fun K hK => ?_
  obtain ⟨v', w', hr, h2, h3⟩ := append_words o.type hu hl
  unfold Oper.wp execOp
  simp only [ho, resolve, invoke, builtin, Sem.run_bind, Sem.run_pure, Result.andThen_ok, List.map_toArray, List.map_cons, List.map_nil, hs, hx, hr]
  exact hK _ _ (h v' w' h2 h3)
end Go.Proofs.Ytejknkhahjgdnaa
