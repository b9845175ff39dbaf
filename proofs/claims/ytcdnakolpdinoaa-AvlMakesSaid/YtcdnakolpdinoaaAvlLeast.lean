/- joinerylaw14.least, joineryref14.Least, joinerylaw14.alive, and the walk of joinerylaw14.AvlLeast. -/
import Derived.Test.YtcdnakolpdinoaaAvlLaw
namespace Go.Proofs.Ytcdnakolpdinoaa
open Go Go.RowKit

/-- some tree with a property, made in new memory. -/
def Makes (S : Tr → Prop) (w : World) (e : Ending) (w' : World) : Prop := ∃ t, e = .returned (.pointer t.ptr) ∧ InH w' t ∧ S t ∧ Ext w w'
set_option maxHeartbeats 400000 in
theorem least_neg (z : Int) (w : World) (h : z ≤ 0) : Calls Try.prog 23 #[.int .i64 z] w (Ret (.pointer none) w) := by
  go_enter Try.func23, Try.ntmps23
  go_wp2
  go_ret
  exact Ret.mk (Ext.refl _)
set_option maxHeartbeats 400000 in
theorem least_any (n : Nat) : ∀ (w : World), n ≤ 100 → Calls Try.prog 23 #[.int .i64 n] w (Makes (IsLeast n) w) := by
  induction n using Nat.strongRecOn with
  | ind n ih =>
    intro w hlt
    match n, ih, hlt with
    | 0, _, _ => exact (least_neg _ w (by omega)).mono fun e w' ⟨he, h⟩ => ⟨.nil, he, trivial, rfl, h⟩
    | 1, ih, _ =>
      clear ih
      go_enter Try.func23, Try.ntmps23
      go_wp2_with fail
      refine (least_neg _ _ (by omega)).mono ?_
      rintro e w1 ⟨rfl, h1⟩
      go_wp2_with fail
      refine (least_neg _ _ (by omega)).mono ?_
      rintro e w2 ⟨rfl, h2⟩
      go_wp2_with fail
      refine (avlMake_any w2 .nil .nil _ _ trivial trivial).mono ?_
      rintro e w3 ⟨b, rfl, hb, ht, h3⟩
      go_wp2
      go_ret
      exact ⟨_, rfl, ht, ⟨b, rfl⟩, (h1.trans h2).trans h3⟩
    | n + 2, ih, hlt =>
      have h2 : (n : Int) ≤ 98 := by omega
      have ihl := Lib.hid (ih n (by omega))
      have ihr := Lib.hid (ih (n + 1) (by omega))
      clear ih hlt
      rw [show ((n + 2 : Nat) : Int) = (n : Int) + 2 by omega]
      go_enter Try.func23, Try.ntmps23
      go_wp2_with fail
      refine (ihl.out _ (by omega)).mono ?_
      rintro e w1 ⟨l, rfl, hl, hsl, h1⟩
      have Hl := Lib.hid hsl
      clear hsl ihl
      go_wp2_with fail
      rw [show (n : Int) + 2 - 1 = ((n + 1 : Nat) : Int) by omega]
      refine (ihr.out _ (by omega)).mono ?_
      rintro e w2 ⟨r, rfl, hr, hsr, h2⟩
      have Hr := Lib.hid hsr
      clear hsr ihr
      go_wp2_with fail
      refine (avlMake_any w2 l r _ _ (hl.ext h2) hr).mono ?_
      rintro e w3 ⟨b, rfl, hb, ht, h3⟩
      go_wp2
      go_ret
      exact ⟨_, rfl, ht, ⟨b, l, r, rfl, Hl.out, Hr.out⟩, (h1.trans h2).trans h3⟩

theorem leastN_lt : ∀ k : Nat, leastN k < 2 ^ k
  | 0 => by decide
  | 1 => by decide
  | k + 2 => by
    have h1 := leastN_lt k
    have h2 := leastN_lt (k + 1)
    rw [leastN]
    have e1 : 2 ^ (k + 1) = 2 * 2 ^ k := by rw [Nat.pow_succ]; omega
    have e2 : 2 ^ (k + 2) = 4 * 2 ^ k := by rw [Nat.pow_succ, e1]; omega
    omega
theorem leastN_wrap (k : Nat) (h : k ≤ 60) : wrap64 (wrap64 ((leastN k : Int) + (leastN (k + 1) : Int)) + 1) = (leastN (k + 1 + 1) : Int) := by
  have h1 := leastN_lt k
  have h2 := leastN_lt (k + 1)
  have h3 : 2 ^ k ≤ 2 ^ 60 := Nat.pow_le_pow_right (by decide) h
  have h4 : 2 ^ (k + 1) ≤ 2 ^ 61 := Nat.pow_le_pow_right (by decide) (by omega)
  rw [show leastN (k + 1 + 1) = leastN k + leastN (k + 1) + 1 from rfl]
  unfold wrap64
  omega
set_option maxHeartbeats 400000 in
theorem refLeast_any (n : Nat) (w : World) (hn : n ≤ 60) : Calls Try.prog 20 #[.int .i64 n] w (Ret (.int .i64 (leastN n)) w) := by
  go_enter Try.func20, Try.ntmps20
  go_wp2
  go_loop [3, 4, 5] (fun a b i => ∃ k : Nat, k ≤ n ∧ i = .int .i64 k ∧ a = .int .i64 (leastN k) ∧ b = .int .i64 (leastN (k + 1))) (fun _ _ i => n - (intOf i).toNat)
  case atStart => exact ⟨0, Nat.zero_le _, rfl, rfl, rfl⟩
  case round =>
    obtain ⟨k, hk, rfl, rfl, rfl⟩ := hrel
    by_cases hlt : k < n
    · have H := Lib.hid (leastN_wrap k (by omega))
      go_wp2
      go_round
      case rel => exact ⟨k + 1, by omega, by go_num, rfl, by rw [H.out]⟩
      case measure => simp [intOf]; omega
    · have hk' : k = n := by omega
      have H := Lib.hid hk'
      clear hk'
      go_wp2
      go_ret
      exact ⟨ret_int (by rw [H.out]), Ext.refl _⟩

set_option maxHeartbeats 400000 in
theorem alive14_any (w : World) : Calls Try.prog 8 #[] w (Ret (.bool true) w) := by
  go_enter Try.func8, Try.ntmps8
  go_wp2_with fail
  refine (avlMake_any w .nil .nil 2 0 trivial trivial).mono ?_
  rintro e w1 ⟨b2, rfl, hb2, ht2, h1⟩
  go_wp2_with fail
  refine (avlMake_any w1 .nil (.node b2 .nil 2 0 (avlTag .nil .nil) .nil) 1 0 trivial ht2).mono ?_
  rintro e w2 ⟨b1, rfl, hb1, ht1, h2⟩
  clear ht2
  have f1 : (Tr.node b1 .nil 1 0 (avlTag .nil (.node b2 .nil 2 0 (avlTag .nil .nil) .nil)) (.node b2 .nil 2 0 (avlTag .nil .nil) .nil)).tag = 2 := rfl
  have f2 : avlLean (Tr.node b1 .nil 1 0 (avlTag .nil (.node b2 .nil 2 0 (avlTag .nil .nil) .nil)) (.node b2 .nil 2 0 (avlTag .nil .nil) .nil)) = 1 := by kernel_rfl
  have f3 : avlMay (Tr.node b1 .nil 1 0 (avlTag .nil (.node b2 .nil 2 0 (avlTag .nil .nil) .nil)) (.node b2 .nil 2 0 (avlTag .nil .nil) .nil)) = true := rfl
  have f4 : ∀ b, avlFirst (Tr.node b .nil 0 0 (avlTag .nil (Tr.node b1 .nil 1 0 (avlTag .nil (.node b2 .nil 2 0 (avlTag .nil .nil) .nil)) (.node b2 .nil 2 0 (avlTag .nil .nil) .nil))) (Tr.node b1 .nil 1 0 (avlTag .nil (.node b2 .nil 2 0 (avlTag .nil .nil) .nil)) (.node b2 .nil 2 0 (avlTag .nil .nil) .nil))).pre = (0, 8) := fun _ => rfl
  generalize (Tr.node b1 .nil 1 0 (avlTag .nil (.node b2 .nil 2 0 (avlTag .nil .nil) .nil)) (.node b2 .nil 2 0 (avlTag .nil .nil) .nil)) = a at *
  have F4 := Lib.hid f4
  clear f4
  go_wp2_with fail
  refine (avlMake_any w2 .nil a 0 0 trivial ht1).mono ?_
  rintro e w3 ⟨b3, rfl, hb3, ht3, h3⟩
  go_wp2_with fail
  refine (avlCheck_any w3 _ ht3).mono ?_
  rw [F4.out]
  dsimp only
  rw [show wrap64 ((0 : Nat) : Int) = 0 by decide +kernel]
  rintro e w4 ⟨rfl, h4⟩
  have hE : Ext w2 w4 := h3.trans h4
  have h04 := (h1.trans h2).trans hE
  clear ht3 hb3 hb1 hb2 h3 h4 h1 h2 F4
  have e1 : (a.tag == 2) = true := by rw [f1]; rfl
  have e2 : (avlLean a == 1) = true := by rw [f2]; rfl
  have e3 : (wrap64 a.tag == 2) = true := by rw [f1]; decide +kernel
  clear f1 f2
  go_wp2_with fail
  refine (tag_any _ a (ht1.ext hE)).mono ?_
  rintro e w5 ⟨rfl, h5⟩
  go_wp2_with fail
  refine (avlLean_any _ a (ht1.ext (hE.trans h5))).mono ?_
  rintro e w6 ⟨rfl, h6⟩
  have hE2 := (hE.trans h5).trans h6
  go_wp2_with fail
  refine (avlRank_any _ a (ht1.ext hE2)).mono ?_
  rintro e w7 ⟨rfl, h7⟩
  have hE3 := hE2.trans h7
  clear hE
  go_wp2_with fail
  refine (avlMay_any _ a (ht1.ext hE3)).mono ?_
  rw [f3]
  rintro e w8 ⟨rfl, h8⟩
  clear f3
  go_wp2_with fail
  refine (avlRank_any w8 .nil trivial).mono ?_
  rw [show wrap64 Tr.nil.tag = 0 by decide +kernel]
  rintro e w9 ⟨rfl, h9⟩
  go_wp2_with fail
  refine (avlLean_any w9 .nil trivial).mono ?_
  rw [show avlLean .nil = 0 by decide +kernel]
  rintro e w10 ⟨rfl, h10⟩
  go_wp2
  go_ret
  exact Ret.mk ((((((h04.trans h5).trans h6).trans h7).trans h8).trans h9).trans h10)

theorem hmod15 {a0 : Int} (w0 : (Lit.int .u8 a0).wf = true) : ∃ k : Nat, k < 15 ∧ wrap64 (a0.tmod 15) = k := by
  have h : 0 ≤ a0 := by
    simp [Lit.wf, IntKind.min, IntKind.max, IntKind.signed, IntKind.bits] at w0
    omega
  refine ⟨(a0.tmod 15).toNat, ?_, ?_⟩
  · rw [Int.tmod_eq_emod_of_nonneg h]; omega
  · rw [Int.tmod_eq_emod_of_nonneg h]; unfold wrap64; omega
set_option maxHeartbeats 400000 in
theorem avlLeast_walk (a0 : Int) (w : World) (w0 : (Lit.int .u8 a0).wf = true) :
    Calls Try.prog 5 #[.int .u8 a0] w (Ret (.bool true) w) := by
  obtain ⟨k, hk, hw⟩ := hmod15 w0
  have Hw := Lib.hid hw
  clear hw
  go_enter Try.func5, Try.ntmps5
  go_wp2_with fail
  rw [Hw.out]
  refine (least_any k w (by omega)).mono ?_
  rintro e w1 ⟨t, rfl, ht, hs, h1⟩
  obtain ⟨p1, p2, p3⟩ := isLeast_all k t (by omega) hs
  have g1 : avlFirst t.pre = (leastN k, 0) := by
    have : (avlFirst t.pre).2 = 0 := by simpa [avlMay] using p2
    refine Prod.ext ?_ this
    rw [(avlFirst_none this).1, ← p3]; rfl
  have hb := leastN_lt k
  have hb2 : 2 ^ k ≤ 2 ^ 15 := Nat.pow_le_pow_right (by decide) (by omega)
  have g2 : wrap64 (leastN k : Int) = leastN k := by unfold wrap64; omega
  have g3 : t.size = leastN k := by rw [Tr.size_count, p3, g2]
  have g4 : wrap64 t.tag = k := by rw [p1]; unfold wrap64; omega
  clear hs p1 p2 p3 hb hb2
  have G1 := Lib.hid g1
  have G2 := Lib.hid g2
  have G3 := Lib.hid g3
  have G4 := Lib.hid g4
  clear g1 g2 g3 g4
  go_wp2_with fail
  refine (avlCheck_any w1 t ht).mono ?_
  rw [G1.out, G2.out]
  rintro e w2 ⟨rfl, h2⟩
  go_wp2_with fail
  refine (refLeast_any k w2 (by omega)).mono ?_
  rintro e w3 ⟨rfl, h3⟩
  go_wp2_with fail
  refine (size_any w3 t (ht.ext (h2.trans h3))).mono ?_
  rw [G3.out]
  rintro e w4 ⟨rfl, h4⟩
  go_wp2_with fail
  refine (avlRank_any w4 t (ht.ext ((h2.trans h3).trans h4))).mono ?_
  rw [G4.out]
  rintro e w5 ⟨rfl, h5⟩
  go_wp2_with fail
  refine (alive14_any w5).mono ?_
  rintro e w6 ⟨rfl, h6⟩
  go_wp2
  go_ret
  exact Ret.mk (((((h1.trans h2).trans h3).trans h4).trans h5).trans h6)
end Go.Proofs.Ytcdnakolpdinoaa
