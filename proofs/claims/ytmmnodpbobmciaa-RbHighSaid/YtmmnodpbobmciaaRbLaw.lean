/- Plain facts of red-black trees; joinerylaw16.alive; the walks of RbTells and RbMakes. -/
import Derived.Test.YtmmnodpbobmciaaRef16c
namespace Go.Proofs.Ytmmnodpbobmciaa
open Go Go.RowKit

theorem rbPart_node (b : Nat) (l : Tr) (k v g : Int) (r : Tr) : rbPart (.node b l k v g r) = (rbOne (.node b l k v g r) == 0 && rbPart l && rbPart r) := mayOf_node b l k v g r
theorem rbOne_zero {T : Tr} : rbOne T = 0 ↔ rbBadTag T = false ∧ rbBadTree T = false := by
  unfold rbOne
  cases rbBadTag T <;> cases rbBadTree T <;> simp
theorem rb_sides {b : Nat} {l r : Tr} {k v g : Int} (h : rbPart (.node b l k v g r) = true) :
    rbPart l = true ∧ rbPart r = true ∧ g ≠ 0 ∧ (g = 2 * hi l + 1 ∨ g = IntKind.u64.wrap (2 * hi l + 2)) ∧ hi l = hi r ∧ (g % 2 = 1 → col l ≠ 1 ∧ col r ≠ 1) := by
  rw [rbPart_node] at h
  simp only [Bool.and_eq_true, beq_iff_eq] at h
  obtain ⟨⟨h1, h2⟩, h3⟩ := h
  obtain ⟨h4, h5⟩ := rbOne_zero.1 h1
  simp only [rbBadTag, Bool.or_eq_false_iff, Bool.and_eq_false_iff, Bool.not_eq_false', Bool.and_eq_true, beq_eq_false_iff_ne, beq_iff_eq, bne_eq_false_iff_eq, Tr.tag_node, Tr.left_node] at h4
  simp only [rbBadTree, Bool.or_eq_false_iff, Bool.and_eq_false_iff, beq_eq_false_iff_ne, bne_eq_false_iff_eq, Tr.left_node, Tr.right_node] at h5
  refine ⟨h2, h3, h4.1, ?_, h5.1, ?_⟩
  · rcases h4.2 with ⟨h6, h7⟩ | h6
    · left
      have e1 : g % 2 = 1 := h6
      have e2 : g / 2 = hi l := h7
      omega
    · right
      rw [h6]; rfl
  · intro hg
    rcases h5.2 with h6 | h6
    · exact absurd hg h6
    · exact h6
theorem col_01 (T : Tr) : col T = 0 ∨ col T = 1 := by unfold col; omega
theorem part_facts : ∀ T : Tr, rbPart T = true → TagsOk T → T.count < 1000000 → 0 ≤ hi T ∧ hi T < 100000000 ∧ (T.ht : Int) ≤ 2 * hi T + col T ∧ 2 ^ (hi T).toNat ≤ T.count + 1
  | .nil, _, _, _ => ⟨by decide, by decide, by decide, by decide⟩
  | .node b l k v g r, hp, ho, hc => by
    obtain ⟨p1, p2, h0, hg, he, hr⟩ := rb_sides hp
    rw [Tr.count_node] at hc ⊢
    obtain ⟨l0, -, l1, l2⟩ := part_facts l p1 ho.2.2.1 (by omega)
    obtain ⟨r0, -, r1, r2⟩ := part_facts r p2 ho.2.2.2 (by omega)
    have hlt : (hi l).toNat < 2 ^ (hi l).toNat := Nat.lt_two_pow_self
    rw [← he] at r1 r2
    have cl := col_01 l
    have cr := col_01 r
    have hcol : col (.node b l k v g r) = g % 2 := rfl
    have hhi : hi (.node b l k v g r) = g / 2 := rfl
    have hht : (Tr.node b l k v g r).ht = 1 + max l.ht r.ht := rfl
    rw [hcol, hhi, hht]
    rcases hg with hg | hg
    · have hc2 := hr (by omega)
      have e : g / 2 = hi l := by omega
      rw [e]
      refine ⟨l0, by omega, by omega, by omega⟩
    · rw [u64_mod] at hg
      have e : g / 2 = hi l + 1 := by omega
      rw [e]
      refine ⟨by omega, by omega, by omega, ?_⟩
      rw [show (hi l + 1).toNat = (hi l).toNat + 1 by omega, Nat.pow_succ]
      omega
theorem rbTag_small {l : Tr} (h0 : 0 ≤ hi l) (h1 : hi l < 100000000) (is : Bool) : rbTag l is = if is then 2 * hi l + 1 else 2 * hi l + 2 := by
  unfold rbTag
  rw [u64_mod]
  cases is <;> simp <;> omega
/-- what is made is red or black, as it was asked for. -/
theorem rbRed_make (b : Nat) (A : Tr) (k v : Int) (is : Bool) (B : Tr) : rbRed (.node b A k v (rbTag A is) B) = is := by
  have : rbRed (.node b A k v (rbTag A is) B) = (rbTag A is % 2 == 1) := rfl
  rw [this]
  unfold rbTag
  rw [u64_mod]
  cases is
  · rw [beq_eq_false_iff_ne]; simp
  · rw [beq_iff_eq]; simp
set_option maxHeartbeats 2000000 in
theorem alive16_any (w : World) : Calls Try.prog 8 #[] w (Ret (.bool true) w) := by
  have hx := Ext.refl w
  have t1 : rbTag .nil false = 2 := by decide +kernel
  have t2 : rbTag .nil true = 1 := by decide +kernel
  have T1 := Lib.hid t1
  have T2 := Lib.hid t2
  clear t1 t2
  go_enter Try.func8, Try.ntmps8
  go_wp2_with fail
  refine (rbMake_any _ .nil .nil 1 0 false trivial trivial trivial).mono ?_
  rw [T1.out]
  rintro e w1 ⟨b1, rfl, _, hA, hS⟩
  replace hx := hx.trans hS
  clear hS
  go_wp2_with fail
  refine (rbMake_any _ .nil .nil 1 0 true trivial trivial trivial).mono ?_
  rw [T2.out]
  rintro e w2 ⟨b2, rfl, _, hB, hS⟩
  replace hx := hx.trans hS
  replace hA := hA.ext hS
  clear hS
  have E := Lib.hid (show (Tr.node b1 .nil 1 0 2 .nil).tag = 2 ∧ hi (Tr.node b1 .nil 1 0 2 .nil) = 1 ∧ rbMay (Tr.node b1 .nil 1 0 2 .nil) = true ∧ rbRed (Tr.node b1 .nil 1 0 2 .nil) = false ∧ TagsOk (Tr.node b1 .nil 1 0 2 .nil) from ⟨rfl, by kernel_rfl, by kernel_rfl, by kernel_rfl, by decide, by decide, trivial, trivial⟩)
  have F := Lib.hid (show (Tr.node b2 .nil 1 0 1 .nil).tag = 1 ∧ hi (Tr.node b2 .nil 1 0 1 .nil) = 0 ∧ rbMay (Tr.node b2 .nil 1 0 1 .nil) = false ∧ rbRed (Tr.node b2 .nil 1 0 1 .nil) = true ∧ TagsOk (Tr.node b2 .nil 1 0 1 .nil) ∧ rbPart (Tr.node b2 .nil 1 0 1 .nil) = true from ⟨rfl, by kernel_rfl, by kernel_rfl, by kernel_rfl, ⟨by decide, by decide, trivial, trivial⟩, by kernel_rfl⟩)
  generalize Tr.node b1 .nil 1 0 2 .nil = A at *
  generalize Tr.node b2 .nil 1 0 1 .nil = B at *
  go_wp2_with fail
  refine (tag_any _ A hA).mono ?_
  rw [E.out.1]
  rintro e w3 ⟨rfl, hS⟩
  replace hx := hx.trans hS
  replace hA := hA.ext hS
  replace hB := hB.ext hS
  clear hS
  go_wp2_with fail
  refine (rbHigh_any _ A hA E.out.2.2.2.2).mono ?_
  rw [E.out.2.1]
  rintro e w4 ⟨rfl, hS⟩
  replace hx := hx.trans hS
  replace hA := hA.ext hS
  replace hB := hB.ext hS
  clear hS
  go_wp2_with fail
  refine (rbMay_any _ A hA E.out.2.2.2.2).mono ?_
  rw [E.out.2.2.1]
  rintro e w5 ⟨rfl, hS⟩
  replace hx := hx.trans hS
  replace hA := hA.ext hS
  replace hB := hB.ext hS
  clear hS
  go_wp2_with fail
  refine (tag_any _ B hB).mono ?_
  rw [F.out.1]
  rintro e w6 ⟨rfl, hS⟩
  replace hx := hx.trans hS
  replace hA := hA.ext hS
  replace hB := hB.ext hS
  clear hS
  go_wp2_with fail
  refine (rbHigh_any _ B hB F.out.2.2.2.2.1).mono ?_
  rw [F.out.2.1]
  rintro e w7 ⟨rfl, hS⟩
  replace hx := hx.trans hS
  replace hA := hA.ext hS
  replace hB := hB.ext hS
  clear hS
  go_wp2_with fail
  refine (rbPart_any _ B hB F.out.2.2.2.2.1).mono ?_
  rw [F.out.2.2.2.2.2]
  rintro e w8 ⟨rfl, hS⟩
  replace hx := hx.trans hS
  replace hA := hA.ext hS
  replace hB := hB.ext hS
  clear hS
  go_wp2_with fail
  refine (rbMay_any _ B hB F.out.2.2.2.2.1).mono ?_
  rw [F.out.2.2.1]
  rintro e w9 ⟨rfl, hS⟩
  replace hx := hx.trans hS
  replace hA := hA.ext hS
  replace hB := hB.ext hS
  clear hS
  go_wp2_with fail
  refine (rbBlacken_any _ B hB F.out.2.2.2.2.1).mono ?_
  rintro e w10 ⟨u, rfl, hu, hS, hor⟩
  replace hx := hx.trans hS
  replace hA := hA.ext hS
  clear hS
  have hut : u.tag = 2 := by
    rcases hor with ⟨h, -⟩ | ⟨-, b, -, rfl⟩
    · rw [F.out.2.2.2.1] at h; cases h
    · rw [Tr.tag_node, F.out.1]; decide +kernel
  have HUT := Lib.hid hut
  clear hor hut
  go_wp2_with fail
  refine (tag_any _ u hu).mono ?_
  rw [HUT.out]
  rintro e w11 ⟨rfl, hS⟩
  replace hx := hx.trans hS
  replace hA := hA.ext hS
  clear hS
  go_wp2_with fail
  refine (rbBlacken_any _ A hA E.out.2.2.2.2).mono ?_
  rintro e w12 ⟨u2, rfl, hu2, hS, hor⟩
  replace hx := hx.trans hS
  replace hA := hA.ext hS
  clear hS
  have hu2' : u2 = A := by
    rcases hor with ⟨-, h⟩ | ⟨h, -⟩
    · exact h
    · rw [E.out.2.2.2.1] at h; cases h
  subst hu2'
  clear hor
  have hps := ptr_same u2.ptr
  go_wp2_with fail
  refine (rbBlacken_any _ .nil trivial trivial).mono ?_
  rintro e w13 ⟨u3, rfl, hu3, hS, hor⟩
  replace hx := hx.trans hS
  clear hS
  have hu3' : u3 = .nil := by
    rcases hor with ⟨-, h⟩ | ⟨h, -⟩
    · exact h
    · rw [show rbRed .nil = false by decide +kernel] at h; cases h
  subst hu3'
  clear hor
  rw [Tr.ptr_nil]
  go_wp2
  go_ret
  exact Ret.mk hx
set_option maxRecDepth 100000 in
set_option maxHeartbeats 2000000 in
theorem rbTells_walk (a : Option Addr) (len cap : Nat) (zs : List BeadL) (w : World) (hb0 : IsBeads w (.slice a len cap) zs) :
    Calls Try.prog 6 #[.slice a len cap] w (Ret (.bool true) w) := by
  obtain ⟨hb, hwf⟩ := hb0
  have H := Lib.hid (beadsLong_any w _ zs hb)
  have HB := Lib.hid hb
  have hx := Ext.refl w
  cases hl : (decide (400 < zs.length) || !mayB zs) with
  | true =>
    have HL := Lib.hid hl
    clear hb hl hwf
    go_enter Try.func6, Try.ntmps6
    go_wp2_with fail
    refine (H.out).mono ?_
    rw [HL.out]
    rintro e w1 ⟨rfl, hS⟩
    replace hx := hx.trans hS
    clear hS
    go_wp2_with fail
    refine (alive16_any _).mono ?_
    rintro e w2 ⟨rfl, hS⟩
    replace hx := hx.trans hS
    clear hS
    go_wp2
    go_ret
    exact Ret.mk hx
  | false =>
    obtain ⟨hl4, t, ht⟩ := long_tree hl
    subst ht
    have HL := Lib.hid hl
    have h4 := Lib.hid hl4
    have HW := Lib.hid hwf
    clear hb hl hl4 hwf
    go_enter Try.func6, Try.ntmps6
    go_wp2_with fail
    refine (H.out).mono ?_
    rw [HL.out]
    rintro e w1 ⟨rfl, hS⟩
    replace hx := hx.trans hS
    clear hS
    go_wp2_with fail
    refine (beadsMake_any t w1 _ (HB.out.ext hx) h4.out).mono ?_
    rintro e w2 ⟨T, rfl, hT, hf, hS⟩
    replace hx := hx.trans hS
    clear hS
    have HF := Lib.hid (And.intro hf (fits_tagsOk t T hf HW.out))
    have HC := Lib.hid (show T.pre.length ≤ 400 by rw [BT.fits_len hf]; exact h4.out)
    have H20 := Lib.hid (show t.enc.length ≤ 2000 from Nat.le_trans h4.out (by decide))
    have HH := Lib.hid (show wrap64 (hi T) = hi T by have := tag_ok HF.out.2; unfold hi wrap64; omega)
    clear hf
    go_wp2_with fail
    refine (rbCheck_any _ T hT HF.out.2 (Nat.le_trans HC.out (by decide))).mono ?_
    rintro e w3 ⟨rfl, hS⟩
    replace hx := hx.trans hS
    replace hT := hT.ext hS
    clear hS
    go_wp2_with fail
    refine (check16_any t T _ _ HF.out.1 HF.out.2 (HB.out.ext hx) H20.out).mono ?_
    rintro e w4 ⟨rfl, hS⟩
    replace hx := hx.trans hS
    replace hT := hT.ext hS
    clear hS
    go_wp2_with fail
    refine (rbPart_any _ T hT HF.out.2).mono ?_
    rintro e w5 ⟨rfl, hS⟩
    replace hx := hx.trans hS
    replace hT := hT.ext hS
    clear hS
    go_wp2_with fail
    refine (part16_any t T _ _ HF.out.1 HF.out.2 (HB.out.ext hx) H20.out).mono ?_
    rintro e w6 ⟨rfl, hS⟩
    replace hx := hx.trans hS
    replace hT := hT.ext hS
    clear hS
    go_wp2_with fail
    refine (rbMay_any _ T hT HF.out.2).mono ?_
    rintro e w7 ⟨rfl, hS⟩
    replace hx := hx.trans hS
    replace hT := hT.ext hS
    clear hS
    go_wp2_with fail
    refine (may16_any t T _ _ HF.out.1 HF.out.2 (HB.out.ext hx) H20.out).mono ?_
    rintro e w8 ⟨rfl, hS⟩
    replace hx := hx.trans hS
    replace hT := hT.ext hS
    clear hS
    go_wp2_with fail
    refine (rbRed_any _ T hT HF.out.2).mono ?_
    rintro e w9 ⟨rfl, hS⟩
    replace hx := hx.trans hS
    replace hT := hT.ext hS
    clear hS
    go_wp2_with fail
    refine (red16_any _ _ t T HF.out.1 HF.out.2 (HB.out.ext hx)).mono ?_
    rintro e w10 ⟨rfl, hS⟩
    replace hx := hx.trans hS
    replace hT := hT.ext hS
    clear hS
    go_wp2_with fail
    refine (rbHigh_any _ T hT HF.out.2).mono ?_
    rintro e w11 ⟨rfl, hS⟩
    replace hx := hx.trans hS
    replace hT := hT.ext hS
    clear hS
    go_wp2_with fail
    refine (high16_any _ _ t T HF.out.1 HF.out.2 (HB.out.ext hx)).mono ?_
    rintro e w12 ⟨rfl, hS⟩
    replace hx := hx.trans hS
    replace hT := hT.ext hS
    clear hS
    have hh := HH.out
    go_wp2_with fail
    refine (rbRank_any _ T hT HF.out.2).mono ?_
    rintro e w13 ⟨rfl, hS⟩
    replace hx := hx.trans hS
    replace hT := hT.ext hS
    clear hS
    go_wp2_with fail
    refine (rank16_any _ _ t T HF.out.1 HF.out.2 (HB.out.ext hx) (Nat.le_trans h4.out (by decide))).mono ?_
    rintro e w14 ⟨rfl, hS⟩
    replace hx := hx.trans hS
    clear hS
    go_wp2_with fail
    refine (alive16_any _).mono ?_
    rintro e w15 ⟨rfl, hS⟩
    replace hx := hx.trans hS
    clear hS
    go_wp2
    go_ret
    exact Ret.mk hx
theorem black_of (k v s n g : Int) (l r : BT) : (BT.node k v s n g l r).of.black.enc = (BT.node k v s n (if g % 2 == 1 then IntKind.u64.wrap (g + 1) else g) l r).of.enc := by
  simp [BT.of, BT.black, BT.enc, sumL, BT.isNil]
end Go.Proofs.Ytmmnodpbobmciaa
