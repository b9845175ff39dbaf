/- The walk of joinerylaw16.RbParts. -/
import Derived.Test.YtmmnodpbobmciaaRbMakes
namespace Go.Proofs.Ytmmnodpbobmciaa
open Go Go.RowKit

theorem parts_law (bb : Nat) (A B : Tr) (k v : Int) (is : Bool) (hA : TagsOk A) (cA : A.count < 1000000) : rbPart (.node bb A k v (rbTag A is) B) = (rbPart A && rbPart B && (hi A == hi B) && !(is && (rbRed A || rbRed B))) := by
  rw [rbPart_node]
  cases hp : rbPart A with
  | false => simp
  | true =>
    obtain ⟨h0, h1, -, -⟩ := part_facts A hp hA cA
    have e1 : rbBadTag (.node bb A k v (rbTag A is) B) = false := by
      have et := rbTag_small h0 h1 is
      cases is with
      | true =>
        rw [et]
        simp only [rbBadTag, Tr.tag_node, Tr.left_node, if_true]
        have c1 : col (.node bb A k v (2 * hi A + 1) B) = 1 := by show (2 * hi A + 1) % 2 = 1; omega
        have c2 : hi (.node bb A k v (2 * hi A + 1) B) = hi A := by show (2 * hi A + 1) / 2 = hi A; omega
        rw [c1, c2]
        simp; omega
      | false =>
        simp only [rbBadTag, Tr.tag_node, Tr.left_node, bne_self_eq_false, Bool.and_false, Bool.or_false]
        rw [et, beq_eq_false_iff_ne]
        simp; omega
    have e2 : rbBadTree (.node bb A k v (rbTag A is) B) = (hi A != hi B || (is && (rbRed A || rbRed B))) := by
      have : (col (.node bb A k v (rbTag A is) B) == 1) = is := rbRed_make bb A k v is B
      simp only [rbBadTree, Tr.left_node, Tr.right_node, this]
      rfl
    have e3 : (rbOne (.node bb A k v (rbTag A is) B) == 0) = !(hi A != hi B || (is && (rbRed A || rbRed B))) := by
      unfold rbOne
      rw [e1, e2]
      cases (hi A != hi B || (is && (rbRed A || rbRed B))) <;> rfl
    rw [e3]
    have : (hi A == hi B) = !(hi A != hi B) := by show _ = !(!(hi A == hi B)); rw [Bool.not_not]
    rw [this]
    cases (hi A != hi B) <;> cases (is && (rbRed A || rbRed B)) <;> cases rbPart B <;> rfl
theorem may_black {T : Tr} {n : Nat} {u : Tr} (hp : rbPart T = true) (ho : TagsOk T) (hc : T.count < 1000000) (h : (rbRed T = false ∧ u = T) ∨ (rbRed T = true ∧ ∃ b, n ≤ b ∧ u = .node b T.left T.key T.val (IntKind.u64.wrap (T.tag + 1)) T.right)) : rbMay u = true := by
  rcases h with ⟨h1, rfl⟩ | ⟨h1, b, -, rfl⟩
  · unfold rbMay; rw [hp, h1]; rfl
  · cases T with
    | nil => rw [show rbRed .nil = false by decide +kernel] at h1; cases h1
    | node b' l k v g r =>
      obtain ⟨p1, p2, h0, hg, he, hr⟩ := rb_sides hp
      rw [Tr.count_node] at hc
      obtain ⟨l0, l1, -, -⟩ := part_facts l p1 ho.2.2.1 (by omega)
      have hodd : g % 2 = 1 := by
        have : (g % 2 == 1) = true := h1
        simpa using this
      have e : IntKind.u64.wrap (g + 1) = rbTag l false := by
        rw [rbTag_small l0 l1]
        have hgo := ho.2.1
        rcases hg with hg | hg
        · rw [u64_mod]; simp; omega
        · rw [u64_mod] at hg; omega
      simp only [Tr.left_node, Tr.right_node, Tr.key_node, Tr.val_node, Tr.tag_node]
      rw [e]
      unfold rbMay
      rw [parts_law b l r k v false ho.2.2.1 (by omega), rbRed_make, p1, p2, he]
      simp
set_option maxRecDepth 100000 in
set_option maxHeartbeats 8000000 in
theorem rbParts_walk (a0 : Option Addr) (len0 cap0 : Nat) (z0 : List BeadL) (a1 : Option Addr) (len1 cap1 : Nat) (z1 : List BeadL) (ky vl : Int) (red : Bool) (w : World) (w0 : IsBeads w (.slice a0 len0 cap0) z0) (w1 : IsBeads w (.slice a1 len1 cap1) z1) (_w2 : (Lit.int .i64 ky).wf = true) (_w3 : (Lit.int .i64 vl).wf = true) :
    Calls Try.prog 4 #[.slice a0 len0 cap0, .slice a1 len1 cap1, .int .i64 ky, .int .i64 vl, .bool red] w (Ret (.bool true) w) := by
  have HB0 := Lib.hid w0.1
  have HB1 := Lib.hid w1.1
  have W0 := Lib.hid w0.2
  have W1 := Lib.hid w1.2
  have L0 := Lib.hid (beadsLong_any w _ z0 w0.1)
  have L1 := Lib.hid (fun w' (h : Ext w w') => beadsLong_any w' _ z1 (w1.1.ext h))
  have hx := Ext.refl w
  clear _w2 _w3 w0 w1
  cases hl0 : (decide (400 < z0.length) || !mayB z0) with
  | true =>
    have HL := Lib.hid hl0
    clear hl0
    go_enter Try.func4, Try.ntmps4
    go_wp2_with fail
    refine (L0.out).mono ?_
    rw [HL.out]
    rintro e w1 ⟨rfl, hS⟩
    replace hx := hx.trans hS
    clear hS
    go_wp2_with fail
    refine (alive16_any _).mono ?_
    rintro e w2 ⟨rfl, hS⟩
    replace hx := hx.trans hS
    clear hS
    go_wp2
    go_ret
    exact Ret.mk hx
  | false =>
    cases hl1 : (decide (400 < z1.length) || !mayB z1) with
    | true =>
      have HL0 := Lib.hid hl0
      have HL1 := Lib.hid hl1
      clear hl0 hl1
      go_enter Try.func4, Try.ntmps4
      go_wp2_with fail
      refine (L0.out).mono ?_
      rw [HL0.out]
      rintro e w1 ⟨rfl, hS⟩
      replace hx := hx.trans hS
      clear hS
      go_wp2_with fail
      refine (L1.out _ hx).mono ?_
      rw [HL1.out]
      rintro e w2 ⟨rfl, hS⟩
      replace hx := hx.trans hS
      clear hS
      go_wp2_with fail
      refine (alive16_any _).mono ?_
      rintro e w3 ⟨rfl, hS⟩
      replace hx := hx.trans hS
      clear hS
      go_wp2
      go_ret
      exact Ret.mk hx
    | false =>
      obtain ⟨hn0, t0, ht0⟩ := long_tree hl0
      obtain ⟨hn1, t1, ht1⟩ := long_tree hl1
      subst ht0 ht1
      have HL0 := Lib.hid hl0
      have HL1 := Lib.hid hl1
      have N0 := Lib.hid hn0
      have N1 := Lib.hid hn1
      clear hl0 hl1 hn0 hn1
      go_enter Try.func4, Try.ntmps4
      go_wp2_with fail
      refine (L0.out).mono ?_
      rw [HL0.out]
      rintro e w1 ⟨rfl, hS⟩
      replace hx := hx.trans hS
      clear hS
      go_wp2_with fail
      refine (L1.out _ hx).mono ?_
      rw [HL1.out]
      rintro e w2 ⟨rfl, hS⟩
      replace hx := hx.trans hS
      clear hS
      go_wp2_with fail
      refine (beadsMake_any t0 w2 _ (HB0.out.ext hx) N0.out).mono ?_
      rintro e w3 ⟨A, rfl, hA, fA, hS⟩
      replace hx := hx.trans hS
      clear hS
      go_wp2_with fail
      refine (beadsMake_any t1 w3 _ (HB1.out.ext hx) N1.out).mono ?_
      rintro e w4 ⟨B, rfl, hB, fB, hS⟩
      replace hx := hx.trans hS
      replace hA := hA.ext hS
      clear hS
      have CA := Lib.hid (show A.count ≤ 400 by unfold Tr.count; rw [BT.fits_len fA]; exact N0.out)
      have CT := Lib.hid (show ∀ g bb, (Tr.node bb A ky vl g B).count < 1000000 from fun g bb => by
        have h1 : A.count ≤ 400 := by unfold Tr.count; rw [BT.fits_len fA]; exact N0.out
        have h2 : B.count ≤ 400 := by unfold Tr.count; rw [BT.fits_len fB]; exact N1.out
        rw [Tr.count_node]; omega)
      have FA := Lib.hid (And.intro fA (fits_tagsOk t0 A fA W0.out))
      have FB := Lib.hid (And.intro fB (fits_tagsOk t1 B fB W1.out))
      clear fA fB
      go_wp2_with fail
      refine (rbMake_any w4 A B ky vl red hA hB FA.out.2).mono ?_
      rintro e w5 ⟨bb, rfl, hbb, hT, hS⟩
      replace hx := hx.trans hS
      replace hA := hA.ext hS
      replace hB := hB.ext hS
      clear hS
      have TT := Lib.hid (tags_make (k := ky) (v := vl) bb red FA.out.2 FB.out.2)
      clear hbb HB0 HB1 L0 L1 HL0 HL1 W0 W1 N0 N1
      go_wp2_with fail
      refine (rbPart_any _ A hA FA.out.2).mono ?_
      cases pA : rbPart A with
      | false =>
        have IS := Lib.hid (show (rbPart A && rbPart B && (hi A == hi B) && !(red && (rbRed A || rbRed B))) = false by rw [pA]; rfl)
        have PA := Lib.hid pA
        clear pA
        rintro e w6 ⟨rfl, hS⟩
        replace hx := hx.trans hS
        replace hA := hA.ext hS
        replace hB := hB.ext hS
        replace hT := hT.ext hS
        clear hS
        have PT := Lib.hid (show rbPart (.node bb A ky vl (rbTag A red) B) = false from (parts_law bb A B ky vl red FA.out.2 (Nat.lt_of_le_of_lt CA.out (by decide))).trans IS.out)
        have MT := Lib.hid (show rbMay (.node bb A ky vl (rbTag A red) B) = false by unfold rbMay; rw [PT.out]; rfl)
        go_wp2_with fail
        refine (rbPart_any _ _ hT TT.out).mono ?_
        rw [PT.out]
        rintro e w14 ⟨rfl, hS⟩
        replace hx := hx.trans hS
        replace hA := hA.ext hS
        replace hB := hB.ext hS
        replace hT := hT.ext hS
        clear hS
        go_wp2_with fail
        refine (rbMay_any _ _ hT TT.out).mono ?_
        rw [MT.out]
        rintro e w15 ⟨rfl, hS⟩
        replace hx := hx.trans hS
        replace hA := hA.ext hS
        replace hB := hB.ext hS
        clear hS
        go_wp2_with fail
        refine (rbPart_any _ A hA FA.out.2).mono ?_
        rw [PA.out]
        rintro e w18 ⟨rfl, hS⟩
        replace hx := hx.trans hS
        clear hS
        go_wp2_with fail
        refine (alive16_any _).mono ?_
        rintro e w19 ⟨rfl, hS⟩
        replace hx := hx.trans hS
        clear hS
        go_wp2
        go_ret
        exact Ret.mk hx
      | true =>
        have PA := Lib.hid pA
        clear pA
        rintro e w6 ⟨rfl, hS⟩
        replace hx := hx.trans hS
        replace hA := hA.ext hS
        replace hB := hB.ext hS
        replace hT := hT.ext hS
        clear hS
        go_wp2_with fail
        refine (rbPart_any _ B hB FB.out.2).mono ?_
        cases pB : rbPart B with
        | false =>
          have IS := Lib.hid (show (rbPart A && rbPart B && (hi A == hi B) && !(red && (rbRed A || rbRed B))) = false by rw [PA.out, pB]; rfl)
          clear pB
          rintro e w7 ⟨rfl, hS⟩
          replace hx := hx.trans hS
          replace hA := hA.ext hS
          replace hB := hB.ext hS
          replace hT := hT.ext hS
          clear hS
          have PT := Lib.hid (show rbPart (.node bb A ky vl (rbTag A red) B) = false from (parts_law bb A B ky vl red FA.out.2 (Nat.lt_of_le_of_lt CA.out (by decide))).trans IS.out)
          have MT := Lib.hid (show rbMay (.node bb A ky vl (rbTag A red) B) = false by unfold rbMay; rw [PT.out]; rfl)
          go_wp2_with fail
          refine (rbPart_any _ _ hT TT.out).mono ?_
          rw [PT.out]
          rintro e w14 ⟨rfl, hS⟩
          replace hx := hx.trans hS
          replace hA := hA.ext hS
          replace hB := hB.ext hS
          replace hT := hT.ext hS
          clear hS
          go_wp2_with fail
          refine (rbMay_any _ _ hT TT.out).mono ?_
          rw [MT.out]
          rintro e w15 ⟨rfl, hS⟩
          replace hx := hx.trans hS
          replace hA := hA.ext hS
          replace hB := hB.ext hS
          clear hS
          go_wp2_with fail
          refine (rbPart_any _ A hA FA.out.2).mono ?_
          rw [PA.out]
          rintro e w18 ⟨rfl, hS⟩
          replace hx := hx.trans hS
          replace hA := hA.ext hS
          clear hS
          go_wp2_with fail
          refine (rbBlacken_any _ A hA FA.out.2).mono ?_
          rintro e w20 ⟨uA, rfl, huA, hS, hor⟩
          replace hx := hx.trans hS
          clear hS
          have MA := Lib.hid (And.intro (may_black PA.out FA.out.2 (Nat.lt_of_le_of_lt CA.out (by decide)) hor) (black_tags FA.out.2 hor).1)
          clear hor
          go_wp2_with fail
          refine (rbMay_any _ uA huA MA.out.2).mono ?_
          rw [MA.out.1]
          rintro e w21 ⟨rfl, hS⟩
          replace hx := hx.trans hS
          clear hS
          go_wp2_with fail
          refine (alive16_any _).mono ?_
          rintro e w22 ⟨rfl, hS⟩
          replace hx := hx.trans hS
          clear hS
          go_wp2
          go_ret
          exact Ret.mk hx
        | true =>
          have PB := Lib.hid pB
          clear pB
          rintro e w7 ⟨rfl, hS⟩
          replace hx := hx.trans hS
          replace hA := hA.ext hS
          replace hB := hB.ext hS
          replace hT := hT.ext hS
          clear hS
          go_wp2_with fail
          refine (rbHigh_any _ A hA FA.out.2).mono ?_
          rintro e w8 ⟨rfl, hS⟩
          replace hx := hx.trans hS
          replace hA := hA.ext hS
          replace hB := hB.ext hS
          replace hT := hT.ext hS
          clear hS
          go_wp2_with fail
          refine (rbHigh_any _ B hB FB.out.2).mono ?_
          rintro e w9 ⟨rfl, hS⟩
          replace hx := hx.trans hS
          replace hA := hA.ext hS
          replace hB := hB.ext hS
          replace hT := hT.ext hS
          clear hS
          cases eH : (hi A == hi B) with
          | false =>
            have IS := Lib.hid (show (rbPart A && rbPart B && (hi A == hi B) && !(red && (rbRed A || rbRed B))) = false by rw [PA.out, PB.out, eH]; rfl)
            have PT := Lib.hid (show rbPart (.node bb A ky vl (rbTag A red) B) = false from (parts_law bb A B ky vl red FA.out.2 (Nat.lt_of_le_of_lt CA.out (by decide))).trans IS.out)
            have MT := Lib.hid (show rbMay (.node bb A ky vl (rbTag A red) B) = false by unfold rbMay; rw [PT.out]; rfl)
            go_wp2_with fail
            refine (rbPart_any _ _ hT TT.out).mono ?_
            rw [PT.out]
            rintro e w14 ⟨rfl, hS⟩
            replace hx := hx.trans hS
            replace hA := hA.ext hS
            replace hB := hB.ext hS
            replace hT := hT.ext hS
            clear hS
            go_wp2_with fail
            refine (rbMay_any _ _ hT TT.out).mono ?_
            rw [MT.out]
            rintro e w15 ⟨rfl, hS⟩
            replace hx := hx.trans hS
            replace hA := hA.ext hS
            replace hB := hB.ext hS
            clear hS
            go_wp2_with fail
            refine (rbPart_any _ A hA FA.out.2).mono ?_
            rw [PA.out]
            rintro e w18 ⟨rfl, hS⟩
            replace hx := hx.trans hS
            replace hA := hA.ext hS
            clear hS
            go_wp2_with fail
            refine (rbBlacken_any _ A hA FA.out.2).mono ?_
            rintro e w20 ⟨uA, rfl, huA, hS, hor⟩
            replace hx := hx.trans hS
            clear hS
            have MA := Lib.hid (And.intro (may_black PA.out FA.out.2 (Nat.lt_of_le_of_lt CA.out (by decide)) hor) (black_tags FA.out.2 hor).1)
            clear hor
            go_wp2_with fail
            refine (rbMay_any _ uA huA MA.out.2).mono ?_
            rw [MA.out.1]
            rintro e w21 ⟨rfl, hS⟩
            replace hx := hx.trans hS
            clear hS
            go_wp2_with fail
            refine (alive16_any _).mono ?_
            rintro e w22 ⟨rfl, hS⟩
            replace hx := hx.trans hS
            clear hS
            go_wp2
            go_ret
            exact Ret.mk hx
          | true =>
            have EH := Lib.hid eH
            cases red with
            | false =>
              have IS := Lib.hid (show (rbPart A && rbPart B && (hi A == hi B) && !(false && (rbRed A || rbRed B))) = true by rw [PA.out, PB.out, EH.out]; rfl)
              have PT := Lib.hid (show rbPart (.node bb A ky vl (rbTag A false) B) = true from (parts_law bb A B ky vl false FA.out.2 (Nat.lt_of_le_of_lt CA.out (by decide))).trans IS.out)
              have MT := Lib.hid (show rbMay (.node bb A ky vl (rbTag A false) B) = true by unfold rbMay; rw [PT.out, rbRed_make]; rfl)
              go_wp2_with fail
              refine (rbPart_any _ _ hT TT.out).mono ?_
              rw [PT.out]
              rintro e w14 ⟨rfl, hS⟩
              replace hx := hx.trans hS
              replace hA := hA.ext hS
              replace hB := hB.ext hS
              replace hT := hT.ext hS
              clear hS
              go_wp2_with fail
              refine (rbMay_any _ _ hT TT.out).mono ?_
              rw [MT.out]
              rintro e w15 ⟨rfl, hS⟩
              replace hx := hx.trans hS
              replace hA := hA.ext hS
              replace hB := hB.ext hS
              replace hT := hT.ext hS
              clear hS
              go_wp2_with fail
              refine (rbBlacken_any _ _ hT TT.out).mono ?_
              rintro e w16 ⟨uT, rfl, huT, hS, hor⟩
              replace hx := hx.trans hS
              replace hA := hA.ext hS
              clear hS
              have MU := Lib.hid (And.intro (may_black PT.out TT.out (CT.out _ bb) hor) (black_tags TT.out hor).1)
              clear hor
              go_wp2_with fail
              refine (rbMay_any _ uT huT MU.out.2).mono ?_
              rw [MU.out.1]
              rintro e w17 ⟨rfl, hS⟩
              replace hx := hx.trans hS
              replace hA := hA.ext hS
              clear hS
              go_wp2_with fail
              refine (rbPart_any _ A hA FA.out.2).mono ?_
              rw [PA.out]
              rintro e w18 ⟨rfl, hS⟩
              replace hx := hx.trans hS
              replace hA := hA.ext hS
              clear hS
              go_wp2_with fail
              refine (rbBlacken_any _ A hA FA.out.2).mono ?_
              rintro e w20 ⟨uA, rfl, huA, hS, hor⟩
              replace hx := hx.trans hS
              clear hS
              have MA := Lib.hid (And.intro (may_black PA.out FA.out.2 (Nat.lt_of_le_of_lt CA.out (by decide)) hor) (black_tags FA.out.2 hor).1)
              clear hor
              go_wp2_with fail
              refine (rbMay_any _ uA huA MA.out.2).mono ?_
              rw [MA.out.1]
              rintro e w21 ⟨rfl, hS⟩
              replace hx := hx.trans hS
              clear hS
              go_wp2_with fail
              refine (alive16_any _).mono ?_
              rintro e w22 ⟨rfl, hS⟩
              replace hx := hx.trans hS
              clear hS
              go_wp2
              go_ret
              exact Ret.mk hx
            | true =>
              go_wp2_with fail
              refine (rbRed_any _ A hA FA.out.2).mono ?_
              cases rA : rbRed A with
              | true =>
                have IS := Lib.hid (show (rbPart A && rbPart B && (hi A == hi B) && !(true && (rbRed A || rbRed B))) = false by rw [PA.out, PB.out, EH.out, rA]; rfl)
                clear rA
                rintro e w10 ⟨rfl, hS⟩
                replace hx := hx.trans hS
                replace hA := hA.ext hS
                replace hB := hB.ext hS
                replace hT := hT.ext hS
                clear hS
                have PT := Lib.hid (show rbPart (.node bb A ky vl (rbTag A true) B) = false from (parts_law bb A B ky vl true FA.out.2 (Nat.lt_of_le_of_lt CA.out (by decide))).trans IS.out)
                have MT := Lib.hid (show rbMay (.node bb A ky vl (rbTag A true) B) = false by unfold rbMay; rw [PT.out]; rfl)
                go_wp2_with fail
                refine (rbPart_any _ _ hT TT.out).mono ?_
                rw [PT.out]
                rintro e w14 ⟨rfl, hS⟩
                replace hx := hx.trans hS
                replace hA := hA.ext hS
                replace hB := hB.ext hS
                replace hT := hT.ext hS
                clear hS
                go_wp2_with fail
                refine (rbMay_any _ _ hT TT.out).mono ?_
                rw [MT.out]
                rintro e w15 ⟨rfl, hS⟩
                replace hx := hx.trans hS
                replace hA := hA.ext hS
                replace hB := hB.ext hS
                clear hS
                go_wp2_with fail
                refine (rbPart_any _ A hA FA.out.2).mono ?_
                rw [PA.out]
                rintro e w18 ⟨rfl, hS⟩
                replace hx := hx.trans hS
                replace hA := hA.ext hS
                clear hS
                go_wp2_with fail
                refine (rbBlacken_any _ A hA FA.out.2).mono ?_
                rintro e w20 ⟨uA, rfl, huA, hS, hor⟩
                replace hx := hx.trans hS
                clear hS
                have MA := Lib.hid (And.intro (may_black PA.out FA.out.2 (Nat.lt_of_le_of_lt CA.out (by decide)) hor) (black_tags FA.out.2 hor).1)
                clear hor
                go_wp2_with fail
                refine (rbMay_any _ uA huA MA.out.2).mono ?_
                rw [MA.out.1]
                rintro e w21 ⟨rfl, hS⟩
                replace hx := hx.trans hS
                clear hS
                go_wp2_with fail
                refine (alive16_any _).mono ?_
                rintro e w22 ⟨rfl, hS⟩
                replace hx := hx.trans hS
                clear hS
                go_wp2
                go_ret
                exact Ret.mk hx
              | false =>
                have RA := Lib.hid rA
                clear rA
                rintro e w10 ⟨rfl, hS⟩
                replace hx := hx.trans hS
                replace hA := hA.ext hS
                replace hB := hB.ext hS
                replace hT := hT.ext hS
                clear hS
                go_wp2_with fail
                refine (rbRed_any _ B hB FB.out.2).mono ?_
                cases rB : rbRed B with
                | true =>
                  have IS := Lib.hid (show (rbPart A && rbPart B && (hi A == hi B) && !(true && (rbRed A || rbRed B))) = false by rw [PA.out, PB.out, EH.out, RA.out, rB]; rfl)
                  clear rB
                  rintro e w11 ⟨rfl, hS⟩
                  replace hx := hx.trans hS
                  replace hA := hA.ext hS
                  replace hB := hB.ext hS
                  replace hT := hT.ext hS
                  clear hS
                  have PT := Lib.hid (show rbPart (.node bb A ky vl (rbTag A true) B) = false from (parts_law bb A B ky vl true FA.out.2 (Nat.lt_of_le_of_lt CA.out (by decide))).trans IS.out)
                  have MT := Lib.hid (show rbMay (.node bb A ky vl (rbTag A true) B) = false by unfold rbMay; rw [PT.out]; rfl)
                  go_wp2_with fail
                  refine (rbPart_any _ _ hT TT.out).mono ?_
                  rw [PT.out]
                  rintro e w14 ⟨rfl, hS⟩
                  replace hx := hx.trans hS
                  replace hA := hA.ext hS
                  replace hB := hB.ext hS
                  replace hT := hT.ext hS
                  clear hS
                  go_wp2_with fail
                  refine (rbMay_any _ _ hT TT.out).mono ?_
                  rw [MT.out]
                  rintro e w15 ⟨rfl, hS⟩
                  replace hx := hx.trans hS
                  replace hA := hA.ext hS
                  replace hB := hB.ext hS
                  clear hS
                  go_wp2_with fail
                  refine (rbPart_any _ A hA FA.out.2).mono ?_
                  rw [PA.out]
                  rintro e w18 ⟨rfl, hS⟩
                  replace hx := hx.trans hS
                  replace hA := hA.ext hS
                  clear hS
                  go_wp2_with fail
                  refine (rbBlacken_any _ A hA FA.out.2).mono ?_
                  rintro e w20 ⟨uA, rfl, huA, hS, hor⟩
                  replace hx := hx.trans hS
                  clear hS
                  have MA := Lib.hid (And.intro (may_black PA.out FA.out.2 (Nat.lt_of_le_of_lt CA.out (by decide)) hor) (black_tags FA.out.2 hor).1)
                  clear hor
                  go_wp2_with fail
                  refine (rbMay_any _ uA huA MA.out.2).mono ?_
                  rw [MA.out.1]
                  rintro e w21 ⟨rfl, hS⟩
                  replace hx := hx.trans hS
                  clear hS
                  go_wp2_with fail
                  refine (alive16_any _).mono ?_
                  rintro e w22 ⟨rfl, hS⟩
                  replace hx := hx.trans hS
                  clear hS
                  go_wp2
                  go_ret
                  exact Ret.mk hx
                | false =>
                  have IS := Lib.hid (show (rbPart A && rbPart B && (hi A == hi B) && !(true && (rbRed A || rbRed B))) = true by rw [PA.out, PB.out, EH.out, RA.out, rB]; rfl)
                  clear rB
                  rintro e w11 ⟨rfl, hS⟩
                  replace hx := hx.trans hS
                  replace hA := hA.ext hS
                  replace hB := hB.ext hS
                  replace hT := hT.ext hS
                  clear hS
                  have PT := Lib.hid (show rbPart (.node bb A ky vl (rbTag A true) B) = true from (parts_law bb A B ky vl true FA.out.2 (Nat.lt_of_le_of_lt CA.out (by decide))).trans IS.out)
                  have MT := Lib.hid (show rbMay (.node bb A ky vl (rbTag A true) B) = false by unfold rbMay; rw [PT.out, rbRed_make]; rfl)
                  go_wp2_with fail
                  refine (rbPart_any _ _ hT TT.out).mono ?_
                  rw [PT.out]
                  rintro e w14 ⟨rfl, hS⟩
                  replace hx := hx.trans hS
                  replace hA := hA.ext hS
                  replace hB := hB.ext hS
                  replace hT := hT.ext hS
                  clear hS
                  go_wp2_with fail
                  refine (rbMay_any _ _ hT TT.out).mono ?_
                  rw [MT.out]
                  rintro e w15 ⟨rfl, hS⟩
                  replace hx := hx.trans hS
                  replace hA := hA.ext hS
                  replace hB := hB.ext hS
                  replace hT := hT.ext hS
                  clear hS
                  go_wp2_with fail
                  refine (rbBlacken_any _ _ hT TT.out).mono ?_
                  rintro e w16 ⟨uT, rfl, huT, hS, hor⟩
                  replace hx := hx.trans hS
                  replace hA := hA.ext hS
                  clear hS
                  have MU := Lib.hid (And.intro (may_black PT.out TT.out (CT.out _ bb) hor) (black_tags TT.out hor).1)
                  clear hor
                  go_wp2_with fail
                  refine (rbMay_any _ uT huT MU.out.2).mono ?_
                  rw [MU.out.1]
                  rintro e w17 ⟨rfl, hS⟩
                  replace hx := hx.trans hS
                  replace hA := hA.ext hS
                  clear hS
                  go_wp2_with fail
                  refine (rbPart_any _ A hA FA.out.2).mono ?_
                  rw [PA.out]
                  rintro e w18 ⟨rfl, hS⟩
                  replace hx := hx.trans hS
                  replace hA := hA.ext hS
                  clear hS
                  go_wp2_with fail
                  refine (rbBlacken_any _ A hA FA.out.2).mono ?_
                  rintro e w20 ⟨uA, rfl, huA, hS, hor⟩
                  replace hx := hx.trans hS
                  clear hS
                  have MA := Lib.hid (And.intro (may_black PA.out FA.out.2 (Nat.lt_of_le_of_lt CA.out (by decide)) hor) (black_tags FA.out.2 hor).1)
                  clear hor
                  go_wp2_with fail
                  refine (rbMay_any _ uA huA MA.out.2).mono ?_
                  rw [MA.out.1]
                  rintro e w21 ⟨rfl, hS⟩
                  replace hx := hx.trans hS
                  clear hS
                  go_wp2_with fail
                  refine (alive16_any _).mono ?_
                  rintro e w22 ⟨rfl, hS⟩
                  replace hx := hx.trans hS
                  clear hS
                  go_wp2
                  go_ret
                  exact Ret.mk hx
end Go.Proofs.Ytmmnodpbobmciaa
