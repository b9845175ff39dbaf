/- joineryref16. joineryref16: parts, Part, Check, May, Make, Blacken, Rank; rb.Rank. joineryref16: Blacken, Rank; rb.Rank. Plain facts of red-black trees; joinerylaw16.alive; the walks of RbTells and RbMakes. The walk of joinerylaw16.RbMakes. The walk of joinerylaw16.RbParts. Red-black trees by their black heights; what becomes of a tree on whose outer side another one hangs (plain, no program). rbjoin: its sides, hang. rbjoin.Join, Most; joineryref17; joinerylaw17.long, alive; the walk of RbJoins. rbjoin.Most; joineryref17; joinerylaw17.long, alive; the walk of RbJoins. -/
import Derived.Test.YtkkdobolloojjaaGreatM3
namespace Go.Proofs.YtkkdobolloojjaaGreat
open Go Go.RowKit

set_option maxHeartbeats 400000 in
theorem high16_any (w : World) (p : Value) (t : BT) (T : Tr) (hf : t.fits T) (ho : TagsOk T) (hb : Beads w p t.enc) : Calls Tryz.prog 83 #[p] w (Ret (.int .u64 (hi T)) w) := by
  have H := Lib.hid (tag14_any w p t hb)
  rw [BT.fits_tag hf] at H
  have h0 := (tag_ok ho).1
  have HD := Lib.hid (hi_div ho)
  clear ho hf hb
  go_enter Tryz.func83, Tryz.ntmps83
  go_wp2_with fail
  refine (H.out).mono ?_
  rintro e w1 ⟨rfl, hS⟩
  go_wp2
  go_ret
  exact ⟨ret_int HD.out, hS⟩
set_option maxHeartbeats 400000 in
theorem red16_any (w : World) (p : Value) (t : BT) (T : Tr) (hf : t.fits T) (ho : TagsOk T) (hb : Beads w p t.enc) : Calls Tryz.prog 80 #[p] w (Ret (.bool (rbRed T)) w) := by
  have H := Lib.hid (tag14_any w p t hb)
  rw [BT.fits_tag hf] at H
  have h0 := (tag_ok ho).1
  have HD := Lib.hid (show rbRed T = (T.tag % 2 == 1) from rfl)
  clear ho hf hb
  go_enter Tryz.func80, Tryz.ntmps80
  go_wp2_with fail
  refine (H.out).mono ?_
  rintro e w1 ⟨rfl, hS⟩
  go_wp2
  go_ret
  exact ⟨ret_bool (by rw [HD.out]), hS⟩
def oneB (b1 b2 b3 b4 b5 b6 b7 : Bool) : Int := if (b1 || (b2 && b3)) then 140 else if (b4 || (b5 && (b6 || b7))) then 8 else 0
theorem one_eq (T : Tr) (ho : TagsOk T) (b1 b2 b3 b4 b5 b6 b7 : Bool) (h1 : (T.tag == 0) = b1) (h2 : (T.tag != IntKind.u64.wrap (IntKind.u64.wrap (2 * hi T.left) + 1)) = b2) (h3 : (T.tag != IntKind.u64.wrap (IntKind.u64.wrap (2 * hi T.left) + 2)) = b3)
    (h4 : (hi T.right != hi T.left) = b4) (h5 : (T.tag % 2 == 1) = b5) (h6 : rbRed T.left = b6) (h7 : rbRed T.right = b7) : rbOne T = oneB b1 b2 b3 b4 b5 b6 b7 := by
  have q0 := tag_ok ho
  have q1 := tag_ok (tags_left ho)
  have e2 : (T.tag != IntKind.u64.wrap (IntKind.u64.wrap (2 * hi T.left) + 1)) = !(col T == 1 && hi T == hi T.left) := by
    rw [Bool.eq_iff_iff]
    simp only [bne_iff_ne, Bool.not_eq_true', Bool.and_eq_false_iff, beq_eq_false_iff_ne, u64_mod, col, hi]
    omega
  have e3 : IntKind.u64.wrap (IntKind.u64.wrap (2 * hi T.left) + 2) = rbTag T.left false := by
    unfold rbTag; simp only [u64_mod]; simp
  have e4 : (hi T.right != hi T.left) = (hi T.left != hi T.right) := by
    rw [Bool.eq_iff_iff]; simp only [bne_iff_ne]; exact ⟨Ne.symm, Ne.symm⟩
  rw [e2] at h2
  rw [e3] at h3
  rw [e4] at h4
  unfold rbOne rbBadTag rbBadTree oneB
  rw [h1, h2, h3, h4]
  rw [show (col T == 1) = b5 from h5, show (col T.left == 1) = b6 from h6, show (col T.right == 1) = b7 from h7]
set_option maxHeartbeats 8000000 in
theorem one16_any (w : World) (p : Value) (k v s n g : Int) (l r : BT) (T : Tr) (hf : (BT.node k v s n g l r).fits T) (ho : TagsOk T) (hb : Beads w p (BT.node k v s n g l r).enc) (hl : (BT.node k v s n g l r).enc.length ≤ 2000) :
    Calls Tryz.prog 107 #[p] w (Ret (.int .i64 (rbOne T)) w) := by
  have HP := Lib.hid (parts_any w p k v s n g l r hb hl)
  obtain ⟨hfl, hfr, hg, -, -, -⟩ := BT.fits_left hf
  obtain ⟨X, eX⟩ : ∃ X, X = rbOne T := ⟨_, rfl⟩
  rw [← eX]
  have HX := Lib.hid eX
  have HEQ := Lib.hid (one_eq T ho)
  have HF := Lib.hid (And.intro hfl (And.intro hfr ho))
  have h0 := (tag_ok ho).1
  rw [← hg] at HEQ h0
  clear hf hg hb hl eX hfl hfr ho
  go_enter Tryz.func107, Tryz.ntmps107
  go_wp2_with fail
  refine (HP.out).mono ?_
  rintro e w1 ⟨v1, v2, rfl, hv1, hv2, hE⟩
  have hE1 := (Ext.refl w1).alloc (.cells #[.int .i64 k, .int .i64 v, .int .i64 s, .int .i64 n, .int .u64 g, .bool (!l.isNil), .bool (!r.isNil)] 96)
  have hc4 := cell_of (alloc_at w1 (.cells #[.int .i64 k, .int .i64 v, .int .i64 s, .int .i64 n, .int .u64 g, .bool (!l.isNil), .bool (!r.isNil)] 96) _ rfl) 4
  simp only [List.getElem?_toArray, List.getElem?_cons_succ, List.getElem?_cons_zero] at hc4
  go_wp2_with fail
  generalize w1.alloc (.cells #[.int .i64 k, .int .i64 v, .int .i64 s, .int .i64 n, .int .u64 g, .bool (!l.isNil), .bool (!r.isNil)] 96) = w2 at *
  have HHL := Lib.hid (fun W (h : Ext w2 W) => high16_any W v1 l T.left HF.out.1 (tags_left HF.out.2.2) ((hv1.ext hE1).ext h))
  have HHR := Lib.hid (fun W (h : Ext w2 W) => high16_any W v2 r T.right HF.out.2.1 (tags_right HF.out.2.2) ((hv2.ext hE1).ext h))
  have HRL := Lib.hid (fun W (h : Ext w2 W) => red16_any W v1 l T.left HF.out.1 (tags_left HF.out.2.2) ((hv1.ext hE1).ext h))
  have HRR := Lib.hid (fun W (h : Ext w2 W) => red16_any W v2 r T.right HF.out.2.1 (tags_right HF.out.2.2) ((hv2.ext hE1).ext h))
  have h02 := Lib.hid (hE.trans hE1)
  have HC4 := Lib.hid hc4
  clear hv1 hv2 hE hE1 hc4
  refine (HHL.out w2 (Ext.refl _)).mono ?_
  rintro e w3 ⟨rfl, hx⟩
  have hc4 := cell_keep hx HC4.out
  cases b1 : (g == 0) with
  | true =>
    have HY := Lib.hid (HEQ.out _ _ _ _ _ _ _ b1 rfl rfl rfl rfl rfl rfl)
    go_wp2
    go_ret
    exact ⟨ret_int (by rw [HX.out, HY.out]; rfl), h02.out.trans hx⟩
  | false =>
    cases b2 : (g != IntKind.u64.wrap (IntKind.u64.wrap (2 * hi T.left) + 1)) with
    | true =>
      cases b3 : (g != IntKind.u64.wrap (IntKind.u64.wrap (2 * hi T.left) + 2)) with
      | true =>
        have HY := Lib.hid (HEQ.out _ _ _ _ _ _ _ b1 b2 b3 rfl rfl rfl rfl)
        go_wp2
        go_ret
        exact ⟨ret_int (by rw [HX.out, HY.out]; rfl), h02.out.trans hx⟩
      | false =>
        have HE3 := Lib.hid (fun b4 b5 b6 b7 h4 h5 h6 h7 => HEQ.out _ _ _ b4 b5 b6 b7 b1 b2 b3 h4 h5 h6 h7)
        go_wp2_with fail
        refine (HHR.out w3 hx).mono ?_
        rintro e w4 ⟨rfl, hS⟩
        replace hx := hx.trans hS
        clear hS hc4
        have hc4 := cell_keep hx HC4.out
        cases b4 : (hi T.right != hi T.left) with
        | true =>
          have HY := Lib.hid (HE3.out _ _ _ _ b4 rfl rfl rfl)
          go_wp2
          go_ret
          exact ⟨ret_int (by rw [HX.out, HY.out]; rfl), h02.out.trans hx⟩
        | false =>
          cases b5 : (g % 2 == 1) with
          | false =>
            have HY := Lib.hid (HE3.out _ _ _ _ b4 b5 rfl rfl)
            go_wp2
            go_ret
            exact ⟨ret_int (by rw [HX.out, HY.out]; rfl), h02.out.trans hx⟩
          | true =>
            go_wp2_with fail
            refine (HRL.out w4 hx).mono ?_
            cases b6 : rbRed T.left with
            | true =>
              have HY := Lib.hid (HE3.out _ _ _ _ b4 b5 b6 rfl)
              rintro e w5 ⟨rfl, hS⟩
              go_wp2
              go_ret
              exact ⟨ret_int (by rw [HX.out, HY.out]; rfl), h02.out.trans (hx.trans hS)⟩
            | false =>
              rintro e w5 ⟨rfl, hS⟩
              replace hx := hx.trans hS
              clear hS
              go_wp2_with fail
              refine (HRR.out w5 hx).mono ?_
              cases b7 : rbRed T.right
              all_goals
                have HY := Lib.hid (HE3.out _ _ _ _ b4 b5 b6 b7)
                rintro e w6 ⟨rfl, hS⟩
                go_wp2
                go_ret
                exact ⟨ret_int (by rw [HX.out, HY.out]; rfl), h02.out.trans (hx.trans hS)⟩
    | false =>
      have HE3 := Lib.hid (fun b4 b5 b6 b7 h4 h5 h6 h7 => HEQ.out _ _ _ b4 b5 b6 b7 b1 b2 rfl h4 h5 h6 h7)
      go_wp2_with fail
      refine (HHR.out w3 hx).mono ?_
      rintro e w4 ⟨rfl, hS⟩
      replace hx := hx.trans hS
      clear hS hc4
      have hc4 := cell_keep hx HC4.out
      cases b4 : (hi T.right != hi T.left) with
      | true =>
        have HY := Lib.hid (HE3.out _ _ _ _ b4 rfl rfl rfl)
        go_wp2
        go_ret
        exact ⟨ret_int (by rw [HX.out, HY.out]; rfl), h02.out.trans hx⟩
      | false =>
        cases b5 : (g % 2 == 1) with
        | false =>
          have HY := Lib.hid (HE3.out _ _ _ _ b4 b5 rfl rfl)
          go_wp2
          go_ret
          exact ⟨ret_int (by rw [HX.out, HY.out]; rfl), h02.out.trans hx⟩
        | true =>
          go_wp2_with fail
          refine (HRL.out w4 hx).mono ?_
          cases b6 : rbRed T.left with
          | true =>
            have HY := Lib.hid (HE3.out _ _ _ _ b4 b5 b6 rfl)
            rintro e w5 ⟨rfl, hS⟩
            go_wp2
            go_ret
            exact ⟨ret_int (by rw [HX.out, HY.out]; rfl), h02.out.trans (hx.trans hS)⟩
          | false =>
            rintro e w5 ⟨rfl, hS⟩
            replace hx := hx.trans hS
            clear hS
            go_wp2_with fail
            refine (HRR.out w5 hx).mono ?_
            cases b7 : rbRed T.right
            all_goals
              have HY := Lib.hid (HE3.out _ _ _ _ b4 b5 b6 b7)
              rintro e w6 ⟨rfl, hS⟩
              go_wp2
              go_ret
              exact ⟨ret_int (by rw [HX.out, HY.out]; rfl), h02.out.trans (hx.trans hS)⟩
end Go.Proofs.YtkkdobolloojjaaGreat
namespace Go.Proofs.YtkkdobolloojjaaGreat
open Go Go.RowKit

set_option maxHeartbeats 1000000 in
theorem parts16_any (t : BT) : ∀ (T : Tr) (w : World) (p : Value), t.fits T → TagsOk T → Beads w p t.enc → t.enc.length ≤ 2000 →
    Calls Tryz.prog 79 #[p] w (Ret (.tuple #[.int .i64 (firstOf rbOne T.pre).1, .int .i64 (firstOf rbOne T.pre).2]) w) := by
  induction t with
  | nil =>
    intro T w p hf _ hb hl
    obtain ⟨a, c, rfl⟩ := beads_slice hb
    have e : T = .nil := by cases T with | nil => rfl | node => exact hf.elim
    subst e
    rw [show BT.nil.enc.length = 0 from rfl, show firstOf rbOne Tr.nil.pre = (0, 0) from rfl]
    clear hb hl hf
    go_enter Tryz.func79, Tryz.ntmps79
    go_wp2
    go_ret2
    exact ⟨rfl, Ext.refl _⟩
  | node k v s n g l r ihl ihr =>
    intro T w p hf ho hb hl
    have HO := Lib.hid (fun W (h : Beads W p _) => one16_any W p k v s n g l r T hf ho h hl)
    have HP := Lib.hid (fun W (h : Beads W p _) => parts_any W p k v s n g l r h hl)
    cases T with
    | nil => exact hf.elim
    | node tb tl tk tv tg tr =>
    obtain ⟨-, -, hg, hfl, hfr⟩ := hf
    subst hg
    have hlen : (BT.node k v s n g l r).enc.length = 1 + l.enc.length + r.enc.length := by simp [BT.enc]; omega
    have hll : l.enc.length ≤ 2000 := by omega
    have hlr : r.enc.length ≤ 2000 := by omega
    have hcl : (firstOf rbOne tl.pre).1 ≤ l.enc.length := by rw [← BT.fits_len hfl]; exact firstOf_le _
    have hcr : (firstOf rbOne tr.pre).1 ≤ r.enc.length := by rw [← BT.fits_len hfr]; exact firstOf_le _
    have hA : firstOf rbOne (Tr.node tb tl tk tv g tr).pre = if rbOne (Tr.node tb tl tk tv g tr) = 0 then (if (firstOf rbOne tl.pre).2 = 0 then (tl.pre.length + (firstOf rbOne tr.pre).1 + 1, (firstOf rbOne tr.pre).2) else ((firstOf rbOne tl.pre).1 + 1, (firstOf rbOne tl.pre).2)) else (0, rbOne (Tr.node tb tl tk tv g tr)) := by
      rw [Tr.pre, firstOf_cons, firstOf_append]
      split
      · split <;> rfl
      · rfl
    have hnone : (firstOf rbOne tl.pre).2 = 0 → (firstOf rbOne tl.pre).1 = tl.pre.length := fun h => (firstOf_none h).1
    have HB := Lib.hid hb
    obtain ⟨a, c, rfl⟩ := beads_slice hb
    have IHl := Lib.hid (fun W v (hv : Beads W v l.enc) => ihl tl W v hfl ho.2.2.1 hv hll)
    have IHr := Lib.hid (fun W v (hv : Beads W v r.enc) => ihr tr W v hfr ho.2.2.2 hv hlr)
    have h1 : 1 ≤ (BT.node k v s n g l r).enc.length := by omega
    obtain ⟨A, eA⟩ : ∃ A, A = firstOf rbOne (Tr.node tb tl tk tv g tr).pre := ⟨_, rfl⟩
    rw [← eA] at hA ⊢
    generalize rbOne (Tr.node tb tl tk tv g tr) = ONE at *
    generalize firstOf rbOne tl.pre = L at *
    generalize firstOf rbOne tr.pre = R at *
    obtain ⟨Ln, Le⟩ := L
    obtain ⟨Rn, Re⟩ := R
    simp only at hnone hcl hcr hA
    have hLn : Ln ≤ 2000 := by omega
    have hRn : Rn ≤ 2000 := by omega
    have HA := Lib.hid hA
    have HNONE := Lib.hid hnone
    have hx := Ext.refl w
    clear hA hnone eA ihl ihr hb hl hcl hcr hlen hfl hfr ho
    generalize (BT.node k v s n g l r).enc.length = LL at *
    by_cases h0 : ONE = 0
    · subst h0
      go_enter Tryz.func79, Tryz.ntmps79
      go_wp2_with fail
      refine (HO.out w HB.out).mono ?_
      rintro e w1 ⟨rfl, hS⟩
      replace hx := hx.trans hS
      clear hS
      go_wp2_with fail
      refine (HP.out w1 (HB.out.ext hx)).mono ?_
      rintro e w2 ⟨v1, v2, rfl, hv1, hv2, hS⟩
      replace hx := hx.trans hS
      clear hS
      have hE2 := (Ext.refl w2).alloc (.cells #[.int .i64 k, .int .i64 v, .int .i64 s, .int .i64 n, .int .u64 g, .bool (!l.isNil), .bool (!r.isNil)] 96)
      have HV1 := Lib.hid (hv1.ext hE2)
      have HV2 := Lib.hid (hv2.ext hE2)
      replace hx := hx.trans hE2
      clear hv1 hv2 hE2
      go_wp2_with fail
      refine (IHl.out _ v1 HV1.out).mono ?_
      rintro e w3 ⟨rfl, h3⟩
      by_cases c3 : Le = 0
      · subst c3
        go_wp2_with fail
        refine (IHr.out w3 v2 (HV2.out.ext h3)).mono ?_
        rintro e w4 ⟨rfl, h4⟩
        have hEE := hx.trans (h3.trans h4)
        clear hx h3 h4
        go_wp2
        go_ret2
        exact ⟨ret_two (by rw [HA.out]; have h9 := HNONE.out trivial; simp; omega) (by rw [HA.out]; rfl), hEE⟩
      · have c3' := bne_iff_ne.2 c3
        have hEE := hx.trans h3
        clear hx h3
        go_wp2
        go_ret2
        exact ⟨ret_two (by rw [HA.out]; simp [c3]; omega) (by rw [HA.out]; simp [c3]), hEE⟩
    · have h0' := bne_iff_ne.2 h0
      have H0 := Lib.hid h0
      clear h0
      go_enter Tryz.func79, Tryz.ntmps79
      go_wp2_with fail
      refine (HO.out w HB.out).mono ?_
      rintro e w1 ⟨rfl, hS⟩
      replace hx := hx.trans hS
      clear hS
      go_wp2
      go_ret2
      exact ⟨ret_two (by rw [HA.out, if_neg H0.out]; rfl) (by rw [HA.out, if_neg H0.out]), hx⟩
set_option maxHeartbeats 400000 in
theorem part16_any (t : BT) (T : Tr) (w : World) (p : Value) (hf : t.fits T) (ho : TagsOk T) (hb : Beads w p t.enc) (hl : t.enc.length ≤ 2000) :
    Calls Tryz.prog 60 #[p] w (Ret (.bool (rbPart T)) w) := by
  have H := Lib.hid (parts16_any t T w p hf ho hb hl)
  clear hb hf hl ho
  go_enter Tryz.func60, Tryz.ntmps60
  go_wp2_with fail
  refine (H.out).mono ?_
  rintro e w1 ⟨rfl, hS⟩
  go_wp2
  go_ret
  exact ⟨ret_bool rfl, hS⟩
set_option maxHeartbeats 1000000 in
theorem check16_any (t : BT) (T : Tr) (w : World) (p : Value) (hf : t.fits T) (ho : TagsOk T) (hb : Beads w p t.enc) (hl : t.enc.length ≤ 2000) :
    Calls Tryz.prog 57 #[p] w (Ret (.tuple #[.int .i64 (rbChk T).1, .int .i64 (rbChk T).2]) w) := by
  have H := Lib.hid (parts16_any t T w p hf ho hb hl)
  have HR := Lib.hid (fun W (h : Ext w W) => red16_any W p t T hf ho (hb.ext h))
  have HC := Lib.hid (show rbChk T = if (firstOf rbOne T.pre).2 = 0 ∧ rbRed T = true then (0, 8) else firstOf rbOne T.pre from rfl)
  have hx := Ext.refl w
  clear hb hf hl ho
  obtain ⟨C, eC⟩ : ∃ C, C = rbChk T := ⟨_, rfl⟩
  rw [← eC] at HC ⊢
  clear eC
  generalize firstOf rbOne T.pre = F at *
  obtain ⟨fn, fe⟩ := F
  simp only at H HC
  by_cases c0 : fe = 0
  · subst c0
    cases hr : rbRed T
    all_goals
      rw [hr] at HR HC
      clear hr
      go_enter Tryz.func57, Tryz.ntmps57
      go_wp2_with fail
      refine (H.out).mono ?_
      rintro e w1 ⟨rfl, hS⟩
      replace hx := hx.trans hS
      clear hS
      go_wp2_with fail
      refine (HR.out _ hx).mono ?_
      rintro e w2 ⟨rfl, hS⟩
      replace hx := hx.trans hS
      clear hS
      go_wp2
      go_ret2
      exact ⟨ret_two (by rw [HC.out]; simp) (by rw [HC.out]; simp), hx⟩
  · have HC0 := Lib.hid c0
    have c1 := beq_eq_false_iff_ne.2 c0
    clear c0
    go_enter Tryz.func57, Tryz.ntmps57
    go_wp2_with fail
    refine (H.out).mono ?_
    rintro e w1 ⟨rfl, hS⟩
    replace hx := hx.trans hS
    clear hS
    go_wp2
    go_ret2
    exact ⟨ret_two (by rw [HC.out, if_neg (fun h => HC0.out h.1)]) (by rw [HC.out, if_neg (fun h => HC0.out h.1)]), hx⟩
theorem rbChk_may (T : Tr) : ((rbChk T).2 == 0) = rbMay T := by
  unfold rbChk rbMay rbPart mayOf
  by_cases h1 : (firstOf rbOne T.pre).2 = 0
  · cases h2 : rbRed T <;> simp [h1]
  · simp [h1]
end Go.Proofs.YtkkdobolloojjaaGreat
namespace Go.Proofs.YtkkdobolloojjaaGreat
open Go Go.RowKit

/-- a tree of beads that is black. -/
def BT.black : BT → BT
  | .nil => .nil
  | .node k v s n g l r => .node k v s n (if g % 2 == 1 then IntKind.u64.wrap (g + 1) else g) l r
theorem mod7 {w : World} {g : Nat} {cur : Array Value} {T : TypeId} (h : w.heap[g]? = some (.cells cur T (0, 0))) {a0 a1 a2 a3 a4 a5 a6 : Value} {R : List Value} (hc : cur.toList = [a0, a1, a2, a3, a4, a5, a6] ++ R) (b0 b1 b2 b3 b4 b5 b6 : Value) :
    (((((((w.setCell ⟨g, 0, none⟩ b0).setCell ⟨g, 1, none⟩ b1).setCell ⟨g, 2, none⟩ b2).setCell ⟨g, 3, none⟩ b3).setCell ⟨g, 4, none⟩ b4).setCell ⟨g, 5, none⟩ b5).setCell ⟨g, 6, none⟩ b6).heap[g]? = some (.cells ([b0, b1, b2, b3, b4, b5, b6] ++ R).toArray T (0, 0)) := by
  have : cur = ([a0, a1, a2, a3, a4, a5, a6] ++ R).toArray := by
    cases cur; simp at hc; simp [hc]
  subst this
  simp [World.setCell, Array.getElem?_modify, h]
theorem Below.put7 {B : Nat} {w w1 : World} (h : Below B w w1) {g : Nat} (hg : B ≤ g) (b0 b1 b2 b3 b4 b5 b6 : Value) :
    Below B w (((((((w1.setCell ⟨g, 0, none⟩ b0).setCell ⟨g, 1, none⟩ b1).setCell ⟨g, 2, none⟩ b2).setCell ⟨g, 3, none⟩ b3).setCell ⟨g, 4, none⟩ b4).setCell ⟨g, 5, none⟩ b5).setCell ⟨g, 6, none⟩ b6) :=
  ((((((h.setCell hg b0).setCell hg b1).setCell hg b2).setCell hg b3).setCell hg b4).setCell hg b5).setCell hg b6
/-- the first bead of a row of one's own. -/
theorem Own.head {B : Nat} {w : World} {v : Value} {z : BeadL} {zs : List BeadL} (h : Own B w v (z :: zs)) :
    ∃ g cap cur R, v = .slice (some ⟨g, 0, none⟩) (zs.length + 1) cap ∧ zs.length + 1 ≤ cap ∧ B ≤ g ∧ w.heap[g]? = some (.cells cur 96 (0, 0)) ∧ cur.toList = z.cells ++ R ∧
      ∀ (W : World) (y : BeadL), W.heap[g]? = some (.cells (y.cells ++ R).toArray 96 (0, 0)) → Own B W v (y :: zs) := by
  obtain ⟨h1, ⟨rfl, h0⟩ | ⟨g, cap, cur, hv, hb, hg, hc, hm, hs, ht⟩⟩ := h
  · simp at h0
  · rw [List.length_cons] at *
    have hcur : ∃ R, cur.toList = z.cells ++ R := by
      refine ⟨cur.toList.drop 7, ?_⟩
      have e1 : cur.toList.take 7 = z.cells := by
        have := congrArg (List.take 7) ht
        rw [List.take_take, Nat.min_eq_left (by omega)] at this
        rw [this, beadCells, List.flatMap_cons]; rfl
      rw [← e1, List.take_append_drop]
    obtain ⟨R, hR⟩ := hcur
    refine ⟨g, cap, cur, R, hv, hc, hb, hg, hR, fun W y hW => ⟨?_, .inr ⟨g, cap, _, hv, hb, hW, hc, hm, ?_, ?_⟩⟩⟩
    · have := h1
      rw [beadCells, List.flatMap_cons, List.length_append] at this ⊢
      exact this
    · have : cur.size = ((y.cells ++ R).toArray).size := by
        have := congrArg List.length hR
        simp only [List.length_append, Array.length_toList] at this
        simp only [List.size_toArray, List.length_append]
        exact this
      rw [← this]; exact hs
    · rw [hR] at ht
      rw [List.length_cons]
      rw [beadCells, List.flatMap_cons] at ht ⊢
      have e7 : z.cells.length = 7 := rfl
      have e7' : y.cells.length = 7 := rfl
      rw [List.take_append, e7, List.take_of_length_le (by rw [e7]; omega)] at ht
      show (y.cells ++ R).take _ = _
      rw [List.take_append, e7', List.take_of_length_le (by rw [e7']; omega)]
      rw [List.append_cancel_left ht]
set_option maxHeartbeats 2000000 in
theorem blacken16_any (w : World) (p : Value) (t : BT) (T : Tr) (hf : t.fits T) (ho : TagsOk T) (hb : Beads w p t.enc) (hl : t.enc.length ≤ 5000) :
    Calls Tryz.prog 84 #[p] w (GivesRow t.black.enc w) := by
  have HR := Lib.hid (fun W (h : Ext w W) => red16_any W p t T hf ho (hb.ext h))
  have HB := Lib.hid hb
  have HL := Lib.hid hl
  have HRT := Lib.hid (show rbRed T = (t.tag % 2 == 1) by rw [BT.fits_tag hf]; rfl)
  have HO := Lib.hid (Own.nil w.heap.size w)
  obtain ⟨a, c, rfl⟩ := beads_slice hb
  clear hf ho hb hl
  generalize hN : t.enc.length = LL at *
  have HN := Lib.hid hN
  clear hN
  go_enter Tryz.func84, Tryz.ntmps84
  go_wp2_with (at_builtin; refine wpList_append_beads (B := w.heap.size) (zs := []) (ys := t.enc) rfl (.const (.slice none 0 0)) (.tmp 5) rfl rfl rfl HO.out HB.out ?b1 (Nat.le_refl _) ?_)
  case b1 => have := HL.out; have := HN.out; simp; omega
  intro v1 w1 hown hg
  have hx : Ext w w1 := grown_ext (Ext.refl _) HO.out hg
  (try rw [List.nil_append] at hown)
  clear hg
  cases hr : rbRed T with
  | false =>
    rw [hr] at HR HRT
    have HOWN := Lib.hid hown
    have HE : Hid (t.black.enc = t.enc) := Lib.hid (by
      cases t with
      | nil => rfl
      | node k v s n g l r =>
        have : (g % 2 == 1) = false := HRT.out.symm
        rw [BT.black, this]; rfl)
    clear hr hown
    go_wp2_with fail
    refine (HR.out _ hx).mono ?_
    rintro e w2 ⟨rfl, hS⟩
    go_wp2
    go_ret
    exact ⟨_, rfl, by rw [HE.out]; exact HOWN.out.ext hS, hx.trans hS⟩
  | true =>
    rw [hr] at HR HRT
    cases t with
    | nil => have := HRT.out; simp [BT.tag] at this
    | node k v s n g l r =>
      have HE : Hid ((BT.node k v s n g l r).black.enc = ⟨k, v, s, n, IntKind.u64.wrap (g + 1), !l.isNil, !r.isNil⟩ :: (l.enc ++ r.enc)) := Lib.hid (by
        have : (g % 2 == 1) = true := HRT.out.symm
        rw [BT.black, this]; rfl)
      obtain ⟨gb, cap, cur, R, rfl, hcap, hgb, hcells, hcur, hback⟩ := Own.head (z := ⟨k, v, s, n, g, !l.isNil, !r.isNil⟩) (zs := l.enc ++ r.enc) hown
      have HBACK := Lib.hid hback
      have HCUR := Lib.hid hcur
      clear hr hown hback hcur
      generalize (l.enc ++ r.enc).length = m at *
      go_wp2_with fail
      refine (HR.out _ hx).mono ?_
      rintro e w2 ⟨rfl, hS⟩
      replace hcells := (hS.block _ (lt_of hcells)).trans hcells
      have hcc : ∀ j u, (BeadL.cells ⟨k, v, s, n, g, !l.isNil, !r.isNil⟩)[j]? = some u → w2.cell? ⟨gb, j, none⟩ = some u := fun j u hj => by
        rw [cell_of hcells j]
        have := HCUR.out
        rw [← Array.getElem?_toList, this, List.getElem?_append_left (List.getElem?_eq_some_iff.1 hj).1, hj]
      have d0 := hcc 0 _ rfl
      have d1 := hcc 1 _ rfl
      have d2 := hcc 2 _ rfl
      have d3 := hcc 3 _ rfl
      have d4 := hcc 4 _ rfl
      have d5 := hcc 5 _ rfl
      have d6 := hcc 6 _ rfl
      have f0 := frozen_of hcells 0
      have f1 := frozen_of hcells 1
      have f2 := frozen_of hcells 2
      have f3 := frozen_of hcells 3
      have f4 := frozen_of hcells 4
      have f5 := frozen_of hcells 5
      have f6 := frozen_of hcells 6
      have hlt := lt_of hcells
      have HCE := Lib.hid hcells
      replace hx := hx.trans hS
      clear hcc hcells hS
      go_wp2
      go_ret
      have hm := mod7 HCE.out HCUR.out (.int .i64 k) (.int .i64 v) (.int .i64 s) (.int .i64 n) (.int .u64 (IntKind.u64.wrap (g + 1))) (.bool (!l.isNil)) (.bool (!r.isNil))
      refine ⟨_, rfl, ?_, Ext.alloc (a := w) (Below.put7 hx hgb _ _ _ _ _ _ _) _⟩
      rw [HE.out]
      exact (HBACK.out _ ⟨k, v, s, n, IntKind.u64.wrap (g + 1), !l.isNil, !r.isNil⟩ hm).ext ((Ext.refl _).alloc _)
/-- the black height of a tree that is made black. -/
def hiB (T : Tr) : Int := if rbRed T then IntKind.u64.wrap (T.tag + 1) / 2 else hi T
theorem hiB_lt {T : Tr} (h : TagsOk T) : 0 ≤ hiB T ∧ hiB T < 9223372036854775808 := by
  have := tag_ok h
  unfold hiB hi
  rw [u64_mod]
  split <;> omega
theorem black_tags {T : Tr} {n : Nat} {u : Tr} (ho : TagsOk T) (h : (rbRed T = false ∧ u = T) ∨ (rbRed T = true ∧ ∃ b, n ≤ b ∧ u = .node b T.left T.key T.val (IntKind.u64.wrap (T.tag + 1)) T.right)) : TagsOk u ∧ hi u = hiB T := by
  rcases h with ⟨h1, rfl⟩ | ⟨h1, b, -, rfl⟩
  · exact ⟨ho, by unfold hiB; rw [h1]; rfl⟩
  · refine ⟨⟨?_, ?_, tags_left ho, tags_right ho⟩, ?_⟩
    · rw [u64_mod]; omega
    · rw [u64_mod]; omega
    · unfold hiB; rw [h1]; rfl
set_option maxHeartbeats 400000 in
theorem rbRank_any (w : World) (T : Tr) (hT : InH w T) (ho : TagsOk T) : Calls Tryz.prog 97 #[.pointer T.ptr] w (Ret (.int .i64 (wrap64 (2 * hiB T))) w) := by
  have H := Lib.hid (rbBlacken_any w T hT ho)
  have HB := Lib.hid (fun n u => black_tags (n := n) (u := u) ho)
  clear ho
  go_enter Tryz.func97, Tryz.ntmps97
  go_wp2_with fail
  refine H.out.mono ?_
  rintro e w1 ⟨u, rfl, hu, hx, hor⟩
  obtain ⟨h1, h2⟩ := HB.out _ u hor
  have H1 := Lib.hid h1
  have H2 := Lib.hid h2
  clear hor h1 h2
  go_wp2_with fail
  refine (rbHigh_any _ u hu H1.out).mono ?_
  rw [H2.out]
  rintro e w2 ⟨rfl, hS⟩
  replace hx := hx.trans hS
  clear hS
  go_wp2
  go_ret
  exact Ret.mk hx
theorem BT.black_fits {t : BT} {T : Tr} (h : t.fits T) : ∃ u, t.black.fits u ∧ (TagsOk T → TagsOk u ∧ hi u = hiB T) := by
  cases t with
  | nil =>
    cases T with
    | nil => exact ⟨.nil, trivial, fun _ => ⟨trivial, by decide +kernel⟩⟩
    | node => exact h.elim
  | node k v s n g l r =>
    cases T with
    | nil => exact h.elim
    | node b L k' v' g' R =>
      obtain ⟨h1, h2, h3, h4, h5⟩ := h
      subst h3
      refine ⟨.node 0 L k' v' (if g % 2 == 1 then IntKind.u64.wrap (g + 1) else g) R, ⟨h1, h2, rfl, h4, h5⟩, fun ho => ?_⟩
      have hr : rbRed (.node b L k' v' g R) = (g % 2 == 1) := rfl
      cases hg : (g % 2 == 1) with
      | true =>
        rw [hg] at hr
        refine ⟨⟨?_, ?_, ho.2.2.1, ho.2.2.2⟩, ?_⟩
        · rw [if_pos rfl, u64_mod]; omega
        · rw [if_pos rfl, u64_mod]; omega
        · unfold hiB; rw [hr]; rfl
      | false =>
        rw [hg] at hr
        refine ⟨⟨?_, ?_, ho.2.2.1, ho.2.2.2⟩, ?_⟩
        · exact ho.1
        · exact ho.2.1
        · unfold hiB; rw [hr]; rfl
theorem BT.black_len (t : BT) : t.black.enc.length = t.enc.length := by
  cases t with
  | nil => rfl
  | node k v s n g l r => simp [BT.black, BT.enc]
set_option maxHeartbeats 400000 in
theorem rank16_any (w : World) (p : Value) (t : BT) (T : Tr) (hf : t.fits T) (ho : TagsOk T) (hb : Beads w p t.enc) (hl : t.enc.length ≤ 5000) :
    Calls Tryz.prog 62 #[p] w (Ret (.int .i64 (wrap64 (2 * hiB T))) w) := by
  have H := Lib.hid (blacken16_any w p t T hf ho hb hl)
  obtain ⟨u, h1, h2⟩ := BT.black_fits hf
  obtain ⟨h3, h4⟩ := h2 ho
  have hlt := hiB_lt ho
  have HU := Lib.hid (And.intro h1 (And.intro h3 h4))
  have HW := Lib.hid (show wrap64 (IntKind.u64.wrap (2 * hiB T)) = wrap64 (2 * hiB T) by rw [u64_mod]; unfold wrap64; omega)
  clear hf ho hb hl h1 h2 h3 h4 hlt
  generalize hiB T = HB at *
  go_enter Tryz.func62, Tryz.ntmps62
  go_wp2_with fail
  refine H.out.mono ?_
  rintro e w1 ⟨v1, rfl, hown, hx⟩
  have HO := Lib.hid hown.beads
  clear hown
  go_wp2_with fail
  refine (high16_any w1 v1 t.black u HU.out.1 HU.out.2.1 HO.out).mono ?_
  rw [HU.out.2.2]
  rintro e w2 ⟨rfl, hS⟩
  go_wp2
  go_ret
  exact ⟨ret_int (by rw [HW.out]), hx.trans hS⟩
end Go.Proofs.YtkkdobolloojjaaGreat
namespace Go.Proofs.YtkkdobolloojjaaGreat
open Go Go.RowKit

theorem rbPart_node (b : Nat) (l : Tr) (k v g : Int) (r : Tr) : rbPart (.node b l k v g r) = (rbOne (.node b l k v g r) == 0 && rbPart l && rbPart r) := mayOf_node b l k v g r
theorem rbOne_zero {T : Tr} : rbOne T = 0 ↔ rbBadTag T = false ∧ rbBadTree T = false := by
  unfold rbOne
  cases rbBadTag T <;> cases rbBadTree T <;> simp
theorem rb_sides {b : Nat} {l r : Tr} {k v g : Int} (h : rbPart (.node b l k v g r) = true) :
    rbPart l = true ∧ rbPart r = true ∧ g ≠ 0 ∧ (g = 2 * hi l + 1 ∨ g = IntKind.u64.wrap (2 * hi l + 2)) ∧ hi l = hi r ∧ (g % 2 = 1 → col l ≠ 1 ∧ col r ≠ 1) := by
  rw [rbPart_node] at h
  simp only [Bool.and_eq_true, beq_iff_eq] at h
  obtain ⟨⟨h1, h2⟩, h3⟩ := h
  obtain ⟨h4, h5⟩ := rbOne_zero.1 h1
  simp only [rbBadTag, Bool.or_eq_false_iff, Bool.and_eq_false_iff, Bool.not_eq_false', Bool.and_eq_true, beq_eq_false_iff_ne, beq_iff_eq, bne_eq_false_iff_eq, Tr.tag_node, Tr.left_node] at h4
  simp only [rbBadTree, Bool.or_eq_false_iff, Bool.and_eq_false_iff, beq_eq_false_iff_ne, bne_eq_false_iff_eq, Tr.left_node, Tr.right_node] at h5
  refine ⟨h2, h3, h4.1, ?_, h5.1, ?_⟩
  · rcases h4.2 with ⟨h6, h7⟩ | h6
    · left
      have e1 : g % 2 = 1 := h6
      have e2 : g / 2 = hi l := h7
      omega
    · right
      rw [h6]; rfl
  · intro hg
    rcases h5.2 with h6 | h6
    · exact absurd hg h6
    · exact h6
theorem col_01 (T : Tr) : col T = 0 ∨ col T = 1 := by unfold col; omega
theorem part_facts : ∀ T : Tr, rbPart T = true → TagsOk T → T.count < 1000000 → 0 ≤ hi T ∧ hi T < 100000000 ∧ (T.ht : Int) ≤ 2 * hi T + col T ∧ 2 ^ (hi T).toNat ≤ T.count + 1
  | .nil, _, _, _ => ⟨by decide, by decide, by decide, by decide⟩
  | .node b l k v g r, hp, ho, hc => by
    obtain ⟨p1, p2, h0, hg, he, hr⟩ := rb_sides hp
    rw [Tr.count_node] at hc ⊢
    obtain ⟨l0, -, l1, l2⟩ := part_facts l p1 ho.2.2.1 (by omega)
    obtain ⟨r0, -, r1, r2⟩ := part_facts r p2 ho.2.2.2 (by omega)
    have hlt : (hi l).toNat < 2 ^ (hi l).toNat := Nat.lt_two_pow_self
    rw [← he] at r1 r2
    have cl := col_01 l
    have cr := col_01 r
    have hcol : col (.node b l k v g r) = g % 2 := rfl
    have hhi : hi (.node b l k v g r) = g / 2 := rfl
    have hht : (Tr.node b l k v g r).ht = 1 + max l.ht r.ht := rfl
    rw [hcol, hhi, hht]
    rcases hg with hg | hg
    · have hc2 := hr (by omega)
      have e : g / 2 = hi l := by omega
      rw [e]
      refine ⟨l0, by omega, by omega, by omega⟩
    · rw [u64_mod] at hg
      have e : g / 2 = hi l + 1 := by omega
      rw [e]
      refine ⟨by omega, by omega, by omega, ?_⟩
      rw [show (hi l + 1).toNat = (hi l).toNat + 1 by omega, Nat.pow_succ]
      omega
theorem rbTag_small {l : Tr} (h0 : 0 ≤ hi l) (h1 : hi l < 100000000) (is : Bool) : rbTag l is = if is then 2 * hi l + 1 else 2 * hi l + 2 := by
  unfold rbTag
  rw [u64_mod]
  cases is <;> simp <;> omega
/-- what is made is red or black, as it was asked for. -/
theorem rbRed_make (b : Nat) (A : Tr) (k v : Int) (is : Bool) (B : Tr) : rbRed (.node b A k v (rbTag A is) B) = is := by
  have : rbRed (.node b A k v (rbTag A is) B) = (rbTag A is % 2 == 1) := rfl
  rw [this]
  unfold rbTag
  rw [u64_mod]
  cases is
  · rw [beq_eq_false_iff_ne]; simp
  · rw [beq_iff_eq]; simp
theorem black_of (k v s n g : Int) (l r : BT) : (BT.node k v s n g l r).of.black.enc = (BT.node k v s n (if g % 2 == 1 then IntKind.u64.wrap (g + 1) else g) l r).of.enc := by
  simp [BT.of, BT.black, BT.enc, sumL, BT.isNil]
end Go.Proofs.YtkkdobolloojjaaGreat
namespace Go.Proofs.YtkkdobolloojjaaGreat
open Go Go.RowKit

theorem tags_make {A B : Tr} {k v : Int} (bb : Nat) (is : Bool) (hA : TagsOk A) (hB : TagsOk B) : TagsOk (.node bb A k v (rbTag A is) B) := by
  refine ⟨?_, ?_, hA, hB⟩
  · unfold rbTag; rw [u64_mod]; omega
  · unfold rbTag; rw [u64_mod]; omega
end Go.Proofs.YtkkdobolloojjaaGreat
namespace Go.Proofs.YtkkdobolloojjaaGreat
open Go Go.RowKit

theorem parts_law (bb : Nat) (A B : Tr) (k v : Int) (is : Bool) (hA : TagsOk A) (cA : A.count < 1000000) : rbPart (.node bb A k v (rbTag A is) B) = (rbPart A && rbPart B && (hi A == hi B) && !(is && (rbRed A || rbRed B))) := by
  rw [rbPart_node]
  cases hp : rbPart A with
  | false => simp
  | true =>
    obtain ⟨h0, h1, -, -⟩ := part_facts A hp hA cA
    have e1 : rbBadTag (.node bb A k v (rbTag A is) B) = false := by
      have et := rbTag_small h0 h1 is
      cases is with
      | true =>
        rw [et]
        simp only [rbBadTag, Tr.tag_node, Tr.left_node, if_true]
        have c1 : col (.node bb A k v (2 * hi A + 1) B) = 1 := by show (2 * hi A + 1) % 2 = 1; omega
        have c2 : hi (.node bb A k v (2 * hi A + 1) B) = hi A := by show (2 * hi A + 1) / 2 = hi A; omega
        rw [c1, c2]
        simp; omega
      | false =>
        simp only [rbBadTag, Tr.tag_node, Tr.left_node, bne_self_eq_false, Bool.and_false, Bool.or_false]
        rw [et, beq_eq_false_iff_ne]
        simp; omega
    have e2 : rbBadTree (.node bb A k v (rbTag A is) B) = (hi A != hi B || (is && (rbRed A || rbRed B))) := by
      have : (col (.node bb A k v (rbTag A is) B) == 1) = is := rbRed_make bb A k v is B
      simp only [rbBadTree, Tr.left_node, Tr.right_node, this]
      rfl
    have e3 : (rbOne (.node bb A k v (rbTag A is) B) == 0) = !(hi A != hi B || (is && (rbRed A || rbRed B))) := by
      unfold rbOne
      rw [e1, e2]
      cases (hi A != hi B || (is && (rbRed A || rbRed B))) <;> rfl
    rw [e3]
    have : (hi A == hi B) = !(hi A != hi B) := by show _ = !(!(hi A == hi B)); rw [Bool.not_not]
    rw [this]
    cases (hi A != hi B) <;> cases (is && (rbRed A || rbRed B)) <;> cases rbPart B <;> rfl
theorem may_black {T : Tr} {n : Nat} {u : Tr} (hp : rbPart T = true) (ho : TagsOk T) (hc : T.count < 1000000) (h : (rbRed T = false ∧ u = T) ∨ (rbRed T = true ∧ ∃ b, n ≤ b ∧ u = .node b T.left T.key T.val (IntKind.u64.wrap (T.tag + 1)) T.right)) : rbMay u = true := by
  rcases h with ⟨h1, rfl⟩ | ⟨h1, b, -, rfl⟩
  · unfold rbMay; rw [hp, h1]; rfl
  · cases T with
    | nil => rw [show rbRed .nil = false by decide +kernel] at h1; cases h1
    | node b' l k v g r =>
      obtain ⟨p1, p2, h0, hg, he, hr⟩ := rb_sides hp
      rw [Tr.count_node] at hc
      obtain ⟨l0, l1, -, -⟩ := part_facts l p1 ho.2.2.1 (by omega)
      have hodd : g % 2 = 1 := by
        have : (g % 2 == 1) = true := h1
        simpa using this
      have e : IntKind.u64.wrap (g + 1) = rbTag l false := by
        rw [rbTag_small l0 l1]
        have hgo := ho.2.1
        rcases hg with hg | hg
        · rw [u64_mod]; simp; omega
        · rw [u64_mod] at hg; omega
      simp only [Tr.left_node, Tr.right_node, Tr.key_node, Tr.val_node, Tr.tag_node]
      rw [e]
      unfold rbMay
      rw [parts_law b l r k v false ho.2.2.1 (by omega), rbRed_make, p1, p2, he]
      simp
end Go.Proofs.YtkkdobolloojjaaGreat
namespace Go.Proofs.YtkkdobolloojjaaGreat
open Go Go.RowKit

/-- a part, of a black height, red or black, well tagged. -/
def RbH : Tr → Nat → Bool → Prop
  | .nil, b, c => b = 0 ∧ c = false
  | .node _ l _ _ g r, b, true => RbH l b false ∧ RbH r b false ∧ g = 2 * b + 1
  | .node _ l _ _ g r, b, false => ∃ d cl cr, b = d + 1 ∧ RbH l d cl ∧ RbH r d cr ∧ g = 2 * b
theorem RbH.tag : ∀ {T : Tr} {b : Nat} {c : Bool}, RbH T b c → T.tag = 2 * b + (if c then 1 else 0)
  | .nil, b, c, ⟨h1, h2⟩ => by subst h1 h2; rfl
  | .node _ l _ _ g r, b, true, h => by rw [Tr.tag_node, h.2.2]; rfl
  | .node _ l _ _ g r, b, false, ⟨d, cl, cr, h⟩ => by rw [Tr.tag_node, h.2.2.2]; simp
theorem RbH.hi {T : Tr} {b : Nat} {c : Bool} (h : RbH T b c) : Proofs.YtkkdobolloojjaaGreat.hi T = b := by
  unfold Proofs.YtkkdobolloojjaaGreat.hi
  rw [h.tag]
  cases c <;> simp <;> omega
theorem RbH.red {T : Tr} {b : Nat} {c : Bool} (h : RbH T b c) : rbRed T = c := by
  unfold rbRed col
  rw [h.tag]
  cases c
  · rw [beq_eq_false_iff_ne]; simp
  · rw [beq_iff_eq]; simp
theorem RbH.tags : ∀ {T : Tr} {b : Nat} {c : Bool}, RbH T b c → b < 1000000 → TagsOk T
  | .nil, _, _, _, _ => trivial
  | .node _ l _ _ g r, b, true, ⟨h1, h2, h3⟩, hb => ⟨by omega, by omega, RbH.tags h1 hb, RbH.tags h2 hb⟩
  | .node _ l _ _ g r, b, false, ⟨d, cl, cr, h0, h1, h2, h3⟩, hb => ⟨by omega, by omega, RbH.tags h1 (by omega), RbH.tags h2 (by omega)⟩
theorem hi_tag {l : Tr} {b : Nat} {c : Bool} (h : RbH l b c) (hb : b < 1000000) (is : Bool) : rbTag l is = if is then 2 * (b : Int) + 1 else 2 * (b : Int) + 2 := by
  have e := h.hi
  rw [rbTag_small (by rw [e]; omega) (by rw [e]; omega), e]
theorem RbH.part : ∀ {T : Tr} {b : Nat} {c : Bool}, RbH T b c → b < 1000000 → rbPart T = true
  | .nil, _, _, _, _ => rfl
  | .node bb l k v g r, b, true, ⟨h1, h2, h3⟩, hb => by
    have p1 := RbH.part h1 hb
    have p2 := RbH.part h2 hb
    have r1 := h1.red
    have r2 := h2.red
    have e : g = rbTag l true := by rw [hi_tag h1 hb, h3]; rfl
    rw [rbPart_node, p1, p2, Bool.and_true, Bool.and_true]
    have o : rbOne (.node bb l k v g r) = 0 := rbOne_zero.2 ⟨by
      unfold rbBadTag col Proofs.YtkkdobolloojjaaGreat.hi
      have := h1.hi
      unfold Proofs.YtkkdobolloojjaaGreat.hi at this
      simp only [Tr.tag_node, Tr.left_node, this, h3]
      have a1 : ((2 * (b : Int) + 1) % 2 == 1) = true := by simp
      have a2 : ((2 * (b : Int) + 1) / 2 == (b : Int)) = true := by simp; omega
      have a3 : ((2 * (b : Int) + 1) == 0) = false := by simp; omega
      rw [a1, a2, a3]; rfl, by
      unfold rbBadTree
      simp only [Tr.left_node, Tr.right_node, h1.hi, h2.hi]
      have c1 : (col l == 1) = false := r1
      have c2 : (col r == 1) = false := r2
      rw [c1, c2]; simp⟩
    rw [o]; rfl
  | .node bb l k v g r, b, false, ⟨d, cl, cr, h0, h1, h2, h3⟩, hb => by
    have p1 := RbH.part h1 (by omega)
    have p2 := RbH.part h2 (by omega)
    have e : g = rbTag l false := by rw [hi_tag h1 (by omega), h3, h0]; simp; omega
    rw [rbPart_node, p1, p2, Bool.and_true, Bool.and_true]
    have o : rbOne (.node bb l k v g r) = 0 := rbOne_zero.2 ⟨by
      unfold rbBadTag
      simp only [Tr.tag_node, Tr.left_node]
      rw [← e, bne_self_eq_false, Bool.and_false, Bool.or_false, beq_eq_false_iff_ne]
      omega, by
      unfold rbBadTree
      simp only [Tr.left_node, Tr.right_node, h1.hi, h2.hi]
      have c1 : (col (.node bb l k v g r) == 1) = false := by
        show (g % 2 == 1) = false
        rw [beq_eq_false_iff_ne, h3]; omega
      rw [c1]; simp⟩
    rw [o]; rfl
theorem RbH.may {T : Tr} {b : Nat} (h : RbH T b false) (hb : b < 1000000) : rbMay T = true := by
  unfold rbMay
  rw [h.part hb, h.red]; rfl
theorem RbH.of_part : ∀ {T : Tr}, rbPart T = true → TagsOk T → T.count < 1000000 → RbH T (Proofs.YtkkdobolloojjaaGreat.hi T).toNat (rbRed T)
  | .nil, _, _, _ => ⟨by decide +kernel, by decide +kernel⟩
  | .node b l k v g r, hp, ho, hc => by
    obtain ⟨p1, p2, h0, hg, he, hr⟩ := rb_sides hp
    rw [Tr.count_node] at hc
    have l1 := RbH.of_part p1 ho.2.2.1 (by omega)
    have r1 := RbH.of_part p2 ho.2.2.2 (by omega)
    obtain ⟨f1, f2, -, -⟩ := part_facts l p1 ho.2.2.1 (by omega)
    have hhi : Proofs.YtkkdobolloojjaaGreat.hi (.node b l k v g r) = g / 2 := rfl
    rcases hg with hg | hg
    · obtain ⟨c1, c2⟩ := hr (by omega)
      have hred : rbRed (.node b l k v g r) = true := by show (g % 2 == 1) = true; simp; omega
      have e : (Proofs.YtkkdobolloojjaaGreat.hi (.node b l k v g r)).toNat = (Proofs.YtkkdobolloojjaaGreat.hi l).toNat := by rw [hhi]; omega
      have rl : rbRed l = false := by unfold rbRed; simpa using c1
      have rr : rbRed r = false := by unfold rbRed; simpa using c2
      rw [rl] at l1
      rw [rr, ← he] at r1
      rw [hred, e]
      exact ⟨l1, r1, by omega⟩
    · rw [u64_mod] at hg
      have hred : rbRed (.node b l k v g r) = false := by show (g % 2 == 1) = false; rw [beq_eq_false_iff_ne]; omega
      have e : (Proofs.YtkkdobolloojjaaGreat.hi (.node b l k v g r)).toNat = (Proofs.YtkkdobolloojjaaGreat.hi l).toNat + 1 := by rw [hhi]; omega
      rw [← he] at r1
      rw [hred, e]
      exact ⟨_, _, _, rfl, l1, r1, by omega⟩
section
variable {s : Bool} {b : Nat} {i o : Tr} {k v g : Int}
theorem mk_red {q : Nat} : RbH (mkN s b i k v g o) q true ↔ RbH i q false ∧ RbH o q false ∧ g = 2 * q + 1 := by
  cases s
  · exact ⟨fun ⟨h1, h2, h3⟩ => ⟨h2, h1, h3⟩, fun ⟨h1, h2, h3⟩ => ⟨h2, h1, h3⟩⟩
  · exact Iff.rfl
theorem mk_black {q : Nat} : RbH (mkN s b i k v g o) q false ↔ ∃ d ci co, q = d + 1 ∧ RbH i d ci ∧ RbH o d co ∧ g = 2 * q := by
  cases s
  · exact ⟨fun ⟨d, cl, cr, h0, h1, h2, h3⟩ => ⟨d, cr, cl, h0, h2, h1, h3⟩, fun ⟨d, cl, cr, h0, h1, h2, h3⟩ => ⟨d, cr, cl, h0, h2, h1, h3⟩⟩
  · exact Iff.rfl
end
/-- the tag of a node of a side. -/
def sTag (s : Bool) (i : Tr) (is : Bool) (o : Tr) : Int := if s then rbTag i is else rbTag o is
theorem sTag_red {s : Bool} {i o : Tr} {q : Nat} {ci co : Bool} (hi : RbH i q ci) (ho : RbH o q co) (hq : q < 1000000) : sTag s i true o = 2 * (q : Int) + 1 := by
  cases s
  · exact hi_tag ho hq true
  · exact hi_tag hi hq true
theorem sTag_black {s : Bool} {i o : Tr} {q : Nat} {ci co : Bool} (hi : RbH i q ci) (ho : RbH o q co) (hq : q < 1000000) : sTag s i false o = 2 * ((q + 1 : Nat) : Int) := by
  cases s
  · have := hi_tag ho hq false
    simp only [Bool.false_eq_true, if_false] at this
    show rbTag o false = _
    omega
  · have := hi_tag hi hq false
    simp only [Bool.false_eq_true, if_false] at this
    show rbTag i false = _
    omega
/-- what becomes of a tree t, if a pair and a lower one hang on its outer side. -/
structure RHang (n : Nat) (s : Bool) (t low : Tr) (b : Nat) (c : Bool) (q : Nat) (k v : Int) (T : Tr) : Prop where
  black : c = false → ∃ cx, RbH T b cx ∧ (cx = true → T.news n = 1 + (inOf s T).news n + (outOf s T).news n)
  red : c = true → ∃ bx i kx vx gx o co, T = mkN s bx i kx vx gx o ∧ n ≤ bx ∧ RbH i b false ∧ RbH o b co ∧ gx = 2 * (b : Int) + 1 ∧ (co = true → o.news n = 1 + (inOf s o).news n + (outOf s o).news n)
  news : T.news n + 2 * q ≤ 2 * b + (if c then 1 else 0) + 1 + low.news n
  kvs : T.kvs = both s t.kvs [(k, v)] low.kvs
  old : ∀ x ∈ T.pre, x.blk < n → x ∈ t.pre ∨ x ∈ low.pre
  top : n ≤ T.blk
  nn : T ≠ .nil
theorem news_top {s : Bool} {n bx : Nat} {i o : Tr} {k v g : Int} (hb : n ≤ bx) : (mkN s bx i k v g o).news n = 1 + (inOf s (mkN s bx i k v g o)).news n + (outOf s (mkN s bx i k v g o)).news n := by
  rw [mk_news, inOf_mk, outOf_mk, if_pos hb]
section
variable {n : Nat} {s : Bool} {b : Nat} {i o low : Tr} {k v g pk pv : Int} {p q : Nat}
/-- at the bottom: a red one of both. -/
theorem rhang_base {t : Tr} (bx : Nat) (ht : RbH t p false) (hl : RbH low q false) (hp : p < 100000) (hpq : p = q) (nt : t.news n = 0) (hb : n ≤ bx) : RHang n s t low p false q pk pv (mkN s bx t pk pv (sTag s t true low) low) := by
  subst hpq
  refine ⟨fun _ => ⟨true, mk_red.2 ⟨ht, hl, sTag_red ht hl (by omega)⟩, fun _ => news_top hb⟩, fun h => (by cases h), ?_, mk_kvs, fun x hx hn => ?_, by rw [mk_blk]; exact hb, mk_nn⟩
  · rw [mk_news, nt, if_pos hb]; simp; omega
  · rcases (mk_pre x).1 hx with rfl | h | h
    · rw [mk_blk] at hn; omega
    · exact .inl h
    · exact .inr h
theorem old_node {x : Tr} {bt : Nat} {kk vv gg : Int} (hold : ∀ y ∈ x.pre, y.blk < n → y ∈ o.pre ∨ y ∈ low.pre) (hb : n ≤ bt) : ∀ y ∈ (mkN s bt i kk vv gg x).pre, y.blk < n → y ∈ (mkN s b i k v g o).pre ∨ y ∈ low.pre := fun y hy hyn => by
  rcases (mk_pre y).1 hy with rfl | h | h
  · rw [mk_blk] at hyn; omega
  · exact .inl ((mk_pre y).2 (.inr (.inl h)))
  · rcases hold y h hyn with h | h
    · exact .inl ((mk_pre y).2 (.inr (.inr h)))
    · exact .inr h
/-- a red one: what came up hangs under it. -/
theorem rhang_red {x : Tr} (bt : Nat) (hi : RbH i p false) (hx : RHang n s o low p false q pk pv x) (hp : p < 100000) (ni : i.news n = 0) (hb : n ≤ bt) : RHang n s (mkN s b i k v g o) low p true q pk pv (mkN s bt i k v (sTag s i true x) x) := by
  obtain ⟨cx, h1, h2⟩ := hx.black rfl
  have hnew := hx.news
  refine ⟨fun h => (by cases h), fun _ => ⟨bt, i, k, v, _, x, cx, rfl, hb, hi, h1, sTag_red hi h1 (by omega), h2⟩, ?_, ?_, old_node hx.old hb, by rw [mk_blk]; exact hb, mk_nn⟩
  · rw [mk_news, ni, if_pos hb]; simp at hnew ⊢; omega
  · rw [mk_kvs, mk_kvs, hx.kvs, both_out]
/-- a black one, and what came up may stand under it. -/
theorem rhang_black {x : Tr} {c : Bool} (bt : Nat) {ci : Bool} (hi : RbH i p ci) (hx : RHang n s o low p c q pk pv x) (hp : p < 100000) (hok : ∃ cx, RbH x p cx) (ni : i.news n = 0) (hb : n ≤ bt) : RHang n s (mkN s b i k v g o) low (p + 1) false q pk pv (mkN s bt i k v (sTag s i false x) x) := by
  obtain ⟨cx, h1⟩ := hok
  have hnew := hx.news
  refine ⟨fun _ => ⟨false, mk_black.2 ⟨p, ci, cx, rfl, hi, h1, sTag_black hi h1 (by omega)⟩, fun h => (by cases h)⟩, fun h => (by cases h), ?_, ?_, old_node hx.old hb, by rw [mk_blk]; exact hb, mk_nn⟩
  · rw [mk_news, ni, if_pos hb]
    cases c <;> simp at hnew ⊢ <;> omega
  · rw [mk_kvs, mk_kvs, hx.kvs, both_out]
/-- a black one, and a red one above a red one came up: a turn. -/
theorem rhang_turn {xi yi yo : Tr} {xk xv xg yk yv yg : Int} {bx by_ : Nat} (b3 b4 b5 : Nat) {ci : Bool} (hi : RbH i p ci) (hx : RHang n s o low p true q pk pv (mkN s bx xi xk xv xg (mkN s by_ yi yk yv yg yo))) (hp : p < 100000)
    (hxi : RbH xi p false) (hy : RbH (mkN s by_ yi yk yv yg yo) p true) (hbx : n ≤ bx) (hyn : (mkN s by_ yi yk yv yg yo).news n = 1 + yi.news n + yo.news n) (ni : i.news n = 0) (hb3 : n ≤ b3) (hb4 : n ≤ b4) (hb5 : n ≤ b5) :
    RHang n s (mkN s b i k v g o) low (p + 1) false q pk pv (mkN s b5 (mkN s b3 i k v (sTag s i false xi) xi) xk xv (sTag s (mkN s b3 i k v (sTag s i false xi) xi) true (mkN s b4 yi yk yv (IntKind.u64.wrap (yg + 1)) yo)) (mkN s b4 yi yk yv (IntKind.u64.wrap (yg + 1)) yo)) := by
  obtain ⟨y1, y2, y3⟩ := mk_red.1 hy
  have hnew := hx.news
  rw [mk_news, if_pos hbx, hyn] at hnew
  have m3 : RbH (mkN s b3 i k v (sTag s i false xi) xi) (p + 1) false := mk_black.2 ⟨p, ci, false, rfl, hi, hxi, sTag_black hi hxi (by omega)⟩
  have m4 : RbH (mkN s b4 yi yk yv (IntKind.u64.wrap (yg + 1)) yo) (p + 1) false := mk_black.2 ⟨p, false, false, rfl, y1, y2, by rw [u64_mod, y3]; omega⟩
  refine ⟨fun _ => ⟨true, mk_red.2 ⟨m3, m4, sTag_red m3 m4 (by omega)⟩, fun _ => news_top hb5⟩, fun h => (by cases h), ?_, ?_, fun z hz hzn => ?_, by rw [mk_blk]; exact hb5, mk_nn⟩
  · rw [mk_news, mk_news, mk_news, ni, if_pos hb3, if_pos hb4, if_pos hb5]; simp at hnew ⊢; omega
  · have hk := hx.kvs
    simp only [mk_kvs] at hk ⊢
    rw [← both_out s i.kvs [(k, v)] xi.kvs, hk, both_out]
  · have hin : ∀ y, y ∈ xi.pre ∨ y ∈ (mkN s by_ yi yk yv yg yo).pre → y.blk < n → y ∈ (mkN s b i k v g o).pre ∨ y ∈ low.pre := fun y hy hyn => by
      rcases hx.old y ((mk_pre y).2 (.inr hy)) hyn with h | h
      · exact .inl ((mk_pre y).2 (.inr (.inr h)))
      · exact .inr h
    rcases (mk_pre z).1 hz with rfl | h | h
    · rw [mk_blk] at hzn; omega
    · rcases (mk_pre z).1 h with rfl | h | h
      · rw [mk_blk] at hzn; omega
      · exact .inl ((mk_pre z).2 (.inr (.inl h)))
      · exact hin z (.inl h) hzn
    · rcases (mk_pre z).1 h with rfl | h | h
      · rw [mk_blk] at hzn; omega
      · exact hin z (.inr ((mk_pre z).2 (.inr (.inl h)))) hzn
      · exact hin z (.inr ((mk_pre z).2 (.inr (.inr h)))) hzn
end
end Go.Proofs.YtkkdobolloojjaaGreat
namespace Go.Proofs.YtkkdobolloojjaaGreat
open Go Go.RowKit

/-- a side, as the code tells it, and its methods. -/
def sT (s : Bool) : Nat := if s then 153 else 154
def rInF (s : Bool) : Nat := if s then 202 else 205
def rOutF (s : Bool) : Nat := if s then 204 else 207
def rMkF (s : Bool) : Nat := if s then 203 else 206
def sideI (s : Bool) : Value := .iface (sT s) (.agg #[])
theorem part_zero (w : World) (T : TypeId) (hT : Tryz.prog.cellsOf T = 0) : (partAt ⟨w.heap.size, 0, none⟩ 0 0).run Tryz.prog (w.alloc (.cells #[] T)) = .ok ⟨w.heap.size, 0, none⟩ (w.alloc (.cells #[] T)) := by
  have h := alloc_at w (.cells #[] T) _ rfl
  have hs : (w.alloc (.cells #[] T)).shape? w.heap.size = some (T, 0) := by unfold World.shape?; rw [h]; rfl
  simp [partAt, byteOf, noView, viewAt, hs, hT]
theorem rmeth_in (s : Bool) (f : Nat) (w : World) : (method (f + 1) (sT s) (.agg #[]) "joinery/rbjoin.in").run Tryz.prog w = .ok (rInF s, .agg #[]) w := by cases s <;> kernel_rfl
theorem rmeth_out (s : Bool) (f : Nat) (w : World) : (method (f + 1) (sT s) (.agg #[]) "joinery/rbjoin.out").run Tryz.prog w = .ok (rOutF s, .agg #[]) w := by cases s <;> kernel_rfl
theorem rmeth_mk (s : Bool) (f : Nat) (w : World) : (method (f + 1) (sT s) (.agg #[]) "joinery/rbjoin.make").run Tryz.prog w = .ok (rMkF s, .agg #[]) w := by cases s <;> kernel_rfl
theorem rahead_mk (s : Bool) (f : Nat) (w : World) : (nilAhead (f + 1) (sT s) (.agg #[]) "joinery/rbjoin.make").run Tryz.prog w = .ok (some false) w := by cases s <;> kernel_rfl
theorem rcall_in (s : Bool) (a : Array Value) (w : World) : (callFunc (rInF s) a).run Tryz.prog w = .ok (.enter (rInF s) a) w := by cases s <;> kernel_rfl
theorem rcall_out (s : Bool) (a : Array Value) (w : World) : (callFunc (rOutF s) a).run Tryz.prog w = .ok (.enter (rOutF s) a) w := by cases s <;> kernel_rfl
theorem rcall_mk (s : Bool) (a : Array Value) (w : World) : (callFunc (rMkF s) a).run Tryz.prog w = .ok (.enter (rMkF s) a) w := by cases s <;> kernel_rfl
set_option maxHeartbeats 400000 in
theorem rInR_any (w : World) (t : Tr) (ht : InH w t) : Calls Tryz.prog 202 #[.agg #[], .pointer t.ptr] w (Ret (.pointer t.left.ptr) w) := by
  go_enter Tryz.func202, Tryz.ntmps202
  go_wp2_with fail
  refine (left_any _ t (ht.ext ((Ext.refl w).alloc _))).mono ?_
  rintro e w1 ⟨rfl, h1⟩
  go_wp2
  go_ret
  exact Ret.mk (((Ext.refl w).alloc _).trans h1)
set_option maxHeartbeats 400000 in
theorem rOutR_any (w : World) (t : Tr) (ht : InH w t) : Calls Tryz.prog 204 #[.agg #[], .pointer t.ptr] w (Ret (.pointer t.right.ptr) w) := by
  go_enter Tryz.func204, Tryz.ntmps204
  go_wp2_with fail
  refine (right_any _ t (ht.ext ((Ext.refl w).alloc _))).mono ?_
  rintro e w1 ⟨rfl, h1⟩
  go_wp2
  go_ret
  exact Ret.mk (((Ext.refl w).alloc _).trans h1)
set_option maxHeartbeats 400000 in
theorem rInL_any (w : World) (t : Tr) (ht : InH w t) : Calls Tryz.prog 205 #[.agg #[], .pointer t.ptr] w (Ret (.pointer t.right.ptr) w) := by
  go_enter Tryz.func205, Tryz.ntmps205
  go_wp2_with fail
  refine (right_any _ t (ht.ext ((Ext.refl w).alloc _))).mono ?_
  rintro e w1 ⟨rfl, h1⟩
  go_wp2
  go_ret
  exact Ret.mk (((Ext.refl w).alloc _).trans h1)
set_option maxHeartbeats 400000 in
theorem rOutL_any (w : World) (t : Tr) (ht : InH w t) : Calls Tryz.prog 207 #[.agg #[], .pointer t.ptr] w (Ret (.pointer t.left.ptr) w) := by
  go_enter Tryz.func207, Tryz.ntmps207
  go_wp2_with fail
  refine (left_any _ t (ht.ext ((Ext.refl w).alloc _))).mono ?_
  rintro e w1 ⟨rfl, h1⟩
  go_wp2
  go_ret
  exact Ret.mk (((Ext.refl w).alloc _).trans h1)
set_option maxHeartbeats 400000 in
theorem rbOfMk_any (w : World) (l p r : Tr) (red : Bool) (hl : InH w l) (hp : InH w p) (hr : InH w r) (hto : TagsOk l) : Calls Tryz.prog 201 #[.agg #[], .pointer l.ptr, .pointer p.ptr, .bool red, .pointer r.ptr] w (New l p.key p.val (rbTag l red) r w) := by
  have hE := (Ext.refl w).alloc (.cells #[] 151)
  have H := Lib.hid (fun W (h : Ext w W) => rbMake_any W l r p.key p.val red (hl.ext h) (hr.ext h) hto)
  clear hto
  go_enter Tryz.func201, Tryz.ntmps201
  go_wp2_with fail
  refine (key_any _ p (hp.ext hE)).mono ?_
  rintro e w1 ⟨rfl, h1⟩
  have h01 := hE.trans h1
  go_wp2_with fail
  refine (val_any _ p (hp.ext h01)).mono ?_
  rintro e w2 ⟨rfl, h2⟩
  have h02 := h01.trans h2
  go_wp2_with fail
  refine (H.out w2 h02).mono ?_
  rintro e w3 ⟨b, rfl, hb, ht, h3⟩
  go_wp2
  go_ret
  exact ⟨b, rfl, Nat.le_trans h02.size hb, ht, h02.trans h3⟩
set_option maxHeartbeats 400000 in
theorem rMkR_any (w : World) (i p o : Tr) (red : Bool) (hi : InH w i) (hp : InH w p) (ho : InH w o) (hto : TagsOk i) : Calls Tryz.prog 203 #[.agg #[], .pointer i.ptr, .pointer p.ptr, .bool red, .pointer o.ptr] w (New i p.key p.val (rbTag i red) o w) := by
  have hE := (Ext.refl w).alloc (.cells #[] 153)
  have hpz := part_zero w 153 (by kernel_rfl)
  have H := Lib.hid (fun W (h : Ext w W) => rbOfMk_any W i p o red (hi.ext h) (hp.ext h) (ho.ext h) hto)
  clear hto
  go_enter Tryz.func203, Tryz.ntmps203
  go_wp2_with fail
  refine (H.out _ hE).mono ?_
  rintro e w1 ⟨b, rfl, hb, ht, h1⟩
  go_wp2
  go_ret
  exact ⟨b, rfl, Nat.le_trans hE.size hb, ht, hE.trans h1⟩
set_option maxHeartbeats 400000 in
theorem rMkL_any (w : World) (i p o : Tr) (red : Bool) (hi : InH w i) (hp : InH w p) (ho : InH w o) (hto : TagsOk o) : Calls Tryz.prog 206 #[.agg #[], .pointer i.ptr, .pointer p.ptr, .bool red, .pointer o.ptr] w (New o p.key p.val (rbTag o red) i w) := by
  have hE := (Ext.refl w).alloc (.cells #[] 154)
  have hpz := part_zero w 154 (by kernel_rfl)
  have H := Lib.hid (fun W (h : Ext w W) => rbOfMk_any W o p i red (ho.ext h) (hp.ext h) (hi.ext h) hto)
  clear hto
  go_enter Tryz.func206, Tryz.ntmps206
  go_wp2_with fail
  refine (H.out _ hE).mono ?_
  rintro e w1 ⟨b, rfl, hb, ht, h1⟩
  go_wp2
  go_ret
  exact ⟨b, rfl, Nat.le_trans hE.size hb, ht, hE.trans h1⟩
theorem rIn_any (s : Bool) (w : World) (t : Tr) (ht : InH w t) : Calls Tryz.prog (rInF s) #[.agg #[], .pointer t.ptr] w (Ret (.pointer (inOf s t).ptr) w) := by
  cases s
  · exact rInL_any w t ht
  · exact rInR_any w t ht
theorem rOut_any (s : Bool) (w : World) (t : Tr) (ht : InH w t) : Calls Tryz.prog (rOutF s) #[.agg #[], .pointer t.ptr] w (Ret (.pointer (outOf s t).ptr) w) := by
  cases s
  · exact rOutL_any w t ht
  · exact rOutR_any w t ht
/-- a new node of a side. -/
def NewR (s : Bool) (i : Tr) (k v : Int) (red : Bool) (o : Tr) (w : World) (e : Ending) (w' : World) : Prop :=
  ∃ b, e = .returned (.pointer (mkN s b i k v (sTag s i red o) o).ptr) ∧ w.heap.size ≤ b ∧ InH w' (mkN s b i k v (sTag s i red o) o) ∧ Ext w w'
theorem rMk_any (s : Bool) (w : World) (i p o : Tr) (red : Bool) (hi : InH w i) (hp : InH w p) (ho : InH w o) (hti : TagsOk i) (hto : TagsOk o) : Calls Tryz.prog (rMkF s) #[.agg #[], .pointer i.ptr, .pointer p.ptr, .bool red, .pointer o.ptr] w (NewR s i p.key p.val red o w) := by
  cases s
  · exact rMkL_any w i p o red hi hp ho hto
  · exact rMkR_any w i p o red hi hp ho hti
/-- what hang hands back. -/
def RHangs (n : Nat) (s : Bool) (t low : Tr) (b : Nat) (c : Bool) (q : Nat) (k v : Int) (w : World) (e : Ending) (w' : World) : Prop :=
  ∃ T : Tr, e = .returned (.pointer T.ptr) ∧ RHang n s t low b c q k v T ∧ InH w' T ∧ Ext w w'
def RHangSpec (s : Bool) (n : Nat) (P low : Tr) (q : Nat) (t : Tr) : Prop :=
  ∀ (w : World) (b : Nat) (c : Bool), n ≤ w.heap.size → InH w t → InH w P → InH w low → RbH t b c → q ≤ b → b < 100000 → (inOf s t).news n = 0 → (outOf s t).news n = 0 → (q < b ∨ t.news n = 0) →
    Calls Tryz.prog 117 #[sideI s, .pointer t.ptr, .pointer P.ptr, .pointer low.ptr] w (RHangs n s t low b c q P.key P.val w)
theorem in_tags {s : Bool} {t : Tr} (h : TagsOk t) : TagsOk (inOf s t) := by
  cases s
  · exact tags_right h
  · exact tags_left h
theorem out_tags {s : Bool} {t : Tr} (h : TagsOk t) : TagsOk (outOf s t) := by
  cases s
  · exact tags_left h
  · exact tags_right h
theorem near_tags {s : Bool} {bx b : Nat} {i o : Tr} {k v g : Int} {co : Bool} (h1 : RbH i b false) (h2 : RbH o b co) (hg : g = 2 * (b : Int) + 1) (hb : b < 1000000) : TagsOk (mkN s bx i k v g o) ∧ rbRed (mkN s bx i k v g o) = true := by
  refine ⟨?_, ?_⟩
  · cases s
    · exact ⟨by omega, by omega, h2.tags hb, h1.tags hb⟩
    · exact ⟨by omega, by omega, h1.tags hb, h2.tags hb⟩
  · unfold rbRed col
    rw [mk_tag, hg]
    rw [beq_iff_eq]; omega
theorem news_sides {s : Bool} {n : Nat} {o : Tr} (h : o.news n = 0) : (inOf s o).news n = 0 ∧ (outOf s o).news n = 0 := by
  cases o with
  | nil => cases s <;> exact ⟨rfl, rfl⟩
  | node b l k v g r =>
    rw [mk_sides s b l k v g r, mk_news] at h
    omega
theorem black_mk (s : Bool) (b by_ : Nat) (yi yo : Tr) (yk yv yg : Int) : Tr.node b (mkN s by_ yi yk yv yg yo).left (mkN s by_ yi yk yv yg yo).key (mkN s by_ yi yk yv yg yo).val (IntKind.u64.wrap ((mkN s by_ yi yk yv yg yo).tag + 1)) (mkN s by_ yi yk yv yg yo).right = mkN s b yi yk yv (IntKind.u64.wrap (yg + 1)) yo := by
  cases s <;> rfl
theorem out_ok' {w : World} {s : Bool} {t : Tr} (h : InH w t) : InH w (outOf s t) := by
  cases s
  · exact left_ok h
  · exact right_ok h
theorem in_ok' {w : World} {s : Bool} {t : Tr} (h : InH w t) : InH w (inOf s t) := by
  cases s
  · exact right_ok h
  · exact left_ok h
set_option maxRecDepth 100000 in
set_option maxHeartbeats 8000000 in
theorem rhang_step (s : Bool) (n : Nat) (P low : Tr) (q : Nat) (hlow : RbH low q false) (t : Tr) (IH0 : t ≠ .nil → RHangSpec s n P low q (outOf s t)) : RHangSpec s n P low q t := by
  intro w b c hn ht hP hlw hA hqb hb hni hno hor
  have hfn : ∀ f, Fence.wide.fn f := fun _ => trivial
  have hci := rcall_in s
  have hco := rcall_out s
  have hcm := rcall_mk s
  have hmi := rmeth_in s
  have hmo := rmeth_out s
  have hmm := rmeth_mk s
  have hna := rahead_mk s
  have TT := Lib.hid (hA.tags (by omega))
  have TL := Lib.hid (hlow.tags (by omega))
  have AL := Lib.hid hlow
  have hx := Ext.refl w
  have HMB := Lib.hid (fun W (h : Ext w W) => rMk_any s W t P low true (ht.ext h) (hP.ext h) (hlw.ext h) TT.out TL.out)
  by_cases ht0 : t = .nil
  · subst ht0
    obtain ⟨hb0, rfl⟩ := hA
    have HZ := Lib.hid (show b = 0 ∧ q = 0 by omega)
    have hbi : (b : Int) ≤ (q : Int) := by omega
    have hund : undef = Value.tuple #[] := rfl
    rw [Tr.ptr_nil] at HMB ⊢
    clear IH0 hni hno hor hb0
    unfold sideI
    go_enter Tryz.func117, Tryz.ntmps117
    obtain ⟨m⟩ : Nonempty Nat := ⟨0⟩
    refine (wpIn_wide (n := m)).1 ?_
    gi_wp2_with fail
    refine ⟨wide_room _, (callsIn_wide.2 (HMB.out w hx)).mono ?_⟩
    rintro e w1 ⟨bn, rfl, hbn, hT, h1⟩
    gi_wp2
    go_ret
    obtain ⟨z1, z2⟩ := HZ.out
    subst z1
    exact ⟨_, rfl, by rw [show (0 : Nat) = q from z2.symm]; exact rhang_base bn ⟨z2, rfl⟩ AL.out (by omega) rfl rfl (Nat.le_trans hn hbn), hT, h1⟩
  · have IH := IH0 ht0
    clear IH0
    obtain ⟨bt, i, k, v, g, o, et⟩ := sides_ne s ht0
    have ET := Lib.hid et
    have e1 : inOf s t = i := by rw [et, inOf_mk]
    have e2 : outOf s t = o := by rw [et, outOf_mk]
    rw [e1] at hni
    rw [e2] at hno IH
    have ek : t.key = k ∧ t.val = v := by rw [et, mk_key, mk_val]; exact ⟨rfl, rfl⟩
    have ep : t.ptr = some ⟨bt, 0, none⟩ := by rw [et, mk_ptr]
    have hti := in_tags (s := s) TT.out
    rw [e1] at hti
    have HIN := Lib.hid (fun W (h : Ext w W) => rIn_any s W t (ht.ext h))
    have HOUT := Lib.hid (fun W (h : Ext w W) => rOut_any s W t (ht.ext h))
    have HRT := Lib.hid (fun W (h : Ext w W) => rbRed_any W t (ht.ext h) TT.out)
    have HHT := Lib.hid (fun W (h : Ext w W) => rbHigh_any W t (ht.ext h) TT.out)
    have HHL := Lib.hid (fun W (h : Ext w W) => rbHigh_any W low (hlw.ext h) TL.out)
    have hii := in_ok' (s := s) ht
    rw [e1] at hii
    have HM6 := Lib.hid (fun W x r (h : Ext w W) (hX : InH W x) (hT : TagsOk x) => rMk_any s W i t x r (hii.ext h) (ht.ext h) hX hti hT)
    rw [ep] at HMB HIN HOUT HRT HHT HM6 ⊢
    rw [e1] at HIN
    rw [e2] at HOUT
    rw [ek.1, ek.2] at HM6
    rw [hA.red] at HRT
    rw [hA.hi] at HHT
    rw [hlow.hi] at HHL
    have NI := Lib.hid hni
    have NS := Lib.hid (news_sides (s := s) hno)
    have NO := Lib.hid hno
    have HPI := Lib.hid (fun W (h : Ext w W) => hP.ext h)
    have HLI := Lib.hid (fun W (h : Ext w W) => hlw.ext h)
    have hoo := out_ok' (s := s) ht
    rw [e2] at hoo
    have HOI := Lib.hid (fun W (h : Ext w W) => hoo.ext h)
    unfold sideI
    cases c with
    | true =>
      have hAt := hA
      rw [et] at hAt
      obtain ⟨a1, a2, a3⟩ := mk_red.1 hAt
      have AI := Lib.hid a1
      have AO := Lib.hid a2
      have HIH := Lib.hid (fun W (h : Ext w W) => IH W b false (Nat.le_trans hn h.size) (HOI.out W h) (HPI.out W h) (HLI.out W h) a2 hqb hb NS.out.1 NS.out.2 (.inr NO.out))
      clear IH hA hAt a1 a2 a3 hlow ht hP hlw hii hoo hti e1 e2 et ek ep hni hno ht0 hor
      go_enter Tryz.func117, Tryz.ntmps117
      obtain ⟨m⟩ : Nonempty Nat := ⟨0⟩
      refine (wpIn_wide (n := m)).1 ?_
      gi_wp2_with fail
      refine ⟨wide_room _, (callsIn_wide.2 (HRT.out w hx)).mono ?_⟩
      rintro e w1 ⟨rfl, hS⟩
      replace hx := hx.trans hS
      clear hS
      gi_wp2_with fail
      refine ⟨wide_room _, (callsIn_wide.2 (HOUT.out w1 hx)).mono ?_⟩
      rintro e w2 ⟨rfl, hS⟩
      replace hx := hx.trans hS
      clear hS
      gi_wp2_with fail
      refine ⟨wide_room _, (callsIn_wide.2 (HIH.out w2 hx)).mono ?_⟩
      rintro e w3 ⟨x, rfl, hok, hX, hS⟩
      replace hx := hx.trans hS
      clear hS
      have HOK := Lib.hid hok
      have TX : Hid (TagsOk x) := Lib.hid (by obtain ⟨cx, h1, -⟩ := hok.black rfl; exact h1.tags (by omega))
      clear hok
      gi_wp2_with fail
      refine ⟨wide_room _, (callsIn_wide.2 (HRT.out w3 hx)).mono ?_⟩
      rintro e W6 ⟨rfl, hS⟩
      replace hx := hx.trans hS
      replace hX := hX.ext hS
      clear hS
      gi_wp2_with fail
      have hxd := Ext.drew W6
      refine wpIn_region_G (fun j => !(List.contains (α := Nat) [11] j)) (by kernel_rfl) ?_
      refine batchG hfn (fuel := 4) [0, 1, 2, 4, 5, 7, 8, 9, 10] (by kernel_rfl) rfl ?_
      repeat (go_big_quiet_step ((fail)))
      refine wpQuiet_nil ?_
      refine wpAnyG_one (j := 3) (by kernel_rfl) rfl ?_
      gi_wp2_with fail
      refine ⟨wide_room _, (callsIn_wide.2 (HIN.out _ (hx.trans hxd))).mono ?_⟩
      rintro e w7 ⟨rfl, h7⟩
      gi_wp2_with fail
      refine onePost_ext (h7) ?_
      have h67 := hxd.trans h7
      refine wpAnyG_one (j := 6) (by kernel_rfl) rfl ?_
      gi_wp2_with fail
      refine ⟨wide_room _, (callsIn_wide.2 (HRT.out _ (hx.trans h67))).mono ?_⟩
      rintro e w8 ⟨rfl, h8⟩
      gi_wp2_with fail
      refine onePost_ext (h8) ?_
      have h68 := h67.trans h8
      refine wpAnyG_one (j := 11) (by kernel_rfl) rfl ?_
      gi_wp2_with fail
      refine ⟨wide_room _, (callsIn_wide.2 (HM6.out _ x true (hx.trans h68) (hX.ext h68) TX.out)).mono ?_⟩
      rintro e w9 ⟨bn, rfl, hbn, hT, h9⟩
      gi_wp2_with fail
      refine onePost_any (by kernel_rfl) ?_
      refine batchG hfn (fuel := 0) [12] (by kernel_rfl) rfl ?_
      repeat (go_big_quiet_step ((fail)))
      refine wpQuiet_nil ?_
      refine wpAnyG_done (by kernel_rfl) ?_
      refine calmQ_normal ?_
      gi_wp2
      go_ret
      have hnb : n ≤ bn := Nat.le_trans hn (Nat.le_trans (hx.trans h68).size hbn)
      refine ⟨_, rfl, ?_, hT, (hx.trans h68).trans h9⟩
      rw [ET.out]
      exact rhang_red bn AI.out HOK.out hb NI.out hnb
    | false =>
      by_cases hbase : b ≤ q
      · have hbi : (b : Int) ≤ (q : Int) := by omega
        obtain rfl : b = q := by omega
        have hnt : t.news n = 0 := by
          rcases hor with h | h
          · omega
          · exact h
        have AT := Lib.hid hA
        have NT := Lib.hid hnt
        clear IH hA hlow ht hP hlw hii hoo hti e1 e2 et ek ep hni hno ht0 hor hnt
        go_enter Tryz.func117, Tryz.ntmps117
        obtain ⟨m⟩ : Nonempty Nat := ⟨0⟩
        refine (wpIn_wide (n := m)).1 ?_
        gi_wp2_with fail
        refine ⟨wide_room _, (callsIn_wide.2 (HRT.out w hx)).mono ?_⟩
        rintro e w' ⟨rfl, hS⟩
        replace hx := hx.trans hS
        gi_wp2_with fail
        refine ⟨wide_room _, (callsIn_wide.2 (HHT.out _ hx)).mono ?_⟩
        rintro e w' ⟨rfl, hS⟩
        replace hx := hx.trans hS
        gi_wp2_with fail
        refine ⟨wide_room _, (callsIn_wide.2 (HHL.out _ hx)).mono ?_⟩
        rintro e w' ⟨rfl, hS⟩
        replace hx := hx.trans hS
        clear hS
        gi_wp2_with fail
        refine ⟨wide_room _, (callsIn_wide.2 (HMB.out _ hx)).mono ?_⟩
        rintro e w5 ⟨bn, rfl, hbn, hT, h5⟩
        gi_wp2
        go_ret
        exact ⟨_, rfl, rhang_base bn AT.out AL.out hb rfl NT.out (Nat.le_trans hn (Nat.le_trans hx.size hbn)), hT, hx.trans h5⟩
      · have hbi : ¬ (b : Int) ≤ (q : Int) := by omega
        have hAt := hA
        rw [et] at hAt
        obtain ⟨d, ci, co, a0, a1, a2, a3⟩ := mk_black.1 hAt
        subst a0
        have AI := Lib.hid a1
        have AO := Lib.hid a2
        have hd : d < 100000 := by omega
        have HIH := Lib.hid (fun W (h : Ext w W) => IH W d co (Nat.le_trans hn h.size) (HOI.out W h) (HPI.out W h) (HLI.out W h) a2 (by omega) (by omega) NS.out.1 NS.out.2 (.inr NO.out))
        clear IH hA hAt a1 a2 a3 hlow ht hP hlw hii hoo hti e1 e2 et ek ep hni hno ht0 hor
        go_enter Tryz.func117, Tryz.ntmps117
        obtain ⟨m⟩ : Nonempty Nat := ⟨0⟩
        refine (wpIn_wide (n := m)).1 ?_
        gi_wp2_with fail
        refine ⟨wide_room _, (callsIn_wide.2 (HRT.out w hx)).mono ?_⟩
        rintro e w' ⟨rfl, hS⟩
        replace hx := hx.trans hS
        gi_wp2_with fail
        refine ⟨wide_room _, (callsIn_wide.2 (HHT.out _ hx)).mono ?_⟩
        rintro e w' ⟨rfl, hS⟩
        replace hx := hx.trans hS
        gi_wp2_with fail
        refine ⟨wide_room _, (callsIn_wide.2 (HHL.out _ hx)).mono ?_⟩
        rintro e w1 ⟨rfl, hS⟩
        replace hx := hx.trans hS
        clear hS
        gi_wp2_with fail
        refine ⟨wide_room _, (callsIn_wide.2 (HOUT.out w1 hx)).mono ?_⟩
        rintro e w2 ⟨rfl, hS⟩
        replace hx := hx.trans hS
        clear hS
        gi_wp2_with fail
        refine ⟨wide_room _, (callsIn_wide.2 (HIH.out w2 hx)).mono ?_⟩
        rintro e w3 ⟨x, rfl, hok, hX, hS⟩
        replace hx := hx.trans hS
        clear hS
        gi_wp2_with fail
        refine ⟨wide_room _, (callsIn_wide.2 (HRT.out w3 hx)).mono ?_⟩
        rintro e w4 ⟨rfl, hS⟩
        replace hx := hx.trans hS
        replace hX := hX.ext hS
        clear hS
        cases co with
        | false =>
          obtain ⟨cx, xx, -⟩ := hok.black rfl
          have HOK := Lib.hid hok
          have XX := Lib.hid xx
          have TX := Lib.hid (xx.tags (by omega))
          have RX := Lib.hid xx.red
          clear hok xx
          cases cx with
          | false =>
            gi_wp2_with fail
            refine ⟨wide_room _, (callsIn_wide.2 (rbRed_any _ x hX TX.out)).mono ?_⟩
            rw [RX.out]
            rintro e W6 ⟨rfl, hS⟩
            replace hx := hx.trans hS
            replace hX := hX.ext hS
            clear hS
            gi_wp2_with fail
            have hxd := Ext.drew W6
            refine wpIn_region_G (fun j => !(List.contains (α := Nat) [11] j)) (by kernel_rfl) ?_
            refine batchG hfn (fuel := 4) [0, 1, 2, 4, 5, 7, 8, 9, 10] (by kernel_rfl) rfl ?_
            repeat (go_big_quiet_step ((fail)))
            refine wpQuiet_nil ?_
            refine wpAnyG_one (j := 3) (by kernel_rfl) rfl ?_
            gi_wp2_with fail
            refine ⟨wide_room _, (callsIn_wide.2 (HIN.out _ (hx.trans hxd))).mono ?_⟩
            rintro e w7 ⟨rfl, h7⟩
            gi_wp2_with fail
            refine onePost_ext (h7) ?_
            have h67 := hxd.trans h7
            refine wpAnyG_one (j := 6) (by kernel_rfl) rfl ?_
            gi_wp2_with fail
            refine ⟨wide_room _, (callsIn_wide.2 (HRT.out _ (hx.trans h67))).mono ?_⟩
            rintro e w8 ⟨rfl, h8⟩
            gi_wp2_with fail
            refine onePost_ext (h8) ?_
            have h68 := h67.trans h8
            refine wpAnyG_one (j := 11) (by kernel_rfl) rfl ?_
            gi_wp2_with fail
            refine ⟨wide_room _, (callsIn_wide.2 (HM6.out _ x false (hx.trans h68) (hX.ext h68) TX.out)).mono ?_⟩
            rintro e w9 ⟨bn, rfl, hbn, hT, h9⟩
            gi_wp2_with fail
            refine onePost_any (by kernel_rfl) ?_
            refine batchG hfn (fuel := 0) [12] (by kernel_rfl) rfl ?_
            repeat (go_big_quiet_step ((fail)))
            refine wpQuiet_nil ?_
            refine wpAnyG_done (by kernel_rfl) ?_
            refine calmQ_normal ?_
            gi_wp2
            go_ret
            have hnb : n ≤ bn := Nat.le_trans hn (Nat.le_trans (hx.trans h68).size hbn)
            refine ⟨_, rfl, ?_, hT, (hx.trans h68).trans h9⟩
            rw [ET.out]
            exact rhang_black bn AI.out HOK.out hd ⟨_, XX.out⟩ NI.out hnb
          | true =>
            have ROX : Hid (rbRed (outOf s x) = false) := Lib.hid (by
              obtain ⟨bx, xi, xk, xv, xg, xo, ex⟩ := sides_ne s HOK.out.nn
              have h := XX.out
              rw [ex] at h
              rw [ex, outOf_mk]
              exact (mk_red.1 h).2.1.red)
            gi_wp2_with fail
            refine ⟨wide_room _, (callsIn_wide.2 (rbRed_any _ x hX TX.out)).mono ?_⟩
            rw [RX.out]
            rintro e w5 ⟨rfl, hS⟩
            replace hx := hx.trans hS
            replace hX := hX.ext hS
            clear hS
            gi_wp2_with fail
            refine ⟨wide_room _, (callsIn_wide.2 (rOut_any s _ x hX)).mono ?_⟩
            rintro e w5' ⟨rfl, hS⟩
            replace hx := hx.trans hS
            replace hX := hX.ext hS
            clear hS
            gi_wp2_with fail
            refine ⟨wide_room _, (callsIn_wide.2 (rbRed_any _ (outOf s x) (out_ok' hX) (out_tags TX.out))).mono ?_⟩
            rw [ROX.out]
            rintro e W6 ⟨rfl, hS⟩
            replace hx := hx.trans hS
            replace hX := hX.ext hS
            clear hS
            gi_wp2_with fail
            have hxd := Ext.drew W6
            refine wpIn_region_G (fun j => !(List.contains (α := Nat) [11] j)) (by kernel_rfl) ?_
            refine batchG hfn (fuel := 4) [0, 1, 2, 4, 5, 7, 8, 9, 10] (by kernel_rfl) rfl ?_
            repeat (go_big_quiet_step ((fail)))
            refine wpQuiet_nil ?_
            refine wpAnyG_one (j := 3) (by kernel_rfl) rfl ?_
            gi_wp2_with fail
            refine ⟨wide_room _, (callsIn_wide.2 (HIN.out _ (hx.trans hxd))).mono ?_⟩
            rintro e w7 ⟨rfl, h7⟩
            gi_wp2_with fail
            refine onePost_ext (h7) ?_
            have h67 := hxd.trans h7
            refine wpAnyG_one (j := 6) (by kernel_rfl) rfl ?_
            gi_wp2_with fail
            refine ⟨wide_room _, (callsIn_wide.2 (HRT.out _ (hx.trans h67))).mono ?_⟩
            rintro e w8 ⟨rfl, h8⟩
            gi_wp2_with fail
            refine onePost_ext (h8) ?_
            have h68 := h67.trans h8
            refine wpAnyG_one (j := 11) (by kernel_rfl) rfl ?_
            gi_wp2_with fail
            refine ⟨wide_room _, (callsIn_wide.2 (HM6.out _ x false (hx.trans h68) (hX.ext h68) TX.out)).mono ?_⟩
            rintro e w9 ⟨bn, rfl, hbn, hT, h9⟩
            gi_wp2_with fail
            refine onePost_any (by kernel_rfl) ?_
            refine batchG hfn (fuel := 0) [12] (by kernel_rfl) rfl ?_
            repeat (go_big_quiet_step ((fail)))
            refine wpQuiet_nil ?_
            refine wpAnyG_done (by kernel_rfl) ?_
            refine calmQ_normal ?_
            gi_wp2
            go_ret
            have hnb : n ≤ bn := Nat.le_trans hn (Nat.le_trans (hx.trans h68).size hbn)
            refine ⟨_, rfl, ?_, hT, (hx.trans h68).trans h9⟩
            rw [ET.out]
            exact rhang_black bn AI.out HOK.out hd ⟨_, XX.out⟩ NI.out hnb
        | true =>
          obtain ⟨bx, xi, xk, xv, xg, xo, cy, ex, hbx, hxi, hxo, hxg, hxn⟩ := hok.red rfl
          have HOK := Lib.hid hok
          have EX := Lib.hid ex
          have NT := near_tags (s := s) (bx := bx) (k := xk) (v := xv) hxi hxo hxg (by omega)
          rw [← ex] at NT
          have TX := Lib.hid NT.1
          have RX := Lib.hid NT.2
          have ROX := Lib.hid (show rbRed (outOf s x) = cy by rw [ex, outOf_mk]; exact hxo.red)
          have XS := Lib.hid (And.intro hxi (And.intro hxo (And.intro hxg hxn)))
          clear hok NT ex hxi hxo hxg hxn
          cases cy with
          | false =>
            gi_wp2_with fail
            refine ⟨wide_room _, (callsIn_wide.2 (rbRed_any _ x hX TX.out)).mono ?_⟩
            rw [RX.out]
            rintro e w5 ⟨rfl, hS⟩
            replace hx := hx.trans hS
            replace hX := hX.ext hS
            clear hS
            gi_wp2_with fail
            refine ⟨wide_room _, (callsIn_wide.2 (rOut_any s _ x hX)).mono ?_⟩
            rintro e w5' ⟨rfl, hS⟩
            replace hx := hx.trans hS
            replace hX := hX.ext hS
            clear hS
            gi_wp2_with fail
            refine ⟨wide_room _, (callsIn_wide.2 (rbRed_any _ (outOf s x) (out_ok' hX) (out_tags TX.out))).mono ?_⟩
            rw [ROX.out]
            rintro e W6 ⟨rfl, hS⟩
            replace hx := hx.trans hS
            replace hX := hX.ext hS
            clear hS
            gi_wp2_with fail
            have hxd := Ext.drew W6
            refine wpIn_region_G (fun j => !(List.contains (α := Nat) [11] j)) (by kernel_rfl) ?_
            refine batchG hfn (fuel := 4) [0, 1, 2, 4, 5, 7, 8, 9, 10] (by kernel_rfl) rfl ?_
            repeat (go_big_quiet_step ((fail)))
            refine wpQuiet_nil ?_
            refine wpAnyG_one (j := 3) (by kernel_rfl) rfl ?_
            gi_wp2_with fail
            refine ⟨wide_room _, (callsIn_wide.2 (HIN.out _ (hx.trans hxd))).mono ?_⟩
            rintro e w7 ⟨rfl, h7⟩
            gi_wp2_with fail
            refine onePost_ext (h7) ?_
            have h67 := hxd.trans h7
            refine wpAnyG_one (j := 6) (by kernel_rfl) rfl ?_
            gi_wp2_with fail
            refine ⟨wide_room _, (callsIn_wide.2 (HRT.out _ (hx.trans h67))).mono ?_⟩
            rintro e w8 ⟨rfl, h8⟩
            gi_wp2_with fail
            refine onePost_ext (h8) ?_
            have h68 := h67.trans h8
            refine wpAnyG_one (j := 11) (by kernel_rfl) rfl ?_
            gi_wp2_with fail
            refine ⟨wide_room _, (callsIn_wide.2 (HM6.out _ x false (hx.trans h68) (hX.ext h68) TX.out)).mono ?_⟩
            rintro e w9 ⟨bn, rfl, hbn, hT, h9⟩
            gi_wp2_with fail
            refine onePost_any (by kernel_rfl) ?_
            refine batchG hfn (fuel := 0) [12] (by kernel_rfl) rfl ?_
            repeat (go_big_quiet_step ((fail)))
            refine wpQuiet_nil ?_
            refine wpAnyG_done (by kernel_rfl) ?_
            refine calmQ_normal ?_
            gi_wp2
            go_ret
            have hnb : n ≤ bn := Nat.le_trans hn (Nat.le_trans (hx.trans h68).size hbn)
            refine ⟨_, rfl, ?_, hT, (hx.trans h68).trans h9⟩
            rw [ET.out]
            exact rhang_black bn AI.out HOK.out hd ⟨true, by rw [EX.out]; exact mk_red.2 ⟨XS.out.1, XS.out.2.1, XS.out.2.2.1⟩⟩ NI.out hnb
          | true =>
            gi_wp2_with fail
            refine ⟨wide_room _, (callsIn_wide.2 (rbRed_any _ x hX TX.out)).mono ?_⟩
            rw [RX.out]
            rintro e w5 ⟨rfl, hS⟩
            replace hx := hx.trans hS
            replace hX := hX.ext hS
            clear hS
            gi_wp2_with fail
            refine ⟨wide_room _, (callsIn_wide.2 (rOut_any s _ x hX)).mono ?_⟩
            rintro e w5' ⟨rfl, hS⟩
            replace hx := hx.trans hS
            replace hX := hX.ext hS
            clear hS
            gi_wp2_with fail
            refine ⟨wide_room _, (callsIn_wide.2 (rbRed_any _ (outOf s x) (out_ok' hX) (out_tags TX.out))).mono ?_⟩
            rw [ROX.out]
            rintro e W6 ⟨rfl, hS⟩
            replace hx := hx.trans hS
            replace hX := hX.ext hS
            clear hS
            have TI := Lib.hid (AI.out.tags (by omega))
            gi_wp2_with fail
            have hxd := Ext.drew W6
            refine wpIn_region_G (fun j => !(List.contains (α := Nat) [21] j)) (by kernel_rfl) ?_
            refine batchG hfn (fuel := 7) [0, 1, 2, 3, 5, 6, 7, 9, 10, 11, 13, 14, 15, 18, 19, 20] (by kernel_rfl) rfl ?_
            repeat (go_big_quiet_step ((fail)))
            refine wpQuiet_nil ?_
            refine wpAnyG_one (j := 4) (by kernel_rfl) rfl ?_
            gi_wp2_with fail
            refine ⟨wide_room _, (callsIn_wide.2 (HIN.out _ (hx.trans hxd))).mono ?_⟩
            rintro e w7 ⟨rfl, h7⟩
            gi_wp2_with fail
            refine onePost_ext (h7) ?_
            have h67 := hxd.trans h7
            refine wpAnyG_one (j := 8) (by kernel_rfl) rfl ?_
            gi_wp2_with fail
            refine ⟨wide_room _, (callsIn_wide.2 (rIn_any s _ x (hX.ext h67))).mono ?_⟩
            rintro e w8 ⟨rfl, h8⟩
            gi_wp2_with fail
            refine onePost_ext (h8) ?_
            have h68 := h67.trans h8
            refine wpAnyG_one (j := 12) (by kernel_rfl) rfl ?_
            gi_wp2_with fail
            refine ⟨wide_room _, (callsIn_wide.2 (HM6.out _ (inOf s x) false (hx.trans h68) (in_ok' (hX.ext h68)) (in_tags TX.out))).mono ?_⟩
            rintro e w9 ⟨b3, rfl, hb3, hT3, h9⟩
            obtain ⟨T3, e3⟩ : ∃ T3, T3 = mkN s b3 i k v (sTag s i false (inOf s x)) (inOf s x) := ⟨_, rfl⟩
            rw [← e3] at hT3 ⊢
            have E3 := Lib.hid e3
            clear e3
            gi_wp2_with fail
            refine onePost_ext (h9) ?_
            have h69 := h68.trans h9
            refine wpAnyG_one (j := 16) (by kernel_rfl) rfl ?_
            gi_wp2_with fail
            refine ⟨wide_room _, (callsIn_wide.2 (rOut_any s _ x (hX.ext h69))).mono ?_⟩
            rintro e w10 ⟨rfl, h10⟩
            gi_wp2_with fail
            refine onePost_ext (h10) ?_
            have h610 := h69.trans h10
            refine wpAnyG_one (j := 17) (by kernel_rfl) rfl ?_
            gi_wp2_with fail
            refine ⟨wide_room _, (callsIn_wide.2 (rbBlacken_any _ (outOf s x) (out_ok' (hX.ext h610)) (out_tags TX.out))).mono ?_⟩
            rintro e w11 ⟨u, rfl, hu, h11, hor⟩
            have HB5 : Hid (∃ b4, w10.heap.size ≤ b4 ∧ u = .node b4 (outOf s x).left (outOf s x).key (outOf s x).val (IntKind.u64.wrap ((outOf s x).tag + 1)) (outOf s x).right) := Lib.hid (by
              rcases hor with ⟨h, -⟩ | ⟨-, h⟩
              · rw [ROX.out] at h; cases h
              · exact h)
            have TU := Lib.hid (black_tags (out_tags TX.out) hor).1
            clear hor
            gi_wp2_with fail
            refine onePost_ext (h11) ?_
            have h611 := h610.trans h11
            have T3T : Hid (TagsOk T3) := Lib.hid (by
              rw [E3.out]
              have hxi := XS.out.1
              rw [EX.out, inOf_mk]
              exact (show RbH (mkN s b3 i k v (sTag s i false xi) xi) (d + 1) false from mk_black.2 ⟨d, ci, false, rfl, AI.out, hxi, sTag_black AI.out hxi (by omega)⟩).tags (by omega))
            refine wpAnyG_one (j := 21) (by kernel_rfl) rfl ?_
            gi_wp2_with fail
            refine ⟨wide_room _, (callsIn_wide.2 (rMk_any s _ T3 x u true ((hT3.ext h10).ext h11) (hX.ext h611) hu T3T.out TU.out)).mono ?_⟩
            rintro e w12 ⟨b5, rfl, hb5, hT5, h12⟩
            gi_wp2_with fail
            refine onePost_any (by kernel_rfl) ?_
            refine batchG hfn (fuel := 0) [22] (by kernel_rfl) rfl ?_
            repeat (go_big_quiet_step ((fail)))
            refine wpQuiet_nil ?_
            refine wpAnyG_done (by kernel_rfl) ?_
            refine calmQ_normal ?_
            gi_wp2
            go_ret
            refine ⟨_, rfl, ?_, hT5, (hx.trans h611).trans h12⟩
            have s8 := (hx.trans h68).size
            have s10 := (hx.trans h610).size
            have s11 := (hx.trans h611).size
            obtain ⟨b4, hb4, eu⟩ := HB5.out
            have hok := HOK.out
            obtain ⟨hxi, hxo, hxg, hxn⟩ := XS.out
            have ex := EX.out
            rw [ET.out, E3.out, eu]
            rw [ex] at hok ⊢
            simp only [inOf_mk, outOf_mk, mk_key, mk_val]
            obtain ⟨by_, yi, yk, yv, yg, yo, ey⟩ := sides_ne s (show xo ≠ .nil from fun h => by rw [h] at hxo; exact absurd hxo.2 (by simp))
            subst ey
            rw [black_mk]
            have hyn := hxn (by trivial)
            rw [inOf_mk, outOf_mk] at hyn
            exact rhang_turn b3 b4 b5 AI.out hok hd hxi hxo hbx hyn NI.out (by omega) (by omega) (by omega)
/-- **hang**, at any part that is no lower, and a lower one. -/
theorem rhang_any (s : Bool) (n : Nat) (P low : Tr) (q : Nat) (hlow : RbH low q false) : ∀ t : Tr, RHangSpec s n P low q t := by
  intro t
  induction t with
  | nil => exact rhang_step s n P low q hlow .nil (fun h => (h rfl).elim)
  | node b l k v g r ihl ihr =>
    refine rhang_step s n P low q hlow _ (fun _ => ?_)
    cases s
    · exact ihl
    · exact ihr
end Go.Proofs.YtkkdobolloojjaaGreat
namespace Go.Proofs.YtkkdobolloojjaaGreat
open Go Go.RowKit

/-- what a tree is that is made black. -/
def BlackOf (n : Nat) (T u : Tr) : Prop := (rbRed T = false ∧ u = T) ∨ (rbRed T = true ∧ ∃ b, n ≤ b ∧ u = .node b T.left T.key T.val (IntKind.u64.wrap (T.tag + 1)) T.right)
theorem black_h {T u : Tr} {n b : Nat} {c : Bool} (h : RbH T b c) (hb : b < 1000000) (hu : BlackOf n T u) : RbH u (b + (if c then 1 else 0)) false := by
  rcases hu with ⟨h1, rfl⟩ | ⟨h1, b', -, rfl⟩
  · rw [h.red] at h1; subst h1; exact h
  · rw [h.red] at h1; subst h1
    cases T with
    | nil => exact absurd h.2 (by simp)
    | node b0 l k v g r =>
      obtain ⟨a1, a2, a3⟩ := h
      exact ⟨b, false, false, rfl, a1, a2, by simp only [Tr.tag_node]; rw [u64_mod, a3]; simp; omega⟩
theorem black_kvs {T u : Tr} {n : Nat} (hu : BlackOf n T u) : u.kvs = T.kvs := by
  rcases hu with ⟨-, rfl⟩ | ⟨h1, b', -, rfl⟩
  · rfl
  · cases T with
    | nil => rw [show rbRed .nil = false by decide +kernel] at h1; cases h1
    | node b0 l k v g r => rfl
theorem black_old {T u : Tr} {n : Nat} (hu : BlackOf n T u) : ∀ x ∈ u.pre, x.blk < n → x ∈ T.pre := by
  rcases hu with ⟨-, rfl⟩ | ⟨h1, b', hb, rfl⟩
  · exact fun x hx _ => hx
  · cases T with
    | nil => rw [show rbRed .nil = false by decide +kernel] at h1; cases h1
    | node b0 l k v g r =>
      intro x hx hn
      simp only [Tr.pre, List.mem_cons, List.mem_append, Tr.left_node, Tr.right_node] at hx ⊢
      rcases hx with rfl | hx | hx
      · exact absurd hn (by show ¬ b' < n; omega)
      · exact .inr (.inl hx)
      · exact .inr (.inr hx)
/-- how many nodes are new of one that is made black: of an old one; of a new one. -/
theorem black_news {T u : Tr} {n : Nat} (h0 : T.news n = 0) (hu : BlackOf n T u) : u.news n ≤ 1 ∧ u.left.news n = 0 ∧ u.right.news n = 0 := by
  have hs : T.left.news n = 0 ∧ T.right.news n = 0 := by
    cases T with
    | nil => exact ⟨rfl, rfl⟩
    | node b l k v g r => rw [Tr.news] at h0; simp only [Tr.left_node, Tr.right_node]; omega
  rcases hu with ⟨-, rfl⟩ | ⟨-, b', hb, rfl⟩
  · exact ⟨by omega, hs.1, hs.2⟩
  · rw [Tr.news, hs.1, hs.2, if_pos hb]
    exact ⟨by omega, hs.1, hs.2⟩
theorem black_same {T u : Tr} {n : Nat} (ht : n ≤ T.blk) (hnn : T ≠ .nil) (hu : BlackOf n T u) : u.news n = T.news n ∧ n ≤ u.blk ∧ u ≠ .nil := by
  rcases hu with ⟨-, rfl⟩ | ⟨-, b', hb, rfl⟩
  · exact ⟨rfl, ht, hnn⟩
  · cases T with
    | nil => exact (hnn rfl).elim
    | node b l k v g r => exact ⟨by rw [Tr.news, Tr.news, if_pos hb, if_pos (show n ≤ b from ht)]; rfl, hb, by simp⟩
/-- what a join of two parts is: p, q the black heights of both, made black. -/
structure RJoinOk (n : Nat) (l r : Tr) (p q : Nat) (k v : Int) (T : Tr) : Prop where
  ex : ∃ b, RbH T b false ∧ (b = max p q ∨ b = max p q + 1) ∧ T.news n + 2 * min p q ≤ 2 * max p q + 3
  kvs : T.kvs = l.kvs ++ (k, v) :: r.kvs
  old : ∀ x ∈ T.pre, x.blk < n → x ∈ l.pre ∨ x ∈ r.pre
  top : n ≤ T.blk
  nn : T ≠ .nil
theorem rjoin_hang {n : Nat} {s : Bool} {t t0 low low0 X T : Tr} {b q : Nat} {k v : Int} (hx : RHang n s t low b false q k v X) (hb : b < 100000) (_hqb : q < b) (hu : BlackOf n X T) (ht : BlackOf n t0 t) (hl : BlackOf n low0 low) (nl : low.news n ≤ 1) :
    (∃ c, RbH T c false ∧ (c = b ∨ c = b + 1) ∧ T.news n + 2 * q ≤ 2 * b + 2) ∧ T.kvs = both s t0.kvs [(k, v)] low0.kvs ∧ (∀ x ∈ T.pre, x.blk < n → x ∈ t0.pre ∨ x ∈ low0.pre) ∧ n ≤ T.blk ∧ T ≠ .nil := by
  obtain ⟨cx, h1, -⟩ := hx.black rfl
  obtain ⟨s1, s2, s3⟩ := black_same hx.top hx.nn hu
  have hn := hx.news
  refine ⟨⟨_, black_h h1 (by omega) hu, by cases cx <;> simp, by rw [s1]; simp at hn; omega⟩, by rw [black_kvs hu, hx.kvs, black_kvs ht, black_kvs hl], fun x hxx hlt => ?_, s2, s3⟩
  rcases hx.old x (black_old hu x hxx hlt) hlt with h | h
  · exact .inl (black_old ht x h hlt)
  · exact .inr (black_old hl x h hlt)
/-- what a join hands back. -/
def RJoins (n : Nat) (l r : Tr) (p q : Nat) (k v : Int) (w : World) (e : Ending) (w' : World) : Prop :=
  ∃ T : Tr, e = .returned (.pointer T.ptr) ∧ RJoinOk n l r p q k v T ∧ InH w' T ∧ Ext w w'
theorem blackOf_mono {n m : Nat} {T u : Tr} (h : BlackOf m T u) (hnm : n ≤ m) : BlackOf n T u := by
  rcases h with h | ⟨h1, b, h2, h3⟩
  · exact .inl h
  · exact .inr ⟨h1, b, Nat.le_trans hnm h2, h3⟩
set_option maxHeartbeats 2000000 in
theorem rbJoin_any (n : Nat) (w : World) (l r : Tr) (k v : Int) (p q : Nat) (cl cr : Bool) (hn : n ≤ w.heap.size) (hl : InH w l) (hr : InH w r) (al : RbH l p cl) (ar : RbH r q cr) (hp : p < 90000) (hq : q < 90000) (nl : l.news n = 0) (nr : r.news n = 0) :
    Calls Tryz.prog 94 #[.pointer l.ptr, .int .i64 k, .int .i64 v, .pointer r.ptr] w (RJoins n l r (p + if cl then 1 else 0) (q + if cr then 1 else 0) k v w) := by
  have TL := Lib.hid (al.tags (by omega))
  have TR := Lib.hid (ar.tags (by omega))
  have AL := Lib.hid al
  have AR := Lib.hid ar
  have NL := Lib.hid nl
  have NR := Lib.hid nr
  have hx := Ext.refl w
  clear al ar nl nr
  obtain ⟨p', ep⟩ : ∃ p', p' = p + if cl then 1 else 0 := ⟨_, rfl⟩
  obtain ⟨q', eq⟩ : ∃ q', q' = q + if cr then 1 else 0 := ⟨_, rfl⟩
  rw [← ep, ← eq]
  have hp' : p' < 90001 := by rw [ep]; split <;> omega
  have hq' : q' < 90001 := by rw [eq]; split <;> omega
  have EP := Lib.hid ep
  have EQ := Lib.hid eq
  clear ep eq
  go_enter Tryz.func94, Tryz.ntmps94
  go_wp2_with fail
  refine (rbBlacken_any w l hl TL.out).mono ?_
  rintro e w1 ⟨L, rfl, hL, h1, hor⟩
  have BL : Hid (BlackOf n l L) := Lib.hid (blackOf_mono hor hn)
  clear hor
  replace hx := hx.trans h1
  go_wp2_with fail
  refine (rbBlacken_any w1 r (hr.ext h1) TR.out).mono ?_
  rintro e w2 ⟨R, rfl, hR, h2, hor⟩
  have BR : Hid (BlackOf n r R) := Lib.hid (blackOf_mono hor (Nat.le_trans hn hx.size))
  clear hor hl hr
  replace hx := hx.trans h2
  replace hL := hL.ext h2
  clear h1 h2
  have HL : Hid (RbH L p' false) := Lib.hid (by rw [EP.out]; exact black_h AL.out (by omega) BL.out)
  have HR : Hid (RbH R q' false) := Lib.hid (by rw [EQ.out]; exact black_h AR.out (by omega) BR.out)
  have TL := Lib.hid (HL.out.tags (by omega))
  have TR := Lib.hid (HR.out.tags (by omega))
  have NL := Lib.hid (black_news NL.out BL.out)
  have NR := Lib.hid (black_news NR.out BR.out)
  go_wp2_with fail
  refine (rbMake_any _ .nil .nil k v false trivial trivial trivial).mono ?_
  rintro e w3 ⟨bp, rfl, _, hP, hS⟩
  replace hx := hx.trans hS
  replace hL := hL.ext hS
  replace hR := hR.ext hS
  clear hS
  obtain ⟨P, eP⟩ : ∃ P, P = Tr.node bp .nil k v (rbTag .nil false) .nil := ⟨_, rfl⟩
  rw [← eP] at hP ⊢
  have HPK := Lib.hid (show P.key = k ∧ P.val = v by rw [eP]; exact ⟨rfl, rfl⟩)
  clear eP
  go_wp2_with fail
  refine (rbHigh_any _ L hL TL.out).mono ?_
  rw [HL.out.hi]
  rintro e w4 ⟨rfl, hS⟩
  replace hx := hx.trans hS
  replace hL := hL.ext hS
  replace hR := hR.ext hS
  replace hP := hP.ext hS
  clear hS
  go_wp2_with fail
  refine (rbHigh_any _ R hR TR.out).mono ?_
  rw [HR.out.hi]
  rintro e w5 ⟨rfl, hS⟩
  replace hx := hx.trans hS
  replace hL := hL.ext hS
  replace hR := hR.ext hS
  replace hP := hP.ext hS
  clear hS
  by_cases c1 : q' < p'
  · have c1' : (q' : Int) < (p' : Int) := by omega
    go_wp2_with fail
    refine (rhang_any true n P R q' HR.out L w5 p' false (Nat.le_trans hn hx.size) hL hP hR HL.out (by omega) (by omega) NL.out.2.1 NL.out.2.2 (.inl c1)).mono ?_
    rw [HPK.out.1, HPK.out.2]
    rintro e w6 ⟨X, rfl, hok, hX, hS⟩
    replace hx := hx.trans hS
    have HOK := Lib.hid hok
    have TX : Hid (TagsOk X) := Lib.hid (by obtain ⟨cx, h1, -⟩ := hok.black rfl; exact h1.tags (by omega))
    clear hok hS
    go_wp2_with fail
    refine (rbBlacken_any _ X hX TX.out).mono ?_
    rintro e w7 ⟨T, rfl, hT, hS, hor⟩
    have BT' : Hid (BlackOf n X T) := Lib.hid (blackOf_mono hor (Nat.le_trans hn hx.size))
    clear hor
    go_wp2
    go_ret
    obtain ⟨⟨c, r1, r2, r3⟩, r4, r5, r6, r7⟩ := rjoin_hang HOK.out (by omega) c1 BT'.out BL.out BR.out NR.out.1
    exact ⟨T, rfl, ⟨⟨c, r1, by omega, by omega⟩, by rw [r4]; simp [both], r5, r6, r7⟩, hT, hx.trans hS⟩
  · have c1' : ¬ (q' : Int) < (p' : Int) := by omega
    by_cases c2 : p' < q'
    · have c2' : (p' : Int) < (q' : Int) := by omega
      go_wp2_with fail
      refine (rhang_any false n P L p' HL.out R w5 q' false (Nat.le_trans hn hx.size) hR hP hL HR.out (by omega) (by omega) NR.out.2.2 NR.out.2.1 (.inl c2)).mono ?_
      rw [HPK.out.1, HPK.out.2]
      rintro e w6 ⟨X, rfl, hok, hX, hS⟩
      replace hx := hx.trans hS
      have HOK := Lib.hid hok
      have TX : Hid (TagsOk X) := Lib.hid (by obtain ⟨cx, h1, -⟩ := hok.black rfl; exact h1.tags (by omega))
      clear hok hS
      go_wp2_with fail
      refine (rbBlacken_any _ X hX TX.out).mono ?_
      rintro e w7 ⟨T, rfl, hT, hS, hor⟩
      have BT' : Hid (BlackOf n X T) := Lib.hid (blackOf_mono hor (Nat.le_trans hn hx.size))
      clear hor
      go_wp2
      go_ret
      obtain ⟨⟨c, r1, r2, r3⟩, r4, r5, r6, r7⟩ := rjoin_hang HOK.out (by omega) c2 BT'.out BR.out BL.out NL.out.1
      exact ⟨T, rfl, ⟨⟨c, r1, by omega, by omega⟩, by rw [r4]; simp [both], fun x hx hlt => (r5 x hx hlt).symm, r6, r7⟩, hT, hx.trans hS⟩
    · have c2' : ¬ (p' : Int) < (q' : Int) := by omega
      obtain rfl : p' = q' := by omega
      go_wp2_with fail
      refine (rbMake_any _ L R k v false hL hR TL.out).mono ?_
      rintro e w6 ⟨b6, rfl, hb6, hT, hS⟩
      go_wp2
      go_ret
      refine ⟨_, rfl, ⟨⟨p' + 1, ?_, by omega, ?_⟩, ?_, ?_, ?_, by simp⟩, hT, hx.trans hS⟩
      · exact (mk_black (s := true)).2 ⟨p', false, false, rfl, HL.out, HR.out, by have := hi_tag HL.out (by omega) false; simp at this; rw [this]; omega⟩
      · rw [Tr.news, if_pos (Nat.le_trans hn (Nat.le_trans hx.size hb6))]
        have := NL.out.1
        have := NR.out.1
        omega
      · rw [Tr.kvs, black_kvs BL.out, black_kvs BR.out]
      · intro x hxx hlt
        simp only [Tr.pre, List.mem_cons, List.mem_append] at hxx
        rcases hxx with rfl | h | h
        · exact absurd hlt (by show ¬ b6 < n; have := hx.size; omega)
        · exact .inl (black_old BL.out x h hlt)
        · exact .inr (black_old BR.out x h hlt)
      · show n ≤ b6
        have := hx.size; omega
end Go.Proofs.YtkkdobolloojjaaGreat
namespace Go.Proofs.YtkkdobolloojjaaGreat
open Go Go.RowKit

theorem RbH.hiB {T : Tr} {b : Nat} {c : Bool} (h : RbH T b c) (hb : b < 1000000) : Proofs.YtkkdobolloojjaaGreat.hiB T = ((b + if c then 1 else 0 : Nat) : Int) := by
  unfold Proofs.YtkkdobolloojjaaGreat.hiB
  rw [h.red, h.hi]
  cases c
  · simp
  · simp only [if_true]
    rw [h.tag, u64_mod]; simp; omega
theorem rank_h {T : Tr} {b : Nat} {c : Bool} (h : RbH T b c) (hb : b < 1000000) : wrap64 (2 * Proofs.YtkkdobolloojjaaGreat.hiB T) = ((2 * (b + if c then 1 else 0) : Nat) : Int) := by
  rw [h.hiB hb]
  cases c <;> simp <;> unfold wrap64 <;> omega
theorem rbRankH_any (w : World) (T : Tr) (b : Nat) (c : Bool) (hT : InH w T) (h : RbH T b c) (hb : b < 1000000) : Calls Tryz.prog 97 #[.pointer T.ptr] w (Ret (.int .i64 ((2 * (b + if c then 1 else 0) : Nat) : Int)) w) := by
  rw [← rank_h h hb]
  exact rbRank_any w T hT (h.tags hb)
set_option maxHeartbeats 400000 in
theorem rbMost_any (w : World) (l r : Tr) (p q : Nat) (cl cr : Bool) (hl : InH w l) (hr : InH w r) (al : RbH l p cl) (ar : RbH r q cr) (hp : p < 90000) (hq : q < 90000) (p' q' : Nat) (ep : p' = p + if cl then 1 else 0) (eq : q' = q + if cr then 1 else 0) :
    Calls Tryz.prog 98 #[.pointer l.ptr, .pointer r.ptr] w (Ret (.int .i64 (2 * (max p' q' : Nat) - 2 * (min p' q' : Nat) + 3)) w) := by
  have H1 := Lib.hid (rbRankH_any w l p cl hl al (by omega))
  have H2 := Lib.hid (fun W h => rbRankH_any W r q cr h ar (by omega))
  rw [← ep] at H1
  rw [← eq] at H2
  have b1 : p' < 100000 := by rw [ep]; split <;> omega
  have b2 : q' < 100000 := by rw [eq]; split <;> omega
  have hx := Ext.refl w
  obtain ⟨M, hM⟩ : ∃ M : Int, M = (2 * (max p' q' : Nat) - 2 * (min p' q' : Nat) + 3 : Int) := ⟨_, rfl⟩
  rw [← hM]
  have HM := Lib.hid hM
  clear hM ep eq al ar
  go_enter Tryz.func98, Tryz.ntmps98
  go_wp2_with fail
  refine (H1.out).mono ?_
  rintro e w1 ⟨rfl, hS⟩
  replace hx := hx.trans hS
  replace hr := hr.ext hS
  clear hS
  go_wp2_with fail
  refine (H2.out _ hr).mono ?_
  rintro e w2 ⟨rfl, hS⟩
  replace hx := hx.trans hS
  clear hS
  rcases Nat.lt_or_ge p' q' with h | h
  all_goals
    go_wp2
    all_goals
      go_ret
      exact ⟨ret_int (by rw [HM.out]; omega), hx⟩
theorem fits_rbPart : ∀ {t : BT} {A B : Tr}, t.fits A → t.fits B → rbPart A = rbPart B ∧ hi A = hi B ∧ col A = col B
  | .nil, .nil, .nil, _, _ => ⟨rfl, rfl, rfl⟩
  | .nil, .node .., _, h, _ => h.elim
  | .nil, .nil, .node .., _, h => h.elim
  | .node .., .nil, _, h, _ => h.elim
  | .node .., .node .., .nil, _, h => h.elim
  | .node k v s n g l r, .node _ L _ _ _ R, .node _ L' _ _ _ R', h, h' => by
    obtain ⟨l1, l2, l3⟩ := fits_rbPart h.2.2.2.1 h'.2.2.2.1
    obtain ⟨r1, r2, r3⟩ := fits_rbPart h.2.2.2.2 h'.2.2.2.2
    have eh := h.2.2.1.symm.trans h'.2.2.1
    subst eh
    have e1 : rbTag L false = rbTag L' false := by unfold rbTag; rw [l2]
    refine ⟨?_, rfl, rfl⟩
    rw [rbPart_node, rbPart_node, l1, r1]
    simp only [rbOne, rbBadTag, rbBadTree, Tr.tag_node, Tr.left_node, Tr.right_node, l2, l3, r2, r3, e1]
    rfl
/-- a row of beads of a part, and not too long. -/
def GoodP (zs : List BeadL) (t : BT) : Prop := t.enc = zs ∧ zs.length ≤ 400 ∧ rbPart t.tr = true
/-- what is known of a tree that is made of such a row. -/
theorem goodP_tree {zs : List BeadL} {t : BT} {A : Tr} (hg : GoodP zs t) (hf : t.fits A) (hz : ∀ z ∈ zs, z.wf) : (∃ b c, RbH A b c ∧ b ≤ 400) ∧ A.count ≤ 400 ∧ TagsOk A := by
  obtain ⟨rfl, h1, h2⟩ := hg
  have hc : A.count ≤ 400 := by unfold Tr.count; rw [BT.fits_len hf]; exact h1
  have ho := fits_tagsOk t A hf hz
  have hp : rbPart A = true := by rw [(fits_rbPart hf t.tr_fits).1]; exact h2
  obtain ⟨f1, f2, f3, f4⟩ := part_facts A hp ho (by omega)
  have hlt : (hi A).toNat < 2 ^ (hi A).toNat := Nat.lt_two_pow_self
  exact ⟨⟨_, _, RbH.of_part hp ho (by omega), by omega⟩, hc, ho⟩
theorem rjoin_count {n : Nat} {l r T : Tr} {p q : Nat} {k v : Int} (h : RJoinOk n l r p q k v T) : T.count = l.count + 1 + r.count := by
  rw [← Tr.kvs_count, h.kvs, ← Tr.kvs_count, ← Tr.kvs_count]; simp; omega
end Go.Proofs.YtkkdobolloojjaaGreat
