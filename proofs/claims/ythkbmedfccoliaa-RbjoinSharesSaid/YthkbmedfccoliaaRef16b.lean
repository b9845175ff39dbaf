/- joineryref16: parts, Part, Check, May, Make, Blacken, Rank; rb.Rank. -/
import Derived.Test.YthkbmedfccoliaaRef16
namespace Go.Proofs.Ythkbmedfccoliaa
open Go Go.RowKit

set_option maxHeartbeats 1000000 in
theorem parts16_any (t : BT) : ∀ (T : Tr) (w : World) (p : Value), t.fits T → TagsOk T → Beads w p t.enc → t.enc.length ≤ 2000 →
    Calls Try.prog 49 #[p] w (Ret (.tuple #[.int .i64 (firstOf rbOne T.pre).1, .int .i64 (firstOf rbOne T.pre).2]) w) := by
  induction t with
  | nil =>
    intro T w p hf _ hb hl
    obtain ⟨a, c, rfl⟩ := beads_slice hb
    have e : T = .nil := by cases T with | nil => rfl | node => exact hf.elim
    subst e
    rw [show BT.nil.enc.length = 0 from rfl, show firstOf rbOne Tr.nil.pre = (0, 0) from rfl]
    clear hb hl hf
    go_enter Try.func49, Try.ntmps49
    go_wp2
    go_ret2
    exact ⟨rfl, Ext.refl _⟩
  | node k v s n g l r ihl ihr =>
    intro T w p hf ho hb hl
    have HO := Lib.hid (fun W (h : Beads W p _) => one16_any W p k v s n g l r T hf ho h hl)
    have HP := Lib.hid (fun W (h : Beads W p _) => parts_any W p k v s n g l r h hl)
    cases T with
    | nil => exact hf.elim
    | node tb tl tk tv tg tr =>
    obtain ⟨-, -, hg, hfl, hfr⟩ := hf
    subst hg
    have hlen : (BT.node k v s n g l r).enc.length = 1 + l.enc.length + r.enc.length := by simp [BT.enc]; omega
    have hll : l.enc.length ≤ 2000 := by omega
    have hlr : r.enc.length ≤ 2000 := by omega
    have hcl : (firstOf rbOne tl.pre).1 ≤ l.enc.length := by rw [← BT.fits_len hfl]; exact firstOf_le _
    have hcr : (firstOf rbOne tr.pre).1 ≤ r.enc.length := by rw [← BT.fits_len hfr]; exact firstOf_le _
    have hA : firstOf rbOne (Tr.node tb tl tk tv g tr).pre = if rbOne (Tr.node tb tl tk tv g tr) = 0 then (if (firstOf rbOne tl.pre).2 = 0 then (tl.pre.length + (firstOf rbOne tr.pre).1 + 1, (firstOf rbOne tr.pre).2) else ((firstOf rbOne tl.pre).1 + 1, (firstOf rbOne tl.pre).2)) else (0, rbOne (Tr.node tb tl tk tv g tr)) := by
      rw [Tr.pre, firstOf_cons, firstOf_append]
      split
      · split <;> rfl
      · rfl
    have hnone : (firstOf rbOne tl.pre).2 = 0 → (firstOf rbOne tl.pre).1 = tl.pre.length := fun h => (firstOf_none h).1
    have HB := Lib.hid hb
    obtain ⟨a, c, rfl⟩ := beads_slice hb
    have IHl := Lib.hid (fun W v (hv : Beads W v l.enc) => ihl tl W v hfl ho.2.2.1 hv hll)
    have IHr := Lib.hid (fun W v (hv : Beads W v r.enc) => ihr tr W v hfr ho.2.2.2 hv hlr)
    have h1 : 1 ≤ (BT.node k v s n g l r).enc.length := by omega
    obtain ⟨A, eA⟩ : ∃ A, A = firstOf rbOne (Tr.node tb tl tk tv g tr).pre := ⟨_, rfl⟩
    rw [← eA] at hA ⊢
    generalize rbOne (Tr.node tb tl tk tv g tr) = ONE at *
    generalize firstOf rbOne tl.pre = L at *
    generalize firstOf rbOne tr.pre = R at *
    obtain ⟨Ln, Le⟩ := L
    obtain ⟨Rn, Re⟩ := R
    simp only at hnone hcl hcr hA
    have hLn : Ln ≤ 2000 := by omega
    have hRn : Rn ≤ 2000 := by omega
    have HA := Lib.hid hA
    have HNONE := Lib.hid hnone
    have hx := Ext.refl w
    clear hA hnone eA ihl ihr hb hl hcl hcr hlen hfl hfr ho
    generalize (BT.node k v s n g l r).enc.length = LL at *
    by_cases h0 : ONE = 0
    · subst h0
      go_enter Try.func49, Try.ntmps49
      go_wp2_with fail
      refine (HO.out w HB.out).mono ?_
      rintro e w1 ⟨rfl, hS⟩
      replace hx := hx.trans hS
      clear hS
      go_wp2_with fail
      refine (HP.out w1 (HB.out.ext hx)).mono ?_
      rintro e w2 ⟨v1, v2, rfl, hv1, hv2, hS⟩
      replace hx := hx.trans hS
      clear hS
      have hE2 := (Ext.refl w2).alloc (.cells #[.int .i64 k, .int .i64 v, .int .i64 s, .int .i64 n, .int .u64 g, .bool (!l.isNil), .bool (!r.isNil)] 50)
      have HV1 := Lib.hid (hv1.ext hE2)
      have HV2 := Lib.hid (hv2.ext hE2)
      replace hx := hx.trans hE2
      clear hv1 hv2 hE2
      go_wp2_with fail
      refine (IHl.out _ v1 HV1.out).mono ?_
      rintro e w3 ⟨rfl, h3⟩
      by_cases c3 : Le = 0
      · subst c3
        go_wp2_with fail
        refine (IHr.out w3 v2 (HV2.out.ext h3)).mono ?_
        rintro e w4 ⟨rfl, h4⟩
        have hEE := hx.trans (h3.trans h4)
        clear hx h3 h4
        go_wp2
        go_ret2
        exact ⟨ret_two (by rw [HA.out]; have h9 := HNONE.out trivial; simp; omega) (by rw [HA.out]; rfl), hEE⟩
      · have c3' := bne_iff_ne.2 c3
        have hEE := hx.trans h3
        clear hx h3
        go_wp2
        go_ret2
        exact ⟨ret_two (by rw [HA.out]; simp [c3]; omega) (by rw [HA.out]; simp [c3]), hEE⟩
    · have h0' := bne_iff_ne.2 h0
      have H0 := Lib.hid h0
      clear h0
      go_enter Try.func49, Try.ntmps49
      go_wp2_with fail
      refine (HO.out w HB.out).mono ?_
      rintro e w1 ⟨rfl, hS⟩
      replace hx := hx.trans hS
      clear hS
      go_wp2
      go_ret2
      exact ⟨ret_two (by rw [HA.out, if_neg H0.out]; rfl) (by rw [HA.out, if_neg H0.out]), hx⟩
set_option maxHeartbeats 400000 in
theorem part16_any (t : BT) (T : Tr) (w : World) (p : Value) (hf : t.fits T) (ho : TagsOk T) (hb : Beads w p t.enc) (hl : t.enc.length ≤ 2000) :
    Calls Try.prog 24 #[p] w (Ret (.bool (rbPart T)) w) := by
  have H := Lib.hid (parts16_any t T w p hf ho hb hl)
  clear hb hf hl ho
  go_enter Try.func24, Try.ntmps24
  go_wp2_with fail
  refine (H.out).mono ?_
  rintro e w1 ⟨rfl, hS⟩
  go_wp2
  go_ret
  exact ⟨ret_bool rfl, hS⟩
set_option maxHeartbeats 1000000 in
theorem check16_any (t : BT) (T : Tr) (w : World) (p : Value) (hf : t.fits T) (ho : TagsOk T) (hb : Beads w p t.enc) (hl : t.enc.length ≤ 2000) :
    Calls Try.prog 55 #[p] w (Ret (.tuple #[.int .i64 (rbChk T).1, .int .i64 (rbChk T).2]) w) := by
  have H := Lib.hid (parts16_any t T w p hf ho hb hl)
  have HR := Lib.hid (fun W (h : Ext w W) => red16_any W p t T hf ho (hb.ext h))
  have HC := Lib.hid (show rbChk T = if (firstOf rbOne T.pre).2 = 0 ∧ rbRed T = true then (0, 8) else firstOf rbOne T.pre from rfl)
  have hx := Ext.refl w
  clear hb hf hl ho
  obtain ⟨C, eC⟩ : ∃ C, C = rbChk T := ⟨_, rfl⟩
  rw [← eC] at HC ⊢
  clear eC
  generalize firstOf rbOne T.pre = F at *
  obtain ⟨fn, fe⟩ := F
  simp only at H HC
  by_cases c0 : fe = 0
  · subst c0
    cases hr : rbRed T
    all_goals
      rw [hr] at HR HC
      clear hr
      go_enter Try.func55, Try.ntmps55
      go_wp2_with fail
      refine (H.out).mono ?_
      rintro e w1 ⟨rfl, hS⟩
      replace hx := hx.trans hS
      clear hS
      go_wp2_with fail
      refine (HR.out _ hx).mono ?_
      rintro e w2 ⟨rfl, hS⟩
      replace hx := hx.trans hS
      clear hS
      go_wp2
      go_ret2
      exact ⟨ret_two (by rw [HC.out]; simp) (by rw [HC.out]; simp), hx⟩
  · have HC0 := Lib.hid c0
    have c1 := beq_eq_false_iff_ne.2 c0
    clear c0
    go_enter Try.func55, Try.ntmps55
    go_wp2_with fail
    refine (H.out).mono ?_
    rintro e w1 ⟨rfl, hS⟩
    replace hx := hx.trans hS
    clear hS
    go_wp2
    go_ret2
    exact ⟨ret_two (by rw [HC.out, if_neg (fun h => HC0.out h.1)]) (by rw [HC.out, if_neg (fun h => HC0.out h.1)]), hx⟩
theorem rbChk_may (T : Tr) : ((rbChk T).2 == 0) = rbMay T := by
  unfold rbChk rbMay rbPart mayOf
  by_cases h1 : (firstOf rbOne T.pre).2 = 0
  · cases h2 : rbRed T <;> simp [h1]
  · simp [h1]
set_option maxHeartbeats 400000 in
theorem may16_any (t : BT) (T : Tr) (w : World) (p : Value) (hf : t.fits T) (ho : TagsOk T) (hb : Beads w p t.enc) (hl : t.enc.length ≤ 2000) :
    Calls Try.prog 33 #[p] w (Ret (.bool (rbMay T)) w) := by
  have H := Lib.hid (check16_any t T w p hf ho hb hl)
  rw [← rbChk_may]
  clear hb hf hl ho
  go_enter Try.func33, Try.ntmps33
  go_wp2_with fail
  refine (H.out).mono ?_
  rintro e w1 ⟨rfl, hS⟩
  go_wp2
  go_ret
  exact ⟨ret_bool rfl, hS⟩
end Go.Proofs.Ythkbmedfccoliaa
