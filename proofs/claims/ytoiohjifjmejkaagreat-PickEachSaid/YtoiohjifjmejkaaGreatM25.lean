/- wbjoin.hang: the walk. The walk of joinerylaw18.WbMakes. -/
import Derived.Test.YtoiohjifjmejkaaGreatM22
import Derived.Test.YtoiohjifjmejkaaGreatM24
namespace Go.Proofs.YtoiohjifjmejkaaGreat
open Go Go.RowKit

set_option maxRecDepth 100000 in
set_option maxHeartbeats 8000000 in
theorem whang_step (s : Bool) (n : Nat) (P low : Tr) (hlow : WbH low) (nl : low.news n = 0) (t : Tr) (IH0 : t ≠ .nil → WHangSpec s n P low (outOf s t)) : WHangSpec s n P low t := by
  intro w hn ht hP hlw hA hor hc nt
  have hx := Ext.refl w
  have HMB := Lib.hid (fun W (h : Ext w W) => wbMk_any s W t P low (ht.ext h) (hP.ext h) (hlw.ext h))
  have HBASE := Lib.hid (fun bx hk (hb : n ≤ bx) => whang_base (s := s) (pk := P.key) (pv := P.val) bx hA hlow hk nt nl hb)
  by_cases ht0 : t = .nil
  · subst ht0
    have HK : Hid (lk (Tr.nil.count + 1) (low.count + 1)) := Lib.hid (by
      rcases hor with h | h
      · exact h
      · unfold lk; simp only [Tr.count, Tr.pre, List.length_nil] at h ⊢; omega)
    rw [Tr.ptr_nil] at HMB ⊢
    have hund : undef = Value.tuple #[] := rfl
    clear IH0 hor hc ht hP hlw hA hlow nt nl
    go_enter Tryz.func120, Tryz.ntmps120
    go_wp2_with fail
    refine (HMB.out w hx).mono ?_
    rintro e w1 ⟨bn, rfl, hbn, hT, h1⟩
    go_wp2
    go_ret
    exact ⟨_, rfl, HBASE.out bn HK.out (Nat.le_trans hn hbn), hT, h1⟩
  · have IH := IH0 ht0
    clear IH0
    have HWT := Lib.hid (fun W (h : Ext w W) => wbWeight_any W t (ht.ext h))
    have HWL := Lib.hid (fun W (h : Ext w W) => wbWeight_any W low (hlw.ext h))
    have HLI := Lib.hid (wlike (a := t) (b := low) (by omega))
    obtain ⟨wT, eT⟩ : ∃ x, x = wt t := ⟨_, rfl⟩
    obtain ⟨wL, eL⟩ : ∃ x, x = wt low := ⟨_, rfl⟩
    rw [← eT] at HWT HLI
    rw [← eL] at HWL HLI
    clear eT eL
    obtain ⟨bt, i, k, v, g, o, et⟩ := sides_ne s ht0
    have ET := Lib.hid et
    have ep : t.ptr = some ⟨bt, 0, none⟩ := by rw [et, mk_ptr]
    by_cases hk : lk (t.count + 1) (low.count + 1)
    · have hlk : likeB wT wL = true := HLI.out.2 hk
      have HK := Lib.hid hk
      rw [ep] at HMB HWT ⊢
      clear IH hor hc ht hP hlw hA hlow nt nl hk HLI et ep
      go_enter Tryz.func120, Tryz.ntmps120
      go_wp2_with fail
      refine (HWT.out w hx).mono ?_
      rintro e w' ⟨rfl, hS⟩
      replace hx := hx.trans hS
      clear hS
      go_wp2_with fail
      refine (HWL.out _ hx).mono ?_
      rintro e w' ⟨rfl, hS⟩
      replace hx := hx.trans hS
      clear hS
      go_wp2_with fail
      refine (wbLike_any _ wT wL).mono ?_
      rw [hlk]
      rintro e w3 ⟨rfl, hS⟩
      replace hx := hx.trans hS
      clear hS
      go_wp2_with fail
      refine (HMB.out _ hx).mono ?_
      rintro e w4 ⟨bn, rfl, hbn, hT, h4⟩
      go_wp2
      go_ret
      exact ⟨_, rfl, HBASE.out bn HK.out (Nat.le_trans hn (Nat.le_trans hx.size hbn)), hT, hx.trans h4⟩
    · have hlk : likeB wT wL = false := by
        cases h : likeB wT wL with
        | false => rfl
        | true => exact (hk (HLI.out.1 h)).elim
      clear HLI HMB HBASE
      have hor' : low.count + 1 ≤ t.count + 1 := by
        rcases hor with h | h
        · exact (hk h).elim
        · omega
      have hct : t.count + 1 = i.count + 1 + (o.count + 1) := by rw [et, mk_count]; omega
      have hA' := hA
      rw [et] at hA'
      obtain ⟨-, hi, ho, hio⟩ := mk_wb.1 hA'
      obtain ⟨hL, horo⟩ := wnum hct hio hk hor'
      have hnt := nt
      rw [et, mk_news] at hnt
      have ni : i.news n = 0 := by omega
      have no : o.news n = 0 := by omega
      clear hnt hA'
      have e1 : inOf s t = i := by rw [et, inOf_mk]
      have e2 : outOf s t = o := by rw [et, outOf_mk]
      have ek : t.key = k ∧ t.val = v := by rw [et, mk_key, mk_val]; exact ⟨rfl, rfl⟩
      rw [e2] at IH
      have hii : InH w i := e1 ▸ in_ok2 (s := s) ht
      have hoo : InH w o := e2 ▸ out_ok2 (s := s) ht
      have HAI := Lib.hid (fun W (h : Ext w W) => wbIn_any s W t (ht.ext h))
      have HAO := Lib.hid (fun W (h : Ext w W) => wbAt_any s W t (ht.ext h))
      have HIH := Lib.hid (fun W (h : Ext w W) => IH W (Nat.le_trans hn h.size) (hoo.ext h) (hP.ext h) (hlw.ext h) ho (horo.imp id (fun h => by omega)) (by omega) no)
      have HWI := Lib.hid (fun W (h : Ext w W) => wbWeight_any W i (hii.ext h))
      have HMP := Lib.hid (fun W x (h : Ext w W) (hX : InH W x) => wbMk_any s W i t x (hii.ext h) (ht.ext h) hX)
      have HON := Lib.hid (fun W x (h : Ext w W) (hX : InH W x) => wbOnce_any s W i t x (hii.ext h) (ht.ext h) hX)
      have HTW := Lib.hid (fun W x (h : Ext w W) (hX : InH W x) => wbTwice_any s W i t x (hii.ext h) (ht.ext h) hX)
      rw [e1] at HAI
      rw [e2] at HAO
      simp only [ek.1, ek.2, ep] at HMP
      rw [ep] at HWT HAI HAO HON HTW ⊢
      have HPL := Lib.hid (fun x bn (hX : WHang n s o low P.key P.val x) hlk hb => whang_plain (b := bt) (g := g) (k := k) (v := v) bn hi hio hX hL hlk ni hb)
      have HOC := Lib.hid (fun (xi xo : Tr) (xk xv xg : Int) bx b3 b4 (hX : WHang n s o low P.key P.val (mkN s bx xi xk xv xg xo)) h1 h2 h3 h4 h5 => whang_once (b := bt) (g := g) (k := k) (v := v) b3 b4 hi hio hX hL h1 h2 ni h3 h4 h5)
      have HTC := Lib.hid (fun (m1 m2 xo : Tr) (xk xv xg mk mv mg : Int) bx bm b3 b4 b5 (hX : WHang n s o low P.key P.val (mkN s bx (mkN s bm m1 mk mv mg m2) xk xv xg xo)) h1 h2 h3 h4 h5 h6 => whang_twice (b := bt) (g := g) (k := k) (v := v) b3 b4 b5 hi hio hX hL h1 h2 ni h3 h4 h5 h6)
      have HMI := Lib.hid (fun (xi xo : Tr) (xk xv xg : Int) bx (hX : WHang n s o low P.key P.val (mkN s bx xi xk xv xg xo)) h1 h2 => whang_mid hio hX hL h1 h2)
      have HCT := Lib.hid (show i.count + o.count + low.count ≤ 90000 by omega)
      have EK := Lib.hid ek
      have HW0 := Lib.hid hii
      clear IH hor hor' hct hi ho hio hL horo ni no e1 e2 ek hii hoo ht hP hlw hA hlow nt nl hk et ep hc
      go_enter Tryz.func120, Tryz.ntmps120
      go_wp2_with fail
      refine (HWT.out w hx).mono ?_
      rintro e w' ⟨rfl, hS⟩
      replace hx := hx.trans hS
      clear hS
      go_wp2_with fail
      refine (HWL.out _ hx).mono ?_
      rintro e w' ⟨rfl, hS⟩
      replace hx := hx.trans hS
      clear hS
      go_wp2_with fail
      refine (wbLike_any _ wT wL).mono ?_
      rw [hlk]
      rintro e w3 ⟨rfl, hS⟩
      replace hx := hx.trans hS
      clear hS
      go_wp2_with fail
      refine (wbOther_any s _).mono ?_
      rintro e w' ⟨rfl, hS⟩
      replace hx := hx.trans hS
      clear hS
      go_wp2_with fail
      refine (HAI.out _ hx).mono ?_
      rintro e w' ⟨rfl, hS⟩
      replace hx := hx.trans hS
      clear hS
      go_wp2_with fail
      refine (HAO.out _ hx).mono ?_
      rintro e w' ⟨rfl, hS⟩
      replace hx := hx.trans hS
      clear hS
      go_wp2_with fail
      refine (HIH.out _ hx).mono ?_
      rintro e w4 ⟨x, rfl, hok, hX, hS⟩
      have hn4 : n ≤ w4.heap.size := Nat.le_trans hn (hx.trans hS).size
      replace hx := hx.trans hS
      clear hS
      have HCX := Lib.hid hok.count
      have HOK := Lib.hid hok
      clear hok
      go_wp2_with fail
      refine (HWI.out _ hx).mono ?_
      rintro e w' ⟨rfl, hS⟩
      replace hx := hx.trans hS
      replace hX := hX.ext hS
      clear hS
      go_wp2_with fail
      refine (wbWeight_any _ x hX).mono ?_
      rintro e w' ⟨rfl, hS⟩
      replace hx := hx.trans hS
      replace hX := hX.ext hS
      clear hS
      have HLX := Lib.hid (wlike (a := i) (b := x) (by have := HCT.out; have := HCX.out; omega))
      by_cases hkx : lk (i.count + 1) (x.count + 1)
      · have hlx : likeB (wt i) (wt x) = true := HLX.out.2 hkx
        have HKX := Lib.hid hkx
        clear hkx HLX
        go_wp2_with fail
        refine (wbLike_any _ (wt i) (wt x)).mono ?_
        rw [hlx]
        rintro e w5 ⟨rfl, hS⟩
        replace hx := hx.trans hS
        replace hX := hX.ext hS
        clear hS
        go_wp2_with fail
        refine (HMP.out _ x hx hX).mono ?_
        rintro e w6 ⟨bn, rfl, hbn, hT, h6⟩
        go_wp2
        go_ret
        refine ⟨_, rfl, ?_, hT, hx.trans h6⟩
        rw [ET.out]
        exact HPL.out x bn HOK.out HKX.out (Nat.le_trans hn (Nat.le_trans hx.size hbn))
      · have hlx : likeB (wt i) (wt x) = false := by
          cases h : likeB (wt i) (wt x) with
          | false => rfl
          | true => exact (hkx (HLX.out.1 h)).elim
        have HKX := Lib.hid hkx
        clear hkx HLX
        go_wp2_with fail
        refine (wbLike_any _ (wt i) (wt x)).mono ?_
        rw [hlx]
        rintro e w5 ⟨rfl, hS⟩
        replace hx := hx.trans hS
        replace hX := hX.ext hS
        clear hS
        go_wp2_with fail
        refine (wbOther_any s _).mono ?_
        rintro e w' ⟨rfl, hS⟩
        replace hx := hx.trans hS
        replace hX := hX.ext hS
        clear hS
        go_wp2_with fail
        refine (wbIn_any s _ x hX).mono ?_
        rintro e w' ⟨rfl, hS⟩
        replace hx := hx.trans hS
        replace hX := hX.ext hS
        clear hS
        go_wp2_with fail
        refine (wbWeight_any _ (inOf s x) (in_ok2 hX)).mono ?_
        rintro e w' ⟨rfl, hS⟩
        replace hx := hx.trans hS
        replace hX := hX.ext hS
        clear hS
        go_wp2_with fail
        refine (wbAt_any s _ x hX).mono ?_
        rintro e w' ⟨rfl, hS⟩
        replace hx := hx.trans hS
        replace hX := hX.ext hS
        clear hS
        go_wp2_with fail
        refine (wbWeight_any _ (outOf s x) (out_ok2 hX)).mono ?_
        rintro e w6 ⟨rfl, hS⟩
        replace hx := hx.trans hS
        replace hX := hX.ext hS
        clear hS
        have hmm := @run_makeMap Tryz.prog
        have hup := fun (w : World) (k : Bool) (v : Value) (es : Array MapEntry) (c : Nat) (h : Instr.findNow .bool (.bool k) es.toList 0 = some none) => turn_up (P := Tryz.prog) w _ _ _ c es k v Tryz.underlying192 Tryz.underlying4 h
        have hf1 : ∀ d k i, Instr.findNow d k [] i = some none := fun _ _ _ => rfl
        have hf2 : ∀ (k a : Bool) (v : Value) (n : Nat) (es : List MapEntry) i, (a == k) = false → Instr.findNow .bool (.bool a) (⟨.bool k, v, n⟩ :: es) i = Instr.findNow .bool (.bool a) es (i + 1) := fun k a v n es i h => by
          simp [Instr.findNow, Instr.sameNow, h]
        go_wp2_with fail
        have hmap := alloc_at w6 (.map (turnsE s) 2) _ rfl
        have hx7 := Ext.alloc hx (.map (turnsE s) 2)
        have hX7 := hX.ext ((Ext.refl w6).alloc (.map (turnsE s) 2))
        clear hx hX hmm hup hf1 hf2
        unfold turnsE at hmap hx7 hX7
        generalize w6.alloc _ = w7 at *
        generalize w6.heap.size = N at *
        obtain ⟨bx, xi, xk, xv, xg, xo, ex⟩ := sides_ne s HOK.out.nn
        have EX := Lib.hid ex
        have exi : inOf s x = xi := by rw [ex, inOf_mk]
        have exo : outOf s x = xo := by rw [ex, outOf_mk]
        have hcx : x.count = xi.count + xo.count + 1 := by rw [ex, mk_count]; omega
        have hcs : i.count + xi.count + xo.count ≤ 95000 := by have := HCT.out; have := HCX.out; omega
        have HLA := Lib.hid (wlike (a := i) (b := xi) (by omega))
        have HLB := Lib.hid (wlike2 (a := i) (b := xi) (c := xo) (by omega))
        have hwr := wadd (a := i) (b := xi) (by omega)
        rw [exi, exo]
        clear ex exi exo hcx hcs
        by_cases hka : lk (i.count + 1) (xi.count + 1)
        · have hla : likeB (wt i) (wt xi) = true := HLA.out.2 hka
          have HKA := Lib.hid hka
          clear hka HLA
          refine (wbLike_any _ (wt i) (wt xi)).mono ?_
          rw [hla]
          rintro e w8 ⟨rfl, hS⟩
          replace hx7 := hx7.trans hS
          replace hX7 := hX7.ext hS
          replace hmap := (hS.block _ (lt_of hmap)).trans hmap
          clear hS
          go_wp2_with fail
          refine (wbLike_any _ (wt i + wt xi) (wt xo)).mono ?_
          by_cases hkb : lk (i.count + 1 + (xi.count + 1)) (xo.count + 1)
          · rw [HLB.out.2 hkb]
            have HKB := Lib.hid hkb
            clear hkb HLB
            rintro e w9 ⟨rfl, hS⟩
            replace hx7 := hx7.trans hS
            replace hX7 := hX7.ext hS
            replace hmap := (hS.block _ (lt_of hmap)).trans hmap
            clear hS
            have hlook := turns_once s hmap
            go_wp2_with fail
            refine (HON.out _ x hx7 hX7).mono ?_
            rintro e w10 ⟨b3, b4, rfl, hb3, hb4, hT, h10⟩
            go_wp2
            go_ret
            refine ⟨_, rfl, ?_, hT, hx7.trans h10⟩
            have hnw := Nat.le_trans hn hx7.size
            have hok := HOK.out
            have htop := hok.top
            have ex := EX.out
            rw [EK.out.1, EK.out.2, ET.out]
            rw [ex] at hok htop ⊢
            rw [inOf_mk, outOf_mk, mk_key, mk_val]
            rw [mk_blk] at htop
            exact HOC.out xi xo xk xv xg bx b3 b4 hok HKA.out HKB.out htop (Nat.le_trans hnw hb3) (Nat.le_trans hnw hb4)
          · have hlb : likeB (wt i + wt xi) (wt xo) = false := by
              cases h : likeB (wt i + wt xi) (wt xo) with
              | false => rfl
              | true => exact (hkb (HLB.out.1 h)).elim
            rw [hlb]
            have HK2 : Hid (¬ (lk (i.count + 1) (xi.count + 1) ∧ lk (i.count + 1 + (xi.count + 1)) (xo.count + 1))) := Lib.hid (fun h => hkb h.2)
            clear hkb HLB
            rintro e w9 ⟨rfl, hS⟩
            replace hx7 := hx7.trans hS
            replace hX7 := hX7.ext hS
            replace hmap := (hS.block _ (lt_of hmap)).trans hmap
            clear hS
            have hlook := turns_twice s hmap
            go_wp2_with fail
            refine (HTW.out _ x hx7 hX7).mono ?_
            rintro e w10 ⟨b3, b4, b5, rfl, hb3, hb4, hb5, hT, h10⟩
            go_wp2
            go_ret
            refine ⟨_, rfl, ?_, hT, hx7.trans h10⟩
            have hnw := Nat.le_trans hn hx7.size
            have hok := HOK.out
            have htop := hok.top
            have hkx := HKX.out
            have ex := EX.out
            rw [EK.out.1, EK.out.2, ET.out]
            rw [ex] at hok htop hkx ⊢
            obtain ⟨bm, m1, mk, mv, mg, m2, em⟩ := sides_ne s (HMI.out xi xo xk xv xg bx hok hkx HK2.out)
            have hk2 := HK2.out
            rw [em] at hok hkx hk2 ⊢
            simp only [inOf_mk, outOf_mk, mk_key, mk_val]
            rw [mk_blk] at htop
            exact HTC.out m1 m2 xo xk xv xg mk mv mg bx bm b3 b4 b5 hok hkx hk2 htop (Nat.le_trans hnw hb3) (Nat.le_trans hnw hb4) (Nat.le_trans hnw hb5)
        · have hla : likeB (wt i) (wt xi) = false := by
            cases h : likeB (wt i) (wt xi) with
            | false => rfl
            | true => exact (hka (HLA.out.1 h)).elim
          have HK2 : Hid (¬ (lk (i.count + 1) (xi.count + 1) ∧ lk (i.count + 1 + (xi.count + 1)) (xo.count + 1))) := Lib.hid (fun h => hka h.1)
          clear hka HLA HLB
          have hund : undef = Value.tuple #[] := rfl
          refine (wbLike_any _ (wt i) (wt xi)).mono ?_
          rw [hla]
          rintro e w9 ⟨rfl, hS⟩
          replace hx7 := hx7.trans hS
          replace hX7 := hX7.ext hS
          replace hmap := (hS.block _ (lt_of hmap)).trans hmap
          clear hS
          have hlook := turns_twice s hmap
          go_wp2_with fail
          refine (HTW.out _ x hx7 hX7).mono ?_
          rintro e w10 ⟨b3, b4, b5, rfl, hb3, hb4, hb5, hT, h10⟩
          go_wp2
          go_ret
          refine ⟨_, rfl, ?_, hT, hx7.trans h10⟩
          have hnw := Nat.le_trans hn hx7.size
          have hok := HOK.out
          have htop := hok.top
          have hkx := HKX.out
          have ex := EX.out
          rw [EK.out.1, EK.out.2, ET.out]
          rw [ex] at hok htop hkx ⊢
          obtain ⟨bm, m1, mk, mv, mg, m2, em⟩ := sides_ne s (HMI.out xi xo xk xv xg bx hok hkx HK2.out)
          have hk2 := HK2.out
          rw [em] at hok hkx hk2 ⊢
          simp only [inOf_mk, outOf_mk, mk_key, mk_val]
          rw [mk_blk] at htop
          exact HTC.out m1 m2 xo xk xv xg mk mv mg bx bm b3 b4 b5 hok hkx hk2 htop (Nat.le_trans hnw hb3) (Nat.le_trans hnw hb4) (Nat.le_trans hnw hb5)
/-- **hang**, at any tree that is no lighter, or alike. -/
theorem whang_any (s : Bool) (n : Nat) (P low : Tr) (hlow : WbH low) (nl : low.news n = 0) : ∀ t : Tr, WHangSpec s n P low t := by
  intro t
  induction t with
  | nil => exact whang_step s n P low hlow nl .nil (fun h => (h rfl).elim)
  | node b l k v g r ihl ihr =>
    refine whang_step s n P low hlow nl _ (fun _ => ?_)
    cases s
    · exact ihl
    · exact ihr
end Go.Proofs.YtoiohjifjmejkaaGreat
namespace Go.Proofs.YtoiohjifjmejkaaGreat
open Go Go.RowKit

theorem wbMakes_law (bb : Nat) (A B : Tr) (k v : Int) : wbMay (.node bb A k v 0 B) = (wbMay A && wbMay B && likeB (wt A) (wt B)) := by
  rw [wbMay_node]
  have e : wbOne (.node bb A k v 0 B) = if likeB (wt A) (wt B) then 0 else 8 := rfl
  rw [e]
  cases likeB (wt A) (wt B) <;> cases wbMay A <;> cases wbMay B <;> rfl
end Go.Proofs.YtoiohjifjmejkaaGreat
