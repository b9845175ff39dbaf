/- The walk of CutTurns. -/
import Derived.Test.YtnhbcildpdhgnaaGreatM46
import Derived.Test.YtnhbcildpdhgnaaGreatM47
namespace Go.Proofs.YtnhbcildpdhgnaaGreat
open Go Go.RowKit

/-- of which a statement takes nothing, or a tree of which it takes all. -/
theorem parted_or {c : Nat} (h4 : 1 ≤ c ∧ c ≤ 4) {a0 : Option Addr} {len0 cap0 : Nat} {z0 : List BeadL} {w : World} (w0 : IsBeads w (.slice a0 len0 cap0) z0) :
    (∀ W, Ext w W → Calls Tryz.prog 7 #[.int .u8 c, .slice a0 len0 cap0] W (Ret (.bool true) W)) ∨
      ∃ t : BT, z0 = t.enc ∧ len0 = t.enc.length ∧ t.enc.length ≤ 400 ∧ ptV c t.tr = true ∧ Beads w (.slice a0 len0 cap0) t.enc ∧ (∀ z ∈ t.enc, z.wf) ∧
        ∀ W, Ext w W → Calls Tryz.prog 7 #[.int .u8 c, .slice a0 len0 cap0] W (Ret (.bool false) W) := by
  obtain rfl : len0 = z0.length := by obtain ⟨_, _, h⟩ := beads_slice w0.1; cases h; rfl
  have hl := fun W (e : Ext w W) => beadsLong_any W _ z0 (w0.1.ext e)
  cases d0 : (decide (400 < z0.length) || !mayB z0) with
  | true =>
    rw [d0] at hl
    exact .inl fun W e => parted_long c h4 _ W (fun W2 e2 => hl W2 (e.trans e2))
  | false =>
    obtain ⟨l0, t0, e0⟩ := long_tree d0
    subst e0
    rw [d0] at hl
    have h := fun W (e : Ext w W) => parted_t c h4 t0 t0.tr (.slice a0 t0.enc.length cap0) W t0.tr_fits (fun _ => fits_tagsOk t0 _ t0.tr_fits w0.2) (w0.1.ext e) (by omega) (fun W2 e2 => hl W2 (e.trans e2))
    cases hp : ptV c t0.tr with
    | false => rw [hp] at h; exact .inl h
    | true => rw [hp] at h; exact .inr ⟨t0, rfl, rfl, l0, hp, w0.1, w0.2, h⟩
/-- what is made of the beads of a part. -/
theorem made_part {c : Nat} (h4 : 1 ≤ c ∧ c ≤ 4) {t : BT} {T : Tr} (hf : t.fits T) (hw : ∀ z ∈ t.enc, z.wf) (hl : t.enc.length ≤ 400) (hp : ptV c t.tr = true) : PartC c T ∧ TagsOk T ∧ T.count = t.enc.length := by
  have ht := fits_tagsOk t T hf hw
  exact ⟨partC_of h4 (by rw [fits_cnt hf]; omega) ht (by rw [← fits_ptV h4 t.tr_fits hf]; exact hp), ht, fits_cnt hf⟩
theorem BothC.assoc {c : Nat} {A B C X Y Z1 Z2 : Tr} (h1 : BothC c A B X) (h2 : BothC c X C Z1) (h3 : BothC c B C Y) (h4 : BothC c A Y Z2) : itsC c Z1 = itsC c A ++ (itsC c B ++ itsC c C) ∧ itsC c Z2 = itsC c A ++ (itsC c B ++ itsC c C) := by
  rw [h2.its, h1.its, h4.its, h3.its, List.append_assoc]
  exact ⟨rfl, rfl⟩
theorem irow3_take {w : World} {b o c k : Nat} {zs : List (Int × Int × Int)} (hr : w.rangeAt b o (itemCells zs)) (hk : k ≤ zs.length) (hc : zs.length ≤ c) : IRow3 w (.slice (some ⟨b, o, none⟩) k c) (zs.take k) := by
  by_cases h0 : k = 0
  · subst h0; exact .inl ⟨rfl, _, _, rfl⟩
  · have hl : (zs.take k).length = k := by rw [List.length_take]; omega
    refine .inr ⟨b, o, c, by rw [hl], fun h => by rw [h] at hl; simp at hl; omega, by omega, fun j u hj => hr j u ?_⟩
    conv => lhs; rw [← List.take_append_drop k zs]
    rw [itemCells_append, List.getElem?_append_left (List.getElem?_eq_some_iff.1 hj).1]
    exact hj
theorem irow3_drop {w : World} {b o c k : Nat} {zs : List (Int × Int × Int)} (hr : w.rangeAt b o (itemCells zs)) (hk : k ≤ zs.length) (hc : zs.length ≤ c) : IRow3 w (.slice (some ⟨b, o + k * 3, none⟩) (zs.length - k) (c - k)) (zs.drop k) := by
  by_cases h0 : zs.length - k = 0
  · rw [h0]; exact .inl ⟨List.drop_eq_nil_of_le (by omega), _, _, rfl⟩
  · have hl : (zs.drop k).length = zs.length - k := by rw [List.length_drop]
    refine .inr ⟨b, o + k * 3, c - k, by rw [hl], fun h => by rw [h] at hl; simp at hl; omega, by omega, fun j u hj => ?_⟩
    have h := hr (k * 3 + j) u (by
      conv => lhs; rw [← List.take_append_drop k zs]
      rw [itemCells_append, List.getElem?_append_right (by rw [itemCells_len, List.length_take]; omega)]
      rw [itemCells_len, List.length_take, show min k zs.length = k by omega, Nat.add_sub_cancel_left]
      exact hj)
    rw [show o + k * 3 + j = o + (k * 3 + j) by omega]
    exact h
theorem two_le {a b : Nat} (h1 : a ≤ 400) (h2 : b ≤ 400) : a + b ≤ 20000 := by omega
theorem three_le {x a b d : Nat} (h : x = a + b) (h1 : a ≤ 400) (h2 : b ≤ 400) (h3 : d ≤ 400) : x + d ≤ 20000 := by omega
theorem three_le' {y a b d : Nat} (h : y = b + d) (h1 : a ≤ 400) (h2 : b ≤ 400) (h3 : d ≤ 400) : a + y ≤ 20000 := by omega
theorem turn_counts {x y z1 z2 a b d : Nat} (hx : x = a + b) (h1 : z1 = x + d) (hy : y = b + d) (h2 : z2 = a + y) (ha : a ≤ 400) (hb : b ≤ 400) (hd : d ≤ 400) : z1 = a + b + d ∧ z2 = a + b + d ∧ a ≤ 400 ∧ b ≤ 400 ∧ d ≤ 400 := by omega
theorem z_le {z a b d n : Nat} (h : z = a + b + d) (h1 : a ≤ 400 ∧ b ≤ 400 ∧ d ≤ 400) (hn : 1200 ≤ n) : z ≤ n := by omega
theorem z_lt {z a b d n : Nat} (h : z = a + b + d) (h1 : a ≤ 400 ∧ b ≤ 400 ∧ d ≤ 400) (hn : 1200 < n) : z < n := by omega
theorem three_sum {n z a b c x y v : Nat} (h : n = z) (h1 : z = a + b + c) (h2 : a ≤ 400 ∧ b ≤ 400 ∧ c ≤ 400) (h3 : a = x) (h4 : b = y) (h5 : c = v) : ∃ m : Nat, wrap64 ((x : Int) + (y : Int)) = (m : Int) ∧ wrap64 ((m : Int) + (v : Int)) = (n : Int) ∧ RowKit.Hid (m = x + y) :=
  ⟨x + y, by unfold wrap64; omega, by unfold wrap64; omega, rfl⟩
theorem turn_a {n z a b d x k : Nat} (h : n = z) (h1 : z = a + b + d) (h3 : a = x) (hk : n ≤ k) : (x : Int) ≤ (k : Int) := by omega
theorem turn_b {n z a b d x y m : Nat} (h : n = z) (h1 : z = a + b + d) (h3 : a = x) (h4 : b = y) (hm : m = x + y) : (m : Int) ≤ (n : Int) := by omega
theorem IOwn3.sides {B : Nat} {w : World} {a : Option Addr} {n cp : Nat} {zs : List (Int × Int × Int)} (h : IOwn3 B w (.slice a n cp) zs) : (a = none ∧ cp = 0 ∧ zs = []) ∨ ∃ g, a = some ⟨g, 0, none⟩ ∧ zs.length ≤ cp := by
  obtain ⟨h1, ⟨hv, h0⟩ | ⟨g, cap, cur, hv, hb, hg, hc, hm, hs, ht⟩⟩ := h
  · cases hv; exact .inl ⟨rfl, rfl, List.eq_nil_of_length_eq_zero h0⟩
  · cases hv; exact .inr ⟨g, rfl, hc⟩
theorem IOwn3.front {B : Nat} {w : World} {g n cp k : Nat} {zs xs : List (Int × Int × Int)} (h : IOwn3 B w (.slice (some ⟨g, 0, none⟩) n cp) zs) (hx : xs.length = k ∧ ∃ ys, zs = xs ++ ys) : IRow3 w (.slice (some ⟨g, 0, none⟩) k cp) xs := by
  obtain ⟨rfl, ys, rfl⟩ := hx
  rcases h.row with ⟨h0, a, c, hv⟩ | ⟨b, o, c, hv, hne, hc, hr⟩
  · have : xs = [] := (List.append_eq_nil_iff.1 h0).1
    subst this; exact .inl ⟨rfl, _, _, rfl⟩
  · cases hv
    have h2 := irow3_take hr (k := xs.length) (by simp) hc
    rwa [List.take_left] at h2
theorem turn_front {x y z : List (Int × Int × Int)} {t : List (Int × Int × Int)} {m n : Nat} (h : x.length = m) (h2 : m = n) (h3 : t = x ++ (y ++ z)) : x.length = n ∧ ∃ ys, t = x ++ ys := ⟨h.trans h2, _, h3⟩
theorem cutAll3 {P c : Nat} {n : Int} {w : World} {N : Nat} {A B C : Tr} (hS : Sch P c n w) (hP : P < N) (hrow : w.heap[N]? = some (.cells #[.pointer A.ptr, .pointer B.ptr, .pointer C.ptr] 29 (0, 0))) (iA : InH w A) (iB : InH w B) (iC : InH w C)
    (pA : PartC c A) (pB : PartC c B) (pC : PartC c C) (hc : A.count ≤ 400 ∧ B.count ≤ 400 ∧ C.count ≤ 400) :
    Calls Tryz.prog 15 #[.pointer (some ⟨P, 0, none⟩), .slice (some ⟨N, 0, none⟩) 3 3] w (fun e w' => ∃ (T : Tr) (m : Int), e = .returned (.pointer T.ptr) ∧ Bt [P] w w' ∧ Sch P c m w' ∧ InH w' T ∧ itsC c T = itsC c A ++ (itsC c B ++ itsC c C)) := by
  refine (cutAll_any P c n [A, B, C] N 0 3 w hS (by omega) (fun i T hi => by
      rw [cell_of hrow, Nat.zero_add]
      match i, hi with
      | 0, hi => cases hi; rfl
      | 1, hi => cases hi; rfl
      | 2, hi => cases hi; rfl) (by simp) (fun T hT => by
      simp only [List.mem_cons, List.not_mem_nil, or_false] at hT
      rcases hT with rfl | rfl | rfl
      · exact iA
      · exact iB
      · exact iC) (fun T hT => by
      simp only [List.mem_cons, List.not_mem_nil, or_false] at hT
      rcases hT with rfl | rfl | rfl
      · exact pA
      · exact pB
      · exact pC) (by simp; omega)).mono ?_
  rintro e w' ⟨T, m, he, B, S, iT, ok⟩
  exact ⟨T, m, he, B, S, iT, by rw [ok.its]; simp⟩
theorem IOwn3.back {B : Nat} {w : World} {g n cp k : Nat} {zs xs : List (Int × Int × Int)} (h : IOwn3 B w (.slice (some ⟨g, 0, none⟩) n cp) zs) (hx : ∃ ys, zs = ys ++ xs ∧ ys.length = k) :
    (cp = k → IRow3 w (.slice (some ⟨g, 0, none⟩) (n - k) 0) xs) ∧ IRow3 w (.slice (some ⟨g, k * 3, none⟩) (n - k) (cp - k)) xs := by
  obtain ⟨ys, rfl, rfl⟩ := hx
  rcases h.row with ⟨h0, a, c, hv⟩ | ⟨b, o, c, hv, hne, hc, hr⟩
  · have : xs = [] := (List.append_eq_nil_iff.1 h0).2
    subst this
    cases hv
    rw [Nat.zero_sub]
    exact ⟨fun _ => .inl ⟨rfl, _, _, rfl⟩, .inl ⟨rfl, _, _, rfl⟩⟩
  · cases hv
    have h2 := irow3_drop hr (k := ys.length) (by simp) hc
    rw [List.drop_left] at h2
    refine ⟨fun hcp => ?_, by simpa using h2⟩
    have : xs = [] := List.eq_nil_of_length_eq_zero (by rw [List.length_append] at hc; omega)
    subst this
    exact .inl ⟨rfl, some ⟨g, 0, none⟩, 0, by simp⟩
theorem turn_back {x y z t : List (Int × Int × Int)} {a b n0 n1 m : Nat} (h : x.length = a) (h' : y.length = b) (h2 : a = n0) (h2' : b = n1) (hm : m = n0 + n1) (h3 : t = x ++ (y ++ z)) : ∃ ys, t = ys ++ z ∧ ys.length = m :=
  ⟨x ++ y, by rw [h3, List.append_assoc], by rw [List.length_append]; omega⟩
theorem turn_empty {x y z t : List (Int × Int × Int)} (h : t = []) (h3 : t = x ++ (y ++ z)) : x = [] ∧ y = [] ∧ z = [] := by
  rw [h] at h3
  obtain ⟨h1, h2⟩ := List.append_eq_nil_iff.1 h3.symm
  exact ⟨h1, List.append_eq_nil_iff.1 h2⟩
theorem turn_none {x y z : List (Int × Int × Int)} {a b n0 n1 m : Nat} (h : x.length = a) (h' : y.length = b) (h2 : a = n0) (h2' : b = n1) (hm : m = n0 + n1) (h3 : x = []) (h4 : y = []) (h5 : z = []) : n0 = 0 ∧ m = 0 ∧ z.length - m = 0 := by
  subst h3 h4 h5; simp at h h' ⊢; omega
theorem irow_zero {w : World} {p : Option Addr} {n k : Nat} {zs : List (Int × Int × Int)} (h : n = 0) (hz : zs = []) : IRow3 w (.slice p n k) zs := by
  subst h hz; exact .inl ⟨rfl, _, _, rfl⟩
set_option maxRecDepth 100000 in
set_option maxHeartbeats 4000000 in
theorem cutTurns_walk (c : Nat) (hc : c < 256) (a0 : Option Addr) (len0 cap0 : Nat) (z0 : List BeadL) (a1 : Option Addr) (len1 cap1 : Nat) (z1 : List BeadL) (a2 : Option Addr) (len2 cap2 : Nat) (z2 : List BeadL) (w : World)
    (w0 : IsBeads w (.slice a0 len0 cap0) z0) (w1 : IsBeads w (.slice a1 len1 cap1) z1) (w2 : IsBeads w (.slice a2 len2 cap2) z2) :
    Calls Tryz.prog 3 #[.int .u8 c, .slice a0 len0 cap0, .slice a1 len1 cap1, .slice a2 len2 cap2] w (Ret (.bool true) w) := by
  have hund : undef = Value.tuple #[] := rfl
  by_cases h4 : 1 ≤ c ∧ c ≤ 4
  · have HOF := Lib.hid (of22_yes c h4 w)
    have H4 := Lib.hid h4
    have q0 := parted_or h4 w0
    have q1 := parted_or h4 w1
    have q2 := parted_or h4 w2
    clear h4 w0 w1 w2
    rcases q0 with q0 | ⟨t0, -, rfl, l0, p0, b0, v0, q0⟩
    · have Q0 := Lib.hid q0
      clear q0 q1 q2
      go_enter Tryz.func3, Tryz.ntmps3
      go_wp2_with fail
      refine HOF.out.mono ?_
      rintro e w3 ⟨P, rfl, st⟩
      have hx := st.ext
      clear st
      go_wp2_with fail
      refine (Q0.out w3 hx).mono ?_
      rintro e w4 ⟨rfl, hS⟩
      replace hx := hx.trans hS
      clear hS
      go_wp2_with fail
      refine (is22_any c _).mono ?_
      rw [decide_eq_true H4.out]
      rintro e w21 ⟨rfl, hS⟩
      replace hx := hx.trans hS
      clear hS
      go_wp2_with fail
      refine (alive23_any _).mono ?_
      rintro e w22 ⟨rfl, hS⟩
      replace hx := hx.trans hS
      clear hS
      go_wp2
      go_ret
      exact Ret.mk hx
    · have Q0 := Lib.hid q0
      have Lt0 := Lib.hid l0
      have Pt0 := Lib.hid p0
      have HBt0 := Lib.hid b0
      have Wt0 := Lib.hid v0
      clear q0 l0 p0 b0 v0
      rcases q1 with q1 | ⟨t1, -, rfl, l1, p1, b1, v1, q1⟩
      · have Q1 := Lib.hid q1
        clear q1 q2
        go_enter Tryz.func3, Tryz.ntmps3
        go_wp2_with fail
        refine HOF.out.mono ?_
        rintro e w3 ⟨P, rfl, st⟩
        have hx := st.ext
        clear st
        go_wp2_with fail
        refine (Q0.out w3 hx).mono ?_
        rintro e w4 ⟨rfl, hS⟩
        replace hx := hx.trans hS
        clear hS
        go_wp2_with fail
        refine (Q1.out w4 hx).mono ?_
        rintro e w5 ⟨rfl, hS⟩
        replace hx := hx.trans hS
        clear hS
        go_wp2_with fail
        refine (is22_any c _).mono ?_
        rw [decide_eq_true H4.out]
        rintro e w21 ⟨rfl, hS⟩
        replace hx := hx.trans hS
        clear hS
        go_wp2_with fail
        refine (alive23_any _).mono ?_
        rintro e w22 ⟨rfl, hS⟩
        replace hx := hx.trans hS
        clear hS
        go_wp2
        go_ret
        exact Ret.mk hx
      · have Q1 := Lib.hid q1
        have Lt1 := Lib.hid l1
        have Pt1 := Lib.hid p1
        have HBt1 := Lib.hid b1
        have Wt1 := Lib.hid v1
        clear q1 l1 p1 b1 v1
        rcases q2 with q2 | ⟨t2, -, rfl, l2, p2, b2, v2, q2⟩
        · have Q2 := Lib.hid q2
          clear q2
          go_enter Tryz.func3, Tryz.ntmps3
          go_wp2_with fail
          refine HOF.out.mono ?_
          rintro e w3 ⟨P, rfl, st⟩
          have hx := st.ext
          clear st
          go_wp2_with fail
          refine (Q0.out w3 hx).mono ?_
          rintro e w4 ⟨rfl, hS⟩
          replace hx := hx.trans hS
          clear hS
          go_wp2_with fail
          refine (Q1.out w4 hx).mono ?_
          rintro e w5 ⟨rfl, hS⟩
          replace hx := hx.trans hS
          clear hS
          go_wp2_with fail
          refine (Q2.out w5 hx).mono ?_
          rintro e w6 ⟨rfl, hS⟩
          replace hx := hx.trans hS
          clear hS
          go_wp2_with fail
          refine (is22_any c _).mono ?_
          rw [decide_eq_true H4.out]
          rintro e w21 ⟨rfl, hS⟩
          replace hx := hx.trans hS
          clear hS
          go_wp2_with fail
          refine (alive23_any _).mono ?_
          rintro e w22 ⟨rfl, hS⟩
          replace hx := hx.trans hS
          clear hS
          go_wp2
          go_ret
          exact Ret.mk hx
        · have Q2 := Lib.hid q2
          have Lt2 := Lib.hid l2
          have Pt2 := Lib.hid p2
          have HBt2 := Lib.hid b2
          have Wt2 := Lib.hid v2
          clear q2 l2 p2 b2 v2
          go_enter Tryz.func3, Tryz.ntmps3
          go_wp2_with fail
          refine HOF.out.mono ?_
          rintro e w3 ⟨P, rfl, st⟩
          go_wp2_with fail
          refine (Q0.out w3 st.ext).mono ?_
          rintro e w4 ⟨rfl, hS⟩
          replace st := st.more hS
          clear hS
          go_wp2_with fail
          refine (Q1.out w4 st.ext).mono ?_
          rintro e w5 ⟨rfl, hS⟩
          replace st := st.more hS
          clear hS
          go_wp2_with fail
          refine (Q2.out w5 st.ext).mono ?_
          rintro e w6 ⟨rfl, hS⟩
          replace st := st.more hS
          clear hS
          go_wp2_with fail
          refine (beadsMakeD_any t0 w6 _ (HBt0.out.ext st.ext) Lt0.out).mono ?_
          rintro e w7 ⟨A, rfl, iA, sT, hS⟩
          replace st := st.more hS
          have MA := Lib.hid (made_part H4.out sT.1 Wt0.out Lt0.out Pt0.out)
          have hA := hS
          clear hS sT
          go_wp2_with fail
          refine (beadsMakeD_any t1 w7 _ (HBt1.out.ext st.ext) Lt1.out).mono ?_
          rintro e w8 ⟨B, rfl, iB, sT, hS⟩
          replace st := st.more hS
          have MB := Lib.hid (made_part H4.out sT.1 Wt1.out Lt1.out Pt1.out)
          have hB := hS
          clear hS sT
          replace iA := iA.ext hB
          go_wp2_with fail
          refine (beadsMakeD_any t2 w8 _ (HBt2.out.ext st.ext) Lt2.out).mono ?_
          rintro e w9 ⟨C, rfl, iC, sT, hS⟩
          replace st := st.more hS
          have MC := Lib.hid (made_part H4.out sT.1 Wt2.out Lt2.out Pt2.out)
          have hC := hS
          clear hS sT
          replace iA := iA.ext hC
          replace iB := iB.ext hC
          clear hA hB hC
          have HC3 := Lib.hid (And.intro (Nat.le_trans (Nat.le_of_eq MA.out.2.2) Lt0.out) (And.intro (Nat.le_trans (Nat.le_of_eq MB.out.2.2) Lt1.out) (Nat.le_trans (Nat.le_of_eq MC.out.2.2) Lt2.out)))
          go_wp2_with fail
          refine (cutJoin2_any P c _ A B w9 st.sch iA iB MA.out.1 MB.out.1 (two_le HC3.out.1 HC3.out.2.1)).mono ?_
          rintro e w10 ⟨X, m10, rfl, B10, S10, iX, kX⟩
          have s10 := st.does B10 S10.sch
          replace iA := st.sch.inh B10 iA
          replace iB := st.sch.inh B10 iB
          replace iC := st.sch.inh B10 iC
          have KX := Lib.hid kX
          clear B10 S10 kX st
          go_wp2_with fail
          refine (cutJoin2_any P c _ X C w10 s10.sch iX iC KX.out.may.part MC.out.1 (three_le KX.out.count HC3.out.1 HC3.out.2.1 HC3.out.2.2)).mono ?_
          rintro e w11 ⟨Z1, m11, rfl, B11, S11, iZ1, kZ1⟩
          have s11 := s10.does B11 S11.sch
          replace iA := s10.sch.inh B11 iA
          replace iB := s10.sch.inh B11 iB
          replace iC := s10.sch.inh B11 iC
          have KZ1 := Lib.hid kZ1
          clear B11 S11 kZ1 s10 iX
          go_wp2_with fail
          refine (cutJoin2_any P c _ B C w11 s11.sch iB iC MB.out.1 MC.out.1 (two_le HC3.out.2.1 HC3.out.2.2)).mono ?_
          rintro e w12 ⟨Y, m12, rfl, B12, S12, iY, kY⟩
          have s12 := s11.does B12 S12.sch
          replace iA := s11.sch.inh B12 iA
          replace iB := s11.sch.inh B12 iB
          replace iC := s11.sch.inh B12 iC
          replace iZ1 := s11.sch.inh B12 iZ1
          have KY := Lib.hid kY
          clear B12 S12 kY s11
          go_wp2_with fail
          refine (cutJoin2_any P c _ A Y w12 s12.sch iA iY MA.out.1 KY.out.may.part (three_le' KY.out.count HC3.out.1 HC3.out.2.1 HC3.out.2.2)).mono ?_
          rintro e w13 ⟨Z2, m13, rfl, B13, S13, iZ2, kZ2⟩
          have s13 := s12.does B13 S13.sch
          replace iA := s12.sch.inh B13 iA
          replace iB := s12.sch.inh B13 iB
          replace iC := s12.sch.inh B13 iC
          replace iZ1 := s12.sch.inh B13 iZ1
          have KZ2 := Lib.hid kZ2
          clear B13 S13 kZ2 s12 iY
          have HCN := Lib.hid (turn_counts KX.out.count KZ1.out.count KY.out.count KZ2.out.count HC3.out.1 HC3.out.2.1 HC3.out.2.2)
          have HAS := Lib.hid (BothC.assoc KX.out KZ1.out KY.out KZ2.out)
          have HL13 := Lib.hid s13.lt
          go_wp2_with fail
          refine (cutItems_any P c _ Z1 w13 iZ1 s13.sch (z_le HCN.out.1 HCN.out.2.2 (by decide))).mono ?_
          rintro e w14 ⟨v14, rfl, o14, B14, S14⟩
          have s14 := s13.does B14 S14
          replace iA := s13.sch.inh B14 iA
          replace iB := s13.sch.inh B14 iB
          replace iC := s13.sch.inh B14 iC
          replace iZ1 := s13.sch.inh B14 iZ1
          replace iZ2 := s13.sch.inh B14 iZ2
          obtain ⟨a14, c14, rfl⟩ := o14.sized
          have O14 := Lib.hid o14
          clear B14 S14 o14 s13
          have K1 := Lib.hid (show (ckV c Z1).2 = 0 from KZ1.out.may.ck H4.out (z_lt HCN.out.1 HCN.out.2.2 (by decide)))
          have K2 := Lib.hid (show (ckV c Z2).2 = 0 from KZ2.out.may.ck H4.out (z_lt HCN.out.2.1 HCN.out.2.2 (by decide)))
          go_wp2_with fail
          refine (schCheck_any s14.sch (T := Z1) iZ1 (fun h => KZ1.out.may.part.tags (by omega) H4.out (z_lt HCN.out.1 HCN.out.2.2 (by decide))) (z_le HCN.out.1 HCN.out.2.2 (by decide))).mono ?_
          rw [K1.out]
          rintro e w15 ⟨v, rfl, B15, S15, rfl⟩
          have s15 := s14.does B15 S15
          replace iA := s14.sch.inh B15 iA
          replace iB := s14.sch.inh B15 iB
          replace iC := s14.sch.inh B15 iC
          replace iZ1 := s14.sch.inh B15 iZ1
          replace iZ2 := s14.sch.inh B15 iZ2
          replace O14 := Lib.hid (O14.out.bt B15 (fun x hx => by rw [List.mem_singleton.1 hx]; exact HL13.out))
          clear B15 S15 s14
          go_wp2_with fail
          refine (schCheck_any s15.sch (T := Z2) iZ2 (fun h => KZ2.out.may.part.tags (by omega) H4.out (z_lt HCN.out.2.1 HCN.out.2.2 (by decide))) (z_le HCN.out.2.1 HCN.out.2.2 (by decide))).mono ?_
          rw [K2.out]
          rintro e w16 ⟨v, rfl, B16, S16, rfl⟩
          have s16 := s15.does B16 S16
          replace iA := s15.sch.inh B16 iA
          replace iB := s15.sch.inh B16 iB
          replace iC := s15.sch.inh B16 iC
          replace iZ1 := s15.sch.inh B16 iZ1
          replace iZ2 := s15.sch.inh B16 iZ2
          replace O14 := Lib.hid (O14.out.bt B16 (fun x hx => by rw [List.mem_singleton.1 hx]; exact HL13.out))
          clear B16 S16 s15
          obtain ⟨n01, hn1, hn2, HN01⟩ := three_sum (itsC_len c Z1) HCN.out.1 HCN.out.2.2 MA.out.2.2 MB.out.2.2 MC.out.2.2
          go_wp2_with fail
          clear hn2
          refine (cutItems_any P c _ Z2 w16 iZ2 s16.sch (z_le HCN.out.2.1 HCN.out.2.2 (by decide))).mono ?_
          rintro e w17 ⟨v17, rfl, o17, B17, S17⟩
          have s17 := s16.does B17 S17
          replace iA := s16.sch.inh B17 iA
          replace iB := s16.sch.inh B17 iB
          replace iC := s16.sch.inh B17 iC
          replace iZ1 := s16.sch.inh B17 iZ1
          replace iZ2 := s16.sch.inh B17 iZ2
          replace O14 := Lib.hid (O14.out.bt B17 (fun x hx => by rw [List.mem_singleton.1 hx]; exact HL13.out))
          have HSM := Lib.hid (same20_any w17 _ v17 _ O14.out.row (show IRow3 w17 v17 (itsC c Z1) by rw [HAS.out.1, ← HAS.out.2]; exact o17.row) (by rw [itsC_len]; exact z_le HCN.out.1 HCN.out.2.2 (by decide)))
          clear B17 S17 s16 o17
          go_wp2_with fail
          refine HSM.out.mono ?_
          rintro e w18 ⟨rfl, h18⟩
          have s18 := s17.more h18
          replace iA := iA.ext h18
          replace iB := iB.ext h18
          replace iC := iC.ext h18
          replace O14 := Lib.hid (O14.out.ext h18)
          clear h18 s17 HSM iZ1 iZ2
          have hrow := alloc_at w18 (.cells #[.pointer A.ptr, .pointer B.ptr, .pointer C.ptr] 29) _ rfl
          have hE := (Ext.refl w18).alloc (.cells #[.pointer A.ptr, .pointer B.ptr, .pointer C.ptr] 29)
          have HA := Lib.hid (cutAll3 (s18.more hE).sch s18.lt hrow (iA.ext hE) (iB.ext hE) (iC.ext hE) MA.out.1 MB.out.1 MC.out.1 HC3.out)
          replace s18 := s18.more hE
          replace iA := iA.ext hE
          replace iC := iC.ext hE
          replace O14 := Lib.hid (O14.out.ext hE)
          clear hrow hE iB
          go_wp2_with fail
          generalize w18.alloc (.cells #[.pointer A.ptr, .pointer B.ptr, .pointer C.ptr] 29) = w19 at *
          refine HA.out.mono ?_
          rintro e w20 ⟨V, m20, rfl, B20, S20, iV, hV⟩
          have s20 := s18.does B20 S20
          replace iA := s18.sch.inh B20 iA
          replace iC := s18.sch.inh B20 iC
          replace O14 := Lib.hid (O14.out.bt B20 (fun x hx => by rw [List.mem_singleton.1 hx]; exact HL13.out))
          have HV := Lib.hid (show itsC c V = itsC c Z1 by rw [hV, HAS.out.1])
          clear B20 S20 hV s18 HA
          have HCV := Lib.hid (show V.count = Z1.count by rw [← itsC_len c V, HV.out, itsC_len])
          go_wp2_with fail
          refine (cutItems_any P c _ V w20 iV s20.sch (by rw [HCV.out]; exact z_le HCN.out.1 HCN.out.2.2 (by decide))).mono ?_
          rintro e w21 ⟨v21, rfl, o21, B21, S21⟩
          have s21 := s20.does B21 S21
          replace iA := s20.sch.inh B21 iA
          replace iC := s20.sch.inh B21 iC
          replace O14 := Lib.hid (O14.out.bt B21 (fun x hx => by rw [List.mem_singleton.1 hx]; exact HL13.out))
          have HSM := Lib.hid (same20_any w21 _ v21 _ O14.out.row (show IRow3 w21 v21 (itsC c Z1) by rw [← HV.out]; exact o21.row) (by rw [itsC_len]; exact z_le HCN.out.1 HCN.out.2.2 (by decide)))
          clear B21 S21 s20 o21 iV
          go_wp2_with fail
          refine HSM.out.mono ?_
          rintro e w22 ⟨rfl, h22⟩
          have s22 := s21.more h22
          replace iA := iA.ext h22
          replace iC := iC.ext h22
          replace O14 := Lib.hid (O14.out.ext h22)
          clear h22 s21 HSM
          have hz := O14.out.sides
          rcases hz with ⟨rfl, rfl, h0x⟩ | ⟨g, rfl, hc14⟩
          · have he := turn_empty h0x HAS.out.1
            have H0 := Lib.hid he
            have HN0 := Lib.hid (turn_none (itsC_len c A) (itsC_len c B) MA.out.2.2 MB.out.2.2 HN01.out he.1 he.2.1 h0x)
            have hs1 : (t0.enc.length : Int) ≤ ((0 : Nat) : Int) := by rw [HN0.out.1]; exact Int.le_refl _
            have hs2 : (n01 : Int) ≤ ((itsC c Z1).length : Int) := by rw [HN0.out.2.1]; exact Int.natCast_nonneg _
            have hs3 : ((itsC c Z1).length : Int) ≤ ((0 : Nat) : Int) := by rw [h0x]; exact Int.le_refl _
            clear he h0x
            go_wp2_with fail
            have hfn : ∀ f, Fence.wide.fn f := fun _ => trivial
            obtain ⟨mm⟩ : Nonempty Nat := ⟨0⟩
            refine (wpIn_wide (n := mm)).1 ?_
            gi_wp2_with fail
            have hx := Ext.drew w22
            refine wpIn_region_G (fun j => !(List.contains (α := Nat) [6, 18] j)) (by kernel_rfl) ?_
            replace s22 := s22.more hx
            replace iA := iA.ext hx
            replace iC := iC.ext hx
            replace O14 := Lib.hid (O14.out.ext hx)
            generalize w22.drew = w23 at *
            refine takeGL hfn 0 (by kernel_rfl) rfl ?_
            repeat (go_big_quiet_step ((fail)))
            refine wpQuiet_nil ?_
            refine takeGL hfn 1 (by kernel_rfl) rfl ?_
            repeat (go_big_quiet_step ((fail)))
            refine wpQuiet_nil ?_
            refine takeGL hfn 2 (by kernel_rfl) rfl ?_
            repeat (go_big_quiet_step ((fail)))
            refine wpQuiet_nil ?_
            refine takeGL hfn 3 (by kernel_rfl) rfl ?_
            repeat (go_big_quiet_step ((fail)))
            refine wpQuiet_nil ?_
            refine takeGL hfn 4 (by kernel_rfl) rfl ?_
            repeat (go_big_quiet_step ((fail)))
            refine wpQuiet_nil ?_
            refine takeGL hfn 5 (by kernel_rfl) rfl ?_
            repeat (go_big_quiet_step ((fail)))
            refine wpQuiet_nil ?_
            refine wpAnyG_one (j := 6) (by kernel_rfl) rfl ?_
            gi_wp2_with fail
            refine ⟨wide_room _, (callsIn_wide.2 (cutItems_any P c _ A w23 iA s22.sch (Nat.le_trans HC3.out.1 (by decide)))).mono ?_⟩
            rintro e w24 ⟨v24, rfl, o24, B24, S24⟩
            have s24 := s22.does B24 S24
            replace iC := s22.sch.inh B24 iC
            replace O14 := Lib.hid (O14.out.bt B24 (fun x hx => by rw [List.mem_singleton.1 hx]; exact HL13.out))
            have HSM := Lib.hid (same20_any w24 _ v24 (itsC c A) (irow_zero (p := none) (k := 0) HN0.out.1 H0.out.1) o24.row (by rw [itsC_len]; exact Nat.le_trans HC3.out.1 (by decide)))
            clear B24 S24 s22 o24 iA hx
            gi_wp2_with fail
            refine onePost_any (by kernel_rfl) ?_
            refine wpAnyG_one (j := 7) (by kernel_rfl) rfl ?_
            gi_wp2_with fail
            refine ⟨wide_room _, (callsIn_wide.2 HSM.out).mono ?_⟩
            rintro e w25 ⟨rfl, h25⟩
            gi_wp2_with fail
            refine onePost_ext (h25) ?_
            have s25 := s24.more h25
            replace iC := iC.ext h25
            replace O14 := Lib.hid (O14.out.ext h25)
            clear h25 s24 HSM
            refine takeGL hfn 8 (by kernel_rfl) rfl ?_
            repeat (go_big_quiet_step ((fail)))
            refine wpQuiet_nil ?_
            refine takeGL hfn 9 (by kernel_rfl) rfl ?_
            repeat (go_big_quiet_step ((fail)))
            refine wpQuiet_nil ?_
            refine takeGL hfn 10 (by kernel_rfl) rfl ?_
            repeat (go_big_quiet_step ((fail)))
            refine wpQuiet_nil ?_
            refine takeGL hfn 11 (by kernel_rfl) rfl ?_
            repeat (go_big_quiet_step ((fail)))
            refine wpQuiet_nil ?_
            refine takeGL hfn 12 (by kernel_rfl) rfl ?_
            repeat (go_big_quiet_step ((fail)))
            refine wpQuiet_nil ?_
            refine takeGL hfn 13 (by kernel_rfl) rfl ?_
            repeat (go_big_quiet_step ((fail)))
            refine wpQuiet_nil ?_
            refine takeGL hfn 14 (by kernel_rfl) rfl ?_
            repeat (go_big_quiet_step ((fail)))
            refine wpQuiet_nil ?_
            refine takeGL hfn 15 (by kernel_rfl) rfl ?_
            repeat (go_big_quiet_step ((fail)))
            refine wpQuiet_nil ?_
            refine takeGL hfn 16 (by kernel_rfl) rfl ?_
            repeat (go_big_quiet_step ((fail)))
            refine wpQuiet_nil ?_
            refine takeGL hfn 17 (by kernel_rfl) rfl ?_
            repeat (go_big_quiet_step ((fail)))
            refine wpQuiet_nil ?_
            refine wpAnyG_one (j := 18) (by kernel_rfl) rfl ?_
            gi_wp2_with fail
            refine ⟨wide_room _, (callsIn_wide.2 (cutItems_any P c _ C w25 iC s25.sch (Nat.le_trans HC3.out.2.2 (by decide)))).mono ?_⟩
            rintro e w26 ⟨v26, rfl, o26, B26, S26⟩
            have s26 := s25.does B26 S26
            have HBK := Lib.hid (True.intro)
            have O26 := Lib.hid o26.row
            clear B26 S26 s25 o26 iC O14
            gi_wp2_with fail
            refine onePost_any (by kernel_rfl) ?_
            refine wpAnyG_one (j := 19) (by kernel_rfl) rfl ?_
            gi_wp2_with fail
            refine ⟨wide_room _, (callsIn_wide.2 (same20_any w26 _ v26 (itsC c C) (irow_zero (p := none) (k := 0) (n := (itsC c Z1).length - n01) HN0.out.2.2 H0.out.2.2) O26.out (by rw [itsC_len]; exact Nat.le_trans HC3.out.2.2 (by decide)))).mono ?_⟩
            rintro e w27 ⟨rfl, h27⟩
            gi_wp2_with fail
            refine onePost_ext (h27) ?_
            replace s26 := s26.more h27
            clear h27 HBK O26
            refine takeGL hfn 20 (by kernel_rfl) rfl ?_
            repeat (go_big_quiet_step ((fail)))
            refine wpQuiet_nil ?_
            refine takeGL hfn 21 (by kernel_rfl) rfl ?_
            repeat (go_big_quiet_step ((fail)))
            refine wpQuiet_nil ?_
            refine wpAnyG_one (j := 22) (by kernel_rfl) rfl ?_
            gi_wp2_with fail
            refine ⟨wide_room _, (callsIn_wide.2 (alive23_any w27)).mono ?_⟩
            rintro e w28 ⟨rfl, h28⟩
            gi_wp2_with fail
            refine onePost_ext (h28) ?_
            have HX := Lib.hid (s26.ext.trans h28)
            clear h28 s26
            refine takeGL hfn 23 (by kernel_rfl) rfl ?_
            repeat (go_big_quiet_step ((fail)))
            refine wpQuiet_nil ?_
            refine takeGL hfn 24 (by kernel_rfl) rfl ?_
            repeat (go_big_quiet_step ((fail)))
            refine wpQuiet_nil ?_
            refine wpAnyG_done (by kernel_rfl) ?_
            refine calmQ_normal ?_
            go_wp2
            go_ret
            exact Ret.mk HX.out
          · have hs1 : (t0.enc.length : Int) ≤ (c14 : Int) := turn_a (itsC_len c Z1) HCN.out.1 MA.out.2.2 hc14
            have hs2 : (n01 : Int) ≤ ((itsC c Z1).length : Int) := turn_b (itsC_len c Z1) HCN.out.1 MA.out.2.2 MB.out.2.2 HN01.out
            have hs3 : ((itsC c Z1).length : Int) ≤ (c14 : Int) := by omega
            have HC14 := Lib.hid hc14
            clear hc14
            go_wp2_with fail
            have hfn : ∀ f, Fence.wide.fn f := fun _ => trivial
            obtain ⟨mm⟩ : Nonempty Nat := ⟨0⟩
            refine (wpIn_wide (n := mm)).1 ?_
            gi_wp2_with fail
            have hx := Ext.drew w22
            refine wpIn_region_G (fun j => !(List.contains (α := Nat) [6, 18] j)) (by kernel_rfl) ?_
            replace s22 := s22.more hx
            replace iA := iA.ext hx
            replace iC := iC.ext hx
            replace O14 := Lib.hid (O14.out.ext hx)
            generalize w22.drew = w23 at *
            refine takeGL hfn 0 (by kernel_rfl) rfl ?_
            repeat (go_big_quiet_step ((fail)))
            refine wpQuiet_nil ?_
            refine takeGL hfn 1 (by kernel_rfl) rfl ?_
            repeat (go_big_quiet_step ((fail)))
            refine wpQuiet_nil ?_
            refine takeGL hfn 2 (by kernel_rfl) rfl ?_
            repeat (go_big_quiet_step ((fail)))
            refine wpQuiet_nil ?_
            refine takeGL hfn 3 (by kernel_rfl) rfl ?_
            repeat (go_big_quiet_step ((fail)))
            refine wpQuiet_nil ?_
            refine takeGL hfn 4 (by kernel_rfl) rfl ?_
            repeat (go_big_quiet_step ((fail)))
            refine wpQuiet_nil ?_
            refine takeGL hfn 5 (by kernel_rfl) rfl ?_
            repeat (go_big_quiet_step ((fail)))
            refine wpQuiet_nil ?_
            refine wpAnyG_one (j := 6) (by kernel_rfl) rfl ?_
            gi_wp2_with fail
            refine ⟨wide_room _, (callsIn_wide.2 (cutItems_any P c _ A w23 iA s22.sch (Nat.le_trans HC3.out.1 (by decide)))).mono ?_⟩
            rintro e w24 ⟨v24, rfl, o24, B24, S24⟩
            have s24 := s22.does B24 S24
            replace iC := s22.sch.inh B24 iC
            replace O14 := Lib.hid (O14.out.bt B24 (fun x hx => by rw [List.mem_singleton.1 hx]; exact HL13.out))
            have HSM := Lib.hid (same20_any w24 _ v24 (itsC c A) (O14.out.front (k := t0.enc.length) (turn_front (itsC_len c A) MA.out.2.2 HAS.out.1)) o24.row (by rw [itsC_len]; exact Nat.le_trans HC3.out.1 (by decide)))
            clear B24 S24 s22 o24 iA hx
            gi_wp2_with fail
            refine onePost_any (by kernel_rfl) ?_
            refine wpAnyG_one (j := 7) (by kernel_rfl) rfl ?_
            gi_wp2_with fail
            refine ⟨wide_room _, (callsIn_wide.2 HSM.out).mono ?_⟩
            rintro e w25 ⟨rfl, h25⟩
            gi_wp2_with fail
            refine onePost_ext (h25) ?_
            have s25 := s24.more h25
            replace iC := iC.ext h25
            replace O14 := Lib.hid (O14.out.ext h25)
            clear h25 s24 HSM
            refine takeGL hfn 8 (by kernel_rfl) rfl ?_
            repeat (go_big_quiet_step ((fail)))
            refine wpQuiet_nil ?_
            refine takeGL hfn 9 (by kernel_rfl) rfl ?_
            repeat (go_big_quiet_step ((fail)))
            refine wpQuiet_nil ?_
            refine takeGL hfn 10 (by kernel_rfl) rfl ?_
            repeat (go_big_quiet_step ((fail)))
            refine wpQuiet_nil ?_
            refine takeGL hfn 11 (by kernel_rfl) rfl ?_
            repeat (go_big_quiet_step ((fail)))
            refine wpQuiet_nil ?_
            refine takeGL hfn 12 (by kernel_rfl) rfl ?_
            repeat (go_big_quiet_step ((fail)))
            refine wpQuiet_nil ?_
            refine takeGL hfn 13 (by kernel_rfl) rfl ?_
            repeat (go_big_quiet_step ((fail)))
            refine wpQuiet_nil ?_
            refine takeGL hfn 14 (by kernel_rfl) rfl ?_
            repeat (go_big_quiet_step ((fail)))
            refine wpQuiet_nil ?_
            refine takeGL hfn 15 (by kernel_rfl) rfl ?_
            repeat (go_big_quiet_step ((fail)))
            refine wpQuiet_nil ?_
            refine takeGL hfn 16 (by kernel_rfl) rfl ?_
            repeat (go_big_quiet_step ((fail)))
            refine wpQuiet_nil ?_
            refine takeGL hfn 17 (by kernel_rfl) rfl ?_
            repeat (go_big_quiet_step ((fail)))
            refine wpQuiet_nil ?_
            refine wpAnyG_one (j := 18) (by kernel_rfl) rfl ?_
            gi_wp2_with fail
            · refine ⟨wide_room _, (callsIn_wide.2 (cutItems_any P c _ C w25 iC s25.sch (Nat.le_trans HC3.out.2.2 (by decide)))).mono ?_⟩
              rintro e w26 ⟨v26, rfl, o26, B26, S26⟩
              have s26 := s25.does B26 S26
              have HBK := Lib.hid ((O14.out.bt B26 (fun x hx => by rw [List.mem_singleton.1 hx]; exact HL13.out)).back (turn_back (itsC_len c A) (itsC_len c B) MA.out.2.2 MB.out.2.2 HN01.out HAS.out.1))
              have O26 := Lib.hid o26.row
              clear B26 S26 s25 o26 iC O14
              gi_wp2_with fail
              refine onePost_any (by kernel_rfl) ?_
              refine wpAnyG_one (j := 19) (by kernel_rfl) rfl ?_
              gi_wp2_with fail
              refine ⟨wide_room _, (callsIn_wide.2 (same20_any w26 _ v26 (itsC c C) (HBK.out.1 (by assumption)) O26.out (by rw [itsC_len]; exact Nat.le_trans HC3.out.2.2 (by decide)))).mono ?_⟩
              rintro e w27 ⟨rfl, h27⟩
              gi_wp2_with fail
              refine onePost_ext (h27) ?_
              replace s26 := s26.more h27
              clear h27 HBK O26
              refine takeGL hfn 20 (by kernel_rfl) rfl ?_
              repeat (go_big_quiet_step ((fail)))
              refine wpQuiet_nil ?_
              refine takeGL hfn 21 (by kernel_rfl) rfl ?_
              repeat (go_big_quiet_step ((fail)))
              refine wpQuiet_nil ?_
              refine wpAnyG_one (j := 22) (by kernel_rfl) rfl ?_
              gi_wp2_with fail
              refine ⟨wide_room _, (callsIn_wide.2 (alive23_any w27)).mono ?_⟩
              rintro e w28 ⟨rfl, h28⟩
              gi_wp2_with fail
              refine onePost_ext (h28) ?_
              have HX := Lib.hid (s26.ext.trans h28)
              clear h28 s26
              refine takeGL hfn 23 (by kernel_rfl) rfl ?_
              repeat (go_big_quiet_step ((fail)))
              refine wpQuiet_nil ?_
              refine takeGL hfn 24 (by kernel_rfl) rfl ?_
              repeat (go_big_quiet_step ((fail)))
              refine wpQuiet_nil ?_
              refine wpAnyG_done (by kernel_rfl) ?_
              refine calmQ_normal ?_
              go_wp2
              go_ret
              exact Ret.mk HX.out
            · refine ⟨wide_room _, (callsIn_wide.2 (cutItems_any P c _ C w25 iC s25.sch (Nat.le_trans HC3.out.2.2 (by decide)))).mono ?_⟩
              rintro e w26 ⟨v26, rfl, o26, B26, S26⟩
              have s26 := s25.does B26 S26
              have HBK := Lib.hid ((O14.out.bt B26 (fun x hx => by rw [List.mem_singleton.1 hx]; exact HL13.out)).back (turn_back (itsC_len c A) (itsC_len c B) MA.out.2.2 MB.out.2.2 HN01.out HAS.out.1))
              have O26 := Lib.hid o26.row
              clear B26 S26 s25 o26 iC O14
              gi_wp2_with fail
              refine onePost_any (by kernel_rfl) ?_
              refine wpAnyG_one (j := 19) (by kernel_rfl) rfl ?_
              gi_wp2_with fail
              refine ⟨wide_room _, (callsIn_wide.2 (same20_any w26 _ v26 (itsC c C) (HBK.out.2) O26.out (by rw [itsC_len]; exact Nat.le_trans HC3.out.2.2 (by decide)))).mono ?_⟩
              rintro e w27 ⟨rfl, h27⟩
              gi_wp2_with fail
              refine onePost_ext (h27) ?_
              replace s26 := s26.more h27
              clear h27 HBK O26
              refine takeGL hfn 20 (by kernel_rfl) rfl ?_
              repeat (go_big_quiet_step ((fail)))
              refine wpQuiet_nil ?_
              refine takeGL hfn 21 (by kernel_rfl) rfl ?_
              repeat (go_big_quiet_step ((fail)))
              refine wpQuiet_nil ?_
              refine wpAnyG_one (j := 22) (by kernel_rfl) rfl ?_
              gi_wp2_with fail
              refine ⟨wide_room _, (callsIn_wide.2 (alive23_any w27)).mono ?_⟩
              rintro e w28 ⟨rfl, h28⟩
              gi_wp2_with fail
              refine onePost_ext (h28) ?_
              have HX := Lib.hid (s26.ext.trans h28)
              clear h28 s26
              refine takeGL hfn 23 (by kernel_rfl) rfl ?_
              repeat (go_big_quiet_step ((fail)))
              refine wpQuiet_nil ?_
              refine takeGL hfn 24 (by kernel_rfl) rfl ?_
              repeat (go_big_quiet_step ((fail)))
              refine wpQuiet_nil ?_
              refine wpAnyG_done (by kernel_rfl) ?_
              refine calmQ_normal ?_
              go_wp2
              go_ret
              exact Ret.mk HX.out
  · have HOF := Lib.hid (of22_no c hc h4 w)
    have HPP := Lib.hid (fun W => parted_no c h4 (.slice a0 len0 cap0) W)
    have H4 := Lib.hid h4
    clear h4 w0 w1 w2
    go_enter Tryz.func3, Tryz.ntmps3
    go_wp2_with fail
    refine HOF.out.mono ?_
    rintro e w3 ⟨rfl, hx⟩
    go_wp2_with fail
    refine (HPP.out w3).mono ?_
    rintro e w4 ⟨rfl, hS⟩
    replace hx := hx.trans hS
    clear hS
    go_wp2_with fail
    refine (is22_any c _).mono ?_
    rw [decide_eq_false H4.out]
    rintro e w21 ⟨rfl, hS⟩
    replace hx := hx.trans hS
    clear hS
    go_wp2_with fail
    refine (alive23_any _).mono ?_
    rintro e w22 ⟨rfl, hS⟩
    replace hx := hx.trans hS
    clear hS
    go_wp2
    go_ret
    exact Ret.mk hx
theorem cutTurns_row (c : Int) (a0 : Option Addr) (len0 cap0 : Nat) (z0 : List BeadL) (a1 : Option Addr) (len1 cap1 : Nat) (z1 : List BeadL) (a2 : Option Addr) (len2 cap2 : Nat) (z2 : List BeadL) (w : World) (hc : (Lit.int .u8 c).wf = true)
    (w0 : IsBeads w (.slice a0 len0 cap0) z0) (w1 : IsBeads w (.slice a1 len1 cap1) z1) (w2 : IsBeads w (.slice a2 len2 cap2) z2) :
    Calls Tryz.prog 3 #[.int .u8 c, .slice a0 len0 cap0, .slice a1 len1 cap1, .slice a2 len2 cap2] w (Ret (.bool true) w) := by
  obtain ⟨m, rfl, hm⟩ := u8_nat hc
  exact cutTurns_walk m hm a0 len0 cap0 z0 a1 len1 cap1 z1 a2 len2 cap2 z2 w w0 w1 w2
end Go.Proofs.YtnhbcildpdhgnaaGreat
