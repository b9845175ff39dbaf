/- rbjoin.Join, Most; joineryref17; joinerylaw17.long, alive; the walk of RbJoins. rbjoin.Most; joineryref17; joinerylaw17.long, alive; the walk of RbJoins. -/
import Derived.Test.YtoiohjifjmejkaaGreatM13
import Derived.Test.YtoiohjifjmejkaaGreatM14
import Derived.Test.YtoiohjifjmejkaaGreatM19
namespace Go.Proofs.YtoiohjifjmejkaaGreat
open Go Go.RowKit

/-- what a tree is that is made black. -/
def BlackOf (n : Nat) (T u : Tr) : Prop := (rbRed T = false ∧ u = T) ∨ (rbRed T = true ∧ ∃ b, n ≤ b ∧ u = .node b T.left T.key T.val (IntKind.u64.wrap (T.tag + 1)) T.right)
theorem black_h {T u : Tr} {n b : Nat} {c : Bool} (h : RbH T b c) (hb : b < 1000000) (hu : BlackOf n T u) : RbH u (b + (if c then 1 else 0)) false := by
  rcases hu with ⟨h1, rfl⟩ | ⟨h1, b', -, rfl⟩
  · rw [h.red] at h1; subst h1; exact h
  · rw [h.red] at h1; subst h1
    cases T with
    | nil => exact absurd h.2 (by simp)
    | node b0 l k v g r =>
      obtain ⟨a1, a2, a3⟩ := h
      exact ⟨b, false, false, rfl, a1, a2, by simp only [Tr.tag_node]; rw [u64_mod, a3]; simp; omega⟩
theorem black_kvs {T u : Tr} {n : Nat} (hu : BlackOf n T u) : u.kvs = T.kvs := by
  rcases hu with ⟨-, rfl⟩ | ⟨h1, b', -, rfl⟩
  · rfl
  · cases T with
    | nil => rw [show rbRed .nil = false by decide +kernel] at h1; cases h1
    | node b0 l k v g r => rfl
theorem black_old {T u : Tr} {n : Nat} (hu : BlackOf n T u) : ∀ x ∈ u.pre, x.blk < n → x ∈ T.pre := by
  rcases hu with ⟨-, rfl⟩ | ⟨h1, b', hb, rfl⟩
  · exact fun x hx _ => hx
  · cases T with
    | nil => rw [show rbRed .nil = false by decide +kernel] at h1; cases h1
    | node b0 l k v g r =>
      intro x hx hn
      simp only [Tr.pre, List.mem_cons, List.mem_append, Tr.left_node, Tr.right_node] at hx ⊢
      rcases hx with rfl | hx | hx
      · exact absurd hn (by show ¬ b' < n; omega)
      · exact .inr (.inl hx)
      · exact .inr (.inr hx)
/-- how many nodes are new of one that is made black: of an old one; of a new one. -/
theorem black_news {T u : Tr} {n : Nat} (h0 : T.news n = 0) (hu : BlackOf n T u) : u.news n ≤ 1 ∧ u.left.news n = 0 ∧ u.right.news n = 0 := by
  have hs : T.left.news n = 0 ∧ T.right.news n = 0 := by
    cases T with
    | nil => exact ⟨rfl, rfl⟩
    | node b l k v g r => rw [Tr.news] at h0; simp only [Tr.left_node, Tr.right_node]; omega
  rcases hu with ⟨-, rfl⟩ | ⟨-, b', hb, rfl⟩
  · exact ⟨by omega, hs.1, hs.2⟩
  · rw [Tr.news, hs.1, hs.2, if_pos hb]
    exact ⟨by omega, hs.1, hs.2⟩
theorem black_same {T u : Tr} {n : Nat} (ht : n ≤ T.blk) (hnn : T ≠ .nil) (hu : BlackOf n T u) : u.news n = T.news n ∧ n ≤ u.blk ∧ u ≠ .nil := by
  rcases hu with ⟨-, rfl⟩ | ⟨-, b', hb, rfl⟩
  · exact ⟨rfl, ht, hnn⟩
  · cases T with
    | nil => exact (hnn rfl).elim
    | node b l k v g r => exact ⟨by rw [Tr.news, Tr.news, if_pos hb, if_pos (show n ≤ b from ht)]; rfl, hb, by simp⟩
/-- what a join of two parts is: p, q the black heights of both, made black. -/
structure RJoinOk (n : Nat) (l r : Tr) (p q : Nat) (k v : Int) (T : Tr) : Prop where
  ex : ∃ b, RbH T b false ∧ (b = max p q ∨ b = max p q + 1) ∧ T.news n + 2 * min p q ≤ 2 * max p q + 3
  kvs : T.kvs = l.kvs ++ (k, v) :: r.kvs
  old : ∀ x ∈ T.pre, x.blk < n → x ∈ l.pre ∨ x ∈ r.pre
  top : n ≤ T.blk
  nn : T ≠ .nil
theorem rjoin_hang {n : Nat} {s : Bool} {t t0 low low0 X T : Tr} {b q : Nat} {k v : Int} (hx : RHang n s t low b false q k v X) (hb : b < 100000) (_hqb : q < b) (hu : BlackOf n X T) (ht : BlackOf n t0 t) (hl : BlackOf n low0 low) (nl : low.news n ≤ 1) :
    (∃ c, RbH T c false ∧ (c = b ∨ c = b + 1) ∧ T.news n + 2 * q ≤ 2 * b + 2) ∧ T.kvs = both s t0.kvs [(k, v)] low0.kvs ∧ (∀ x ∈ T.pre, x.blk < n → x ∈ t0.pre ∨ x ∈ low0.pre) ∧ n ≤ T.blk ∧ T ≠ .nil := by
  obtain ⟨cx, h1, -⟩ := hx.black rfl
  obtain ⟨s1, s2, s3⟩ := black_same hx.top hx.nn hu
  have hn := hx.news
  refine ⟨⟨_, black_h h1 (by omega) hu, by cases cx <;> simp, by rw [s1]; simp at hn; omega⟩, by rw [black_kvs hu, hx.kvs, black_kvs ht, black_kvs hl], fun x hxx hlt => ?_, s2, s3⟩
  rcases hx.old x (black_old hu x hxx hlt) hlt with h | h
  · exact .inl (black_old ht x h hlt)
  · exact .inr (black_old hl x h hlt)
/-- what a join hands back. -/
def RJoins (n : Nat) (l r : Tr) (p q : Nat) (k v : Int) (w : World) (e : Ending) (w' : World) : Prop :=
  ∃ T : Tr, e = .returned (.pointer T.ptr) ∧ RJoinOk n l r p q k v T ∧ InH w' T ∧ Ext w w'
theorem blackOf_mono {n m : Nat} {T u : Tr} (h : BlackOf m T u) (hnm : n ≤ m) : BlackOf n T u := by
  rcases h with h | ⟨h1, b, h2, h3⟩
  · exact .inl h
  · exact .inr ⟨h1, b, Nat.le_trans hnm h2, h3⟩
set_option maxHeartbeats 2000000 in
theorem rbJoin_any (n : Nat) (w : World) (l r : Tr) (k v : Int) (p q : Nat) (cl cr : Bool) (hn : n ≤ w.heap.size) (hl : InH w l) (hr : InH w r) (al : RbH l p cl) (ar : RbH r q cr) (hp : p < 90000) (hq : q < 90000) (nl : l.news n = 0) (nr : r.news n = 0) :
    Calls Tryz.prog 75 #[.pointer l.ptr, .int .i64 k, .int .i64 v, .pointer r.ptr] w (RJoins n l r (p + if cl then 1 else 0) (q + if cr then 1 else 0) k v w) := by
  have TL := Lib.hid (al.tags (by omega))
  have TR := Lib.hid (ar.tags (by omega))
  have AL := Lib.hid al
  have AR := Lib.hid ar
  have NL := Lib.hid nl
  have NR := Lib.hid nr
  have hx := Ext.refl w
  clear al ar nl nr
  obtain ⟨p', ep⟩ : ∃ p', p' = p + if cl then 1 else 0 := ⟨_, rfl⟩
  obtain ⟨q', eq⟩ : ∃ q', q' = q + if cr then 1 else 0 := ⟨_, rfl⟩
  rw [← ep, ← eq]
  have hp' : p' < 90001 := by rw [ep]; split <;> omega
  have hq' : q' < 90001 := by rw [eq]; split <;> omega
  have EP := Lib.hid ep
  have EQ := Lib.hid eq
  clear ep eq
  go_enter Tryz.func75, Tryz.ntmps75
  go_wp2_with fail
  refine (rbBlacken_any w l hl TL.out).mono ?_
  rintro e w1 ⟨L, rfl, hL, h1, hor⟩
  have BL : Hid (BlackOf n l L) := Lib.hid (blackOf_mono hor hn)
  clear hor
  replace hx := hx.trans h1
  go_wp2_with fail
  refine (rbBlacken_any w1 r (hr.ext h1) TR.out).mono ?_
  rintro e w2 ⟨R, rfl, hR, h2, hor⟩
  have BR : Hid (BlackOf n r R) := Lib.hid (blackOf_mono hor (Nat.le_trans hn hx.size))
  clear hor hl hr
  replace hx := hx.trans h2
  replace hL := hL.ext h2
  clear h1 h2
  have HL : Hid (RbH L p' false) := Lib.hid (by rw [EP.out]; exact black_h AL.out (by omega) BL.out)
  have HR : Hid (RbH R q' false) := Lib.hid (by rw [EQ.out]; exact black_h AR.out (by omega) BR.out)
  have TL := Lib.hid (HL.out.tags (by omega))
  have TR := Lib.hid (HR.out.tags (by omega))
  have NL := Lib.hid (black_news NL.out BL.out)
  have NR := Lib.hid (black_news NR.out BR.out)
  go_wp2_with fail
  refine (rbMake_any _ .nil .nil k v false trivial trivial trivial).mono ?_
  rintro e w3 ⟨bp, rfl, _, hP, hS⟩
  replace hx := hx.trans hS
  replace hL := hL.ext hS
  replace hR := hR.ext hS
  clear hS
  obtain ⟨P, eP⟩ : ∃ P, P = Tr.node bp .nil k v (rbTag .nil false) .nil := ⟨_, rfl⟩
  rw [← eP] at hP ⊢
  have HPK := Lib.hid (show P.key = k ∧ P.val = v by rw [eP]; exact ⟨rfl, rfl⟩)
  clear eP
  go_wp2_with fail
  refine (rbHigh_any _ L hL TL.out).mono ?_
  rw [HL.out.hi]
  rintro e w4 ⟨rfl, hS⟩
  replace hx := hx.trans hS
  replace hL := hL.ext hS
  replace hR := hR.ext hS
  replace hP := hP.ext hS
  clear hS
  go_wp2_with fail
  refine (rbHigh_any _ R hR TR.out).mono ?_
  rw [HR.out.hi]
  rintro e w5 ⟨rfl, hS⟩
  replace hx := hx.trans hS
  replace hL := hL.ext hS
  replace hR := hR.ext hS
  replace hP := hP.ext hS
  clear hS
  by_cases c1 : q' < p'
  · have c1' : (q' : Int) < (p' : Int) := by omega
    go_wp2_with fail
    refine (rhang_any true n P R q' HR.out L w5 p' false (Nat.le_trans hn hx.size) hL hP hR HL.out (by omega) (by omega) NL.out.2.1 NL.out.2.2 (.inl c1)).mono ?_
    rw [HPK.out.1, HPK.out.2]
    rintro e w6 ⟨X, rfl, hok, hX, hS⟩
    replace hx := hx.trans hS
    have HOK := Lib.hid hok
    have TX : Hid (TagsOk X) := Lib.hid (by obtain ⟨cx, h1, -⟩ := hok.black rfl; exact h1.tags (by omega))
    clear hok hS
    go_wp2_with fail
    refine (rbBlacken_any _ X hX TX.out).mono ?_
    rintro e w7 ⟨T, rfl, hT, hS, hor⟩
    have BT' : Hid (BlackOf n X T) := Lib.hid (blackOf_mono hor (Nat.le_trans hn hx.size))
    clear hor
    go_wp2
    go_ret
    obtain ⟨⟨c, r1, r2, r3⟩, r4, r5, r6, r7⟩ := rjoin_hang HOK.out (by omega) c1 BT'.out BL.out BR.out NR.out.1
    exact ⟨T, rfl, ⟨⟨c, r1, by omega, by omega⟩, by rw [r4]; simp [both], r5, r6, r7⟩, hT, hx.trans hS⟩
  · have c1' : ¬ (q' : Int) < (p' : Int) := by omega
    by_cases c2 : p' < q'
    · have c2' : (p' : Int) < (q' : Int) := by omega
      go_wp2_with fail
      refine (rhang_any false n P L p' HL.out R w5 q' false (Nat.le_trans hn hx.size) hR hP hL HR.out (by omega) (by omega) NR.out.2.2 NR.out.2.1 (.inl c2)).mono ?_
      rw [HPK.out.1, HPK.out.2]
      rintro e w6 ⟨X, rfl, hok, hX, hS⟩
      replace hx := hx.trans hS
      have HOK := Lib.hid hok
      have TX : Hid (TagsOk X) := Lib.hid (by obtain ⟨cx, h1, -⟩ := hok.black rfl; exact h1.tags (by omega))
      clear hok hS
      go_wp2_with fail
      refine (rbBlacken_any _ X hX TX.out).mono ?_
      rintro e w7 ⟨T, rfl, hT, hS, hor⟩
      have BT' : Hid (BlackOf n X T) := Lib.hid (blackOf_mono hor (Nat.le_trans hn hx.size))
      clear hor
      go_wp2
      go_ret
      obtain ⟨⟨c, r1, r2, r3⟩, r4, r5, r6, r7⟩ := rjoin_hang HOK.out (by omega) c2 BT'.out BR.out BL.out NL.out.1
      exact ⟨T, rfl, ⟨⟨c, r1, by omega, by omega⟩, by rw [r4]; simp [both], fun x hx hlt => (r5 x hx hlt).symm, r6, r7⟩, hT, hx.trans hS⟩
    · have c2' : ¬ (p' : Int) < (q' : Int) := by omega
      obtain rfl : p' = q' := by omega
      go_wp2_with fail
      refine (rbMake_any _ L R k v false hL hR TL.out).mono ?_
      rintro e w6 ⟨b6, rfl, hb6, hT, hS⟩
      go_wp2
      go_ret
      refine ⟨_, rfl, ⟨⟨p' + 1, ?_, by omega, ?_⟩, ?_, ?_, ?_, by simp⟩, hT, hx.trans hS⟩
      · exact (mk_black (s := true)).2 ⟨p', false, false, rfl, HL.out, HR.out, by have := hi_tag HL.out (by omega) false; simp at this; rw [this]; omega⟩
      · rw [Tr.news, if_pos (Nat.le_trans hn (Nat.le_trans hx.size hb6))]
        have := NL.out.1
        have := NR.out.1
        omega
      · rw [Tr.kvs, black_kvs BL.out, black_kvs BR.out]
      · intro x hxx hlt
        simp only [Tr.pre, List.mem_cons, List.mem_append] at hxx
        rcases hxx with rfl | h | h
        · exact absurd hlt (by show ¬ b6 < n; have := hx.size; omega)
        · exact .inl (black_old BL.out x h hlt)
        · exact .inr (black_old BR.out x h hlt)
      · show n ≤ b6
        have := hx.size; omega
end Go.Proofs.YtoiohjifjmejkaaGreat
namespace Go.Proofs.YtoiohjifjmejkaaGreat
open Go Go.RowKit

theorem RbH.hiB {T : Tr} {b : Nat} {c : Bool} (h : RbH T b c) (hb : b < 1000000) : Proofs.YtoiohjifjmejkaaGreat.hiB T = ((b + if c then 1 else 0 : Nat) : Int) := by
  unfold Proofs.YtoiohjifjmejkaaGreat.hiB
  rw [h.red, h.hi]
  cases c
  · simp
  · simp only [if_true]
    rw [h.tag, u64_mod]; simp; omega
theorem rank_h {T : Tr} {b : Nat} {c : Bool} (h : RbH T b c) (hb : b < 1000000) : wrap64 (2 * Proofs.YtoiohjifjmejkaaGreat.hiB T) = ((2 * (b + if c then 1 else 0) : Nat) : Int) := by
  rw [h.hiB hb]
  cases c <;> simp <;> unfold wrap64 <;> omega
theorem rbRankH_any (w : World) (T : Tr) (b : Nat) (c : Bool) (hT : InH w T) (h : RbH T b c) (hb : b < 1000000) : Calls Tryz.prog 78 #[.pointer T.ptr] w (Ret (.int .i64 ((2 * (b + if c then 1 else 0) : Nat) : Int)) w) := by
  rw [← rank_h h hb]
  exact rbRank_any w T hT (h.tags hb)
set_option maxHeartbeats 400000 in
theorem rbMost_any (w : World) (l r : Tr) (p q : Nat) (cl cr : Bool) (hl : InH w l) (hr : InH w r) (al : RbH l p cl) (ar : RbH r q cr) (hp : p < 90000) (hq : q < 90000) (p' q' : Nat) (ep : p' = p + if cl then 1 else 0) (eq : q' = q + if cr then 1 else 0) :
    Calls Tryz.prog 79 #[.pointer l.ptr, .pointer r.ptr] w (Ret (.int .i64 (2 * (max p' q' : Nat) - 2 * (min p' q' : Nat) + 3)) w) := by
  have H1 := Lib.hid (rbRankH_any w l p cl hl al (by omega))
  have H2 := Lib.hid (fun W h => rbRankH_any W r q cr h ar (by omega))
  rw [← ep] at H1
  rw [← eq] at H2
  have b1 : p' < 100000 := by rw [ep]; split <;> omega
  have b2 : q' < 100000 := by rw [eq]; split <;> omega
  have hx := Ext.refl w
  obtain ⟨M, hM⟩ : ∃ M : Int, M = (2 * (max p' q' : Nat) - 2 * (min p' q' : Nat) + 3 : Int) := ⟨_, rfl⟩
  rw [← hM]
  have HM := Lib.hid hM
  clear hM ep eq al ar
  go_enter Tryz.func79, Tryz.ntmps79
  go_wp2_with fail
  refine (H1.out).mono ?_
  rintro e w1 ⟨rfl, hS⟩
  replace hx := hx.trans hS
  replace hr := hr.ext hS
  clear hS
  go_wp2_with fail
  refine (H2.out _ hr).mono ?_
  rintro e w2 ⟨rfl, hS⟩
  replace hx := hx.trans hS
  clear hS
  rcases Nat.lt_or_ge p' q' with h | h
  all_goals
    go_wp2
    all_goals
      go_ret
      exact ⟨ret_int (by rw [HM.out]; omega), hx⟩
theorem fits_rbPart : ∀ {t : BT} {A B : Tr}, t.fits A → t.fits B → rbPart A = rbPart B ∧ hi A = hi B ∧ col A = col B
  | .nil, .nil, .nil, _, _ => ⟨rfl, rfl, rfl⟩
  | .nil, .node .., _, h, _ => h.elim
  | .nil, .nil, .node .., _, h => h.elim
  | .node .., .nil, _, h, _ => h.elim
  | .node .., .node .., .nil, _, h => h.elim
  | .node k v s n g l r, .node _ L _ _ _ R, .node _ L' _ _ _ R', h, h' => by
    obtain ⟨l1, l2, l3⟩ := fits_rbPart h.2.2.2.1 h'.2.2.2.1
    obtain ⟨r1, r2, r3⟩ := fits_rbPart h.2.2.2.2 h'.2.2.2.2
    have eh := h.2.2.1.symm.trans h'.2.2.1
    subst eh
    have e1 : rbTag L false = rbTag L' false := by unfold rbTag; rw [l2]
    refine ⟨?_, rfl, rfl⟩
    rw [rbPart_node, rbPart_node, l1, r1]
    simp only [rbOne, rbBadTag, rbBadTree, Tr.tag_node, Tr.left_node, Tr.right_node, l2, l3, r2, r3, e1]
    rfl
/-- a row of beads of a part, and not too long. -/
def GoodP (zs : List BeadL) (t : BT) : Prop := t.enc = zs ∧ zs.length ≤ 400 ∧ rbPart t.tr = true
/-- what is known of a tree that is made of such a row. -/
theorem goodP_tree {zs : List BeadL} {t : BT} {A : Tr} (hg : GoodP zs t) (hf : t.fits A) (hz : ∀ z ∈ zs, z.wf) : (∃ b c, RbH A b c ∧ b ≤ 400) ∧ A.count ≤ 400 ∧ TagsOk A := by
  obtain ⟨rfl, h1, h2⟩ := hg
  have hc : A.count ≤ 400 := by unfold Tr.count; rw [BT.fits_len hf]; exact h1
  have ho := fits_tagsOk t A hf hz
  have hp : rbPart A = true := by rw [(fits_rbPart hf t.tr_fits).1]; exact h2
  obtain ⟨f1, f2, f3, f4⟩ := part_facts A hp ho (by omega)
  have hlt : (hi A).toNat < 2 ^ (hi A).toNat := Nat.lt_two_pow_self
  exact ⟨⟨_, _, RbH.of_part hp ho (by omega), by omega⟩, hc, ho⟩
theorem rjoin_count {n : Nat} {l r T : Tr} {p q : Nat} {k v : Int} (h : RJoinOk n l r p q k v T) : T.count = l.count + 1 + r.count := by
  rw [← Tr.kvs_count, h.kvs, ← Tr.kvs_count, ← Tr.kvs_count]; simp; omega
end Go.Proofs.YtoiohjifjmejkaaGreat
