/- pick: what is taken of a tree, and what is not; the plain law, and the going down (Parts$1). -/
import Derived.Test.YtoiohjifjmejkaaGreatM43
import Derived.Test.YtoiohjifjmejkaaGreatM45
import Derived.Test.YtoiohjifjmejkaaGreatM46
namespace Go.Proofs.YtoiohjifjmejkaaGreat
open Go Go.RowKit

/-- a tree that is what is taken, and one that is what is not. -/
structure PartsC (c : Nat) (f : Int × Int × Int → Bool) (T A B : Tr) : Prop where
  mayA : MayC c A
  mayB : MayC c B
  itsA : itsC c A = (itsC c T).filter f
  itsB : itsC c B = (itsC c T).filter (fun z => !f z)
theorem PartsC.nil (c : Nat) (f : Int × Int × Int → Bool) : PartsC c f .nil .nil .nil :=
  ⟨MayC.nil c, MayC.nil c, by rw [itsC_nil]; rfl, by rw [itsC_nil]; rfl⟩
theorem filter_both3 (f : Int × Int × Int → Bool) : ∀ (l : List (Int × Int × Int)), (l.filter f).length + (l.filter (fun z => !f z)).length = l.length
  | [] => rfl
  | z :: l => by
    have h := filter_both3 f l
    cases hz : f z <;> simp [hz] <;> omega
theorem PartsC.count {c : Nat} {f : Int × Int × Int → Bool} {T A B : Tr} (h : PartsC c f T A B) : A.count + B.count = T.count := by
  rw [← itsC_len c A, ← itsC_len c B, ← itsC_len c T, h.itsA, h.itsB, filter_both3]
theorem PartsC.yes {c n b : Nat} {f : Int × Int × Int → Bool} {l r A B C D U V : Tr} {k v g : Int} (hl : PartsC c f l A B) (hr : PartsC c f r C D) (hf : f (rootIt c (.node b l k v g r)) = true)
    (hU : JoinC n c A C (rootIt c (.node b l k v g r)).1 (rootIt c (.node b l k v g r)).2.1 (rootIt c (.node b l k v g r)).2.2 U) (hV : BothC c B D V) : PartsC c f (.node b l k v g r) U V := by
  refine ⟨hU.may, hV.may, ?_, ?_⟩
  · rw [hU.its, hl.itsA, hr.itsA, itsC_node, ← rootIt_it c b l k v g r, rootIt_idem, List.filter_append, List.filter_cons_of_pos hf]
  · rw [hV.its, hl.itsB, hr.itsB, itsC_node, ← rootIt_it c b l k v g r, List.filter_append, List.filter_cons_of_neg (by simp [hf])]
theorem PartsC.no {c n b : Nat} {f : Int × Int × Int → Bool} {l r A B C D U V : Tr} {k v g : Int} (hl : PartsC c f l A B) (hr : PartsC c f r C D) (hf : f (rootIt c (.node b l k v g r)) = false)
    (hU : BothC c A C U) (hV : JoinC n c B D (rootIt c (.node b l k v g r)).1 (rootIt c (.node b l k v g r)).2.1 (rootIt c (.node b l k v g r)).2.2 V) : PartsC c f (.node b l k v g r) U V := by
  refine ⟨hU.may, hV.may, ?_, ?_⟩
  · rw [hU.its, hl.itsA, hr.itsA, itsC_node, ← rootIt_it c b l k v g r, List.filter_append, List.filter_cons_of_neg (by simp [hf])]
  · rw [hV.its, hl.itsB, hr.itsB, itsC_node, ← rootIt_it c b l k v g r, rootIt_idem, List.filter_append, List.filter_cons_of_pos (by simp [hf])]
/-- which items a predicate takes. -/
def tkI (kd : Nat) (a b : Int) (nt : Bool) (z : Int × Int × Int) : Bool := sTakes kd a b nt z.1 z.2.1
/-- the boxes of the going down. -/
structure PkB (P bo bs bp kd : Nat) (a b : Int) (nt : Bool) (W : World) : Prop where
  no : bo ≠ P
  ns : bs ≠ P
  np : bp ≠ P
  on : Boxed W bo 72 (.func (.func 35) #[] #[.pointer (some ⟨bo, 0, none⟩), .pointer (some ⟨bs, 0, none⟩), .pointer (some ⟨bp, 0, none⟩)])
  sc : Boxed W bs 25 (.pointer (some ⟨P, 0, none⟩))
  pr : W.heap[bp]? = some (.cells #[.int .u8 kd, .int .i64 a, .int .i64 b, .bool nt] 23 (0, 0))
theorem PkB.ext {P bo bs bp kd : Nat} {a b : Int} {nt : Bool} {W W' : World} (h : PkB P bo bs bp kd a b nt W) (e : Ext W W') : PkB P bo bs bp kd a b nt W' :=
  ⟨h.no, h.ns, h.np, e.get h.on, e.get h.sc, e.get h.pr⟩
theorem PkB.bt {P bo bs bp kd : Nat} {a b : Int} {nt : Bool} {W W' : World} (h : PkB P bo bs bp kd a b nt W) (e : Bt [P] W W') : PkB P bo bs bp kd a b nt W' :=
  ⟨h.no, h.ns, h.np, e.get (by simp; exact h.no) h.on, e.get (by simp; exact h.ns) h.sc, e.get (by simp; exact h.np) h.pr⟩
theorem cells4 {w : World} {N : Nat} {x y z u : Value} {t : TypeId} (h : w.heap[N]? = some (.cells #[x, y, z, u] t (0, 0))) : w.cell? ⟨N, 0, none⟩ = some x ∧ w.cell? ⟨N, 1, none⟩ = some y ∧ w.cell? ⟨N, 2, none⟩ = some z ∧ w.cell? ⟨N, 3, none⟩ = some u :=
  ⟨cell_of h 0, cell_of h 1, cell_of h 2, cell_of h 3⟩
/-- what the going down gives. -/
def PikPost (P c : Nat) (f : Int × Int × Int → Bool) (T : Tr) (w : World) (e : Ending) (w' : World) : Prop :=
  ∃ (A B : Tr) (m : Int), e = .returned (.tuple #[.pointer A.ptr, .pointer B.ptr]) ∧ Bt [P] w w' ∧ Sch P c m w' ∧ InH w' A ∧ InH w' B ∧ PartsC c f T A B
/-- what the item at a root makes of what is made of both sides. -/
structure PartsC.At (c : Nat) (f : Int × Int × Int → Bool) (T l r A B C D : Tr) (z : Int × Int × Int) : Prop where
  hl : PartsC c f l A B
  hr : PartsC c f r C D
  yes : f z = true → ∀ (n : Nat) (U V : Tr), JoinC n c A C z.1 z.2.1 z.2.2 U → BothC c B D V → PartsC c f T U V
  no : f z = false → ∀ (n : Nat) (U V : Tr), BothC c A C U → JoinC n c B D z.1 z.2.1 z.2.2 V → PartsC c f T U V
theorem PartsC.At.count {c : Nat} {f : Int × Int × Int → Bool} {T l r A B C D : Tr} {z : Int × Int × Int} (h : PartsC.At c f T l r A B C D z) (hc : l.count + r.count + 1 ≤ 10000) : A.count + C.count ≤ 20000 ∧ B.count + D.count ≤ 20000 := by
  have h1 := h.hl.count
  have h2 := h.hr.count
  omega
set_option maxRecDepth 100000 in
set_option maxHeartbeats 4000000 in
theorem partsOn_any (P c bo bs bp kd : Nat) (a b : Int) (nt : Bool) (hk : kd < 256) (T : Tr) : ∀ (w : World) (nn : Int), Sch P c nn w → InH w T → PartC c T → T.count ≤ 10000 → PkB P bo bs bp kd a b nt w →
    Calls Tryz.prog 35 #[.pointer T.ptr, .pointer (some ⟨bo, 0, none⟩), .pointer (some ⟨bs, 0, none⟩), .pointer (some ⟨bp, 0, none⟩)] w (PikPost P c (tkI kd a b nt) T w) := by
  have hfn : ∀ f, Fence.wide.fn f := fun _ => trivial
  induction T with
  | nil =>
    intro w nn hS _ _ _ _
    rw [Tr.ptr_nil]
    have HS := Lib.hid hS
    clear hS
    go_enter Tryz.func35, Tryz.ntmps35
    go_wp2
    exact bodyPost_ret (v := .tuple #[.pointer none, .pointer none]) (by simp [results, Tryz.results35, go_sem]) rfl ⟨.nil, .nil, nn, rfl, Bt.refl _ _, HS.out, trivial, trivial, PartsC.nil _ _⟩
  | node bb l k v g r ihl ihr =>
    intro w nn hS hT hp hc hB
    have Hl := Lib.hid ihl
    have Hr := Lib.hid ihr
    have HB := Lib.hid hB
    have HS := Lib.hid hS
    have HT := Lib.hid hT
    have HP := Lib.hid (And.intro (partC_sides hS.four hp) (show l.count + r.count + 1 ≤ 10000 by rw [Tr.count_node] at hc; omega))
    have hco := cell_all hB.on.cell
    clear ihl ihr hB hS hT hp hc
    have hx := Ext.drew w
    obtain ⟨mm⟩ : Nonempty Nat := ⟨0⟩
    rw [Tr.ptr_node]
    go_enter Tryz.func35, Tryz.ntmps35
    go_wp2_with fail
    refine (wpIn_wide (n := mm)).1 ?_
    gi_wp2_with fail
    refine wpIn_region_G (fun j => !(List.contains (α := Nat) [3] j)) (by kernel_rfl) ?_
    refine batchG hfn (fuel := 7) [0, 1] (by kernel_rfl) rfl ?_
    repeat (go_big_quiet_step ((fail)))
    refine wpQuiet_nil ?_
    clear hco
    refine wpAnyG_one (j := 2) (by kernel_rfl) rfl ?_
    gi_wp2_with fail
    rw [← Tr.ptr_node bb l k v g r]
    refine ⟨wide_room _, (callsIn_wide.2 (left_any _ _ (HT.out.ext hx))).mono ?_⟩
    rintro e w1 ⟨rfl, h1⟩
    gi_wp2_with fail
    refine onePost_ext (h1) ?_
    replace hx := hx.trans h1
    clear h1
    refine wpAnyG_one (j := 3) (by kernel_rfl) rfl ?_
    gi_wp2_with fail
    simp only [Tr.left_node]
    refine ⟨wide_room _, (callsIn_wide.2 (Hl.out w1 nn (HS.out.ext hx) (HT.out.ext hx).2.1 HP.out.1.1 (by have := HP.out.2; omega) (HB.out.ext hx))).mono ?_⟩
    rintro e w2 ⟨A, B, m2, rfl, B2, S2, iA, iB, kAB⟩
    gi_wp2_with fail
    refine onePost_any (by kernel_rfl) ?_
    refine batchG hfn (fuel := 0) [4, 5, 6, 7, 8] (by kernel_rfl) rfl ?_
    repeat (go_big_quiet_step ((fail)))
    refine wpQuiet_nil ?_
    refine wpAnyG_done (by kernel_rfl) ?_
    refine calmQ_normal ?_
    have HT2 := Lib.hid (HS.out.inh ((Bt.ext (L := [P]) hx).trans B2) HT.out)
    have HB2 := Lib.hid ((HB.out.ext hx).bt B2)
    have HBT := Lib.hid ((Bt.ext (L := [P]) hx).trans B2)
    have HAB := Lib.hid (And.intro S2 (And.intro iA (And.intro iB kAB)))
    clear hx B2 S2 iA iB kAB
    have hco := cell_all HB2.out.on.cell
    have hx := Ext.drew w2
    rw [Tr.ptr_node]
    go_wp2_with fail
    refine (wpIn_wide (n := mm)).1 ?_
    gi_wp2_with fail
    refine wpIn_region_G (fun j => !(List.contains (α := Nat) [3] j)) (by kernel_rfl) ?_
    refine batchG hfn (fuel := 7) [0, 1] (by kernel_rfl) rfl ?_
    repeat (go_big_quiet_step ((fail)))
    refine wpQuiet_nil ?_
    clear hco
    refine wpAnyG_one (j := 2) (by kernel_rfl) rfl ?_
    gi_wp2_with fail
    rw [← Tr.ptr_node bb l k v g r]
    refine ⟨wide_room _, (callsIn_wide.2 (right_any _ _ (HT2.out.ext hx))).mono ?_⟩
    rintro e w3 ⟨rfl, h3⟩
    gi_wp2_with fail
    refine onePost_ext (h3) ?_
    replace hx := hx.trans h3
    clear h3
    refine wpAnyG_one (j := 3) (by kernel_rfl) rfl ?_
    gi_wp2_with fail
    simp only [Tr.right_node]
    refine ⟨wide_room _, (callsIn_wide.2 (Hr.out w3 m2 (HAB.out.1.ext hx) (HT2.out.ext hx).2.2 HP.out.1.2 (by have := HP.out.2; omega) (HB2.out.ext hx))).mono ?_⟩
    rintro e w4 ⟨C, D, m4, rfl, B4, S4, iC, iD, kCD⟩
    gi_wp2_with fail
    refine onePost_any (by kernel_rfl) ?_
    refine batchG hfn (fuel := 0) [4, 5, 6, 7, 8] (by kernel_rfl) rfl ?_
    repeat (go_big_quiet_step ((fail)))
    refine wpQuiet_nil ?_
    refine wpAnyG_done (by kernel_rfl) ?_
    refine calmQ_normal ?_
    have HBT4 := Lib.hid (HBT.out.trans ((Bt.ext (L := [P]) hx).trans B4))
    have HT4 := Lib.hid (HAB.out.1.inh ((Bt.ext (L := [P]) hx).trans B4) HT2.out)
    have HA4 := Lib.hid (And.intro (HAB.out.1.inh ((Bt.ext (L := [P]) hx).trans B4) HAB.out.2.1) (HAB.out.1.inh ((Bt.ext (L := [P]) hx).trans B4) HAB.out.2.2.1))
    have HB4 := Lib.hid ((HB2.out.ext hx).bt B4)
    have HCD := Lib.hid (And.intro S4 (And.intro iC (And.intro iD kCD)))
    clear hx B4 S4 iC iD kCD
    have hcs := HB4.out.sc.cell
    rw [Tr.ptr_node]
    go_wp2_with fail
    rw [← Tr.ptr_node bb l k v g r]
    refine (schItemM_any HCD.out.1 HT4.out (fun h => by cases h)).mono ?_
    rw [rootIt_item]
    unfold itV
    rintro e w5 ⟨x, rfl, B5, S5, rfl⟩
    rw [Tr.ptr_node]
    have HZ := Lib.hid (show PartsC.At c (tkI kd a b nt) (.node bb l k v g r) l r A B C D (rootIt c (.node bb l k v g r)) from ⟨HAB.out.2.2.2, HCD.out.2.2.2, fun hf n U V hU hV => PartsC.yes HAB.out.2.2.2 HCD.out.2.2.2 hf hU hV, fun hf n U V hU hV => PartsC.no HAB.out.2.2.2 HCD.out.2.2.2 hf hU hV⟩)
    generalize rootIt c (.node bb l k v g r) = z at *
    have hE := (Ext.refl w5).alloc (.cells #[.int .i64 z.1, .int .i64 z.2.1, .int .u64 z.2.2] 66)
    have hb := alloc_at w5 (.cells #[.int .i64 z.1, .int .i64 z.2.1, .int .u64 z.2.2] 66) _ rfl
    obtain ⟨d0, d1, d2, -⟩ := cells3 hb
    have hB6 := (HB4.out.bt B5).ext hE
    obtain ⟨p0, p1, p2, p3⟩ := cells4 hB6.pr
    have HE6 := Lib.hid (And.intro (HBT4.out.trans (B5.trans (Bt.ext hE))) (And.intro (S5.ext hE) (And.intro hB6 hb)))
    have HI6 := Lib.hid (show InH _ A ∧ InH _ B ∧ InH _ C ∧ InH _ D from ⟨(HCD.out.1.inh B5 HA4.out.1).ext hE, (HCD.out.1.inh B5 HA4.out.2).ext hE, (HCD.out.1.inh B5 HCD.out.2.1).ext hE, (HCD.out.1.inh B5 HCD.out.2.2.1).ext hE⟩)
    have hlt := Lib.hid (show P < w5.heap.size from S5.sch.lt)
    clear hE hb hB6 B5 S5 hcs
    cases ht : tkI kd a b nt z with
    | true =>
      have HTK := Lib.hid (fun W => takes_v W kd a b nt z.1 z.2.1 hk true ht)
      have HF := Lib.hid ht
      clear ht
      go_wp2_with fail
      generalize w5.alloc (.cells #[.int .i64 z.1, .int .i64 z.2.1, .int .u64 z.2.2] 66) = w6 at *
      generalize hbx : w5.heap.size = bx at *
      refine (HTK.out w6).mono ?_
      rintro e w7 ⟨rfl, h7⟩
      clear d0 d1 d2 p0 p1 p2 p3
      have hB7 := HE6.out.2.2.1.ext h7
      obtain ⟨d0, d1, d2, -⟩ := cells3 (h7.get HE6.out.2.2.2)
      have c0 := hB7.sc.cell
      have HE7 := Lib.hid (And.intro (HE6.out.1.trans (Bt.ext h7)) (And.intro (HE6.out.2.1.ext h7) hB7))
      have HI7 := Lib.hid (show InH w7 A ∧ InH w7 B ∧ InH w7 C ∧ InH w7 D from ⟨HI6.out.1.ext h7, HI6.out.2.1.ext h7, HI6.out.2.2.1.ext h7, HI6.out.2.2.2.ext h7⟩)
      have HNE := Lib.hid (show bs ≠ P ∧ bx ≠ P from ⟨hB7.ns, by have := hlt.out; omega⟩)
      clear hB7 h7
      go_wp2_with fail
      refine (wpIn_wide (n := mm)).1 ?_
      gi_wp2_with fail
      replace c0 := cell_allK (K := [bs, bx]) (by simp) c0
      replace d0 := cell_allK (K := [bs, bx]) (by simp) d0
      replace d1 := cell_allK (K := [bs, bx]) (by simp) d1
      replace d2 := cell_allK (K := [bs, bx]) (by simp) d2
      have hx := Kp.drew [bs, bx] w7
      refine wpIn_region_GK (fun j => !(List.contains (α := Nat) [] j)) [bs, bx] (by kernel_rfl) ?_
      have hD := Ext.drew w7
      have HE8 := Lib.hid (And.intro (HE7.out.1.trans (Bt.ext hD)) (And.intro (HE7.out.2.1.ext hD) (HE7.out.2.2.ext hD)))
      have HI8 := Lib.hid (And.intro (HI7.out.1.ext hD) (And.intro (HI7.out.2.1.ext hD) (And.intro (HI7.out.2.2.1.ext hD) (HI7.out.2.2.2.ext hD))))
      clear hD HE7 HI7
      generalize w7.drew = w8 at *
      refine batchGK hfn (fuel := 4) [0, 1, 2, 3, 5, 6, 7] (by kernel_rfl) rfl ?_
      repeat (go_big_quiet_step ((fail)))
      refine wpQuiet_nil ?_
      clear c0 d0 d1 d2 hx
      refine wpAnyG_oneK (j := 4) (by kernel_rfl) rfl ?_
      gi_wp2_with fail
      have HJ := schJoinM_any HE8.out.2.1.sch (L := A) (R := C) z.1 z.2.1 z.2.2 HI8.out.1 HI8.out.2.2.1 HZ.out.hl.mayA.part HZ.out.hr.mayA.part (HZ.out.count HP.out.2).1 _ (Nat.le_refl _) (news_zero (Nat.le_refl _) HI8.out.1) (news_zero (Nat.le_refl _) HI8.out.2.2.1)
      unfold itV at HJ
      refine ⟨wide_room _, (callsIn_wide.2 HJ).mono ?_⟩
      rintro e w9 ⟨x, rfl, B9, S9, U, rfl, iU, okU⟩
      clear HJ
      have hK9 : Kp [bs, bx] w8 w9 := Kp.bt B9 (by have := HNE.out; simp; exact this)
      gi_wp2_with fail
      refine onePost_extK (hK9) ?_
      clear hK9
      have HBU := Lib.hid (HE8.out.1.trans B9)
      have iB9 := HE8.out.2.1.sch.inh B9 HI8.out.2.1
      have iD9 := HE8.out.2.1.sch.inh B9 HI8.out.2.2.2
      refine wpAnyG_oneK (j := 8) (by kernel_rfl) rfl ?_
      gi_wp2_with fail
      refine ⟨wide_room _, (callsIn_wide.2 (cutJoin2_any P c _ B D w9 S9.sch iB9 iD9 HZ.out.hl.mayB.part HZ.out.hr.mayB.part (HZ.out.count HP.out.2).2)).mono ?_⟩
      rintro e w10 ⟨V, m10, rfl, B10, S10, iV, okV⟩
      have hK10 : Kp [bs, bx] w9 w10 := Kp.bt B10 (by have := HNE.out; simp; exact this)
      gi_wp2_with fail
      refine onePost_extK (hK10) ?_
      clear hK10
      refine batchGK hfn (fuel := 0) [9, 10] (by kernel_rfl) rfl ?_
      repeat (go_big_quiet_step ((fail)))
      refine wpQuiet_nil ?_
      refine wpAnyG_doneK (by kernel_rfl) ?_
      refine calmQ_normal ?_
      go_wp2
      exact bodyPost_ret (v := .tuple #[.pointer U.ptr, .pointer V.ptr]) (by simp [results, Tryz.results35, go_sem]) rfl ⟨U, V, _, rfl, HBU.out.trans B10, S10.sch, S9.sch.inh B10 iU, iV, HZ.out.yes HF.out _ U V okU okV⟩
    | false =>
      have HTK := Lib.hid (fun W => takes_v W kd a b nt z.1 z.2.1 hk false ht)
      have HF := Lib.hid ht
      clear ht
      go_wp2_with fail
      generalize w5.alloc (.cells #[.int .i64 z.1, .int .i64 z.2.1, .int .u64 z.2.2] 66) = w6 at *
      generalize hbx : w5.heap.size = bx at *
      refine (HTK.out w6).mono ?_
      rintro e w7 ⟨rfl, h7⟩
      clear d0 d1 d2 p0 p1 p2 p3
      have hB7 := HE6.out.2.2.1.ext h7
      obtain ⟨d0, d1, d2, -⟩ := cells3 (h7.get HE6.out.2.2.2)
      have c0 := hB7.sc.cell
      have HE7 := Lib.hid (And.intro (HE6.out.1.trans (Bt.ext h7)) (And.intro (HE6.out.2.1.ext h7) hB7))
      have HI7 := Lib.hid (show InH w7 A ∧ InH w7 B ∧ InH w7 C ∧ InH w7 D from ⟨HI6.out.1.ext h7, HI6.out.2.1.ext h7, HI6.out.2.2.1.ext h7, HI6.out.2.2.2.ext h7⟩)
      have HNE := Lib.hid (show bs ≠ P ∧ bx ≠ P from ⟨hB7.ns, by have := hlt.out; omega⟩)
      clear hB7 h7
      go_wp2_with fail
      refine (wpIn_wide (n := mm)).1 ?_
      gi_wp2_with fail
      replace c0 := cell_allK (K := [bs, bx]) (by simp) c0
      replace d0 := cell_allK (K := [bs, bx]) (by simp) d0
      replace d1 := cell_allK (K := [bs, bx]) (by simp) d1
      replace d2 := cell_allK (K := [bs, bx]) (by simp) d2
      have hx := Kp.drew [bs, bx] w7
      refine wpIn_region_GK (fun j => !(List.contains (α := Nat) [] j)) [bs, bx] (by kernel_rfl) ?_
      have hD := Ext.drew w7
      have HE8 := Lib.hid (And.intro (HE7.out.1.trans (Bt.ext hD)) (And.intro (HE7.out.2.1.ext hD) (HE7.out.2.2.ext hD)))
      have HI8 := Lib.hid (And.intro (HI7.out.1.ext hD) (And.intro (HI7.out.2.1.ext hD) (And.intro (HI7.out.2.2.1.ext hD) (HI7.out.2.2.2.ext hD))))
      clear hD HE7 HI7
      generalize w7.drew = w8 at *
      refine batchGK hfn (fuel := 4) [0, 1, 2, 4, 5, 6, 7] (by kernel_rfl) rfl ?_
      repeat (go_big_quiet_step ((fail)))
      refine wpQuiet_nil ?_
      clear c0 d0 d1 d2 hx
      refine wpAnyG_oneK (j := 3) (by kernel_rfl) rfl ?_
      gi_wp2_with fail
      refine ⟨wide_room _, (callsIn_wide.2 (cutJoin2_any P c _ A C w8 HE8.out.2.1.sch HI8.out.1 HI8.out.2.2.1 HZ.out.hl.mayA.part HZ.out.hr.mayA.part (HZ.out.count HP.out.2).1)).mono ?_⟩
      rintro e w9 ⟨U, m9, rfl, B9, S9, iU, okU⟩
      have hK9 : Kp [bs, bx] w8 w9 := Kp.bt B9 (by have := HNE.out; simp; exact this)
      gi_wp2_with fail
      refine onePost_extK (hK9) ?_
      clear hK9
      have HBU := Lib.hid (HE8.out.1.trans B9)
      have iB9 := HE8.out.2.1.sch.inh B9 HI8.out.2.1
      have iD9 := HE8.out.2.1.sch.inh B9 HI8.out.2.2.2
      refine wpAnyG_oneK (j := 8) (by kernel_rfl) rfl ?_
      gi_wp2_with fail
      have HJ := schJoinM_any S9.sch (L := B) (R := D) z.1 z.2.1 z.2.2 iB9 iD9 HZ.out.hl.mayB.part HZ.out.hr.mayB.part (HZ.out.count HP.out.2).2 _ (Nat.le_refl _) (news_zero (Nat.le_refl _) iB9) (news_zero (Nat.le_refl _) iD9)
      unfold itV at HJ
      refine ⟨wide_room _, (callsIn_wide.2 HJ).mono ?_⟩
      rintro e w10 ⟨x, rfl, B10, S10, V, rfl, iV, okV⟩
      clear HJ
      have hK10 : Kp [bs, bx] w9 w10 := Kp.bt B10 (by have := HNE.out; simp; exact this)
      gi_wp2_with fail
      refine onePost_extK (hK10) ?_
      clear hK10
      refine batchGK hfn (fuel := 0) [9, 10] (by kernel_rfl) rfl ?_
      repeat (go_big_quiet_step ((fail)))
      refine wpQuiet_nil ?_
      refine wpAnyG_doneK (by kernel_rfl) ?_
      refine calmQ_normal ?_
      go_wp2
      exact bodyPost_ret (v := .tuple #[.pointer U.ptr, .pointer V.ptr]) (by simp [results, Tryz.results35, go_sem]) rfl ⟨U, V, _, rfl, HBU.out.trans B10, S10.sch, S9.sch.inh B10 iU, iV, HZ.out.no HF.out _ U V okU okV⟩
end Go.Proofs.YtoiohjifjmejkaaGreat
