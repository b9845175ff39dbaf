/- Arguments that are slices of structs, opened to cells: the theorem of the kit's page 'extra-structs', and a row of beads by it. The walk of SchemeSides. -/
import Derived.Deep.Slices
import Derived.Deep.Fields
import Derived.ChangeSame
import Derived.OpenShut
import Derived.ProofKit
import Derived.Test.YtkkdobolloojjaaGreatM2
import Derived.Test.YtkkdobolloojjaaGreatM40
import Derived.Test.YtkkdobolloojjaaGreatM41
namespace Go.Proofs.YtkkdobolloojjaaGreat
open Go Go.ChangeShapes Go.WideShapes Go.Deep
section
variable {H : Type} {enc : TypeId × Value → H} {P : Program} {w : World} {base : Nat} {spare : Nat → Bool} {held : Bool}
theorem open_slice_fields {t e : TypeId} {fs : Array Field} {fuel : Nat} {cs : List Value} {x : DataW H × List MemPlace} (ht : P.underlying t = some (.slice e)) (he : P.underlying e = some (.struct fs))
    (hone : oneCellFields P fs = true) (hC : P.cellsOf e = fs.size) (h : DataW.trod enc P w base spare held fuel t cs = some x) :
    (cs = [.slice none 0 0] ∧ x = (.nil, [])) ∨
    ∃ (a : Addr) (len cap m : Nat) (D : Nat → DataW H) (Pl : Nat → List MemPlace), cs = [.slice (some a) len cap] ∧ base ≤ a.block ∧ len ≤ cap ∧ cap ≤ maxLen ∧ m = (if spare a.block then cap else len) ∧
      x = (.slice ((List.range len).map D) ((List.range (m - len)).map fun j => D (len + j)), MemPlace.row a (m * fs.size) ++ (List.range m).flatMap Pl) ∧
      ∀ i, i < m → ∃ (ys : List (DataW H × List MemPlace)) (n : Nat), D i = .agg (ys.map (·.1)) ∧ Pl i = ys.flatMap (·.2) ∧ ys.length = fs.size ∧
        ∀ (j : Nat) (f : Field), fs[j]? = some f → ∃ (v : Value) (y : DataW H × List MemPlace), w.cell? (a.add (i * fs.size + j)) = some v ∧ ys[j]? = some y ∧ DataW.trod enc P w base spare held n f.type [v] = some y := by
  rcases open_slice ht h with h0 | ⟨a, len, cap, m, n, D, Pl, hcs, hb, hl, hm, hmm, hx, hi⟩
  · exact .inl h0
  · refine .inr ⟨a, len, cap, m, D, Pl, hcs, hb, hl, hm, hmm, by rw [hC] at hx; exact hx, fun i him => ?_⟩
    obtain ⟨cs', hc, ht'⟩ := hi i him
    rw [hC] at hc
    obtain ⟨ys, n', hn', hy, hlen, hyl, hf⟩ := DataW.trod_struct he ht'
    obtain ⟨_, hcl, hat⟩ := World.cells?_some hc
    simp only [Prod.mk.injEq] at hy
    refine ⟨ys, n', hy.1, hy.2, hyl, fun j f hj => ?_⟩
    obtain ⟨ho, hk⟩ := hone_of hone j f hj
    have hjl : j < fs.size := (Array.getElem?_eq_some_iff.1 hj).1
    have hcell := hat j hjl
    have hv : cs'[j]? = some (cs'[j]'(by omega)) := List.getElem?_eq_getElem (by omega)
    have h1 := hf j f hj
    rw [ho, hk] at h1
    have hone' : (cs'.drop j).take 1 = [cs'[j]'(by omega)] := by
      rw [List.drop_eq_getElem_cons (by omega)]
      rfl
    rw [hone'] at h1
    have hys : ys[j]? = some (ys[j]'(by omega)) := List.getElem?_eq_getElem (by omega)
    refine ⟨_, _, ?_, hys, h1.trans hys⟩
    rw [← Go.Deep.add_add, hcell, hv]
end

theorem open_beads {H : Type} {enc : TypeId × Value → H} {w : World} {base : Nat} {spare : Nat → Bool} {held : Bool} {a : Option Addr} {len cap : Nat} {d : DataW H} {q : List MemPlace}
    (h : DataW.Trod enc Tryz.prog w base spare held 31 (.slice a len cap) d q) : ∃ zs, IsBeads w (.slice a len cap) zs := by
  obtain ⟨fuel, hf⟩ := h
  rcases open_slice_fields Tryz.underlying31 Tryz.underlying96 (by kernel_rfl) (by kernel_rfl) hf with ⟨hcs, _⟩ | ⟨x, l, c, m, D, Pl, hcs, _, hl, hm, hmm, _, hi⟩
  · simp [Value.cells] at hcs
    obtain ⟨rfl, rfl, rfl⟩ := hcs
    exact ⟨[], .inl ⟨rfl, _, _, rfl⟩, by simp⟩
  · simp [Value.cells] at hcs
    obtain ⟨rfl, rfl, rfl⟩ := hcs
    have hlm : len ≤ m := by rw [hmm]; split <;> omega
    have hz : ∀ i, ∃ z : BeadL, z.wf ∧ (i < len → ∀ j u, z.cells[j]? = some u → w.cell? (x.add (i * 7 + j)) = some u) := by
      intro i
      by_cases hil : i < len
      · obtain ⟨ys, n, _, _, _, hfi⟩ := hi i (by omega)
        obtain ⟨v0, y0, c0, _, t0⟩ := hfi 0 _ rfl
        obtain ⟨v1, y1, c1, _, t1⟩ := hfi 1 _ rfl
        obtain ⟨v2, y2, c2, _, t2⟩ := hfi 2 _ rfl
        obtain ⟨v3, y3, c3, _, t3⟩ := hfi 3 _ rfl
        obtain ⟨v4, y4, c4, _, t4⟩ := hfi 4 _ rfl
        obtain ⟨v5, y5, c5, _, t5⟩ := hfi 5 _ rfl
        obtain ⟨v6, y6, c6, _, t6⟩ := hfi 6 _ rfl
        obtain ⟨n0, h0, -, f0⟩ := DataW.trod_int (k := .i64) Tryz.underlying2 t0
        obtain ⟨n1, h1, -, f1⟩ := DataW.trod_int (k := .i64) Tryz.underlying2 t1
        obtain ⟨n2, h2, -, f2⟩ := DataW.trod_int (k := .i64) Tryz.underlying2 t2
        obtain ⟨n3, h3, -, f3⟩ := DataW.trod_int (k := .i64) Tryz.underlying3 t3
        obtain ⟨n4, h4, -, f4⟩ := DataW.trod_int (k := .u64) Tryz.underlying38 t4
        obtain ⟨n5, h5, -⟩ := DataW.trod_bool Tryz.underlying4 t5
        obtain ⟨n6, h6, -⟩ := DataW.trod_bool Tryz.underlying4 t6
        simp only [List.cons.injEq, and_true] at h0 h1 h2 h3 h4 h5 h6
        subst h0 h1 h2 h3 h4 h5 h6
        refine ⟨⟨n0, n1, n2, n3, n4, n5, n6⟩, ⟨f0, f1, f2, f3, f4⟩, fun _ j u hj => ?_⟩
        match j, hj with
        | 0, hj => cases hj; exact c0
        | 1, hj => cases hj; exact c1
        | 2, hj => cases hj; exact c2
        | 3, hj => cases hj; exact c3
        | 4, hj => cases hj; exact c4
        | 5, hj => cases hj; exact c5
        | 6, hj => cases hj; exact c6
        | j + 7, hj => simp [BeadL.cells] at hj
      · exact ⟨⟨0, 0, 0, 0, 0, false, false⟩, ⟨by decide, by decide, by decide, by decide, by decide⟩, fun h => absurd h hil⟩
    obtain ⟨f, hfz⟩ := Classical.axiomOfChoice hz
    by_cases h0 : len = 0
    · subst h0
      exact ⟨[], .inl ⟨rfl, _, _, rfl⟩, by simp⟩
    · obtain ⟨b, off, spot⟩ := x
      have hsp := (hfz 0).2 (by omega) 0 _ rfl
      obtain rfl : spot = none := by simpa [Addr.add] using World.cell?_spot hsp
      refine ⟨(List.range len).map f, .inr ⟨b, off, cap, by simp, by simp; omega, by simpa using hl, ?_⟩, ?_⟩
      rotate_left
      · intro z hz
        obtain ⟨i, _, rfl⟩ := List.mem_map.1 hz
        exact (hfz i).1
      intro q u hq
      have hlt : q < (beadCells ((List.range len).map f)).length := (List.getElem?_eq_some_iff.1 hq).1
      rw [beadCells_len, List.length_map, List.length_range] at hlt
      obtain ⟨i, j, rfl, hj⟩ : ∃ i j, q = i * 7 + j ∧ j < 7 := ⟨q / 7, q % 7, by omega, by omega⟩
      have hil : i < len := by omega
      rw [beadCells_at _ i (f i) j (by simp [hil]) hj] at hq
      have := (hfz i).2 hil j u hq
      rwa [Addr.add_mid] at this
end Go.Proofs.YtkkdobolloojjaaGreat
namespace Go.Proofs.YtkkdobolloojjaaGreat
open Go Go.RowKit

theorem mayC_sides {c b : Nat} {l r : Tr} {k v g : Int} (h4 : 1 ≤ c ∧ c ≤ 4) (h : MayC c (.node b l k v g r)) : PartC c l ∧ PartC c r := by
  obtain rfl | rfl | rfl | rfl := fourC h4
  · obtain ⟨p, q, h1, h2, -⟩ := h
    exact ⟨by show AvlH l l.ht; rw [h1.ht]; exact h1, by show AvlH r r.ht; rw [h2.ht]; exact h2⟩
  · obtain ⟨b, d, cl, cr, -, h1, h2, -⟩ := h
    exact ⟨⟨_, _, h1⟩, ⟨_, _, h2⟩⟩
  · exact ⟨h.2.1, h.2.2.1⟩
  · exact ⟨h.2.2.1, h.2.2.2⟩
set_option maxRecDepth 100000 in
set_option maxHeartbeats 4000000 in
theorem schemeSides_walk (c : Nat) (hc : c < 256) (a0 : Option Addr) (len0 cap0 : Nat) (z0 : List BeadL) (w : World) (w0 : IsBeads w (.slice a0 len0 cap0) z0) :
    Calls Tryz.prog 4 #[.int .u8 c, .slice a0 len0 cap0] w (Ret (.bool true) w) := by
  have hund : undef = Value.tuple #[] := rfl
  have HB0 := Lib.hid w0.1
  have W0 := Lib.hid w0.2
  have HL0 := Lib.hid (fun W (e : Ext w W) => beadsLong_any W _ z0 (w0.1.ext e))
  clear w0
  have hx := Ext.refl w
  by_cases h4 : 1 ≤ c ∧ c ≤ 4
  · go_enter Tryz.func4, Tryz.ntmps4
    go_wp2_with fail
    refine (of22_yes c h4 w).mono ?_
    rintro e w1 ⟨P, rfl, st⟩
    clear hx
    cases d0 : (decide (400 < z0.length) || !mayB z0) with
    | true =>
      rw [d0] at HL0
      clear d0
      have hx := st.ext
      clear st
      go_wp2_with fail
      refine (HL0.out _ hx).mono ?_
      rintro e w2 ⟨rfl, hS⟩
      replace hx := hx.trans hS
      clear hS
      go_wp2_with fail
      refine (alive22_any _).mono ?_
      rintro e w3 ⟨rfl, hS⟩
      replace hx := hx.trans hS
      clear hS
      go_wp2
      go_ret
      exact Ret.mk hx
    | false =>
      obtain ⟨l0, t0, e0⟩ := long_tree d0
      rw [d0] at HL0
      clear d0
      subst e0
      have L0 := Lib.hid l0
      clear l0
      go_wp2_with fail
      refine (HL0.out _ st.ext).mono ?_
      rintro e w2 ⟨rfl, hS⟩
      replace st := st.more hS
      clear hS
      go_wp2_with fail
      refine (beadsMake_any t0 w2 _ (HB0.out.ext st.ext) L0.out).mono ?_
      rintro e w3 ⟨A, rfl, hA, fA, hS⟩
      replace st := st.more hS
      clear hS
      have HA := Lib.hid (And.intro fA (And.intro (fits_tagsOk t0 A fA W0.out) (fits_cnt fA)))
      clear fA
      go_wp2_with fail
      refine (schCheck_any st.sch hA (fun _ => HA.out.2.1) (by have := HA.out.2.2; have := L0.out; unfold Tr.count at *; omega)).mono ?_
      rintro e w4 ⟨x, rfl, BB, SS, rfl⟩
      replace hA := st.sch.inh BB hA
      replace st := st.does BB SS
      clear BB SS
      have hmay := fun h => mayC_of h4 (T := A) (by have := HA.out.2.2; have := L0.out; omega) HA.out.2.1 h
      generalize hck : ckV c A = F at *
      obtain ⟨F1, F2⟩ := F
      simp only at hmay ⊢
      clear hck
      by_cases hm : F2 = 0
      · have HM := Lib.hid (hmay hm)
        subst hm
        clear hmay
        cases A with
        | nil =>
          rw [Tr.ptr_nil]
          clear hA HM HA
          have hx := st.ext
          clear st
          go_wp2_with fail
          refine (alive22_any _).mono ?_
          rintro e w5 ⟨rfl, hS⟩
          replace hx := hx.trans hS
          clear hS
          go_wp2
          go_ret
          exact Ret.mk hx
        | node ab al ak av ag ar =>
          obtain ⟨pl, pr⟩ := mayC_sides h4 HM.out
          have PL := Lib.hid pl
          have PR := Lib.hid pr
          clear pl pr
          have HC := Lib.hid (show al.count + 1 + ar.count ≤ 400 ∧ TagsOk (.node ab al ak av ag ar) ∧ True by
            have h1 := HA.out.2.2
            rw [Tr.count_node] at h1
            have := L0.out
            exact ⟨by omega, HA.out.2.1, trivial⟩)
          have HM4 := Lib.hid (And.intro HM.out.part (PartC.pt h4 (by rw [Tr.count_node]; have := HC.out.1; omega) HM.out.part))
          have HPl := Lib.hid (PartC.pt h4 (by have := HC.out.1; omega) PL.out)
          have HPr := Lib.hid (PartC.pt h4 (by have := HC.out.1; omega) PR.out)
          rw [Tr.ptr_node]
          go_wp2_with fail
          refine (schPart_any st.sch hA (fun _ => HC.out.2.1) (by have := HC.out.1; rw [show (Tr.node ab al ak av ag ar).pre.length = (Tr.node ab al ak av ag ar).count from rfl, Tr.count_node]; omega)).mono ?_
          rw [HM4.out.2]
          rintro e w5 ⟨x, rfl, BB, SS, rfl⟩
          replace hA := st.sch.inh BB hA
          replace st := st.does BB SS
          clear BB SS
          go_wp2_with fail
          refine (left_any w5 _ hA).mono ?_
          rw [Tr.left_node]
          rintro e w6 ⟨rfl, hS⟩
          replace hA := hA.ext hS
          replace st := st.more hS
          clear hS
          go_wp2_with fail
          refine (schPart_any st.sch hA.2.1 (fun _ => HC.out.2.1.2.2.1) (by have := HC.out.1; unfold Tr.count at this; omega)).mono ?_
          rw [HPl.out]
          rintro e w7 ⟨x, rfl, BB, SS, rfl⟩
          replace hA := st.sch.inh BB hA
          replace st := st.does BB SS
          clear BB SS
          go_wp2_with fail
          refine (right_any w7 _ hA).mono ?_
          rw [Tr.right_node]
          rintro e w8 ⟨rfl, hS⟩
          replace hA := hA.ext hS
          replace st := st.more hS
          clear hS
          go_wp2_with fail
          refine (schPart_any st.sch hA.2.2 (fun _ => HC.out.2.1.2.2.2) (by have := HC.out.1; unfold Tr.count at this; omega)).mono ?_
          rw [HPr.out]
          rintro e w9 ⟨x, rfl, BB, SS, rfl⟩
          replace hA := st.sch.inh BB hA
          replace st := st.does BB SS
          clear BB SS
          go_wp2_with fail
          refine (left_any w9 _ hA).mono ?_
          rw [Tr.left_node]
          rintro e w10 ⟨rfl, hS⟩
          replace hA := hA.ext hS
          replace st := st.more hS
          clear hS
          go_wp2_with fail
          refine (right_any w10 _ hA).mono ?_
          rw [Tr.right_node]
          rintro e w11 ⟨rfl, hS⟩
          replace hA := hA.ext hS
          replace st := st.more hS
          clear hS
          have hrow := alloc_at w11 (.cells #[.pointer al.ptr, .pointer ar.ptr] 28) _ rfl
          have hS := (Ext.refl w11).alloc (.cells #[.pointer al.ptr, .pointer ar.ptr] 28)
          have hPN : w11.heap.size ∉ [P] := by have := st.lt; simp; omega
          go_wp2
          generalize w11.alloc (.cells #[.pointer al.ptr, .pointer ar.ptr] 28) = w12 at *
          generalize w11.heap.size = N at *
          replace hA := hA.ext hS
          replace st := st.more hS
          clear hS
          refine wp_loop_rounds 3 ?_
          rw [rounds_succ]
          have hc0 := cell_of hrow 0
          simp at hc0
          go_wp2_with fail
          refine (schWhole_any st.sch (hA.2.1) PL.out (by have := HC.out.1; have := HC.out.2.2; omega) 0 (Nat.zero_le _)).mono ?_
          rintro e w13 ⟨x, rfl, BB, SS, u, rfl, hU, ok⟩
          have hcu := ok.its
          replace hcu := congrArg List.length hcu
          rw [itsC_len, itsC_len] at hcu
          have OKU := Lib.hid (And.intro ok.may (And.intro (ok.tags (HC.out.2.1.2.2.1) (by have := HC.out.1; have := HC.out.2.2; omega)) hcu))
          replace hA := st.sch.inh BB hA
          replace hrow := BB.get hPN hrow
          replace st := st.does BB SS
          clear BB SS ok hcu
          go_wp2_with fail
          refine (schCheck_any st.sch hU (fun _ => OKU.out.2.1) (by have := OKU.out.2.2; have := HC.out.1; have := HC.out.2.2; unfold Tr.count at *; omega)).mono ?_
          rw [OKU.out.1.ck h4 (by have := OKU.out.2.2; have := HC.out.1; have := HC.out.2.2; omega)]
          rintro e w14 ⟨x, rfl, BB, SS, rfl⟩
          replace hA := st.sch.inh BB hA
          replace hrow := BB.get hPN hrow
          replace st := st.does BB SS
          clear BB SS OKU hU
          clear hc0
          go_wp2_with fail
          rw [rounds_succ]
          have hc1 := cell_of hrow 1
          simp at hc1
          go_wp2_with fail
          refine (schWhole_any st.sch (hA.2.2) PR.out (by have := HC.out.1; have := HC.out.2.2; omega) 0 (Nat.zero_le _)).mono ?_
          rintro e w15 ⟨x, rfl, BB, SS, u, rfl, hU, ok⟩
          have hcu := ok.its
          replace hcu := congrArg List.length hcu
          rw [itsC_len, itsC_len] at hcu
          have OKU := Lib.hid (And.intro ok.may (And.intro (ok.tags (HC.out.2.1.2.2.2) (by have := HC.out.1; have := HC.out.2.2; omega)) hcu))
          replace hA := st.sch.inh BB hA
          replace hrow := BB.get hPN hrow
          replace st := st.does BB SS
          clear BB SS ok hcu
          go_wp2_with fail
          refine (schCheck_any st.sch hU (fun _ => OKU.out.2.1) (by have := OKU.out.2.2; have := HC.out.1; have := HC.out.2.2; unfold Tr.count at *; omega)).mono ?_
          rw [OKU.out.1.ck h4 (by have := OKU.out.2.2; have := HC.out.1; have := HC.out.2.2; omega)]
          rintro e w16 ⟨x, rfl, BB, SS, rfl⟩
          replace hA := st.sch.inh BB hA
          replace hrow := BB.get hPN hrow
          replace st := st.does BB SS
          clear BB SS OKU hU
          clear hc1 hrow
          go_wp2_with fail
          rw [rounds_succ]
          go_wp2_with fail
          refine (left_any w16 _ hA).mono ?_
          rw [Tr.left_node]
          rintro e w17 ⟨rfl, hS⟩
          replace hA := hA.ext hS
          replace st := st.more hS
          clear hS
          obtain ⟨ig, hig, hi⟩ : ∃ ig, ig = (if c = 4 then ag else 0) ∧ itemV c (.node ab al ak av ag ar) = itV ak av ig := ⟨_, rfl, rfl⟩
          have HIG := Lib.hid hig
          go_wp2_with fail
          refine (schItem_any P c 0 w17 _ st.sch hA).mono ?_
          rw [hi]
          rintro e w18 ⟨x, rfl, BB, SS, rfl⟩
          replace hA := st.sch.inh BB hA
          replace st := st.does BB SS
          clear BB SS hi hig
          go_wp2_with fail
          refine (right_any w18 _ hA).mono ?_
          rw [Tr.right_node]
          rintro e w19 ⟨rfl, hS⟩
          replace hA := hA.ext hS
          replace st := st.more hS
          clear hS
          have HJ := Lib.hid (schJoin_any st.sch ak av ig hA.2.1 hA.2.2 PL.out PR.out (by have := HC.out.1; omega) w19.heap.size (Nat.le_refl _) (news_zero (Nat.le_refl _) hA.2.1) (news_zero (Nat.le_refl _) hA.2.2))
          unfold itV at HJ ⊢
          go_wp2_with fail
          refine HJ.out.mono ?_
          rintro e w20 ⟨x, rfl, BB, SS, u, rfl, hU, ok⟩
          have hcu := ok.count
          have HU := Lib.hid (And.intro ok.may (And.intro ok.its (And.intro (ok.tags (by rw [HIG.out]; split; exact HC.out.2.1.1; decide) (by rw [HIG.out]; split; exact HC.out.2.1.2.1; decide) HC.out.2.1.2.2.1 HC.out.2.1.2.2.2 (by have := HC.out.1; omega)) hcu)))
          replace st := st.does BB SS
          clear BB SS ok hcu HJ hA
          go_wp2_with fail
          refine (see09_any w20 u hU (by have := HU.out.2.2.2; have := HC.out.1; unfold Tr.count at *; omega)).mono ?_
          rintro e w21 ⟨v21, rfl, o21, hS⟩
          have O21 := Lib.hid o21.beads
          obtain ⟨a21, k21, rfl⟩ := beads_slice o21.beads
          replace st := st.more hS
          clear hS o21 hU
          go_wp2_with fail
          refine (items22_any c h4 t0 w21 _ (HB0.out.ext st.ext) (by have := L0.out; omega)).mono ?_
          rintro e w22 ⟨v22, rfl, o22, hS⟩
          have O21' := Lib.hid (O21.out.ext hS)
          have O22 := Lib.hid o22.row
          replace st := st.more hS
          clear hS o22 O21
          go_wp2_with fail
          refine (has22_any c h4 u w22 _ _ (t0.itsC c) O21'.out O22.out ?hits HU.out.1 (fun _ => HU.out.2.2.1) (by have := HU.out.2.2.2; have := HC.out.1; omega)).mono ?_
          case hits =>
            rw [HU.out.2.1, ← fits_itsC c HA.out.1, itsC_idem, itsC_node, HIG.out, itC_if]
          rintro e w23 ⟨rfl, hS⟩
          replace st := st.more hS
          clear hS O21' O22
          have hx := st.ext
          clear st
          go_wp2_with fail
          refine (alive22_any _).mono ?_
          rintro e w24 ⟨rfl, hS⟩
          replace hx := hx.trans hS
          clear hS
          go_wp2
          go_ret
          exact Ret.mk hx
      · have hF : (F2 != 0) = true := by simpa using hm
        have hx := st.ext
        clear st hm hmay
        go_wp2_with fail
        refine (alive22_any _).mono ?_
        rintro e w5 ⟨rfl, hS⟩
        replace hx := hx.trans hS
        clear hS
        go_wp2
        go_ret
        exact Ret.mk hx
  · go_enter Tryz.func4, Tryz.ntmps4
    go_wp2_with fail
    refine (of22_no c hc h4 w).mono ?_
    rintro e w1 ⟨rfl, hS⟩
    replace hx := hx.trans hS
    clear hS
    cases d0 : (decide (400 < z0.length) || !mayB z0) with
    | true =>
      rw [d0] at HL0
      clear d0
      go_wp2_with fail
      refine (HL0.out _ hx).mono ?_
      rintro e w2 ⟨rfl, hS⟩
      replace hx := hx.trans hS
      clear hS
      go_wp2_with fail
      refine (alive22_any _).mono ?_
      rintro e w3 ⟨rfl, hS⟩
      replace hx := hx.trans hS
      clear hS
      go_wp2
      go_ret
      exact Ret.mk hx
    | false =>
      rw [d0] at HL0
      clear d0
      go_wp2_with fail
      refine (HL0.out _ hx).mono ?_
      rintro e w2 ⟨rfl, hS⟩
      replace hx := hx.trans hS
      clear hS
      go_wp2_with fail
      refine (alive22_any _).mono ?_
      rintro e w3 ⟨rfl, hS⟩
      replace hx := hx.trans hS
      clear hS
      go_wp2
      go_ret
      exact Ret.mk hx
theorem schemeSides_row (c : Int) (a0 : Option Addr) (len0 cap0 : Nat) (z0 : List BeadL) (w : World) (hc : (Lit.int .u8 c).wf = true) (w0 : IsBeads w (.slice a0 len0 cap0) z0) :
    Calls Tryz.prog 4 #[.int .u8 c, .slice a0 len0 cap0] w (Ret (.bool true) w) := by
  obtain ⟨m, rfl, hm⟩ := u8_nat hc
  exact schemeSides_walk m hm a0 len0 cap0 z0 w w0
end Go.Proofs.YtkkdobolloojjaaGreat
