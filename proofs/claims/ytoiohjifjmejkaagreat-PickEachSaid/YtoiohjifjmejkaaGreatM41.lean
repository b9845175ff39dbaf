/- cut.end. -/
import Derived.Test.YtoiohjifjmejkaaGreatM35
import Derived.Test.YtoiohjifjmejkaaGreatM40
namespace Go.Proofs.YtoiohjifjmejkaaGreat
open Go Go.RowKit

/-- what cut.end gives. -/
def EndPost (P c : Nat) (d : Bool) (T : Tr) (w : World) (e : Ending) (w' : World) : Prop :=
  ∃ (R : Tr) (z : Int × Int × Int) (m : Int), e = .returned (.tuple #[.pointer R.ptr, itV z.1 z.2.1 z.2.2]) ∧ Bt [P] w w' ∧ SchM P c m w' ∧ InH w' R ∧ EndOk c d T R z
theorem schItemM_any {P c : Nat} {n : Int} {w : World} {T : Tr} (h : Sch P c n w) (hT : InH w T) (hne : T ≠ .nil) : Calls Tryz.prog 38 #[.pointer (some ⟨P, 0, none⟩), .pointer T.ptr] w (DoesM P c n (fun x _ => x = itemV c T) w) := by
  cases T with
  | nil => exact (hne rfl).elim
  | node b l k v g r => exact schItemM_node P c n w b l k v g r h hT
/-- an item, of a scheme whose faces are made. -/
theorem schItem_made {P c : Nat} {n : Int} {w : World} (h : SchM P c n w) {T : Tr} (hT : InH w T) (hne : T ≠ .nil) : Calls Tryz.prog 38 #[.pointer (some ⟨P, 0, none⟩), .pointer T.ptr] w (Ret (itemV c T) w) := by
  refine (schItemM_any h.sch hT hne).mono ?_
  rintro e w1 ⟨x, rfl, B, S, rfl⟩
  exact ⟨rfl, h.same B S⟩
theorem put3_at {w : World} {N : Nat} {x y z : Value} {t : TypeId} (h : w.heap[N]? = some (.cells #[x, y, z] t (0, 0))) (a b d : Value) : (put3 w N a b d).heap[N]? = some (.cells #[a, b, d] t (0, 0)) ∧ Bt [N] w (put3 w N a b d) := by
  refine ⟨?_, ?_⟩
  · unfold put3
    simp [World.setCell, Array.getElem?_modify, h]
  · unfold put3
    exact (((Bt.refl _ _).set _ _ (by simp)).set _ _ (by simp)).set _ _ (by simp)
/-- the end of cut.end: its second result is stored, and handed back. -/
theorem endFin {w W : World} {P c M0 : Nat} {d : Bool} {m : Int} {T R : Tr} {z : Int × Int × Int} {x y q : Value} (hM : w.heap.size ≤ M0) (hP : P < w.heap.size) (hB : Bt [P] w W) (hS : SchM P c m W) (hR : InH W R) (hK : EndOk c d T R z) (hr : W.heap[M0]? = some (.cells #[x, y, q] 66 (0, 0))) :
    EndPost P c d T w (.returned (.tuple #[.pointer R.ptr, itV z.1 z.2.1 z.2.2])) (put3 W M0 (.int .i64 z.1) (.int .i64 z.2.1) (.int .u64 z.2.2)) ∧ (put3 W M0 (.int .i64 z.1) (.int .i64 z.2.1) (.int .u64 z.2.2)).heap[M0]? = some (.cells #[.int .i64 z.1, .int .i64 z.2.1, .int .u64 z.2.2] 66 (0, 0)) := by
  obtain ⟨h1, h2⟩ := put3_at hr (.int .i64 z.1) (.int .i64 z.2.1) (.int .u64 z.2.2)
  refine ⟨⟨R, z, m, rfl, hB.cut h2 hM, hS.bt h2 (by simp; omega), hR.bt h2 (fun k hk => ?_), hK⟩, h1⟩
  rw [List.mem_singleton.1 hk]
  exact ⟨_, _, hr, by decide⟩
/-- behind the way down: the tree, what is left of its side, the three boxes. -/
structure EV (w : World) (P c N pl : Nat) (f0 f1 f2 : Value) (T S : Tr) (m : Int) (V : World) : Prop where
  bt : Bt [P] w V
  sch : SchM P c m V
  tr : InH V T
  rest : InH V S
  way : V.heap[N]? = some (.cells #[f0, f1, f2] 156 (0, 0))
  res : V.heap[N + 1]? = some (.cells #[.int .i64 0, .int .i64 0, .int .u64 0] 66 (0, 0))
  box : Boxed V pl 25 (.pointer (some ⟨P, 0, none⟩))
section
variable {w V V' : World} {P c N pl b9 : Nat} {f0 f1 f2 : Value} {T S : Tr} {m : Int}
theorem EV.ext (h : EV w P c N pl f0 f1 f2 T S m V) (e : Ext V V') : EV w P c N pl f0 f1 f2 T S m V' :=
  ⟨h.bt.trans (Bt.ext e), h.sch.ext e, h.tr.ext e, h.rest.ext e, e.get h.way, e.get h.res, e.get h.box⟩
theorem EV.put (h : EV w P c N pl f0 f1 f2 T S m V) (hN : N = w.heap.size) (hP : P < N) (h9 : V.heap[b9]? = some (.cells #[.int .i64 0, .int .i64 0, .int .u64 0] 66 (0, 0))) (hb : N + 2 ≤ b9) (x y z : Value) :
    EV w P c N pl f0 f1 f2 T S m (put3 V b9 x y z) ∧ (put3 V b9 x y z).heap[b9]? = some (.cells #[x, y, z] 66 (0, 0)) := by
  obtain ⟨h1, h2⟩ := put3_at h9 x y z
  have hn : ∀ k ∈ [b9], NoNode V k := fun k hk => by rw [List.mem_singleton.1 hk]; exact ⟨_, _, h9, by decide⟩
  refine ⟨⟨h.bt.cut h2 (by omega), h.sch.bt h2 (by simp; omega), h.tr.bt h2 hn, h.rest.bt h2 hn, h2.get (by simp; omega) h.way, h2.get (by simp; omega) h.res, h2.get (fun hm => ?_) h.box⟩, h1⟩
  have hx := h.box
  rw [List.mem_singleton.1 hm] at hx
  rw [show V.heap[b9]? = _ from hx] at h9
  injection h9 with h9
  injection h9 with _ h2 _
  exact absurd h2 (by decide)
end
set_option maxRecDepth 100000 in
set_option maxHeartbeats 4000000 in
theorem endT_any (P pl c : Nat) (T : Tr) : ∀ (w : World) (nn : Int), T ≠ .nil → Sch P c nn w → InH w T → PartC c T → T.count ≤ 20000 → Boxed w pl 25 (.pointer (some ⟨P, 0, none⟩)) →
    Calls Tryz.prog 102 #[.pointer (some ⟨P, 0, none⟩), wayT pl, .pointer T.ptr] w (EndPost P c true T w) := by
  have hfn : ∀ f, Fence.wide.fn f := fun _ => trivial
  induction T with
  | nil => intro w nn h; exact (h rfl).elim
  | node b l k v g r _ ihr =>
    intro w nn _ hS hT hp hc hb
    have h4 := hS.four
    have IH := Lib.hid ihr
    have HS := Lib.hid hS
    have HT := Lib.hid hT
    have hcl : l.count ≤ 20000 ∧ r.count ≤ 20000 ∧ l.count + r.count ≤ 20000 := by rw [Tr.count_node] at hc; omega
    have HP := Lib.hid (And.intro (partC_sides h4 hp) hcl)
    have HB := Lib.hid hb
    have HPT := Lib.hid (show pl < w.heap.size from lt_of hb)
    have HPP := Lib.hid (show pl ≠ P from by
      rintro rfl
      obtain ⟨cs, h⟩ := hS.cells'
      rw [show w.heap[pl]? = _ from hb] at h
      injection h with h
      injection h with _ h2 _
      exact absurd h2 (by decide))
    have HRr := Lib.hid (show InH w r from hT.2.2)
    have HLl := Lib.hid (show InH w l from hT.2.1)
    have hlt := hS.lt
    obtain ⟨T, eT⟩ : ∃ T, T = Tr.node b l k v g r := ⟨_, rfl⟩
    have hrT : T.right = r := by rw [eT]; rfl
    have hlT : T.left = l := by rw [eT]; rfl
    have HNE := Lib.hid (show T ≠ .nil by rw [eT]; intro h; cases h)
    rw [← eT] at HT ⊢
    have HE := Lib.hid eT
    clear ihr hS hT hp hc hb eT hcl h4
    have hway : ∀ W : World, Ext ((w.alloc (.cells #[.func (.func 37) #[] #[], .func (.func 36) #[] #[], .func (.func 129) #[] #[.pointer (some ⟨pl, 0, none⟩)]] 156)).alloc (.cells #[.int .i64 0, .int .i64 0, .int .u64 0] 66)) W →
        W.heap[w.heap.size]? = some (.cells #[.func (.func 37) #[] #[], .func (.func 36) #[] #[], .func (.func 129) #[] #[.pointer (some ⟨pl, 0, none⟩)]] 156 (0, 0)) ∧
        W.heap[w.heap.size + 1]? = some (.cells #[.int .i64 0, .int .i64 0, .int .u64 0] 66 (0, 0)) ∧ Ext w W ∧ w.heap.size + 2 ≤ W.heap.size := fun W e =>
      ⟨e.get (((Ext.refl _).alloc _).get (alloc_at w _ _ rfl)), e.get (alloc_at _ _ _ (by simp)), (((Ext.refl w).alloc _).alloc _).trans e, by have := e.size; simp at this; omega⟩
    have HW := Lib.hid hway
    clear hway
    unfold wayT
    go_enter Tryz.func102, Tryz.ntmps102
    go_wp2_with fail
    refine (right_any _ T (HT.out.ext (HW.out _ (Ext.refl _)).2.2.1)).mono ?_
    rw [hrT]
    rintro e w3 ⟨rfl, h3⟩
    obtain ⟨hw3, hr3, hX3, hs3⟩ := HW.out _ h3
    generalize hN : w.heap.size = N at *
    have HN := Lib.hid hN
    have HH3 := Lib.hid h3
    clear hN h3
    by_cases hr0 : r = .nil
    · have HR0 := Lib.hid hr0
      have hrp : r.ptr = none := by rw [hr0]; rfl
      rw [hrp]
      obtain ⟨q0, q1, q2, -⟩ := cells3 hw3
      have HR3 := Lib.hid (And.intro hr3 hX3)
      clear hr0 hrp hr3 hX3
      go_wp2_with fail
      refine (left_any _ T (HT.out.ext HR3.out.2)).mono ?_
      rw [hlT]
      rintro e w4 ⟨rfl, h4⟩
      have HX4 := Lib.hid (And.intro (HR3.out.2.trans h4) (h4.get HR3.out.1))
      clear h4 q0 q1 q2 hw3
      go_wp2_with fail
      refine (schWholeM_any (HS.out.ext HX4.out.1) (by have := (HT.out.ext HX4.out.1); rw [HE.out] at this; exact this.2.1) HP.out.1.1 HP.out.2.1 _ (Nat.le_refl _)).mono ?_
      rintro e w5 ⟨x, rfl, B5, S5, R, rfl, iR, ok⟩
      have HB5 := Lib.hid ((Bt.ext (L := [P]) HX4.out.1).trans B5)
      have HI5 := Lib.hid (HS.out.ext HX4.out.1 |>.inh B5 (HT.out.ext HX4.out.1))
      have HR5 := Lib.hid (B5.get (by simp; have := HN.out; omega) HX4.out.2)
      have HS5 := Lib.hid S5
      have HIR := Lib.hid iR
      have HOK := Lib.hid (show EndOk c true T R (rootIt c T) by rw [HE.out]; exact EndOk.here (d := true) HR0.out ok)
      clear B5 S5 iR ok
      go_wp2_with fail
      refine (schItem_made HS5.out HI5.out HNE.out).mono ?_
      rw [rootIt_item]
      unfold itV
      rintro e w6 ⟨rfl, h6⟩
      obtain ⟨d0, d1, d2, df⟩ := cells3 (h6.get HR5.out)
      have HF := Lib.hid (endFin (M0 := N + 1) (by have := HN.out; omega) (by have := HN.out; omega) (HB5.out.trans (Bt.ext h6)) (HS5.out.ext h6) (HIR.out.ext h6) HOK.out (h6.get HR5.out))
      clear h6
      go_wp2
      change bodyPost _ _ _ _ _ (put3 w6 (N + 1) (.int .i64 (rootIt c T).1) (.int .i64 (rootIt c T).2.1) (.int .u64 (rootIt c T).2.2))
      generalize put3 w6 (N + 1) (.int .i64 (rootIt c T).1) (.int .i64 (rootIt c T).2.1) (.int .u64 (rootIt c T).2.2) = W' at *
      obtain ⟨e0, e1, e2, -⟩ := cells3 HF.out.2
      refine bodyPost_ret (v := .tuple #[.pointer R.ptr, itV (rootIt c T).1 (rootIt c T).2.1 (rootIt c T).2.2]) ?_ rfl HF.out.1
      simp [results, Tryz.results102, go_sem, e0, e1, e2, itV]
    · have HR0 := Lib.hid hr0
      obtain ⟨rp, hrp⟩ : ∃ rp, r.ptr = some rp := by
        cases r with
        | nil => exact (hr0 rfl).elim
        | node x _ _ _ _ _ => exact ⟨⟨x, 0, none⟩, rfl⟩
      have HRP := Lib.hid hrp
      rw [hrp]
      have HX3 := Lib.hid hX3
      obtain ⟨q0, q1, q2, -⟩ := cells3 hw3
      clear hr0 hX3 hr3 hw3
      go_wp2_with fail
      clear hrp
      obtain ⟨mm⟩ : Nonempty Nat := ⟨0⟩
      refine (wpIn_wide (n := mm)).1 ?_
      gi_wp2_with fail
      have a0 := cell_all q0
      have a1 := cell_all q1
      have a2 := cell_all q2
      have hx := Ext.drew w3
      refine wpIn_region_G (fun j => !(List.contains (α := Nat) [6, 12] j)) (by kernel_rfl) ?_
      refine batchG hfn (fuel := 8) [0, 1, 2, 3, 4] (by kernel_rfl) rfl ?_
      repeat (go_big_quiet_step ((fail)))
      refine wpQuiet_nil ?_
      clear a0 a1 a2 q0 q1 q2
      refine wpAnyG_two (j := 5) (k := 10) (by kernel_rfl) rfl rfl ?_ ?_
      · gi_wp2_with fail
        refine ⟨wide_room _, (callsIn_wide.2 (right_any _ T (HT.out.ext (HX3.out.trans hx)))).mono ?_⟩
        rw [hrT]
        rintro e w4 ⟨rfl, h4⟩
        gi_wp2_with fail
        refine onePost_ext (h4) ?_
        replace hx := hx.trans h4
        clear h4
        refine wpAnyG_two (j := 6) (k := 10) (by kernel_rfl) rfl rfl ?_ ?_
        · gi_wp2_with fail
          refine ⟨wide_room _, (callsIn_wide.2 (IH.out w4 nn HR0.out (HS.out.ext (HX3.out.trans hx)) (HRr.out.ext (HX3.out.trans hx)) HP.out.1.2 HP.out.2.2.1 ((HX3.out.trans hx).get HB.out))).mono ?_⟩
          rintro e w5 ⟨S, z, m, rfl, B5, S5, iS, K5⟩
          have hNN := HN.out
          obtain ⟨hwc, hrc, -, -⟩ := HW.out _ (HH3.out.trans hx)
          have E5 : EV w P c N pl _ _ _ T S m w5 := ⟨(Bt.ext (HX3.out.trans hx)).trans B5, S5, (HS.out.ext (HX3.out.trans hx)).inh B5 (HT.out.ext (HX3.out.trans hx)), iS, B5.get (by simp; omega) hwc, B5.get (by simp; omega) hrc, B5.get (by simp; exact HPP.out) ((HX3.out.trans hx).get HB.out)⟩
          have HK5 := Lib.hid K5
          clear hwc hrc S5 iS K5
          gi_wp2_with fail
          refine onePost_any (by kernel_rfl) ?_
          refine batchG hfn (fuel := 3) [7, 8, 9] (by kernel_rfl) rfl ?_
          repeat (go_big_quiet_step ((fail)))
          refine wpQuiet_nil ?_
          refine wpAnyG_one (j := 10) (by kernel_rfl) rfl ?_
          gi_wp2_with fail
          have h9 := alloc_at w5 (.cells #[.int .i64 0, .int .i64 0, .int .u64 0] 66) _ rfl
          have hb9 : N + 2 ≤ w5.heap.size := by have := B5.size; have := hx.size; omega
          replace E5 := E5.ext ((Ext.refl w5).alloc (.cells #[.int .i64 0, .int .i64 0, .int .u64 0] 66))
          refine onePost_ext ((Ext.refl _).alloc _) ?_
          refine batchG hfn (fuel := 1) [11] (by kernel_rfl) rfl ?_
          repeat (go_big_quiet_step ((fail)))
          refine wpQuiet_nil ?_
          generalize w5.alloc (.cells #[.int .i64 0, .int .i64 0, .int .u64 0] 66) = w6 at *
          generalize w5.heap.size = b9 at *
          clear B5 hx
          obtain ⟨d0, d1, d2, df⟩ := cells3 h9
          have hNN := HN.out
          obtain ⟨E6, g9⟩ := E5.put hNN.symm hlt h9 hb9 (.int .i64 z.1) (.int .i64 z.2.1) (.int .u64 z.2.2)
          unfold put3 at E6 g9
          unfold itV
          refine wpAnyG_one (j := 12) (by kernel_rfl) rfl ?_
          gi_wp2_with fail
          refine onePost_any (by kernel_rfl) ?_
          generalize ((w6.setCell ⟨b9, 0, none⟩ (.int .i64 z.1)).setCell ⟨b9, 1, none⟩ (.int .i64 z.2.1)).setCell ⟨b9, 2, none⟩ (.int .u64 z.2.2) = V at *
          have EE := Lib.hid E6
          have H9 := Lib.hid g9
          have HB9 := Lib.hid hb9
          clear d0 d1 d2 df E5 E6 g9 h9 hb9 hNN
          refine wpAnyG_done (by kernel_rfl) ?_
          refine calmQ_normal ?_
          go_wp2_with fail
          refine (wpIn_wide (n := mm)).1 ?_
          gi_wp2_with fail
          obtain ⟨q0, q1, q2, -⟩ := cells3 EE.out.way
          have a1 := cell_all q1
          have a2 := cell_all q2
          have hx := Ext.drew V
          refine wpIn_region_G (fun j => !(List.contains (α := Nat) [10, 13] j)) (by kernel_rfl) ?_
          refine batchG hfn (fuel := 6) [0, 1, 2, 3, 4, 6, 7, 8] (by kernel_rfl) rfl ?_
          repeat (go_big_quiet_step ((fail)))
          refine wpQuiet_nil ?_
          clear a1 a2 q0 q1 q2
          refine wpAnyG_two (j := 5) (k := 11) (by kernel_rfl) rfl rfl ?_ ?_
          · gi_wp2_with fail
            refine ⟨wide_room _, (callsIn_wide.2 (schItem_made (EE.out.sch.ext hx) (EE.out.tr.ext hx) HNE.out)).mono ?_⟩
            rw [rootIt_item]
            unfold itV
            rintro e w7 ⟨rfl, hn⟩
            gi_wp2_with fail
            refine onePost_ext (hn) ?_
            replace hx := hx.trans hn
            clear hn
            refine wpAnyG_two (j := 9) (k := 11) (by kernel_rfl) rfl rfl ?_ ?_
            · gi_wp2_with fail
              refine ⟨wide_room _, (callsIn_wide.2 (left_any _ T (EE.out.tr.ext hx))).mono ?_⟩
              rw [hlT]
              rintro e w8 ⟨rfl, hn⟩
              gi_wp2_with fail
              refine onePost_ext (hn) ?_
              replace hx := hx.trans hn
              clear hn
              refine wpAnyG_two (j := 10) (k := 11) (by kernel_rfl) rfl rfl ?_ ?_
              · gi_wp2_with fail
                have hNN := HN.out
                have HTE := EE.out.tr.ext hx
                rw [HE.out] at HTE
                have HJ := toJoin_any (EE.out.sch.ext hx).sch (L := l) (R := S) pl (rootIt c T).1 (rootIt c T).2.1 (rootIt c T).2.2 (hx.get EE.out.box) HTE.2.1 (EE.out.rest.ext hx) HP.out.1.1 HK5.out.may.part (by have := HP.out.2.2.2; have := HK5.out.count; omega)
                unfold itV at HJ
                refine ⟨wide_room _, (callsIn_wide.2 HJ).mono ?_⟩
                rintro e w9 ⟨x, rfl, B9, S9, m0, R, rfl, iR, ok⟩
                gi_wp2_with fail
                refine onePost_any (by kernel_rfl) ?_
                have hr9 := B9.get (show N + 1 ∉ [P] by simp; omega) (hx.get EE.out.res)
                have g9 := B9.get (show b9 ∉ [P] by have := HB9.out; simp; omega) (hx.get H9.out)
                have okk : EndOk c true T R z := by
                  rw [HE.out] at ok ⊢
                  exact EndOk.last HK5.out ok
                have HF := Lib.hid (endFin (M0 := N + 1) (by omega) (by omega) ((EE.out.bt.trans (Bt.ext hx)).trans B9) S9 iR okk hr9)
                obtain ⟨c0, c1, c2, cf⟩ := cells3 hr9
                clear HTE HJ B9 S9 iR ok okk hNN hx hr9
                obtain ⟨d0, d1, d2, -⟩ := cells3 g9
                clear g9
                refine takeG0 hfn 12 (by kernel_rfl) rfl ?_
                repeat (go_big_quiet_step ((fail)))
                refine wpQuiet_nil ?_
                refine wpAnyG_one (j := 11) (by kernel_rfl) rfl ?_
                gi_wp2_with fail
                refine onePost_ext (Ext.refl _) ?_
                clear d0 d1 d2
                refine wpAnyG_one (j := 13) (by kernel_rfl) rfl ?_
                gi_wp2_with fail
                refine onePost_any (by kernel_rfl) ?_
                refine wpAnyG_done (by kernel_rfl) ?_
                refine calmQ_normal ?_
                clear c0 c1 c2 cf
                go_wp2
                change bodyPost _ _ _ _ _ (put3 w9 (N + 1) (.int .i64 z.1) (.int .i64 z.2.1) (.int .u64 z.2.2))
                generalize put3 w9 (N + 1) (.int .i64 z.1) (.int .i64 z.2.1) (.int .u64 z.2.2) = W' at *
                obtain ⟨e0, e1, e2, -⟩ := cells3 HF.out.2
                refine bodyPost_ret (v := .tuple #[.pointer R.ptr, itV z.1 z.2.1 z.2.2]) ?_ rfl HF.out.1
                simp [results, Tryz.results102, go_sem, e0, e1, e2, itV]
              · obtain ⟨d0, d1, d2, -⟩ := cells3 (hx.get H9.out)
                gi_wp2_with fail
                refine onePost_ext (Ext.refl _) ?_
                clear d0 d1 d2
                refine wpAnyG_one (j := 10) (by kernel_rfl) rfl ?_
                gi_wp2_with fail
                have hNN := HN.out
                have HTE := EE.out.tr.ext hx
                rw [HE.out] at HTE
                have HJ := toJoin_any (EE.out.sch.ext hx).sch (L := l) (R := S) pl (rootIt c T).1 (rootIt c T).2.1 (rootIt c T).2.2 (hx.get EE.out.box) HTE.2.1 (EE.out.rest.ext hx) HP.out.1.1 HK5.out.may.part (by have := HP.out.2.2.2; have := HK5.out.count; omega)
                unfold itV at HJ
                refine ⟨wide_room _, (callsIn_wide.2 HJ).mono ?_⟩
                rintro e w9 ⟨x, rfl, B9, S9, m0, R, rfl, iR, ok⟩
                gi_wp2_with fail
                refine onePost_any (by kernel_rfl) ?_
                have hr9 := B9.get (show N + 1 ∉ [P] by simp; omega) (hx.get EE.out.res)
                have g9 := B9.get (show b9 ∉ [P] by have := HB9.out; simp; omega) (hx.get H9.out)
                have okk : EndOk c true T R z := by
                  rw [HE.out] at ok ⊢
                  exact EndOk.last HK5.out ok
                have HF := Lib.hid (endFin (M0 := N + 1) (by omega) (by omega) ((EE.out.bt.trans (Bt.ext hx)).trans B9) S9 iR okk hr9)
                obtain ⟨c0, c1, c2, cf⟩ := cells3 hr9
                clear HTE HJ B9 S9 iR ok okk hNN hx hr9
                clear g9
                refine batchG hfn (fuel := 1) [12] (by kernel_rfl) rfl ?_
                repeat (go_big_quiet_step ((fail)))
                refine wpQuiet_nil ?_
                refine wpAnyG_one (j := 13) (by kernel_rfl) rfl ?_
                gi_wp2_with fail
                refine onePost_any (by kernel_rfl) ?_
                refine wpAnyG_done (by kernel_rfl) ?_
                refine calmQ_normal ?_
                clear c0 c1 c2 cf
                go_wp2
                change bodyPost _ _ _ _ _ (put3 w9 (N + 1) (.int .i64 z.1) (.int .i64 z.2.1) (.int .u64 z.2.2))
                generalize put3 w9 (N + 1) (.int .i64 z.1) (.int .i64 z.2.1) (.int .u64 z.2.2) = W' at *
                obtain ⟨e0, e1, e2, -⟩ := cells3 HF.out.2
                refine bodyPost_ret (v := .tuple #[.pointer R.ptr, itV z.1 z.2.1 z.2.2]) ?_ rfl HF.out.1
                simp [results, Tryz.results102, go_sem, e0, e1, e2, itV]
            · obtain ⟨d0, d1, d2, -⟩ := cells3 (hx.get H9.out)
              gi_wp2_with fail
              refine onePost_ext (Ext.refl _) ?_
              clear d0 d1 d2
              refine wpAnyG_one (j := 9) (by kernel_rfl) rfl ?_
              gi_wp2_with fail
              refine ⟨wide_room _, (callsIn_wide.2 (left_any _ T (EE.out.tr.ext hx))).mono ?_⟩
              rw [hlT]
              rintro e w8 ⟨rfl, hn⟩
              gi_wp2_with fail
              refine onePost_ext (hn) ?_
              replace hx := hx.trans hn
              clear hn
              refine wpAnyG_one (j := 10) (by kernel_rfl) rfl ?_
              gi_wp2_with fail
              have hNN := HN.out
              have HTE := EE.out.tr.ext hx
              rw [HE.out] at HTE
              have HJ := toJoin_any (EE.out.sch.ext hx).sch (L := l) (R := S) pl (rootIt c T).1 (rootIt c T).2.1 (rootIt c T).2.2 (hx.get EE.out.box) HTE.2.1 (EE.out.rest.ext hx) HP.out.1.1 HK5.out.may.part (by have := HP.out.2.2.2; have := HK5.out.count; omega)
              unfold itV at HJ
              refine ⟨wide_room _, (callsIn_wide.2 HJ).mono ?_⟩
              rintro e w9 ⟨x, rfl, B9, S9, m0, R, rfl, iR, ok⟩
              gi_wp2_with fail
              refine onePost_any (by kernel_rfl) ?_
              have hr9 := B9.get (show N + 1 ∉ [P] by simp; omega) (hx.get EE.out.res)
              have g9 := B9.get (show b9 ∉ [P] by have := HB9.out; simp; omega) (hx.get H9.out)
              have okk : EndOk c true T R z := by
                rw [HE.out] at ok ⊢
                exact EndOk.last HK5.out ok
              have HF := Lib.hid (endFin (M0 := N + 1) (by omega) (by omega) ((EE.out.bt.trans (Bt.ext hx)).trans B9) S9 iR okk hr9)
              obtain ⟨c0, c1, c2, cf⟩ := cells3 hr9
              clear HTE HJ B9 S9 iR ok okk hNN hx hr9
              clear g9
              refine batchG hfn (fuel := 1) [12] (by kernel_rfl) rfl ?_
              repeat (go_big_quiet_step ((fail)))
              refine wpQuiet_nil ?_
              refine wpAnyG_one (j := 13) (by kernel_rfl) rfl ?_
              gi_wp2_with fail
              refine onePost_any (by kernel_rfl) ?_
              refine wpAnyG_done (by kernel_rfl) ?_
              refine calmQ_normal ?_
              clear c0 c1 c2 cf
              go_wp2
              change bodyPost _ _ _ _ _ (put3 w9 (N + 1) (.int .i64 z.1) (.int .i64 z.2.1) (.int .u64 z.2.2))
              generalize put3 w9 (N + 1) (.int .i64 z.1) (.int .i64 z.2.1) (.int .u64 z.2.2) = W' at *
              obtain ⟨e0, e1, e2, -⟩ := cells3 HF.out.2
              refine bodyPost_ret (v := .tuple #[.pointer R.ptr, itV z.1 z.2.1 z.2.2]) ?_ rfl HF.out.1
              simp [results, Tryz.results102, go_sem, e0, e1, e2, itV]
          · obtain ⟨d0, d1, d2, -⟩ := cells3 (hx.get H9.out)
            gi_wp2_with fail
            refine onePost_ext (Ext.refl _) ?_
            clear d0 d1 d2
            refine wpAnyG_one (j := 5) (by kernel_rfl) rfl ?_
            gi_wp2_with fail
            refine ⟨wide_room _, (callsIn_wide.2 (schItem_made (EE.out.sch.ext hx) (EE.out.tr.ext hx) HNE.out)).mono ?_⟩
            rw [rootIt_item]
            unfold itV
            rintro e w7 ⟨rfl, hn⟩
            gi_wp2_with fail
            refine onePost_ext (hn) ?_
            replace hx := hx.trans hn
            clear hn
            refine wpAnyG_one (j := 9) (by kernel_rfl) rfl ?_
            gi_wp2_with fail
            refine ⟨wide_room _, (callsIn_wide.2 (left_any _ T (EE.out.tr.ext hx))).mono ?_⟩
            rw [hlT]
            rintro e w8 ⟨rfl, hn⟩
            gi_wp2_with fail
            refine onePost_ext (hn) ?_
            replace hx := hx.trans hn
            clear hn
            refine wpAnyG_one (j := 10) (by kernel_rfl) rfl ?_
            gi_wp2_with fail
            have hNN := HN.out
            have HTE := EE.out.tr.ext hx
            rw [HE.out] at HTE
            have HJ := toJoin_any (EE.out.sch.ext hx).sch (L := l) (R := S) pl (rootIt c T).1 (rootIt c T).2.1 (rootIt c T).2.2 (hx.get EE.out.box) HTE.2.1 (EE.out.rest.ext hx) HP.out.1.1 HK5.out.may.part (by have := HP.out.2.2.2; have := HK5.out.count; omega)
            unfold itV at HJ
            refine ⟨wide_room _, (callsIn_wide.2 HJ).mono ?_⟩
            rintro e w9 ⟨x, rfl, B9, S9, m0, R, rfl, iR, ok⟩
            gi_wp2_with fail
            refine onePost_any (by kernel_rfl) ?_
            have hr9 := B9.get (show N + 1 ∉ [P] by simp; omega) (hx.get EE.out.res)
            have g9 := B9.get (show b9 ∉ [P] by have := HB9.out; simp; omega) (hx.get H9.out)
            have okk : EndOk c true T R z := by
              rw [HE.out] at ok ⊢
              exact EndOk.last HK5.out ok
            have HF := Lib.hid (endFin (M0 := N + 1) (by omega) (by omega) ((EE.out.bt.trans (Bt.ext hx)).trans B9) S9 iR okk hr9)
            obtain ⟨c0, c1, c2, cf⟩ := cells3 hr9
            clear HTE HJ B9 S9 iR ok okk hNN hx hr9
            clear g9
            refine batchG hfn (fuel := 1) [12] (by kernel_rfl) rfl ?_
            repeat (go_big_quiet_step ((fail)))
            refine wpQuiet_nil ?_
            refine wpAnyG_one (j := 13) (by kernel_rfl) rfl ?_
            gi_wp2_with fail
            refine onePost_any (by kernel_rfl) ?_
            refine wpAnyG_done (by kernel_rfl) ?_
            refine calmQ_normal ?_
            clear c0 c1 c2 cf
            go_wp2
            change bodyPost _ _ _ _ _ (put3 w9 (N + 1) (.int .i64 z.1) (.int .i64 z.2.1) (.int .u64 z.2.2))
            generalize put3 w9 (N + 1) (.int .i64 z.1) (.int .i64 z.2.1) (.int .u64 z.2.2) = W' at *
            obtain ⟨e0, e1, e2, -⟩ := cells3 HF.out.2
            refine bodyPost_ret (v := .tuple #[.pointer R.ptr, itV z.1 z.2.1 z.2.2]) ?_ rfl HF.out.1
            simp [results, Tryz.results102, go_sem, e0, e1, e2, itV]
        · gi_wp2_with fail
          have h9 := alloc_at w4 (.cells #[.int .i64 0, .int .i64 0, .int .u64 0] 66) _ rfl
          have hb9 : N + 2 ≤ w4.heap.size := by have := hx.size; omega
          have hx2 := hx.trans ((Ext.refl w4).alloc (.cells #[.int .i64 0, .int .i64 0, .int .u64 0] 66))
          refine onePost_ext ((Ext.refl _).alloc _) ?_
          generalize w4.alloc (.cells #[.int .i64 0, .int .i64 0, .int .u64 0] 66) = w6 at *
          generalize w4.heap.size = b9 at *
          clear hx
          refine wpAnyG_one (j := 6) (by kernel_rfl) rfl ?_
          gi_wp2_with fail
          refine ⟨wide_room _, (callsIn_wide.2 (IH.out w6 nn HR0.out (HS.out.ext (HX3.out.trans hx2)) (HRr.out.ext (HX3.out.trans hx2)) HP.out.1.2 HP.out.2.2.1 ((HX3.out.trans hx2).get HB.out))).mono ?_⟩
          rintro e w5 ⟨S, z, m, rfl, B5, S5, iS, K5⟩
          have hNN := HN.out
          obtain ⟨hwc, hrc, -, -⟩ := HW.out _ (HH3.out.trans hx2)
          have E5 : EV w P c N pl _ _ _ T S m w5 := ⟨(Bt.ext (HX3.out.trans hx2)).trans B5, S5, (HS.out.ext (HX3.out.trans hx2)).inh B5 (HT.out.ext (HX3.out.trans hx2)), iS, B5.get (by simp; omega) hwc, B5.get (by simp; omega) hrc, B5.get (by simp; exact HPP.out) ((HX3.out.trans hx2).get HB.out)⟩
          have HK5 := Lib.hid K5
          clear hwc hrc S5 iS K5
          gi_wp2_with fail
          refine onePost_any (by kernel_rfl) ?_
          refine batchG hfn (fuel := 1) [7, 8, 9, 11] (by kernel_rfl) rfl ?_
          repeat (go_big_quiet_step ((fail)))
          refine wpQuiet_nil ?_
          replace h9 := B5.get (show b9 ∉ [P] by simp; omega) h9
          clear B5 hx2
          obtain ⟨d0, d1, d2, df⟩ := cells3 h9
          have hNN := HN.out
          obtain ⟨E6, g9⟩ := E5.put hNN.symm hlt h9 hb9 (.int .i64 z.1) (.int .i64 z.2.1) (.int .u64 z.2.2)
          unfold put3 at E6 g9
          unfold itV
          refine wpAnyG_one (j := 12) (by kernel_rfl) rfl ?_
          gi_wp2_with fail
          refine onePost_any (by kernel_rfl) ?_
          generalize ((w5.setCell ⟨b9, 0, none⟩ (.int .i64 z.1)).setCell ⟨b9, 1, none⟩ (.int .i64 z.2.1)).setCell ⟨b9, 2, none⟩ (.int .u64 z.2.2) = V at *
          have EE := Lib.hid E6
          have H9 := Lib.hid g9
          have HB9 := Lib.hid hb9
          clear d0 d1 d2 df E5 E6 g9 h9 hb9 hNN
          refine wpAnyG_done (by kernel_rfl) ?_
          refine calmQ_normal ?_
          go_wp2_with fail
          refine (wpIn_wide (n := mm)).1 ?_
          gi_wp2_with fail
          obtain ⟨q0, q1, q2, -⟩ := cells3 EE.out.way
          have a1 := cell_all q1
          have a2 := cell_all q2
          have hx := Ext.drew V
          refine wpIn_region_G (fun j => !(List.contains (α := Nat) [10, 13] j)) (by kernel_rfl) ?_
          refine batchG hfn (fuel := 6) [0, 1, 2, 3, 4, 6, 7, 8] (by kernel_rfl) rfl ?_
          repeat (go_big_quiet_step ((fail)))
          refine wpQuiet_nil ?_
          clear a1 a2 q0 q1 q2
          refine wpAnyG_two (j := 5) (k := 11) (by kernel_rfl) rfl rfl ?_ ?_
          · gi_wp2_with fail
            refine ⟨wide_room _, (callsIn_wide.2 (schItem_made (EE.out.sch.ext hx) (EE.out.tr.ext hx) HNE.out)).mono ?_⟩
            rw [rootIt_item]
            unfold itV
            rintro e w7 ⟨rfl, hn⟩
            gi_wp2_with fail
            refine onePost_ext (hn) ?_
            replace hx := hx.trans hn
            clear hn
            refine wpAnyG_two (j := 9) (k := 11) (by kernel_rfl) rfl rfl ?_ ?_
            · gi_wp2_with fail
              refine ⟨wide_room _, (callsIn_wide.2 (left_any _ T (EE.out.tr.ext hx))).mono ?_⟩
              rw [hlT]
              rintro e w8 ⟨rfl, hn⟩
              gi_wp2_with fail
              refine onePost_ext (hn) ?_
              replace hx := hx.trans hn
              clear hn
              refine wpAnyG_two (j := 10) (k := 11) (by kernel_rfl) rfl rfl ?_ ?_
              · gi_wp2_with fail
                have hNN := HN.out
                have HTE := EE.out.tr.ext hx
                rw [HE.out] at HTE
                have HJ := toJoin_any (EE.out.sch.ext hx).sch (L := l) (R := S) pl (rootIt c T).1 (rootIt c T).2.1 (rootIt c T).2.2 (hx.get EE.out.box) HTE.2.1 (EE.out.rest.ext hx) HP.out.1.1 HK5.out.may.part (by have := HP.out.2.2.2; have := HK5.out.count; omega)
                unfold itV at HJ
                refine ⟨wide_room _, (callsIn_wide.2 HJ).mono ?_⟩
                rintro e w9 ⟨x, rfl, B9, S9, m0, R, rfl, iR, ok⟩
                gi_wp2_with fail
                refine onePost_any (by kernel_rfl) ?_
                have hr9 := B9.get (show N + 1 ∉ [P] by simp; omega) (hx.get EE.out.res)
                have g9 := B9.get (show b9 ∉ [P] by have := HB9.out; simp; omega) (hx.get H9.out)
                have okk : EndOk c true T R z := by
                  rw [HE.out] at ok ⊢
                  exact EndOk.last HK5.out ok
                have HF := Lib.hid (endFin (M0 := N + 1) (by omega) (by omega) ((EE.out.bt.trans (Bt.ext hx)).trans B9) S9 iR okk hr9)
                obtain ⟨c0, c1, c2, cf⟩ := cells3 hr9
                clear HTE HJ B9 S9 iR ok okk hNN hx hr9
                obtain ⟨d0, d1, d2, -⟩ := cells3 g9
                clear g9
                refine takeG0 hfn 12 (by kernel_rfl) rfl ?_
                repeat (go_big_quiet_step ((fail)))
                refine wpQuiet_nil ?_
                refine wpAnyG_one (j := 11) (by kernel_rfl) rfl ?_
                gi_wp2_with fail
                refine onePost_ext (Ext.refl _) ?_
                clear d0 d1 d2
                refine wpAnyG_one (j := 13) (by kernel_rfl) rfl ?_
                gi_wp2_with fail
                refine onePost_any (by kernel_rfl) ?_
                refine wpAnyG_done (by kernel_rfl) ?_
                refine calmQ_normal ?_
                clear c0 c1 c2 cf
                go_wp2
                change bodyPost _ _ _ _ _ (put3 w9 (N + 1) (.int .i64 z.1) (.int .i64 z.2.1) (.int .u64 z.2.2))
                generalize put3 w9 (N + 1) (.int .i64 z.1) (.int .i64 z.2.1) (.int .u64 z.2.2) = W' at *
                obtain ⟨e0, e1, e2, -⟩ := cells3 HF.out.2
                refine bodyPost_ret (v := .tuple #[.pointer R.ptr, itV z.1 z.2.1 z.2.2]) ?_ rfl HF.out.1
                simp [results, Tryz.results102, go_sem, e0, e1, e2, itV]
              · obtain ⟨d0, d1, d2, -⟩ := cells3 (hx.get H9.out)
                gi_wp2_with fail
                refine onePost_ext (Ext.refl _) ?_
                clear d0 d1 d2
                refine wpAnyG_one (j := 10) (by kernel_rfl) rfl ?_
                gi_wp2_with fail
                have hNN := HN.out
                have HTE := EE.out.tr.ext hx
                rw [HE.out] at HTE
                have HJ := toJoin_any (EE.out.sch.ext hx).sch (L := l) (R := S) pl (rootIt c T).1 (rootIt c T).2.1 (rootIt c T).2.2 (hx.get EE.out.box) HTE.2.1 (EE.out.rest.ext hx) HP.out.1.1 HK5.out.may.part (by have := HP.out.2.2.2; have := HK5.out.count; omega)
                unfold itV at HJ
                refine ⟨wide_room _, (callsIn_wide.2 HJ).mono ?_⟩
                rintro e w9 ⟨x, rfl, B9, S9, m0, R, rfl, iR, ok⟩
                gi_wp2_with fail
                refine onePost_any (by kernel_rfl) ?_
                have hr9 := B9.get (show N + 1 ∉ [P] by simp; omega) (hx.get EE.out.res)
                have g9 := B9.get (show b9 ∉ [P] by have := HB9.out; simp; omega) (hx.get H9.out)
                have okk : EndOk c true T R z := by
                  rw [HE.out] at ok ⊢
                  exact EndOk.last HK5.out ok
                have HF := Lib.hid (endFin (M0 := N + 1) (by omega) (by omega) ((EE.out.bt.trans (Bt.ext hx)).trans B9) S9 iR okk hr9)
                obtain ⟨c0, c1, c2, cf⟩ := cells3 hr9
                clear HTE HJ B9 S9 iR ok okk hNN hx hr9
                clear g9
                refine batchG hfn (fuel := 1) [12] (by kernel_rfl) rfl ?_
                repeat (go_big_quiet_step ((fail)))
                refine wpQuiet_nil ?_
                refine wpAnyG_one (j := 13) (by kernel_rfl) rfl ?_
                gi_wp2_with fail
                refine onePost_any (by kernel_rfl) ?_
                refine wpAnyG_done (by kernel_rfl) ?_
                refine calmQ_normal ?_
                clear c0 c1 c2 cf
                go_wp2
                change bodyPost _ _ _ _ _ (put3 w9 (N + 1) (.int .i64 z.1) (.int .i64 z.2.1) (.int .u64 z.2.2))
                generalize put3 w9 (N + 1) (.int .i64 z.1) (.int .i64 z.2.1) (.int .u64 z.2.2) = W' at *
                obtain ⟨e0, e1, e2, -⟩ := cells3 HF.out.2
                refine bodyPost_ret (v := .tuple #[.pointer R.ptr, itV z.1 z.2.1 z.2.2]) ?_ rfl HF.out.1
                simp [results, Tryz.results102, go_sem, e0, e1, e2, itV]
            · obtain ⟨d0, d1, d2, -⟩ := cells3 (hx.get H9.out)
              gi_wp2_with fail
              refine onePost_ext (Ext.refl _) ?_
              clear d0 d1 d2
              refine wpAnyG_one (j := 9) (by kernel_rfl) rfl ?_
              gi_wp2_with fail
              refine ⟨wide_room _, (callsIn_wide.2 (left_any _ T (EE.out.tr.ext hx))).mono ?_⟩
              rw [hlT]
              rintro e w8 ⟨rfl, hn⟩
              gi_wp2_with fail
              refine onePost_ext (hn) ?_
              replace hx := hx.trans hn
              clear hn
              refine wpAnyG_one (j := 10) (by kernel_rfl) rfl ?_
              gi_wp2_with fail
              have hNN := HN.out
              have HTE := EE.out.tr.ext hx
              rw [HE.out] at HTE
              have HJ := toJoin_any (EE.out.sch.ext hx).sch (L := l) (R := S) pl (rootIt c T).1 (rootIt c T).2.1 (rootIt c T).2.2 (hx.get EE.out.box) HTE.2.1 (EE.out.rest.ext hx) HP.out.1.1 HK5.out.may.part (by have := HP.out.2.2.2; have := HK5.out.count; omega)
              unfold itV at HJ
              refine ⟨wide_room _, (callsIn_wide.2 HJ).mono ?_⟩
              rintro e w9 ⟨x, rfl, B9, S9, m0, R, rfl, iR, ok⟩
              gi_wp2_with fail
              refine onePost_any (by kernel_rfl) ?_
              have hr9 := B9.get (show N + 1 ∉ [P] by simp; omega) (hx.get EE.out.res)
              have g9 := B9.get (show b9 ∉ [P] by have := HB9.out; simp; omega) (hx.get H9.out)
              have okk : EndOk c true T R z := by
                rw [HE.out] at ok ⊢
                exact EndOk.last HK5.out ok
              have HF := Lib.hid (endFin (M0 := N + 1) (by omega) (by omega) ((EE.out.bt.trans (Bt.ext hx)).trans B9) S9 iR okk hr9)
              obtain ⟨c0, c1, c2, cf⟩ := cells3 hr9
              clear HTE HJ B9 S9 iR ok okk hNN hx hr9
              clear g9
              refine batchG hfn (fuel := 1) [12] (by kernel_rfl) rfl ?_
              repeat (go_big_quiet_step ((fail)))
              refine wpQuiet_nil ?_
              refine wpAnyG_one (j := 13) (by kernel_rfl) rfl ?_
              gi_wp2_with fail
              refine onePost_any (by kernel_rfl) ?_
              refine wpAnyG_done (by kernel_rfl) ?_
              refine calmQ_normal ?_
              clear c0 c1 c2 cf
              go_wp2
              change bodyPost _ _ _ _ _ (put3 w9 (N + 1) (.int .i64 z.1) (.int .i64 z.2.1) (.int .u64 z.2.2))
              generalize put3 w9 (N + 1) (.int .i64 z.1) (.int .i64 z.2.1) (.int .u64 z.2.2) = W' at *
              obtain ⟨e0, e1, e2, -⟩ := cells3 HF.out.2
              refine bodyPost_ret (v := .tuple #[.pointer R.ptr, itV z.1 z.2.1 z.2.2]) ?_ rfl HF.out.1
              simp [results, Tryz.results102, go_sem, e0, e1, e2, itV]
          · obtain ⟨d0, d1, d2, -⟩ := cells3 (hx.get H9.out)
            gi_wp2_with fail
            refine onePost_ext (Ext.refl _) ?_
            clear d0 d1 d2
            refine wpAnyG_one (j := 5) (by kernel_rfl) rfl ?_
            gi_wp2_with fail
            refine ⟨wide_room _, (callsIn_wide.2 (schItem_made (EE.out.sch.ext hx) (EE.out.tr.ext hx) HNE.out)).mono ?_⟩
            rw [rootIt_item]
            unfold itV
            rintro e w7 ⟨rfl, hn⟩
            gi_wp2_with fail
            refine onePost_ext (hn) ?_
            replace hx := hx.trans hn
            clear hn
            refine wpAnyG_one (j := 9) (by kernel_rfl) rfl ?_
            gi_wp2_with fail
            refine ⟨wide_room _, (callsIn_wide.2 (left_any _ T (EE.out.tr.ext hx))).mono ?_⟩
            rw [hlT]
            rintro e w8 ⟨rfl, hn⟩
            gi_wp2_with fail
            refine onePost_ext (hn) ?_
            replace hx := hx.trans hn
            clear hn
            refine wpAnyG_one (j := 10) (by kernel_rfl) rfl ?_
            gi_wp2_with fail
            have hNN := HN.out
            have HTE := EE.out.tr.ext hx
            rw [HE.out] at HTE
            have HJ := toJoin_any (EE.out.sch.ext hx).sch (L := l) (R := S) pl (rootIt c T).1 (rootIt c T).2.1 (rootIt c T).2.2 (hx.get EE.out.box) HTE.2.1 (EE.out.rest.ext hx) HP.out.1.1 HK5.out.may.part (by have := HP.out.2.2.2; have := HK5.out.count; omega)
            unfold itV at HJ
            refine ⟨wide_room _, (callsIn_wide.2 HJ).mono ?_⟩
            rintro e w9 ⟨x, rfl, B9, S9, m0, R, rfl, iR, ok⟩
            gi_wp2_with fail
            refine onePost_any (by kernel_rfl) ?_
            have hr9 := B9.get (show N + 1 ∉ [P] by simp; omega) (hx.get EE.out.res)
            have g9 := B9.get (show b9 ∉ [P] by have := HB9.out; simp; omega) (hx.get H9.out)
            have okk : EndOk c true T R z := by
              rw [HE.out] at ok ⊢
              exact EndOk.last HK5.out ok
            have HF := Lib.hid (endFin (M0 := N + 1) (by omega) (by omega) ((EE.out.bt.trans (Bt.ext hx)).trans B9) S9 iR okk hr9)
            obtain ⟨c0, c1, c2, cf⟩ := cells3 hr9
            clear HTE HJ B9 S9 iR ok okk hNN hx hr9
            clear g9
            refine batchG hfn (fuel := 1) [12] (by kernel_rfl) rfl ?_
            repeat (go_big_quiet_step ((fail)))
            refine wpQuiet_nil ?_
            refine wpAnyG_one (j := 13) (by kernel_rfl) rfl ?_
            gi_wp2_with fail
            refine onePost_any (by kernel_rfl) ?_
            refine wpAnyG_done (by kernel_rfl) ?_
            refine calmQ_normal ?_
            clear c0 c1 c2 cf
            go_wp2
            change bodyPost _ _ _ _ _ (put3 w9 (N + 1) (.int .i64 z.1) (.int .i64 z.2.1) (.int .u64 z.2.2))
            generalize put3 w9 (N + 1) (.int .i64 z.1) (.int .i64 z.2.1) (.int .u64 z.2.2) = W' at *
            obtain ⟨e0, e1, e2, -⟩ := cells3 HF.out.2
            refine bodyPost_ret (v := .tuple #[.pointer R.ptr, itV z.1 z.2.1 z.2.2]) ?_ rfl HF.out.1
            simp [results, Tryz.results102, go_sem, e0, e1, e2, itV]
      · gi_wp2_with fail
        have h9 := (Ext.drew _).get (alloc_at w3 (.cells #[.int .i64 0, .int .i64 0, .int .u64 0] 66) _ rfl)
        have hb9 := hs3
        have hx := ((Ext.refl w3).alloc (.cells #[.int .i64 0, .int .i64 0, .int .u64 0] 66)).trans (Ext.drew _)
        refine onePost_ext ((Ext.refl _).alloc _) ?_
        refine wpAnyG_one (j := 5) (by kernel_rfl) rfl ?_
        gi_wp2_with fail
        generalize (w3.alloc (.cells #[.int .i64 0, .int .i64 0, .int .u64 0] 66)).drew = w6 at *
        generalize w3.heap.size = b9 at *
        refine ⟨wide_room _, (callsIn_wide.2 (right_any _ T (HT.out.ext (HX3.out.trans hx)))).mono ?_⟩
        rw [hrT]
        rintro e w4 ⟨rfl, h4⟩
        gi_wp2_with fail
        refine onePost_ext (h4) ?_
        replace hx := hx.trans h4
        replace h9 := h4.get h9
        clear h4
        refine wpAnyG_one (j := 6) (by kernel_rfl) rfl ?_
        gi_wp2_with fail
        refine ⟨wide_room _, (callsIn_wide.2 (IH.out w4 nn HR0.out (HS.out.ext (HX3.out.trans hx)) (HRr.out.ext (HX3.out.trans hx)) HP.out.1.2 HP.out.2.2.1 ((HX3.out.trans hx).get HB.out))).mono ?_⟩
        rintro e w5 ⟨S, z, m, rfl, B5, S5, iS, K5⟩
        have hNN := HN.out
        obtain ⟨hwc, hrc, -, -⟩ := HW.out _ (HH3.out.trans hx)
        have E5 : EV w P c N pl _ _ _ T S m w5 := ⟨(Bt.ext (HX3.out.trans hx)).trans B5, S5, (HS.out.ext (HX3.out.trans hx)).inh B5 (HT.out.ext (HX3.out.trans hx)), iS, B5.get (by simp; omega) hwc, B5.get (by simp; omega) hrc, B5.get (by simp; exact HPP.out) ((HX3.out.trans hx).get HB.out)⟩
        have HK5 := Lib.hid K5
        clear hwc hrc S5 iS K5
        gi_wp2_with fail
        refine onePost_any (by kernel_rfl) ?_
        refine batchG hfn (fuel := 1) [7, 8, 9, 11] (by kernel_rfl) rfl ?_
        repeat (go_big_quiet_step ((fail)))
        refine wpQuiet_nil ?_
        replace h9 := B5.get (show b9 ∉ [P] by simp; omega) h9
        clear B5 hx
        obtain ⟨d0, d1, d2, df⟩ := cells3 h9
        have hNN := HN.out
        obtain ⟨E6, g9⟩ := E5.put hNN.symm hlt h9 hb9 (.int .i64 z.1) (.int .i64 z.2.1) (.int .u64 z.2.2)
        unfold put3 at E6 g9
        unfold itV
        refine wpAnyG_one (j := 12) (by kernel_rfl) rfl ?_
        gi_wp2_with fail
        refine onePost_any (by kernel_rfl) ?_
        generalize ((w5.setCell ⟨b9, 0, none⟩ (.int .i64 z.1)).setCell ⟨b9, 1, none⟩ (.int .i64 z.2.1)).setCell ⟨b9, 2, none⟩ (.int .u64 z.2.2) = V at *
        have EE := Lib.hid E6
        have H9 := Lib.hid g9
        have HB9 := Lib.hid hb9
        clear d0 d1 d2 df E5 E6 g9 h9 hb9 hNN
        refine wpAnyG_done (by kernel_rfl) ?_
        refine calmQ_normal ?_
        go_wp2_with fail
        refine (wpIn_wide (n := mm)).1 ?_
        gi_wp2_with fail
        obtain ⟨q0, q1, q2, -⟩ := cells3 EE.out.way
        have a1 := cell_all q1
        have a2 := cell_all q2
        have hx := Ext.drew V
        refine wpIn_region_G (fun j => !(List.contains (α := Nat) [10, 13] j)) (by kernel_rfl) ?_
        refine batchG hfn (fuel := 6) [0, 1, 2, 3, 4, 6, 7, 8] (by kernel_rfl) rfl ?_
        repeat (go_big_quiet_step ((fail)))
        refine wpQuiet_nil ?_
        clear a1 a2 q0 q1 q2
        refine wpAnyG_two (j := 5) (k := 11) (by kernel_rfl) rfl rfl ?_ ?_
        · gi_wp2_with fail
          refine ⟨wide_room _, (callsIn_wide.2 (schItem_made (EE.out.sch.ext hx) (EE.out.tr.ext hx) HNE.out)).mono ?_⟩
          rw [rootIt_item]
          unfold itV
          rintro e w7 ⟨rfl, hn⟩
          gi_wp2_with fail
          refine onePost_ext (hn) ?_
          replace hx := hx.trans hn
          clear hn
          refine wpAnyG_two (j := 9) (k := 11) (by kernel_rfl) rfl rfl ?_ ?_
          · gi_wp2_with fail
            refine ⟨wide_room _, (callsIn_wide.2 (left_any _ T (EE.out.tr.ext hx))).mono ?_⟩
            rw [hlT]
            rintro e w8 ⟨rfl, hn⟩
            gi_wp2_with fail
            refine onePost_ext (hn) ?_
            replace hx := hx.trans hn
            clear hn
            refine wpAnyG_two (j := 10) (k := 11) (by kernel_rfl) rfl rfl ?_ ?_
            · gi_wp2_with fail
              have hNN := HN.out
              have HTE := EE.out.tr.ext hx
              rw [HE.out] at HTE
              have HJ := toJoin_any (EE.out.sch.ext hx).sch (L := l) (R := S) pl (rootIt c T).1 (rootIt c T).2.1 (rootIt c T).2.2 (hx.get EE.out.box) HTE.2.1 (EE.out.rest.ext hx) HP.out.1.1 HK5.out.may.part (by have := HP.out.2.2.2; have := HK5.out.count; omega)
              unfold itV at HJ
              refine ⟨wide_room _, (callsIn_wide.2 HJ).mono ?_⟩
              rintro e w9 ⟨x, rfl, B9, S9, m0, R, rfl, iR, ok⟩
              gi_wp2_with fail
              refine onePost_any (by kernel_rfl) ?_
              have hr9 := B9.get (show N + 1 ∉ [P] by simp; omega) (hx.get EE.out.res)
              have g9 := B9.get (show b9 ∉ [P] by have := HB9.out; simp; omega) (hx.get H9.out)
              have okk : EndOk c true T R z := by
                rw [HE.out] at ok ⊢
                exact EndOk.last HK5.out ok
              have HF := Lib.hid (endFin (M0 := N + 1) (by omega) (by omega) ((EE.out.bt.trans (Bt.ext hx)).trans B9) S9 iR okk hr9)
              obtain ⟨c0, c1, c2, cf⟩ := cells3 hr9
              clear HTE HJ B9 S9 iR ok okk hNN hx hr9
              obtain ⟨d0, d1, d2, -⟩ := cells3 g9
              clear g9
              refine takeG0 hfn 12 (by kernel_rfl) rfl ?_
              repeat (go_big_quiet_step ((fail)))
              refine wpQuiet_nil ?_
              refine wpAnyG_one (j := 11) (by kernel_rfl) rfl ?_
              gi_wp2_with fail
              refine onePost_ext (Ext.refl _) ?_
              clear d0 d1 d2
              refine wpAnyG_one (j := 13) (by kernel_rfl) rfl ?_
              gi_wp2_with fail
              refine onePost_any (by kernel_rfl) ?_
              refine wpAnyG_done (by kernel_rfl) ?_
              refine calmQ_normal ?_
              clear c0 c1 c2 cf
              go_wp2
              change bodyPost _ _ _ _ _ (put3 w9 (N + 1) (.int .i64 z.1) (.int .i64 z.2.1) (.int .u64 z.2.2))
              generalize put3 w9 (N + 1) (.int .i64 z.1) (.int .i64 z.2.1) (.int .u64 z.2.2) = W' at *
              obtain ⟨e0, e1, e2, -⟩ := cells3 HF.out.2
              refine bodyPost_ret (v := .tuple #[.pointer R.ptr, itV z.1 z.2.1 z.2.2]) ?_ rfl HF.out.1
              simp [results, Tryz.results102, go_sem, e0, e1, e2, itV]
            · obtain ⟨d0, d1, d2, -⟩ := cells3 (hx.get H9.out)
              gi_wp2_with fail
              refine onePost_ext (Ext.refl _) ?_
              clear d0 d1 d2
              refine wpAnyG_one (j := 10) (by kernel_rfl) rfl ?_
              gi_wp2_with fail
              have hNN := HN.out
              have HTE := EE.out.tr.ext hx
              rw [HE.out] at HTE
              have HJ := toJoin_any (EE.out.sch.ext hx).sch (L := l) (R := S) pl (rootIt c T).1 (rootIt c T).2.1 (rootIt c T).2.2 (hx.get EE.out.box) HTE.2.1 (EE.out.rest.ext hx) HP.out.1.1 HK5.out.may.part (by have := HP.out.2.2.2; have := HK5.out.count; omega)
              unfold itV at HJ
              refine ⟨wide_room _, (callsIn_wide.2 HJ).mono ?_⟩
              rintro e w9 ⟨x, rfl, B9, S9, m0, R, rfl, iR, ok⟩
              gi_wp2_with fail
              refine onePost_any (by kernel_rfl) ?_
              have hr9 := B9.get (show N + 1 ∉ [P] by simp; omega) (hx.get EE.out.res)
              have g9 := B9.get (show b9 ∉ [P] by have := HB9.out; simp; omega) (hx.get H9.out)
              have okk : EndOk c true T R z := by
                rw [HE.out] at ok ⊢
                exact EndOk.last HK5.out ok
              have HF := Lib.hid (endFin (M0 := N + 1) (by omega) (by omega) ((EE.out.bt.trans (Bt.ext hx)).trans B9) S9 iR okk hr9)
              obtain ⟨c0, c1, c2, cf⟩ := cells3 hr9
              clear HTE HJ B9 S9 iR ok okk hNN hx hr9
              clear g9
              refine batchG hfn (fuel := 1) [12] (by kernel_rfl) rfl ?_
              repeat (go_big_quiet_step ((fail)))
              refine wpQuiet_nil ?_
              refine wpAnyG_one (j := 13) (by kernel_rfl) rfl ?_
              gi_wp2_with fail
              refine onePost_any (by kernel_rfl) ?_
              refine wpAnyG_done (by kernel_rfl) ?_
              refine calmQ_normal ?_
              clear c0 c1 c2 cf
              go_wp2
              change bodyPost _ _ _ _ _ (put3 w9 (N + 1) (.int .i64 z.1) (.int .i64 z.2.1) (.int .u64 z.2.2))
              generalize put3 w9 (N + 1) (.int .i64 z.1) (.int .i64 z.2.1) (.int .u64 z.2.2) = W' at *
              obtain ⟨e0, e1, e2, -⟩ := cells3 HF.out.2
              refine bodyPost_ret (v := .tuple #[.pointer R.ptr, itV z.1 z.2.1 z.2.2]) ?_ rfl HF.out.1
              simp [results, Tryz.results102, go_sem, e0, e1, e2, itV]
          · obtain ⟨d0, d1, d2, -⟩ := cells3 (hx.get H9.out)
            gi_wp2_with fail
            refine onePost_ext (Ext.refl _) ?_
            clear d0 d1 d2
            refine wpAnyG_one (j := 9) (by kernel_rfl) rfl ?_
            gi_wp2_with fail
            refine ⟨wide_room _, (callsIn_wide.2 (left_any _ T (EE.out.tr.ext hx))).mono ?_⟩
            rw [hlT]
            rintro e w8 ⟨rfl, hn⟩
            gi_wp2_with fail
            refine onePost_ext (hn) ?_
            replace hx := hx.trans hn
            clear hn
            refine wpAnyG_one (j := 10) (by kernel_rfl) rfl ?_
            gi_wp2_with fail
            have hNN := HN.out
            have HTE := EE.out.tr.ext hx
            rw [HE.out] at HTE
            have HJ := toJoin_any (EE.out.sch.ext hx).sch (L := l) (R := S) pl (rootIt c T).1 (rootIt c T).2.1 (rootIt c T).2.2 (hx.get EE.out.box) HTE.2.1 (EE.out.rest.ext hx) HP.out.1.1 HK5.out.may.part (by have := HP.out.2.2.2; have := HK5.out.count; omega)
            unfold itV at HJ
            refine ⟨wide_room _, (callsIn_wide.2 HJ).mono ?_⟩
            rintro e w9 ⟨x, rfl, B9, S9, m0, R, rfl, iR, ok⟩
            gi_wp2_with fail
            refine onePost_any (by kernel_rfl) ?_
            have hr9 := B9.get (show N + 1 ∉ [P] by simp; omega) (hx.get EE.out.res)
            have g9 := B9.get (show b9 ∉ [P] by have := HB9.out; simp; omega) (hx.get H9.out)
            have okk : EndOk c true T R z := by
              rw [HE.out] at ok ⊢
              exact EndOk.last HK5.out ok
            have HF := Lib.hid (endFin (M0 := N + 1) (by omega) (by omega) ((EE.out.bt.trans (Bt.ext hx)).trans B9) S9 iR okk hr9)
            obtain ⟨c0, c1, c2, cf⟩ := cells3 hr9
            clear HTE HJ B9 S9 iR ok okk hNN hx hr9
            clear g9
            refine batchG hfn (fuel := 1) [12] (by kernel_rfl) rfl ?_
            repeat (go_big_quiet_step ((fail)))
            refine wpQuiet_nil ?_
            refine wpAnyG_one (j := 13) (by kernel_rfl) rfl ?_
            gi_wp2_with fail
            refine onePost_any (by kernel_rfl) ?_
            refine wpAnyG_done (by kernel_rfl) ?_
            refine calmQ_normal ?_
            clear c0 c1 c2 cf
            go_wp2
            change bodyPost _ _ _ _ _ (put3 w9 (N + 1) (.int .i64 z.1) (.int .i64 z.2.1) (.int .u64 z.2.2))
            generalize put3 w9 (N + 1) (.int .i64 z.1) (.int .i64 z.2.1) (.int .u64 z.2.2) = W' at *
            obtain ⟨e0, e1, e2, -⟩ := cells3 HF.out.2
            refine bodyPost_ret (v := .tuple #[.pointer R.ptr, itV z.1 z.2.1 z.2.2]) ?_ rfl HF.out.1
            simp [results, Tryz.results102, go_sem, e0, e1, e2, itV]
        · obtain ⟨d0, d1, d2, -⟩ := cells3 (hx.get H9.out)
          gi_wp2_with fail
          refine onePost_ext (Ext.refl _) ?_
          clear d0 d1 d2
          refine wpAnyG_one (j := 5) (by kernel_rfl) rfl ?_
          gi_wp2_with fail
          refine ⟨wide_room _, (callsIn_wide.2 (schItem_made (EE.out.sch.ext hx) (EE.out.tr.ext hx) HNE.out)).mono ?_⟩
          rw [rootIt_item]
          unfold itV
          rintro e w7 ⟨rfl, hn⟩
          gi_wp2_with fail
          refine onePost_ext (hn) ?_
          replace hx := hx.trans hn
          clear hn
          refine wpAnyG_one (j := 9) (by kernel_rfl) rfl ?_
          gi_wp2_with fail
          refine ⟨wide_room _, (callsIn_wide.2 (left_any _ T (EE.out.tr.ext hx))).mono ?_⟩
          rw [hlT]
          rintro e w8 ⟨rfl, hn⟩
          gi_wp2_with fail
          refine onePost_ext (hn) ?_
          replace hx := hx.trans hn
          clear hn
          refine wpAnyG_one (j := 10) (by kernel_rfl) rfl ?_
          gi_wp2_with fail
          have hNN := HN.out
          have HTE := EE.out.tr.ext hx
          rw [HE.out] at HTE
          have HJ := toJoin_any (EE.out.sch.ext hx).sch (L := l) (R := S) pl (rootIt c T).1 (rootIt c T).2.1 (rootIt c T).2.2 (hx.get EE.out.box) HTE.2.1 (EE.out.rest.ext hx) HP.out.1.1 HK5.out.may.part (by have := HP.out.2.2.2; have := HK5.out.count; omega)
          unfold itV at HJ
          refine ⟨wide_room _, (callsIn_wide.2 HJ).mono ?_⟩
          rintro e w9 ⟨x, rfl, B9, S9, m0, R, rfl, iR, ok⟩
          gi_wp2_with fail
          refine onePost_any (by kernel_rfl) ?_
          have hr9 := B9.get (show N + 1 ∉ [P] by simp; omega) (hx.get EE.out.res)
          have g9 := B9.get (show b9 ∉ [P] by have := HB9.out; simp; omega) (hx.get H9.out)
          have okk : EndOk c true T R z := by
            rw [HE.out] at ok ⊢
            exact EndOk.last HK5.out ok
          have HF := Lib.hid (endFin (M0 := N + 1) (by omega) (by omega) ((EE.out.bt.trans (Bt.ext hx)).trans B9) S9 iR okk hr9)
          obtain ⟨c0, c1, c2, cf⟩ := cells3 hr9
          clear HTE HJ B9 S9 iR ok okk hNN hx hr9
          clear g9
          refine batchG hfn (fuel := 1) [12] (by kernel_rfl) rfl ?_
          repeat (go_big_quiet_step ((fail)))
          refine wpQuiet_nil ?_
          refine wpAnyG_one (j := 13) (by kernel_rfl) rfl ?_
          gi_wp2_with fail
          refine onePost_any (by kernel_rfl) ?_
          refine wpAnyG_done (by kernel_rfl) ?_
          refine calmQ_normal ?_
          clear c0 c1 c2 cf
          go_wp2
          change bodyPost _ _ _ _ _ (put3 w9 (N + 1) (.int .i64 z.1) (.int .i64 z.2.1) (.int .u64 z.2.2))
          generalize put3 w9 (N + 1) (.int .i64 z.1) (.int .i64 z.2.1) (.int .u64 z.2.2) = W' at *
          obtain ⟨e0, e1, e2, -⟩ := cells3 HF.out.2
          refine bodyPost_ret (v := .tuple #[.pointer R.ptr, itV z.1 z.2.1 z.2.2]) ?_ rfl HF.out.1
          simp [results, Tryz.results102, go_sem, e0, e1, e2, itV]
end Go.Proofs.YtoiohjifjmejkaaGreat
