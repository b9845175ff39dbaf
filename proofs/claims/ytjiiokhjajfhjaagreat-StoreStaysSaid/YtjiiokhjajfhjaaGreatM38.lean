/- store: Put. store: a store and its scheme; Sound; what no store answers. -/
import Derived.Test.YtjiiokhjajfhjaaGreatM10
import Derived.Test.YtjiiokhjajfhjaaGreatM37
namespace Go.Proofs.YtjiiokhjajfhjaaGreat
open Go Go.RowKit

/-- trees whose pointers lie in a row. -/
def TRow (w : World) (a : Option Addr) (cap : Nat) (Ts : List Tr) : Prop := Ts = [] ∨ ∃ b o, a = some ⟨b, o, none⟩ ∧ Ts.length ≤ cap ∧ ∀ (i : Nat) (T : Tr), Ts[i]? = some T → w.cell? ⟨b, o + i, none⟩ = some (Value.pointer T.ptr)
def tptr (T : Tr) : Value := .pointer T.ptr
theorem append_vers (ty : TypeId) {w : World} {G : Nat} {Vs Ts : List Tr} {a : Option Addr} {cap : Nat} (hV : Vers w G Vs) (hT : TRow w a cap Ts) (hl : Vs.length + Ts.length ≤ 10000) :
    ∃ v' w' G' cap', (Builtin.append_ #[35, 35] ty #[.slice (some ⟨G, 0, none⟩) Vs.length Vs.length, .slice a Ts.length cap]).run Tryz.prog w = .ok v' w' ∧
      v' = .slice (some ⟨G', 0, none⟩) (Vs ++ Ts).length cap' ∧ (Vs ++ Ts).length ≤ cap' ∧ Vers w' G' (Vs ++ Ts) ∧ Ext w w' := by
  obtain ⟨i, hi, hz, hs, hb⟩ := node_info
  by_cases h0 : Ts = []
  · subst h0
    have hsrc : Src Tryz.prog i.size 35 (.slice a 0 cap) 0 [] w := by
      cases a with
      | none => exact Src.ofNil w Tryz.underlying35 cap
      | some a => exact Src.ofSlice w Tryz.underlying35 a 0 cap [] (by simp) (by simp) (by simp)
    refine ⟨_, w, G, Vs.length, run_append_nothing w _ _ ty _ i Tryz.underlying35 hi _ _ _ (Nat.le_refl _) _ hsrc, by simp, by simp, by simpa using hV, Ext.refl _⟩
  · rcases hT with h | ⟨b, o, rfl, hc, hcells⟩
    · exact (h0 h).elim
    · have hpos : 0 < Ts.length := List.length_pos_iff.2 h0
      have hr := run_append_grow (P := Tryz.prog) (w := w) 35 ty 27 i _ Tryz.underlying35 hi hz ⟨G, 0, none⟩ Vs.length Vs.length (Vs.map tptr) (by rw [List.length_map, hs]; omega)
        (fun j v hj => by
          rw [List.getElem?_map] at hj
          cases hVj : Vs[j]? with
          | none => rw [hVj] at hj; cases hj
          | some T =>
            rw [hVj] at hj
            simp only [Option.map_some, Option.some.injEq] at hj
            subst hj
            rw [Addr.add_mid, Nat.zero_add]
            exact hV.cell hVj)
        ⟨b, o, none⟩ Ts.length cap (Ts.map tptr) (by rw [List.length_map, hs]; omega)
        (fun j v hj => by
          rw [List.getElem?_map] at hj
          cases hTj : Ts[j]? with
          | none => rw [hTj] at hj; cases hj
          | some T =>
            rw [hTj] at hj
            simp only [Option.map_some, Option.some.injEq] at hj
            subst hj
            rw [Addr.add_mid]
            exact hcells j T hTj)
        (by omega) (by omega) (by rw [hb]; exact growslice_fits (by omega) (by omega))
      refine ⟨_, _, w.heap.size, _, hr, by rw [List.length_append], by rw [List.length_append]; exact grownCap_ge _ _ _ _, ⟨_, alloc_at w.drew _ _ rfl, fun j T hj => ?_⟩, (Ext.drew w).alloc _⟩
      have hjl := (List.getElem?_eq_some_iff.1 hj).1
      have e : ((Vs ++ Ts).map tptr)[j]? = some (.pointer T.ptr) := by rw [List.getElem?_map, hj]; rfl
      rw [List.map_append] at e
      rw [Array.getElem?_append_left (by simp; simpa using hjl)]
      simpa using e
theorem wpList_append_vers {ops : Array Oper} {rest : List Oper} {o : Oper} {a : Act} {Q : Exit → Act → World → Prop} (hgd : o.guard = none) (s x : Operand) (ho : o.op = .call { callee := .builtin .append, args := #[s, x], argTypes := #[35, 35] })
    {w : World} {G : Nat} {Vs Ts : List Tr} {ad : Option Addr} {cap : Nat} (hs : a.eval s = .slice (some ⟨G, 0, none⟩) Vs.length Vs.length) (hx : a.eval x = .slice ad Ts.length cap) (hV : Vers w G Vs) (hT : TRow w ad cap Ts) (hl : Vs.length + Ts.length ≤ 10000)
    (h : ∀ w' G' cap', (Vs ++ Ts).length ≤ cap' → Vers w' G' (Vs ++ Ts) → Ext w w' → wpList Tryz.prog ops Q rest (a.put o.dst (.slice (some ⟨G', 0, none⟩) (Vs ++ Ts).length cap')) w') : wpList Tryz.prog ops Q (o :: rest) a w := by
  refine wpList_plain hgd fun K hK => ?_
  obtain ⟨v', w', G', cap', hr, rfl, h1, h2, h3⟩ := append_vers o.type hV hT hl
  unfold Oper.wp execOp
  simp only [ho, resolve, invoke, builtin, Sem.run_bind, Sem.run_pure, Result.andThen_ok, List.map_toArray, List.map_cons, List.map_nil, hs, hx, hr]
  exact hK _ _ (h w' G' cap' h1 h2 h3)
theorem JOwn.mono {B B' : Nat} {w : World} {v : Value} {zs : List Nat} (h : JOwn B w v zs) (e : B' ≤ B) : JOwn B' w v zs := by
  obtain ⟨h1, h | ⟨g, cap, cur, hv, hb, hg, hc⟩⟩ := h
  · exact ⟨h1, .inl h⟩
  · exact ⟨h1, .inr ⟨g, cap, cur, hv, Nat.le_trans e hb, hg, hc⟩⟩
/-- the numbers of m versions, from n on. -/
def numsFrom (n m : Nat) : List Nat := (List.range m).map (n + ·)
theorem numsFrom_succ (n m : Nat) : numsFrom n (m + 1) = numsFrom n m ++ [n + m] := by simp [numsFrom, List.range_succ]
theorem numsFrom_len (n m : Nat) : (numsFrom n m).length = m := by simp [numsFrom]
theorem stoPutFull_any (Q P : Nat) (Vs : List Tr) (m : Nat) (a : Option Addr) (cap : Nat) (w : World) (h : Sto Q w P Vs) (hf : 4096 < Vs.length + m) (hm : Vs.length + m < 100000) :
    Calls Tryz.prog 11 #[.pointer (some ⟨Q, 0, none⟩), .slice a m cap] w
      (fun e w' => e = .returned (.tuple #[.slice none 0 0, .int .i64 4]) ∧ Bt [Q] w w' ∧ Made Q w' P Vs) := by
  have HS := Lib.hid h
  clear h
  go_enter Tryz.func11, Tryz.ntmps11
  go_wp2
  refine wp_loop_rounds 2 ?_
  rw [rounds_succ]
  go_wp2_with fail
  refine (versions_any Q P Vs w HS.out).mono ?_
  rintro e w1 ⟨G, cap1, rfl, B1, m1, -, -⟩
  have HM := Lib.hid (And.intro B1 m1)
  obtain ⟨RB, G', cap', s2, r2, -⟩ := m1
  have hcr := cell_of r2 0
  simp at hcr
  have hL := Lib.hid (ptrLoad_any Q (some ⟨RB, 0, none⟩) w1 (cell_of s2 4) (fun a ha => by cases ha; exact ⟨RB, _, rfl, r2⟩))
  clear s2 r2 B1
  go_wp2_with fail
  refine hL.out.mono ?_
  rintro e w2 ⟨rfl, rfl⟩
  have hgt : (4096 : Int) < (Vs.length : Int) + (m : Int) := by omega
  go_wp2
  go_ret2
  exact ⟨rfl, HM.out.1, HM.out.2⟩
set_option maxRecDepth 100000 in
set_option maxHeartbeats 4000000 in
theorem stoPut_any (Q P : Nat) (Vs Ts : List Tr) (a : Option Addr) (cap : Nat) (w : World) (h : Sto Q w P Vs) (hT : TRow w a cap Ts) (hTn : ∀ b o, a = some ⟨b, o, none⟩ → Ts ≠ [] → b ≠ Q) (hf : Vs.length + Ts.length ≤ 4096) :
    Calls Tryz.prog 11 #[.pointer (some ⟨Q, 0, none⟩), .slice a Ts.length cap] w
      (fun e w' => ∃ nv, e = .returned (.tuple #[nv, .int .i64 0]) ∧ Bt [Q] w w' ∧ Made Q w' P (Vs ++ Ts) ∧ JOwn w.heap.size w' nv (numsFrom Vs.length Ts.length)) := by
  have HS := Lib.hid h
  have HT := Lib.hid hT
  have HTN := Lib.hid hTn
  have hlt := h.lt
  clear h hT hTn
  go_enter Tryz.func11, Tryz.ntmps11
  go_wp2
  refine wp_loop_rounds 2 ?_
  rw [rounds_succ]
  go_wp2_with fail
  refine (versions_any Q P Vs w HS.out).mono ?_
  rintro e w1 ⟨G0, cap1, rfl, B1, m1, -, -⟩
  have HB1 := Lib.hid B1
  obtain ⟨RB, G, cap', s2, r2, hcap, g2, hne⟩ := m1
  have hcr := cell_of r2 0
  simp at hcr
  have hL := Lib.hid (ptrLoad_any Q (some ⟨RB, 0, none⟩) w1 (cell_of s2 4) (fun a ha => by cases ha; exact ⟨RB, _, rfl, r2⟩))
  have HM := Lib.hid (And.intro s2 (And.intro r2 (And.intro g2 hne)))
  clear s2 r2 g2 hne B1
  go_wp2_with fail
  refine hL.out.mono ?_
  rintro e w2 ⟨rfl, rfl⟩
  have hgt : ¬ ((4096 : Int) < (Vs.length : Int) + (Ts.length : Int)) := by omega
  have HT2 := Lib.hid (show TRow w2 a cap Ts from HT.out.imp id (fun ⟨b, o, h1, h2, h3⟩ => ⟨b, o, h1, h2, fun i T hi => by
    have hc := h3 i T hi
    rw [World.cell?_of_block (w := w) (HB1.out.block b (cell_lt hc) (by simp; exact HTN.out b o h1 (List.ne_nil_of_mem (List.mem_of_getElem? hi))))]
    exact hc⟩))
  go_wp2_with (at_builtin; refine wpList_append_vers (Vs := Vs) (Ts := Ts) rfl (.tmp 32) (.tmp 33) rfl rfl rfl HM.out.2.2.1 HT2.out ?b1 ?_)
  case b1 => omega
  intro w3 G3 cap3 hc3 g3 h3
  go_wp2_with fail
  have hb4 := alloc_at w3 (.cells #[.slice (some ⟨G3, 0, none⟩) (Vs.length + Ts.length) cap3] 35) _ rfl
  have hE4 := (Ext.refl w3).alloc (.cells #[.slice (some ⟨G3, 0, none⟩) (Vs.length + Ts.length) cap3] 35)
  generalize w3.alloc (.cells #[.slice (some ⟨G3, 0, none⟩) (Vs.length + Ts.length) cap3] 35) = w4 at *
  have hX24 := h3.trans hE4
  have hS4 : StoAt Q w4 P 1 0 (some ⟨RB, 0, none⟩) := hX24.get HM.out.1
  have hR4 : RowBox w4 RB (.slice (some ⟨G, 0, none⟩) Vs.length cap') := hX24.get HM.out.2.1
  have g4 := g3.bt (L := []) (Bt.ext hE4) (by simp)
  refine (ptrCas_any Q (some ⟨RB, 0, none⟩) w3.heap.size _ w4 (cell_of hS4 4) (frozen_of hS4 4) (fun a ha => by cases ha; exact ⟨_, cell_of hR4 0⟩) hb4).mono ?_
  rintro e w5 ⟨rfl, ew⟩
  have C : Bt [Q] w4 w5 := by rw [ew]; exact (Bt.refl _ _).set _ _ (by simp)
  have hG3 : G3 ≠ Q := by obtain ⟨cur, hg, -⟩ := g4; exact hS4.ne hg (by decide)
  have hm5 : Made Q w5 P (Vs ++ Ts) := by
    refine ⟨w3.heap.size, G3, cap3, by rw [ew]; exact sch_set hS4 4 _, ?_, by rw [List.length_append]; exact hc3, g4.bt C (by simp; exact hG3), by simp [HM.out.2.2.2]⟩
    rw [List.length_append]
    exact C.get (by simp; exact hS4.ne hb4 (by decide)) hb4
  have HF := Lib.hid (And.intro ((HB1.out.trans (Bt.ext hX24)).trans C) hm5)
  have hTl : Ts.length ≤ 4096 := by omega
  have hVl : Vs.length ≤ 4096 := by omega
  clear ew C hm5 hb4 hE4 hX24 hS4 hR4 g4 g3 h3 hG3 hcr hL
  go_wp2
  go_loopw [4, 42] (fun nv i W => Ext w5 W ∧ ∃ k : Nat, k ≤ Ts.length ∧ i = .int .i64 k ∧ JOwn w5.heap.size W nv (numsFrom Vs.length k)) (fun _ i _ => Ts.length - (intOf i).toNat)
  case atStart => exact ⟨Ext.refl _, 0, Nat.zero_le _, rfl, JOwn.nil _ _⟩
  case round =>
    obtain ⟨hX, k, hk, rfl, ho⟩ := hrel
    have HX := Lib.hid hX
    by_cases hlt : k < Ts.length
    · have HE := Lib.hid ((Ext.refl wr).alloc (.cells #[.int .i64 ((Vs.length : Int) + (k : Int))] 3))
      have HO := Lib.hid (ho.ext HE.out)
      have HC := Lib.hid (show (wr.alloc (.cells #[.int .i64 ((Vs.length : Int) + (k : Int))] 3)).cell? ⟨wr.heap.size, 0, none⟩ = some (.int .i64 ((Vs.length + k : Nat) : Int)) by
        rw [cell_of (alloc_at wr _ _ rfl) 0]
        simp)
      have HSZ := Lib.hid (Nat.le_trans HX.out.size HE.out.size)
      have HLEN := Lib.hid (show (numsFrom Vs.length k).length ≤ 20000 by rw [numsFrom_len]; omega)
      clear ho hX
      go_wp2_with (at_builtin; refine wpList_append_j (B := w5.heap.size) (zs := numsFrom Vs.length k) (d := Vs.length + k) (b := wr.heap.size) rfl (.tmp 45) (.tmp 49) rfl rfl rfl HO.out HC.out HLEN.out HSZ.out ?_)
      intro v6 w6 ho6 hg6 _
      have HH := Lib.hid (And.intro (JOwn.grown (HX.out.trans HE.out) HO.out hg6) (show JOwn w5.heap.size w6 v6 (numsFrom Vs.length (k + 1)) by rw [numsFrom_succ]; exact ho6))
      clear ho6 hg6 HO HC HSZ HLEN
      go_wp2
      go_roundw
      case rel => exact ⟨HH.out.1, k + 1, by omega, by go_num, HH.out.2⟩
      case measure => simp [intOf]; omega
    · have hk' : k = Ts.length := by omega
      have HK := Lib.hid hk'
      have HO := Lib.hid ho
      clear hk' ho hX
      go_wp2
      go_ret2
      refine ⟨_, rfl, HF.out.1.trans (Bt.ext HX.out), HF.out.2.ext HX.out, ?_⟩
      have h9 := HO.out.mono HF.out.1.size
      rw [HK.out] at h9
      exact h9
end Go.Proofs.YtjiiokhjajfhjaaGreat
namespace Go.Proofs.YtjiiokhjajfhjaaGreat
open Go Go.RowKit

/-- a store and its scheme stand, and nothing that was in w has turned. -/
structure SS (w : World) (P c Q : Nat) (n : Int) (Vs : List Tr) (W : World) : Prop where
  ext : Ext w W
  newP : w.heap.size ≤ P
  newQ : w.heap.size ≤ Q
  sch : Sch P c n W
  sto : Sto Q W P Vs
  inh : ∀ T ∈ Vs, InH W T
theorem SS.ne {w W : World} {P c Q : Nat} {n : Int} {Vs : List Tr} (h : SS w P c Q n Vs W) : Q ≠ P := by
  rcases h.sto with k | ⟨_, _, _, k, -⟩
  · exact h.sch.ne k.1 (by decide)
  · exact h.sch.ne k (by decide)
theorem SS.more {w W W' : World} {P c Q : Nat} {n : Int} {Vs : List Tr} (h : SS w P c Q n Vs W) (e : Ext W W') : SS w P c Q n Vs W' :=
  ⟨h.ext.trans e, h.newP, h.newQ, h.sch.ext e, h.sto.ext e, fun T hT => (h.inh T hT).ext e⟩
theorem SS.q {w W W' : World} {P c Q : Nat} {n : Int} {Vs Vs' : List Tr} (h : SS w P c Q n Vs W) (B : Bt [Q] W W') (m : Made Q W' P Vs') (hI : ∀ T ∈ Vs', InH W T) : SS w P c Q n Vs' W' :=
  ⟨Bt.out h.ext (by simp; exact h.newQ) B, h.newP, h.newQ, h.sch.bt B (by simp; exact h.ne.symm), .inr m, fun T hT => h.sto.inh B (hI T hT)⟩
theorem Sch.cells {P c : Nat} {n : Int} {w : World} (h : Sch P c n w) : ∃ cs, w.heap[P]? = some (.cells cs 116 (0, 0)) := by
  rcases h.2.2 with h | h
  · exact ⟨_, h⟩
  · exact ⟨_, h⟩
theorem SS.p {w W W' : World} {P c Q : Nat} {n m : Int} {Vs : List Tr} (h : SS w P c Q n Vs W) (B : Bt [P] W W') (s : Sch P c m W') : SS w P c Q m Vs W' := by
  refine ⟨Bt.out h.ext (by simp; exact h.newP) B, h.newP, h.newQ, s, ?_, fun T hT => h.sch.inh B (h.inh T hT)⟩
  rcases h.sto with k | k
  · exact .inl ⟨B.get (by simp; exact h.ne) k.1, k.2⟩
  · refine .inr (k.bt B fun x hx => ?_)
    obtain rfl := List.mem_singleton.1 hx
    obtain ⟨cs, hc⟩ := h.sch.cells
    exact ⟨h.ne.symm, cs, _, _, hc, by decide, by decide⟩
/-- which version is the first that may not be, and how. -/
def badV (c : Nat) (Vs : List Tr) : Nat × Int := firstOf (fun T => (ckV c T).2) Vs
set_option maxRecDepth 100000 in
set_option maxHeartbeats 2000000 in
theorem stoSound_any (w : World) (P c Q : Nat) (n : Int) (Vs : List Tr) (W : World) (h : SS w P c Q n Vs W) (ho : c = 2 → ∀ T ∈ Vs, TagsOk T) (hc : ∀ T ∈ Vs, T.count ≤ 4000) (hl : Vs.length ≤ 5000) :
    Calls Tryz.prog 26 #[.pointer (some ⟨Q, 0, none⟩)] W
      (fun e W' => e = .returned (.tuple #[.int .i64 (badV c Vs).1, .int .i64 (badV c Vs).2]) ∧ SS w P c Q n Vs W') := by
  have HS := Lib.hid h
  have HO := Lib.hid ho
  have HC := Lib.hid hc
  clear h ho hc
  go_enter Tryz.func26, Tryz.ntmps26
  go_wp2_with fail
  refine (versions_any Q P Vs W HS.out.sto).mono ?_
  rintro e w1 ⟨G, cap, rfl, B1, m1, hcap, g1⟩
  have H1 := Lib.hid (HS.out.q B1 m1 HS.out.inh)
  have HG := Lib.hid g1
  clear m1 g1 B1 HS
  go_wp2
  go_loopw [15] (fun i X => ∃ k : Nat, k ≤ Vs.length ∧ i = .int .i64 k ∧ SS w P c Q n Vs X ∧ Vers X G Vs ∧ badV c Vs = (k + (badV c (Vs.drop k)).1, (badV c (Vs.drop k)).2)) (fun i _ => Vs.length - (intOf i).toNat)
  case atStart => exact ⟨0, Nat.zero_le _, rfl, H1.out, HG.out, by simp⟩
  case round =>
    obtain ⟨k, hk, rfl, hs, hg, hb⟩ := hrel
    have HX := Lib.hid hs
    have HV := Lib.hid hg
    have HBB := Lib.hid hb
    clear hs hb
    by_cases hlt : k < Vs.length
    · obtain ⟨T, hT⟩ : ∃ T, Vs[k]? = some T := ⟨_, List.getElem?_eq_getElem hlt⟩
      have hmem : T ∈ Vs := List.mem_of_getElem? hT
      have hcl := hg.cell hT
      have hsc : wr.cell? ⟨Q, 0, none⟩ = some (.pointer (some ⟨P, 0, none⟩)) := by
        rcases HX.out.sto with h | ⟨_, _, _, h, -⟩
        · exact cell_of h.1 0
        · exact cell_of h 0
      have hdrop : Vs.drop k = T :: Vs.drop (k + 1) := by
        rw [List.drop_eq_getElem_cons hlt]
        congr 1
        exact (List.getElem?_eq_some_iff.1 hT).2
      have hbd : badV c (Vs.drop k) = if (ckV c T).2 = 0 then ((badV c (Vs.drop (k + 1))).1 + 1, (badV c (Vs.drop (k + 1))).2) else (0, (ckV c T).2) := by
        rw [hdrop]; rfl
      have HBD := Lib.hid hbd
      have HK := Lib.hid (schCheck_any HX.out.sch (HX.out.inh T hmem) (fun h2 => HO.out h2 T hmem) (HC.out T hmem))
      clear hg hT hmem hdrop hbd
      generalize hck : ckV c T = F at *
      obtain ⟨F1, F2⟩ := F
      simp only at HK HBD
      clear hck
      go_wp2_with fail
      refine HK.out.mono ?_
      rintro e w2 ⟨x, rfl, BB, SC, rfl⟩
      have H2 := Lib.hid (HX.out.p BB SC)
      have HV2 := Lib.hid (HV.out.bt BB (by
        obtain ⟨cur, hgb, -⟩ := HV.out
        simp
        exact HX.out.sch.ne hgb (by decide)))
      clear BB SC hcl hsc
      by_cases hf : F2 = 0
      · subst hf
        go_wp2
        go_roundw
        case rel =>
          refine ⟨k + 1, by omega, by go_num, H2.out, HV2.out, ?_⟩
          rw [HBB.out, HBD.out]
          simp
          omega
        case measure => simp [intOf]; omega
      · have hf' := bne_iff_ne.2 hf
        go_wp2
        go_ret2
        refine ⟨ret_two ?_ ?_, H2.out⟩
        · rw [HBB.out, HBD.out, if_neg hf]; simp
        · rw [HBB.out, HBD.out, if_neg hf]
    · have hk' : k = Vs.length := by omega
      have HK := Lib.hid hk'
      clear hk' hg
      go_wp2
      go_ret2
      refine ⟨ret_two ?_ ?_, HX.out⟩
      · rw [HBB.out, HK.out, List.drop_length]; simp [badV, firstOf]
      · rw [HBB.out, HK.out, List.drop_length]; rfl
end Go.Proofs.YtjiiokhjajfhjaaGreat
