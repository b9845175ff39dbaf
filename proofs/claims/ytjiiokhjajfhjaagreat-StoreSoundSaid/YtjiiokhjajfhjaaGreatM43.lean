/- store: it stands while rows of one's own grow; Sound, with all else untouched. -/
import Derived.Test.YtjiiokhjajfhjaaGreatM39
import Derived.Test.YtjiiokhjajfhjaaGreatM42
namespace Go.Proofs.YtjiiokhjajfhjaaGreat
open Go Go.RowKit

/-- a store and its scheme stand, and nothing has turned but these two. -/
structure SB (w : World) (P c Q : Nat) (n : Int) (Vs : List Tr) (W : World) : Prop where
  bt : Bt [P, Q] w W
  sch : Sch P c n W
  sto : Sto Q W P Vs
  inh : ∀ T ∈ Vs, InH W T
theorem SB.ne {w W : World} {P c Q : Nat} {n : Int} {Vs : List Tr} (h : SB w P c Q n Vs W) : Q ≠ P := by
  rcases h.sto with k | ⟨_, _, _, k, -⟩
  · exact h.sch.ne k.1 (by decide)
  · exact h.sch.ne k (by decide)
theorem SB.q {w W W' : World} {P c Q : Nat} {n : Int} {Vs Vs' : List Tr} (h : SB w P c Q n Vs W) (B : Bt [Q] W W') (m : Made Q W' P Vs') (hI : ∀ T ∈ Vs', InH W T) : SB w P c Q n Vs' W' :=
  ⟨h.bt.trans (B.mono (fun i hi => by simp at hi; simp [hi])), h.sch.bt B (by simp; exact h.ne.symm), .inr m, fun T hT => h.sto.inh B (hI T hT)⟩
theorem SB.p {w W W' : World} {P c Q : Nat} {n m : Int} {Vs : List Tr} (h : SB w P c Q n Vs W) (B : Bt [P] W W') (s : Sch P c m W') : SB w P c Q m Vs W' := by
  refine ⟨h.bt.trans (B.mono (fun i hi => by simp at hi; simp [hi])), s, ?_, fun T hT => h.sch.inh B (h.inh T hT)⟩
  rcases h.sto with k | k
  · exact .inl ⟨B.get (by simp; exact h.ne) k.1, k.2⟩
  · refine .inr (k.bt B fun x hx => ?_)
    obtain rfl := List.mem_singleton.1 hx
    obtain ⟨cs, hc⟩ := h.sch.cells
    exact ⟨h.ne.symm, cs, _, _, hc, by decide, by decide⟩
theorem SS.sb {w W : World} {P c Q : Nat} {n : Int} {Vs : List Tr} (h : SS w P c Q n Vs W) : SB W P c Q n Vs W := ⟨Bt.refl _ _, h.sch, h.sto, h.inh⟩
theorem SS.back {w W W' : World} {P c Q : Nat} {n m : Int} {Vs Vs' : List Tr} (h : SS w P c Q n Vs W) (k : SB W P c Q m Vs' W') : SS w P c Q m Vs' W' :=
  ⟨Bt.out h.ext (by simp; exact ⟨h.newP, h.newQ⟩) k.bt, h.newP, h.newQ, k.sch, k.sto, k.inh⟩
set_option maxRecDepth 100000 in
set_option maxHeartbeats 2000000 in
theorem stoSoundB_any (w : World) (P c Q : Nat) (n : Int) (Vs : List Tr) (W : World) (h : SB w P c Q n Vs W) (ho : c = 2 → ∀ T ∈ Vs, TagsOk T) (hc : ∀ T ∈ Vs, T.count ≤ 4000) (hl : Vs.length ≤ 5000) :
    Calls Tryz.prog 26 #[.pointer (some ⟨Q, 0, none⟩)] W
      (fun e W' => e = .returned (.tuple #[.int .i64 (badV c Vs).1, .int .i64 (badV c Vs).2]) ∧ SB w P c Q n Vs W') := by
  have HS := Lib.hid h
  have HO := Lib.hid ho
  have HC := Lib.hid hc
  clear h ho hc
  go_enter Tryz.func26, Tryz.ntmps26
  go_wp2_with fail
  refine (versions_any Q P Vs W HS.out.sto).mono ?_
  rintro e w1 ⟨G, cap, rfl, B1, m1, hcap, g1⟩
  have H1 := Lib.hid (HS.out.q B1 m1 HS.out.inh)
  have HG := Lib.hid g1
  clear m1 g1 B1 HS
  go_wp2
  go_loopw [15] (fun i X => ∃ k : Nat, k ≤ Vs.length ∧ i = .int .i64 k ∧ SB w P c Q n Vs X ∧ Vers X G Vs ∧ badV c Vs = (k + (badV c (Vs.drop k)).1, (badV c (Vs.drop k)).2)) (fun i _ => Vs.length - (intOf i).toNat)
  case atStart => exact ⟨0, Nat.zero_le _, rfl, H1.out, HG.out, by simp⟩
  case round =>
    obtain ⟨k, hk, rfl, hs, hg, hb⟩ := hrel
    have HX := Lib.hid hs
    have HV := Lib.hid hg
    have HBB := Lib.hid hb
    clear hs hb
    by_cases hlt : k < Vs.length
    · obtain ⟨T, hT⟩ : ∃ T, Vs[k]? = some T := ⟨_, List.getElem?_eq_getElem hlt⟩
      have hmem : T ∈ Vs := List.mem_of_getElem? hT
      have hcl := hg.cell hT
      have hsc : wr.cell? ⟨Q, 0, none⟩ = some (.pointer (some ⟨P, 0, none⟩)) := by
        rcases HX.out.sto with h | ⟨_, _, _, h, -⟩
        · exact cell_of h.1 0
        · exact cell_of h 0
      have hdrop : Vs.drop k = T :: Vs.drop (k + 1) := by
        rw [List.drop_eq_getElem_cons hlt]
        congr 1
        exact (List.getElem?_eq_some_iff.1 hT).2
      have hbd : badV c (Vs.drop k) = if (ckV c T).2 = 0 then ((badV c (Vs.drop (k + 1))).1 + 1, (badV c (Vs.drop (k + 1))).2) else (0, (ckV c T).2) := by
        rw [hdrop]; rfl
      have HBD := Lib.hid hbd
      have HK := Lib.hid (schCheck_any HX.out.sch (HX.out.inh T hmem) (fun h2 => HO.out h2 T hmem) (HC.out T hmem))
      clear hg hT hmem hdrop hbd
      generalize hck : ckV c T = F at *
      obtain ⟨F1, F2⟩ := F
      simp only at HK HBD
      clear hck
      go_wp2_with fail
      refine HK.out.mono ?_
      rintro e w2 ⟨x, rfl, BB, SC, rfl⟩
      have H2 := Lib.hid (HX.out.p BB SC)
      have HV2 := Lib.hid (HV.out.bt BB (by
        obtain ⟨cur, hgb, -⟩ := HV.out
        simp
        exact HX.out.sch.ne hgb (by decide)))
      clear BB SC hcl hsc
      by_cases hf : F2 = 0
      · subst hf
        go_wp2
        go_roundw
        case rel =>
          refine ⟨k + 1, by omega, by go_num, H2.out, HV2.out, ?_⟩
          rw [HBB.out, HBD.out]
          simp
          omega
        case measure => simp [intOf]; omega
      · have hf' := bne_iff_ne.2 hf
        go_wp2
        go_ret2
        refine ⟨ret_two ?_ ?_, H2.out⟩
        · rw [HBB.out, HBD.out, if_neg hf]; simp
        · rw [HBB.out, HBD.out, if_neg hf]
    · have hk' : k = Vs.length := by omega
      have HK := Lib.hid hk'
      clear hk' hg
      go_wp2
      go_ret2
      refine ⟨ret_two ?_ ?_, HX.out⟩
      · rw [HBB.out, HK.out, List.drop_length]; simp [badV, firstOf]
      · rw [HBB.out, HK.out, List.drop_length]; rfl
/-- kinds of blocks that a store, its scheme and its trees do not lie in. -/
def NoSto (t : TypeId) : Prop := t ≠ 93 ∧ t ≠ 116 ∧ t ≠ 27 ∧ t ≠ 35 ∧ t ≠ 124
theorem SS.bt1 {w W W' : World} {P c Q g : Nat} {n : Int} {Vs : List Tr} {cs : Array Value} {t : TypeId} (h : SS w P c Q n Vs W) (B : Bt [g] W W') (hg : w.heap.size ≤ g) (hc : W.heap[g]? = some (.cells cs t (0, 0))) (ht : NoSto t) : SS w P c Q n Vs W' := by
  obtain ⟨t1, t2, t3, t4, t5⟩ := ht
  have hP : g ≠ P := h.sch.ne hc t2
  have hQ : g ≠ Q := by
    rcases h.sto with k | ⟨_, _, _, k, -⟩
    · exact k.1.ne hc t1
    · exact StoAt.ne k hc t1
  refine ⟨Bt.out h.ext (by simp; exact hg) B, h.newP, h.newQ, h.sch.bt B (by simp; exact hP.symm), ?_, fun T hT => (h.inh T hT).bt B (fun x hx => by obtain rfl := List.mem_singleton.1 hx; exact ⟨cs, t, hc, t5⟩)⟩
  rcases h.sto with k | k
  · exact .inl ⟨B.get (by simp; exact hQ.symm) k.1, k.2⟩
  · exact .inr (k.bt B fun x hx => by obtain rfl := List.mem_singleton.1 hx; exact ⟨hQ, cs, t, _, hc, t3, t4⟩)
theorem SS.grown {w W W' : World} {P c Q B m : Nat} {n : Int} {Vs : List Tr} {cs : List Value} {t : TypeId} {v : Value} (h : SS w P c Q n Vs W) (hv : W.ownsRow B t 1 v m cs) (hB : w.heap.size ≤ B) (ht : NoSto t) (hg : W.grownBy W' v.ownBlock) : SS w P c Q n Vs W' := by
  obtain ⟨h1, ⟨rfl, -⟩ | ⟨g, cap, cur, rfl, hb, hh, -⟩⟩ := hv
  · exact h.more ⟨hg.os, hg.tape, hg.output, hg.size, fun k hk => hg.block k hk (by simp [Value.ownBlock])⟩
  · exact h.bt1 (g := g) ⟨hg.os, hg.tape, hg.output, hg.size, fun k hk hn => hg.block k hk (by simp at hn; simp [Value.ownBlock, hn])⟩ (Nat.le_trans hB hb) hh ht
theorem own_bt {B P c Q m : Nat} {L : List Nat} {w w0 w' : World} {n : Int} {Vs : List Tr} {v : Value} {cs : List Value} {t : TypeId} (h : w.ownsRow B t 1 v m cs) (s : SS w0 P c Q n Vs w) (e : Bt L w w') (hL : ∀ x ∈ L, x = P ∨ x = Q) (ht : NoSto t) : w'.ownsRow B t 1 v m cs := by
  obtain ⟨h1, h | ⟨g, cap, cur, hv, hb, hg, hc⟩⟩ := h
  · exact ⟨h1, .inl h⟩
  · refine ⟨h1, .inr ⟨g, cap, cur, hv, hb, e.get (fun hx => ?_) hg, hc⟩⟩
    rcases hL g hx with rfl | rfl
    · exact s.sch.ne hg ht.2.1 rfl
    · rcases s.sto with k | ⟨_, _, _, k, -⟩
      · exact k.1.ne hg ht.1 rfl
      · exact StoAt.ne k hg ht.1 rfl
/-- a row of rows that was made since the heap had B blocks. -/
def SOwn (B : Nat) (w : World) (v : Value) (cs : List Value) : Prop := w.ownsRow B 22 1 v cs.length cs
theorem SOwn.nil (B : Nat) (w : World) : SOwn B w (.slice none 0 0) [] := ⟨rfl, .inl ⟨rfl, rfl⟩⟩
theorem SOwn.slice {B : Nat} {w : World} {v : Value} {zs : List Value} (h : SOwn B w v zs) : ∃ a c, v = .slice a zs.length c := by
  obtain ⟨h1, ⟨rfl, h0⟩ | ⟨g, cap, cur, rfl, _⟩⟩ := h
  · exact ⟨none, 0, by rw [h0]⟩
  · exact ⟨_, _, rfl⟩
theorem SOwn.ext {B : Nat} {w w' : World} {v : Value} {zs : List Value} (h : SOwn B w v zs) (e : Ext w w') : SOwn B w' v zs := by
  obtain ⟨h1, h | ⟨g, cap, cur, hv, hb, hg, hc⟩⟩ := h
  · exact ⟨h1, .inl h⟩
  · exact ⟨h1, .inr ⟨g, cap, cur, hv, hb, (e.block g (lt_of hg)).trans hg, hc⟩⟩
theorem SOwn.bt {B P c Q : Nat} {L : List Nat} {w w0 w' : World} {n : Int} {Vs : List Tr} {v : Value} {zs : List Value} (h : SOwn B w v zs) (s : SS w0 P c Q n Vs w) (e : Bt L w w') (hL : ∀ x ∈ L, x = P ∨ x = Q) : SOwn B w' v zs :=
  own_bt h s e hL (by refine ⟨?_, ?_, ?_, ?_, ?_⟩ <;> decide)
theorem JOwn.bt {B P c Q : Nat} {L : List Nat} {w w0 w' : World} {n : Int} {Vs : List Tr} {v : Value} {zs : List Nat} (h : JOwn B w v zs) (s : SS w0 P c Q n Vs w) (e : Bt L w w') (hL : ∀ x ∈ L, x = P ∨ x = Q) : JOwn B w' v zs :=
  own_bt h s e hL (by refine ⟨?_, ?_, ?_, ?_, ?_⟩ <;> decide)
theorem JOwn.blk {B : Nat} {w : World} {v : Value} {zs : List Nat} (h : JOwn B w v zs) (hne : zs ≠ []) : ∃ g cap, v = .slice (some ⟨g, 0, none⟩) zs.length cap := by
  obtain ⟨h1, ⟨rfl, h0⟩ | ⟨g, cap, cur, rfl, _⟩⟩ := h
  · exact (hne (List.eq_nil_of_length_eq_zero h0)).elim
  · exact ⟨g, cap, rfl⟩
theorem JOwn.get {B g m cap : Nat} {w : World} {zs : List Nat} (h : JOwn B w (.slice (some ⟨g, 0, none⟩) m cap) zs) {i x : Nat} (hi : zs[i]? = some x) : w.cell? ⟨g, i, none⟩ = some (.int .i64 (x : Nat)) := by
  obtain ⟨b, o, e1, -, hc⟩ := (h.row).cell (fun h0 => by rw [h0] at hi; cases hi)
  injection e1 with e1
  injection e1 with e1 e2 e3
  subst e1 e2
  have := hc i x hi
  rwa [Nat.zero_add] at this
theorem SOwn.cell {B : Nat} {w : World} {v : Value} {zs : List Value} (h : SOwn B w v zs) {i : Nat} {x : Value} (hi : zs[i]? = some x) : ∃ g cap, v = .slice (some ⟨g, 0, none⟩) zs.length cap ∧ w.cell? ⟨g, i, none⟩ = some x := by
  obtain ⟨h1, ⟨rfl, h0⟩ | ⟨g, cap, cur, rfl, hb, hg, hc, hm, hs, ht⟩⟩ := h
  · rw [List.eq_nil_of_length_eq_zero h0] at hi; cases hi
  · refine ⟨g, cap, rfl, ?_⟩
    rw [cell_of hg i]
    rw [← ht, List.getElem?_take] at hi
    split at hi
    · simpa using hi
    · cases hi
theorem wpList_append_s {ops : Array Oper} {rest : List Oper} {o : Oper} {a : Act} {Q : Exit → Act → World → Prop} (hgd : o.guard = none) (s x : Operand) (ho : o.op = .call { callee := .builtin .append, args := #[s, x], argTypes := #[51, 51] })
    {B : Nat} {w : World} {v u : Value} {zs : List Value} {b : Nat} (hs : a.eval s = v) (hx : a.eval x = .slice (some ⟨b, 0, none⟩) 1 1) (hv : SOwn B w v zs) (hb : w.cell? ⟨b, 0, none⟩ = some u) (hu : u.oneCell' = true) (hlen : zs.length ≤ 1000) (hB : B ≤ w.heap.size)
    (h : ∀ v' w', SOwn B w' v' (zs ++ [u]) → w.grownBy w' v.ownBlock → wpList Tryz.prog ops Q rest (a.put o.dst v') w') : wpList Tryz.prog ops Q (o :: rest) a w := by
  refine wpList_plain hgd fun K hK => ?_
  obtain ⟨i, hi, hz, hsz, hbb⟩ : ∃ i : TypeInfo, Tryz.prog.info? 22 = some i ∧ i.zero = some (.slice none 0 0) ∧ i.size = 1 ∧ i.bytes = 24 := by
    have h : (Tryz.prog.info? 22).map (fun i => (i.zero, i.size, i.bytes)) = some (some (.slice none 0 0), 1, 24) := by kernel_rfl
    cases hi : Tryz.prog.info? 22 with
    | none => rw [hi] at h; cases h
    | some i =>
      rw [hi] at h
      simp only [Option.map_some, Option.some.injEq, Prod.mk.injEq] at h
      exact ⟨i, rfl, h.1, h.2.1, h.2.2⟩
  have hml : (20001 : Nat) ≤ maxLen := by decide
  obtain ⟨v', w', hr, h2, h3, _, h4⟩ := run_append_own_at (P := Tryz.prog) w B 51 o.type 22 i (.slice none 0 0) 1 24 Tryz.underlying51 hi hz hsz hbb rfl (by omega) v zs.length zs hv ⟨b, 0, none⟩ 1 1 [u] rfl
    (fun j u' hj => by
      rcases j with _ | j
      · simp at hj; subst hj; rw [Addr.add_mid]; exact hb
      · simp at hj) (fun u' hu' => by simp at hu'; subst hu'; exact hu) (by omega) (by omega) hB
  unfold Oper.wp execOp
  simp only [ho, resolve, invoke, builtin, Sem.run_bind, Sem.run_pure, Result.andThen_ok, List.map_toArray, List.map_cons, List.map_nil, hs, hx, hr]
  exact hK _ _ (h v' w' (by show w'.ownsRow _ _ _ _ _ _; rw [List.length_append]; exact h2) h3)
end Go.Proofs.YtjiiokhjajfhjaaGreat
