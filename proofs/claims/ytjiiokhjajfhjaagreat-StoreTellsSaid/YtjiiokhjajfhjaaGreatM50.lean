/- joinerylaw36.some: nodes of a row, each made of those ahead of it. StoreTells: rows of one's own that grow side by side, while a store stands. -/
import Derived.Test.YtjiiokhjajfhjaaGreatM49
namespace Go.Proofs.YtjiiokhjajfhjaaGreat
open Go Go.RowKit

theorem blk_lt {w : World} {T : Tr} (hT : InH w T) (hne : T ≠ .nil) : T.blk < w.heap.size := blks_lt hT (List.mem_map.2 ⟨T, pre_self hne, rfl⟩)
theorem pickT_in {w : World} {Ts : List Tr} (h : ∀ T ∈ Ts, InH w T) (n : Int) : InH w (pickT Ts n) := by
  unfold pickT
  split
  · cases ht : Ts[n.toNat]? with
    | none => trivial
    | some T => exact h T (List.mem_of_getElem? ht)
  · trivial
theorem Dag.ne {ls : List (Int × Int)} {Ts : List Tr} (h : Dag ls Ts) : ∀ T ∈ Ts, T ≠ .nil := fun T hT => by
  obtain ⟨i, hi⟩ := List.getElem?_of_mem hT
  obtain ⟨lt, rt, -, -, -, e⟩ := h i T hi
  rw [e]
  intro h
  cases h
theorem NOwn.trow {B : Nat} {w : World} {a : Option Addr} {m c : Nat} {Ts : List Tr} (h : NOwn B w (.slice a m c) (Ts.map Tr.ptr)) : TRow w a c Ts := by
  obtain ⟨h1, ⟨-, h0⟩ | ⟨g, cap, cur, hv, hb, hg, hc, hm, hs, ht⟩⟩ := h
  · rw [List.length_map] at h0
    exact .inl (List.eq_nil_of_length_eq_zero h0)
  · injection hv with e1 e2 e3
    subst e1 e3
    rw [List.length_map] at hc ht
    refine .inr ⟨g, 0, rfl, hc, fun i T hi => ?_⟩
    rw [Nat.zero_add, cell_of hg i]
    have : (cur.toList.take (Ts.length * 1))[i]? = some (.pointer T.ptr) := by rw [ht]; simp [hi]
    rw [List.getElem?_take] at this
    split at this
    · simpa using this
    · cases this
theorem InH.ngrown {B : Nat} {w w' : World} {v : Value} {xs : List (Option Addr)} (hv : NOwn B w v xs) (hg : w.grownBy w' v.ownBlock) : ∀ {T : Tr}, InH w T → InH w' T
  | .nil, _ => trivial
  | .node b l k x g r, ⟨h0, h1, h2⟩ => ⟨by
      rw [hg.block b (lt_of h0) (fun e => by
        obtain ⟨_, ⟨rfl, -⟩ | ⟨g, cap, cur, rfl, hb, hh, -⟩⟩ := hv
        · cases e
        · simp only [Value.ownBlock, Option.some.injEq] at e
          subst e
          rw [h0] at hh
          injection hh with hh
          injection hh with _ h2 _
          exact absurd h2 (by decide))]
      exact h0, InH.ngrown hv hg h1, InH.ngrown hv hg h2⟩
theorem wpListIn_append_node1 {F : Fence} {n : Nat} {ops : Array Oper} {rest : List Oper} {o : Oper} {a : Act} {Q : Exit → Act → World → Prop} (hgd : o.guard = none) (s x : Operand) (ho : o.op = .call { callee := .builtin .append, args := #[s, x], argTypes := #[35, 35] })
    {B : Nat} {w : World} {v : Value} {xs : List (Option Addr)} {p : Option Addr} {b : Nat} (hs : a.eval s = v) (hx : a.eval x = .slice (some ⟨b, 0, none⟩) 1 1) (hv : NOwn B w v xs) (hb : w.cell? ⟨b, 0, none⟩ = some (.pointer p)) (hlen : xs.length ≤ 9000) (hB : B ≤ w.heap.size)
    (hfn : ∀ f, F.fn f)
    (h : ∀ v' w', NOwn B w' v' (xs ++ [p]) → w.grownBy w' v.ownBlock → wpListIn F n Tryz.prog ops Q rest (a.put o.dst v') w') : wpListIn F n Tryz.prog ops Q (o :: rest) a w := by
  refine wpListIn_plain hgd fun K hK => ?_
  obtain ⟨v', w', hr, h2, h3⟩ := append_nown (b := b) (o := 0) (c := 1) (ys := [p]) o.type hv (fun j u hj => by
    match j, hj with
    | 0, hj => cases hj; exact hb) (by simp; omega) hB
  rw [show ([p] : List (Option Addr)).length = 1 from rfl] at hr
  unfold Oper.wpIn
  refine ⟨fun f _ => hfn f, ?_⟩
  rw [Oper.semAt_eq _ _ _ (fun c => by rw [ho]; simp)]
  unfold execOp
  simp only [ho, resolve, invoke, builtin, Sem.run_bind, Sem.run_pure, Result.andThen_ok, List.map_toArray, List.map_cons, List.map_nil, hs, hx, hr]
  exact hK _ _ (h v' w' h2 h3)
/-- nodes, each made of those ahead of it. -/
structure SomeN (ls : List (Int × Int)) (Ts : List Tr) (w : World) : Prop where
  dag : Dag ls Ts
  one : (Ts.map Tr.blk).Nodup
  inh : ∀ T ∈ Ts, InH w T
theorem SomeN.ext {ls : List (Int × Int)} {Ts : List Tr} {w w' : World} (h : SomeN ls Ts w) (e : Ext w w') : SomeN ls Ts w' := ⟨h.dag, h.one, fun T hT => (h.inh T hT).ext e⟩
theorem SomeN.snoc {ls : List (Int × Int)} {Ts : List Tr} {w w' : World} {b : Nat} {lt rt : Int} (h : SomeN ls Ts w) (e : Ext w w') (hb : w.heap.size ≤ b) (hl : ls[Ts.length]? = some (lt, rt)) (h1 : lt < Ts.length) (h2 : rt < Ts.length)
    (hI : InH w' (.node b (pickT Ts lt) Ts.length 0 0 (pickT Ts rt))) : SomeN ls (Ts ++ [.node b (pickT Ts lt) Ts.length 0 0 (pickT Ts rt)]) w' := by
  refine ⟨h.dag.snoc hl h1 h2, ?_, fun T hT => ?_⟩
  · rw [List.map_append]
    refine List.nodup_append.2 ⟨h.one, by simp, fun x hx y hy => ?_⟩
    obtain ⟨T, hT, rfl⟩ := List.mem_map.1 hx
    have h3 := blk_lt (h.inh T hT) (h.dag.ne T hT)
    have h4 : y = b := by simpa [Tr.blk] using hy
    omega
  · rcases List.mem_append.1 hT with hT | hT
    · exact (h.inh T hT).ext e
    · rw [List.mem_singleton.1 hT]; exact hI
set_option maxHeartbeats 2000000 in
theorem some36_any (ls : List (Int × Int)) (lv : Value) (w : World) (hP : PRow w lv ls) (hm : may13 0 ls = true) (hl : ls.length ≤ 1000) :
    Calls Tryz.prog 19 #[lv] w (fun e w' => ∃ v Ts, e = .returned v ∧ NOwn w.heap.size w' v (Ts.map Tr.ptr) ∧ Ts.length = ls.length ∧ SomeN ls Ts w' ∧ Ext w w') := by
  have hfn : ∀ f, Fence.wide.fn f := fun _ => trivial
  obtain ⟨la, lc, rfl⟩ := prow_slice hP
  have H := Lib.hid hP
  have HM := Lib.hid (may13_at hm)
  clear hP hm
  go_enter Tryz.func19, Tryz.ntmps19
  go_wp2
  go_loopw [3, 4] (fun o i W => ∃ (k : Nat) (Ts : List Tr), k ≤ ls.length ∧ i = .int .i64 k ∧ Ts.length = k ∧ NOwn w.heap.size W o (Ts.map Tr.ptr) ∧ SomeN ls Ts W ∧ Ext w W) (fun _ i _ => ls.length - (intOf i).toNat)
  case atStart => exact ⟨0, [], Nat.zero_le _, rfl, rfl, NOwn.nil _ _, ⟨fun i T h => by simp at h, List.nodup_nil, fun T h => by cases h⟩, Ext.refl _⟩
  case round =>
    obtain ⟨k, Ts, hk, rfl, hT, ho, hs, hX⟩ := hrel
    have HO := Lib.hid ho
    have HS := Lib.hid hs
    have HX := Lib.hid hX
    by_cases hlt : k < ls.length
    · obtain ⟨lt, rt, hz⟩ : ∃ lt rt, ls[k]? = some (lt, rt) := ⟨_, _, List.getElem?_eq_getElem hlt⟩
      have hm := HM.out k lt rt hz
      rw [Nat.zero_add] at hm
      have HZ := Lib.hid (And.intro hz hm)
      rcases H.out with ⟨h, _⟩ | ⟨b, o, c', hv, _, _, hr⟩
      · rw [h] at hlt; exact absurd hlt (Nat.not_lt_zero _)
      · obtain ⟨rfl, rfl⟩ : la = some ⟨b, o, none⟩ ∧ lc = c' := by cases hv; exact ⟨rfl, rfl⟩
        have c0 : wr.cell? ⟨b, o + k * 2, none⟩ = some (.int .i64 lt) := pair_cell (rangeAt_ext hr hX) hz (j := 0) rfl
        have c1 : wr.cell? ⟨b, o + k * 2 + 1, none⟩ = some (.int .i64 rt) := pair_cell (rangeAt_ext hr hX) hz (j := 1) rfl
        obtain ⟨na, nc, rfl⟩ := ho.slice
        rw [List.length_map]
        have HPK := Lib.hid (fun W (e : Ext wr W) (n : Int) => pick_any na nc Ts n W (by
          have h1 := (HO.out.ext e)
          rw [List.length_map] at h1
          exact h1.trow))
        have HL := Lib.hid (show (Ts.map Tr.ptr).length ≤ 9000 by rw [List.length_map]; omega)
        have HT := Lib.hid hT
        have HO2 := Lib.hid (show NOwn w.heap.size wr (.slice na Ts.length nc) (Ts.map Tr.ptr) by have h := HO.out; rw [List.length_map] at h; exact h)
        clear hv hr hz hm ho hs hX hT
        obtain ⟨m⟩ : Nonempty Nat := ⟨0⟩
        refine (wpIn_wide (n := m)).1 ?_
        gi_wp2_with fail
        replace c0 := cell_all c0
        replace c1 := cell_all c1
        have hx := Ext.drew wr
        refine wpIn_region_G (fun j => !(List.contains (α := Nat) [18] j)) (by kernel_rfl) ?_
        refine batchG hfn (fuel := 6) [0, 1, 2, 3, 4, 5, 6, 8, 9, 10, 11, 12, 13, 14] (by kernel_rfl) rfl ?_
        repeat (go_big_quiet_step ((fail)))
        refine wpQuiet_nil ?_
        clear c0 c1
        refine wpAnyG_one (j := 7) (by kernel_rfl) rfl ?_
        gi_wp2_with fail
        refine ⟨wide_room _, (callsIn_wide.2 (HPK.out _ hx lt)).mono ?_⟩
        rintro e w2 ⟨rfl, h2⟩
        gi_wp2_with fail
        refine onePost_ext (h2) ?_
        replace hx := hx.trans h2
        clear h2
        refine wpAnyG_one (j := 15) (by kernel_rfl) rfl ?_
        gi_wp2_with fail
        refine ⟨wide_room _, (callsIn_wide.2 (HPK.out _ hx rt)).mono ?_⟩
        rintro e w3 ⟨rfl, h3⟩
        gi_wp2_with fail
        refine onePost_ext (h3) ?_
        replace hx := hx.trans h3
        clear h3
        refine wpAnyG_one (j := 16) (by kernel_rfl) rfl ?_
        gi_wp2_with fail
        refine ⟨wide_room _, (callsIn_wide.2 (new_any w3 (pickT Ts lt) (pickT Ts rt) k 0 0 (pickT_in (fun T hT => (HS.out.inh T hT).ext hx) lt) (pickT_in (fun T hT => (HS.out.inh T hT).ext hx) rt))).mono ?_⟩
        rintro e w4 ⟨A, rfl, hA, iA, h4⟩
        gi_wp2_with fail
        refine onePost_ext (h4) ?_
        have HS4 := Lib.hid ((HS.out.ext hx).snoc h4 hA (by rw [HT.out]; exact HZ.out.1) (by rw [HT.out]; exact HZ.out.2.1) (by rw [HT.out]; exact HZ.out.2.2) (by rw [HT.out]; exact iA))
        replace hx := hx.trans h4
        clear h4 hA iA
        refine wpAnyG_one (j := 17) (by kernel_rfl) rfl ?_
        gi_wp2_with fail
        refine onePost_ext ((Ext.refl w4).alloc _) ?_
        have hE := (Ext.refl w4).alloc (.cells #[.pointer ((Tr.node A (pickT Ts lt) (k : Int) 0 0 (pickT Ts rt)).ptr)] 27)
        have hc := cell_of (alloc_at w4 (.cells #[.pointer ((Tr.node A (pickT Ts lt) (k : Int) 0 0 (pickT Ts rt)).ptr)] 27) _ rfl) 0
        simp only [List.getElem?_toArray, List.getElem?_cons_zero] at hc
        generalize w4.alloc (.cells #[.pointer ((Tr.node A (pickT Ts lt) (k : Int) 0 0 (pickT Ts rt)).ptr)] 27) = w5 at *
        have HO5 := Lib.hid (HO2.out.ext (hx.trans hE))
        have HX5 := Lib.hid (HX.out.trans (hx.trans hE))
        have HS5 := Lib.hid (HS4.out.ext hE)
        clear hx hE HS4 HO2
        refine wpAnyG_one (j := 18) (by kernel_rfl) rfl ?_
        refine wpListIn_append_node1 (B := w.heap.size) (xs := Ts.map Tr.ptr) (p := (Tr.node A (pickT Ts lt) (k : Int) 0 0 (pickT Ts rt)).ptr) (b := w4.heap.size) rfl (.tmp 11) (.tmp 28) rfl rfl rfl HO5.out hc HL.out HX5.out.size hfn ?_
        intro v6 w6 ho6 hg6
        have HX6 := Lib.hid (ngrown_ext HX5.out HO5.out hg6)
        have HS6 := Lib.hid (show SomeN ls _ w6 from ⟨HS5.out.dag, HS5.out.one, fun T hT => InH.ngrown HO5.out hg6 (HS5.out.inh T hT)⟩)
        have HO6 := Lib.hid ho6
        clear ho6 hg6 hc HO5
        simp only [Act.put, List.setIfInBounds_toArray, List.set_cons_zero, List.set_cons_succ]
        refine wpListIn_nil ?_
        refine onePost_any (by kernel_rfl) ?_
        refine batchG hfn (fuel := 0) [19] (by kernel_rfl) rfl ?_
        repeat (go_big_quiet_step ((fail)))
        refine wpQuiet_nil ?_
        refine wpAnyG_done (by kernel_rfl) ?_
        refine calmQ_normal ?_
        gi_wp2
        go_roundw
        case rel => exact ⟨k + 1, _, by omega, by go_num, by rw [List.length_append, HT.out]; rfl, by rw [List.map_append]; exact HO6.out, HS6.out, HX6.out⟩
        case measure => simp [intOf]; omega
    · have hk' : k = ls.length := by omega
      obtain ⟨na, nc, rfl⟩ := ho.slice
      have HK := Lib.hid hk'
      have HT := Lib.hid hT
      clear hk' ho hs hX
      go_wp2
      go_ret
      exact ⟨_, Ts, rfl, HO.out, HT.out.trans HK.out, HS.out, HX.out⟩
end Go.Proofs.YtjiiokhjajfhjaaGreat
namespace Go.Proofs.YtjiiokhjajfhjaaGreat
open Go Go.RowKit

theorem wpList_append_n {ops : Array Oper} {rest : List Oper} {o : Oper} {a : Act} {Q : Exit → Act → World → Prop} (hgd : o.guard = none) (s x : Operand) (ho : o.op = .call { callee := .builtin .append, args := #[s, x], argTypes := #[35, 35] })
    {B : Nat} {w : World} {v : Value} {xs : List (Option Addr)} {p : Option Addr} {b : Nat} (hs : a.eval s = v) (hx : a.eval x = .slice (some ⟨b, 0, none⟩) 1 1) (hv : NOwn B w v xs) (hb : w.cell? ⟨b, 0, none⟩ = some (.pointer p)) (hlen : xs.length ≤ 20000) (hB : B ≤ w.heap.size)
    (h : ∀ v' w', NOwn B w' v' (xs ++ [p]) → w.grownBy w' v.ownBlock → wpList Tryz.prog ops Q rest (a.put o.dst v') w') : wpList Tryz.prog ops Q (o :: rest) a w :=
  wpList_append_cell (zv := .pointer none) (by' := 8) Tryz.underlying35 (by kernel_rfl) rfl (by decide) hgd s x ho hs hx hv hb rfl hlen hB fun v' w' h1 h2 _ => h v' w' (by
    show w'.ownsRow _ _ _ _ _ _
    rw [List.length_append, List.map_append]
    exact h1) h2
section
variable {B B2 m m2 : Nat} {t t2 : TypeId} {w w' : World} {v u : Value} {cs cs2 : List Value}
theorem own_at (h : w.ownsRow B t 1 v m cs) {g : Nat} (hg : v.ownBlock = some g) : B ≤ g ∧ ∃ c, w.heap[g]? = some (.cells c t (0, 0)) := by
  obtain ⟨_, ⟨rfl, -⟩ | ⟨g', cap, cur, rfl, hb, hh, -⟩⟩ := h
  · cases hg
  · simp only [Value.ownBlock, Option.some.injEq] at hg
    subst hg
    exact ⟨hb, _, hh⟩
theorem own_some (h : w.ownsRow B t 1 v m cs) (hm : m ≠ 0) : ∃ g, v.ownBlock = some g := by
  obtain ⟨_, ⟨rfl, h0⟩ | ⟨g', cap, cur, rfl, hb, hh, -⟩⟩ := h
  · exact (hm h0).elim
  · exact ⟨_, rfl⟩
theorem own_keep (h : w.ownsRow B t 1 v m cs) (hk : ∀ g, v.ownBlock = some g → w'.heap[g]? = w.heap[g]?) : w'.ownsRow B t 1 v m cs := by
  obtain ⟨h1, h | ⟨g, cap, cur, rfl, hb, hg, hc⟩⟩ := h
  · exact ⟨h1, .inl h⟩
  · exact ⟨h1, .inr ⟨g, cap, cur, rfl, hb, (hk g rfl).trans hg, hc⟩⟩
/-- a row that stands while another one grows. -/
theorem own_grown (h : w.ownsRow B t 1 v m cs) (hg : w.grownBy w' u.ownBlock) (hap : ∀ g, v.ownBlock = some g → u.ownBlock ≠ some g) : w'.ownsRow B t 1 v m cs :=
  own_keep h fun g e => by
    obtain ⟨_, c, hc⟩ := own_at h e
    exact hg.block g (lt_of hc) (fun e' => hap g e e'.symm)
theorem apart_ty (h : w.ownsRow B t 1 v m cs) (k : w.ownsRow B2 t2 1 u m2 cs2) (ht : t ≠ t2) : ∀ g, v.ownBlock = some g → u.ownBlock ≠ some g := fun g e e2 => by
  obtain ⟨_, c, hc⟩ := own_at h e
  obtain ⟨_, c2, hc2⟩ := own_at k e2
  rw [hc] at hc2
  injection hc2 with hc2
  injection hc2 with _ h2 _
  exact ht h2
theorem own_other (h : w.ownsRow B t 1 v m cs) {g : Nat} {c : Array Value} {t2 : TypeId} (e : Bt [g] w w') (hc : w.heap[g]? = some (.cells c t2 (0, 0))) (ht : t ≠ t2) : w'.ownsRow B t 1 v m cs :=
  own_keep h fun g' e' => by
    obtain ⟨_, c', hc'⟩ := own_at h e'
    refine e.block g' (lt_of hc') (fun hm => ?_)
    rw [List.mem_singleton.1 hm, hc] at hc'
    injection hc' with hc'
    injection hc' with _ h2 _
    exact ht h2.symm
theorem grown_bt {L : List Nat} (hg : w.grownBy w' v.ownBlock) (hL : ∀ g, v.ownBlock = some g → g ∈ L) : Bt L w w' :=
  ⟨hg.os, hg.tape, hg.output, hg.size, fun k hk hn => hg.block k hk (fun e => hn (hL k e.symm))⟩
theorem grown_cut {L : List Nat} {w0 : World} (h : Bt L w0 w) (hg : w.grownBy w' v.ownBlock) (hv : ∀ g, v.ownBlock = some g → g ∈ L ∨ w0.heap.size ≤ g) : Bt L w0 w' :=
  ⟨hg.os.trans h.os, hg.tape.trans h.tape, hg.output.trans h.output, Nat.le_trans h.size hg.size, fun k hk hn => (hg.block k (Nat.lt_of_lt_of_le hk h.size) (fun e => by
    rcases hv k e.symm with h1 | h1
    · exact hn h1
    · omega)).trans (h.block k hk hn)⟩
end
/-- inside a round: the row of versions, what is put, what its numbers are to be. -/
structure TIn (w W1 : World) (g0 : Nat) (vs : List Int) (js : List Nat) (us : List (Option Addr)) (yv yt yw : Value) (X : World) : Prop where
  bt : Bt [g0] W1 X
  vers : ZOwn w.heap.size X yv vs
  vb : ∀ g, yv.ownBlock = some g → g ∈ [g0] ∨ W1.heap.size ≤ g
  want : JOwn W1.heap.size X yw js
  tr : NOwn W1.heap.size X yt us
  ap : ∀ g, yv.ownBlock = some g → yw.ownBlock ≠ some g
section
variable {w W1 X X' : World} {g0 : Nat} {vs vs' : List Int} {js js' : List Nat} {us us' : List (Option Addr)} {vers tr want v' : Value}
theorem TIn.ext (h : TIn w W1 g0 vs js us vers tr want X) (e : Ext X X') : TIn w W1 g0 vs js us vers tr want X' :=
  ⟨h.bt.trans (Bt.ext e), h.vers.ext e, h.vb, h.want.ext e, h.tr.ext e, h.ap⟩
theorem TIn.want' (h : TIn w W1 g0 vs js us vers tr want X) (hg : X.grownBy X' want.ownBlock) (ho : JOwn W1.heap.size X' v' js') (hb : v'.ownBlock = want.ownBlock ∨ v'.ownBlock = some X.heap.size) : TIn w W1 g0 vs js' us vers tr v' X' := by
  refine ⟨grown_cut h.bt hg (fun g e => .inr (own_at h.want e).1), own_grown h.vers hg h.ap, h.vb, ho, own_grown h.tr hg (apart_ty h.tr h.want (by decide)), fun g e => ?_⟩
  rcases hb with hb | hb
  · rw [hb]; exact h.ap g e
  · rw [hb]
    obtain ⟨_, c, hc⟩ := own_at h.vers e
    have := lt_of hc
    intro h2
    injection h2 with h2
    omega
theorem TIn.vers' (h : TIn w W1 g0 vs js us vers tr want X) (hg : X.grownBy X' vers.ownBlock) (ho : ZOwn w.heap.size X' v' vs') (hb : v'.ownBlock = vers.ownBlock ∨ v'.ownBlock = some X.heap.size) : TIn w W1 g0 vs' js us v' tr want X' := by
  refine ⟨grown_cut h.bt hg h.vb, ho, fun g e => ?_, own_grown h.want hg (fun g e e2 => h.ap g e2 e), own_grown h.tr hg (apart_ty h.tr h.vers (by decide)), fun g e => ?_⟩
  · rcases hb with hb | hb
    · rw [hb] at e; exact h.vb g e
    · rw [hb] at e
      injection e with e
      have := h.bt.size
      exact .inr (by omega)
  · rcases hb with hb | hb
    · rw [hb] at e; exact h.ap g e
    · rw [hb] at e
      injection e with e
      intro e2
      obtain ⟨_, c, hc⟩ := own_at h.want e2
      have := lt_of hc
      omega
theorem TIn.tr' (h : TIn w W1 g0 vs js us vers tr want X) (hg : X.grownBy X' tr.ownBlock) (ho : NOwn W1.heap.size X' v' us') : TIn w W1 g0 vs js us' vers v' want X' :=
  ⟨grown_cut h.bt hg (fun g e => .inr (own_at h.tr e).1), own_grown h.vers hg (apart_ty h.vers h.tr (by decide)), h.vb, own_grown h.want hg (apart_ty h.want h.tr (by decide)), ho, h.ap⟩
end
/-- ahead of a round: the store, the row of versions, the nodes. -/
structure TO (w : World) (P Q : Nat) (ls : List (Int × Int)) (Ts : List Tr) (ms ns : List Int) (yv nv : Value) (X : World) : Prop where
  ss : SS w P 4 Q 0 (ms.map (pickT Ts)) X
  vers : ZOwn w.heap.size X yv ns
  nodes : NOwn w.heap.size X nv (Ts.map Tr.ptr)
  sn : SomeN ls Ts X
section
variable {w X X' : World} {P Q : Nat} {ls : List (Int × Int)} {Ts : List Tr} {ms ms' ns : List Int} {vers nv : Value}
theorem Sto.cells {Q P : Nat} {w : World} {Vs : List Tr} (h : Sto Q w P Vs) : ∃ cs, w.heap[Q]? = some (.cells cs 93 (0, 0)) := by
  rcases h with h | ⟨_, _, _, h, -⟩
  · exact ⟨_, h.1⟩
  · exact ⟨_, h⟩
theorem TO.ext (h : TO w P Q ls Ts ms ns vers nv X) (e : Ext X X') : TO w P Q ls Ts ms ns vers nv X' := ⟨h.ss.more e, h.vers.ext e, h.nodes.ext e, h.sn.ext e⟩
theorem TO.q (h : TO w P Q ls Ts ms ns vers nv X) (B : Bt [Q] X X') (m : Made Q X' P (ms'.map (pickT Ts))) : TO w P Q ls Ts ms' ns vers nv X' := by
  obtain ⟨cs, hc⟩ := h.ss.sto.cells
  refine ⟨h.ss.q B m (fun T hT => ?_), own_other h.vers B hc (by decide), own_other h.nodes B hc (by decide), h.sn.dag, h.sn.one, fun T hT => h.ss.sto.inh B (h.sn.inh T hT)⟩
  obtain ⟨a, -, rfl⟩ := List.mem_map.1 hT
  exact pickT_in h.sn.inh a
/-- behind the inner loop. -/
theorem TO.inner {g0 : Nat} {vs : List Int} {js : List Nat} {us : List (Option Addr)} {vers' tr want : Value} (h : TO w P Q ls Ts ms ns vers nv X) (hg : vers.ownBlock = some g0) (k : TIn w X g0 vs js us vers' tr want X') : TO w P Q ls Ts ms vs vers' nv X' := by
  obtain ⟨hb, c, hc⟩ := own_at h.vers hg
  have ht : NoSto 3 := by refine ⟨?_, ?_, ?_, ?_, ?_⟩ <;> decide
  exact ⟨h.ss.bt1 k.bt hb hc ht, k.vers, own_other h.nodes k.bt hc (by decide), h.sn.dag, h.sn.one, fun T hT => (h.sn.inh T hT).bt k.bt (fun x hx => by obtain rfl := List.mem_singleton.1 hx; exact ⟨c, _, hc, by decide⟩)⟩
theorem TO.start {g0 : Nat} (h : TO w P Q ls Ts ms ns vers nv X) (hg : vers.ownBlock = some g0) : TIn w X g0 ns [] [] vers (.slice none 0 0) (.slice none 0 0) X :=
  ⟨Bt.refl _ _, h.vers, fun g e => by rw [hg] at e; injection e with e; exact .inl (by simp [e]), JOwn.nil _ _, NOwn.nil _ _, fun _ _ h => by cases h⟩
end
end Go.Proofs.YtjiiokhjajfhjaaGreat
