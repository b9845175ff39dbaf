/- joineryref13 and joineryref36, told by numbers; joinerylaw36.pick, sameInts. -/
import Derived.Test.YtjiiokhjajfhjaaGreatM10
import Derived.Test.YtjiiokhjajfhjaaGreatM14
import Derived.Test.YtjiiokhjajfhjaaGreatM43
import Derived.Test.YtjiiokhjajfhjaaGreatM47
namespace Go.Proofs.YtjiiokhjajfhjaaGreat
open Go Go.RowKit

def zv (d : Int) : Value := .int .i64 d
/-- a row of whole numbers: empty, whatever its address; or laid at an address. -/
def ZRow (w : World) (v : Value) (xs : List Int) : Prop :=
  (xs = [] ∧ ∃ a c, v = .slice a 0 c) ∨ ∃ b o c, v = .slice (some ⟨b, o, none⟩) xs.length c ∧ xs ≠ [] ∧ xs.length ≤ c ∧ w.rangeAt b o (xs.map zv)
theorem ZRow.ext {w w' : World} {v : Value} {xs : List Int} (h : ZRow w v xs) (e : Ext w w') : ZRow w' v xs := by
  rcases h with h | ⟨b, o, c, h0, h1, h2, h3⟩
  · exact .inl h
  · exact .inr ⟨b, o, c, h0, h1, h2, rangeAt_ext h3 e⟩
theorem ZRow.slice {w : World} {v : Value} {xs : List Int} (h : ZRow w v xs) : ∃ a c, v = .slice a xs.length c := by
  rcases h with ⟨rfl, a, c, h⟩ | ⟨b, o, c, h, -⟩
  · exact ⟨a, c, h⟩
  · exact ⟨_, _, h⟩
theorem ZRow.cell {w : World} {a : Option Addr} {n c : Nat} {xs : List Int} (h : ZRow w (.slice a n c) xs) (hne : xs ≠ []) : ∃ b o, a = some ⟨b, o, none⟩ ∧ n = xs.length ∧ xs.length ≤ c ∧ ∀ i x, xs[i]? = some x → w.cell? ⟨b, o + i, none⟩ = some (.int .i64 x) := by
  rcases h with ⟨h, -⟩ | ⟨b, o, c', hv, -, hc, hr⟩
  · exact (hne h).elim
  · injection hv with e1 e2 e3
    subst e3
    exact ⟨b, o, e1, e2, hc, fun i x hi => hr i _ (by rw [List.getElem?_map, hi]; rfl)⟩
theorem JRow.z {w : World} {v : Value} {xs : List Nat} (h : JRow w v xs) : ZRow w v (xs.map Int.ofNat) := by
  rcases h with ⟨rfl, h⟩ | ⟨b, o, c, h0, h1, h2, h3⟩
  · exact .inl ⟨rfl, h⟩
  · refine .inr ⟨b, o, c, by rw [List.length_map]; exact h0, by simpa using h1, by rw [List.length_map]; exact h2, ?_⟩
    rw [List.map_map]
    exact h3
def ZOwn (B : Nat) (w : World) (v : Value) (zs : List Int) : Prop := w.ownsRow B 3 1 v zs.length (zs.map zv)
theorem ZOwn.nil (B : Nat) (w : World) : ZOwn B w (.slice none 0 0) [] := ⟨rfl, .inl ⟨rfl, rfl⟩⟩
theorem ZOwn.slice {B : Nat} {w : World} {v : Value} {zs : List Int} (h : ZOwn B w v zs) : ∃ a c, v = .slice a zs.length c := by
  obtain ⟨h1, ⟨rfl, h0⟩ | ⟨g, cap, cur, rfl, _⟩⟩ := h
  · exact ⟨none, 0, by rw [h0]⟩
  · exact ⟨_, _, rfl⟩
theorem ZOwn.ext {B : Nat} {w w' : World} {v : Value} {zs : List Int} (h : ZOwn B w v zs) (e : Ext w w') : ZOwn B w' v zs := by
  obtain ⟨h1, h | ⟨g, cap, cur, hv, hb, hg, hc⟩⟩ := h
  · exact ⟨h1, .inl h⟩
  · exact ⟨h1, .inr ⟨g, cap, cur, hv, hb, (e.block g (lt_of hg)).trans hg, hc⟩⟩
theorem ZOwn.mono {B B' : Nat} {w : World} {v : Value} {xs : List Int} (h : ZOwn B w v xs) (e : B' ≤ B) : ZOwn B' w v xs := by
  obtain ⟨h1, h | ⟨g, cap, cur, hv, hb, hg, hc⟩⟩ := h
  · exact ⟨h1, .inl h⟩
  · exact ⟨h1, .inr ⟨g, cap, cur, hv, Nat.le_trans e hb, hg, hc⟩⟩
theorem ZOwn.row {B : Nat} {w : World} {v : Value} {zs : List Int} (h : ZOwn B w v zs) : ZRow w v zs := by
  obtain ⟨h1, ⟨rfl, h0⟩ | ⟨g, cap, cur, rfl, hb, hg, hc, hm, hs, ht⟩⟩ := h
  · exact .inl ⟨List.eq_nil_of_length_eq_zero h0, _, 0, rfl⟩
  · by_cases h0 : zs = []
    · subst h0; exact .inl ⟨rfl, _, _, rfl⟩
    · refine .inr ⟨g, 0, cap, rfl, h0, hc, fun j u hj => ?_⟩
      rw [Nat.zero_add, cell_of hg j]
      rw [← ht, List.getElem?_take] at hj
      split at hj
      · simpa using hj
      · cases hj
theorem ZOwn.grown {w W W' : World} {v : Value} {zs : List Int} (hE : Ext w W) (h : ZOwn w.heap.size W v zs) (hg : W.grownBy W' v.ownBlock) : Ext w W' :=
  RowKit.Below.grown hE hg hE.size (fun k hk => ((World.ownsRow.lt h) k hk).1)
theorem ZOwn.bt {B P c Q : Nat} {L : List Nat} {w w0 w' : World} {n : Int} {Vs : List Tr} {v : Value} {zs : List Int} (h : ZOwn B w v zs) (s : SS w0 P c Q n Vs w) (e : Bt L w w') (hL : ∀ x ∈ L, x = P ∨ x = Q) : ZOwn B w' v zs :=
  own_bt h s e hL (by refine ⟨?_, ?_, ?_, ?_, ?_⟩ <;> decide)
theorem wpList_append_z {ops : Array Oper} {rest : List Oper} {o : Oper} {a : Act} {Q : Exit → Act → World → Prop} (hgd : o.guard = none) (s x : Operand) (ho : o.op = .call { callee := .builtin .append, args := #[s, x], argTypes := #[29, 29] })
    {B : Nat} {w : World} {v : Value} {zs : List Int} {d : Int} {b : Nat} (hs : a.eval s = v) (hx : a.eval x = .slice (some ⟨b, 0, none⟩) 1 1) (hv : ZOwn B w v zs) (hb : w.cell? ⟨b, 0, none⟩ = some (.int .i64 d)) (hlen : zs.length ≤ 20000) (hB : B ≤ w.heap.size)
    (h : ∀ v' w', ZOwn B w' v' (zs ++ [d]) → w.grownBy w' v.ownBlock → (v'.ownBlock = v.ownBlock ∨ v'.ownBlock = some w.heap.size) → wpList Tryz.prog ops Q rest (a.put o.dst v') w') : wpList Tryz.prog ops Q (o :: rest) a w :=
  wpList_append_cell (zv := .int .i64 0) (by' := 8) Tryz.underlying29 (by kernel_rfl) rfl (by decide) hgd s x ho hs hx hv hb rfl hlen hB fun v' w' h1 h2 h3 => h v' w' (by
    show w'.ownsRow _ _ _ _ _ _
    rw [List.length_append, List.map_append]
    exact h1) h2 h3
theorem in13_any (w : World) (a : Option Addr) (c : Nat) (os : List Nat) (n : Nat) (h : JRow w (.slice a os.length c) os) (hl : os.length ≤ 20000) :
    Calls Tryz.prog 65 #[.slice a os.length c, .int .i64 n] w (Ret (.bool (decide (n ∈ os))) w) := by
  have H := Lib.hid h
  clear h
  go_enter Tryz.func65, Tryz.ntmps65
  go_wp2
  go_loop [5] (fun i => ∃ k : Nat, i = .int .i64 (k : Nat) ∧ k ≤ os.length ∧ Hid (decide (n ∈ os) = decide (n ∈ os.drop k))) (fun i => os.length - (intOf i).toNat)
  case atStart => exact ⟨0, rfl, Nat.zero_le _, Lib.hid rfl⟩
  case round =>
    obtain ⟨k, rfl, hk, HD⟩ := hrel
    by_cases hlt : k < os.length
    · obtain ⟨x, hx⟩ : ∃ x, os[k]? = some x := ⟨_, List.getElem?_eq_getElem hlt⟩
      obtain ⟨b, o, rfl, -, hc⟩ := H.out.cell (List.ne_nil_of_length_pos (by omega))
      have hcl := hc k x hx
      have hdrop : os.drop k = x :: os.drop (k + 1) := by
        rw [List.drop_eq_getElem_cons hlt]
        congr 1
        exact (List.getElem?_eq_some_iff.1 hx).2
      have HDD := Lib.hid hdrop
      clear hc hx hdrop
      by_cases he : x = n
      · subst he
        go_wp2
        go_ret
        exact ⟨ret_bool (by rw [HD.out, HDD.out]; simp), Ext.refl _⟩
      · have he' : (x : Int) ≠ (n : Int) := by omega
        have HE := Lib.hid he
        clear he
        go_wp2
        go_round
        case rel => exact ⟨k + 1, by go_num, by omega, Lib.hid (by rw [HD.out, HDD.out]; simp [show ¬ n = x from fun h => HE.out h.symm])⟩
        case measure => simp [intOf]; omega
    · have hk' : k = os.length := by omega
      have HK := Lib.hid hk'
      clear hk'
      go_wp2
      go_ret
      exact ⟨ret_bool (by rw [HD.out, HK.out, List.drop_length]; simp), Ext.refl _⟩
set_option maxHeartbeats 1000000 in
theorem of13_any {ls : List (Int × Int)} {β : Nat → Nat} (lv : Value) (w0 : World) (hls : ls.length ≤ 1000) (hP : PRow w0 lv ls) : ∀ (T : Tr) (n : Int) (ov : Value) (os : List Nat) (W : World), Rep ls β n T → Ext w0 W → JOwn w0.heap.size W ov os → os.Nodup → (∀ x ∈ os, x < ls.length) →
    Calls Tryz.prog 64 #[lv, .int .i64 n, ov] W (fun e W' => ∃ v', e = .returned v' ∧ JOwn w0.heap.size W' v' (addK os T) ∧ Ext w0 W') := by
  obtain ⟨la, lc, rfl⟩ := prow_slice hP
  intro T
  induction T with
  | nil =>
    intro n ov os W hn hX ho _ _
    have hn' : n < 0 := hn
    have HO := Lib.hid (And.intro ho hX)
    obtain ⟨oa, oc, rfl⟩ := ho.slice
    clear hn ho hX
    go_enter Tryz.func64, Tryz.ntmps64
    go_wp2
    go_ret
    exact ⟨_, rfl, HO.out.1, HO.out.2⟩
  | node b l k v g r ihl ihr =>
    intro n ov os W hn hX ho hnd hlt
    obtain ⟨rfl, h0, hk, hb, lt, rt, hat, h1, h2, e1, e2⟩ := hn
    obtain ⟨i, rfl⟩ := Int.eq_ofNat_of_zero_le h0
    rw [Int.toNat_natCast] at hk hat
    have hlen := nodup_len hnd hlt
    have HX := Lib.hid hX
    have HO := Lib.hid ho
    have HN := Lib.hid (And.intro hnd hlt)
    obtain ⟨oa, oc, rfl⟩ := ho.slice
    have HIN := in13_any W oa oc os i ho.row (by omega)
    have IHl := Lib.hid ihl
    have IHr := Lib.hid ihr
    have HR := Lib.hid (And.intro h1 h2)
    rcases hP with ⟨hz, _⟩ | ⟨pb, po, pc, hv, hne, hc, hr⟩
    · rw [hz] at hk; exact absurd hk (Nat.not_lt_zero _)
    · obtain ⟨rfl, rfl⟩ : la = some ⟨pb, po, none⟩ ∧ lc = pc := by cases hv; exact ⟨rfl, rfl⟩
      have HC := Lib.hid (fun (W : World) (e : Ext w0 W) => show W.cell? ⟨pb, po + i * 2, none⟩ = some (.int .i64 lt) ∧ W.cell? ⟨pb, po + i * 2 + 1, none⟩ = some (.int .i64 rt) from ⟨pair_cell (rangeAt_ext hr e) hat (j := 0) rfl, pair_cell (rangeAt_ext hr e) hat (j := 1) rfl⟩)
      clear hv hr hat h1 h2 ihl ihr hX ho hnd hlt hne hb
      cases hin : decide (i ∈ os) with
      | true =>
        rw [hin] at HIN
        have HINN := Lib.hid HIN
        have HM := Lib.hid (of_decide_eq_true hin)
        clear hin HIN
        go_enter Tryz.func64, Tryz.ntmps64
        go_wp2_with fail
        refine HINN.out.mono ?_
        rintro e w1 ⟨rfl, hS⟩
        have HS := Lib.hid hS
        clear hS
        go_wp2
        go_ret
        refine ⟨_, rfl, ?_, HX.out.trans HS.out⟩
        rw [addK, Int.toNat_natCast, if_pos HM.out]
        exact HO.out.ext HS.out
      | false =>
        rw [hin] at HIN
        have HINN := Lib.hid HIN
        have hni := of_decide_eq_false hin
        have HK := Lib.hid (show addK os (.node b l (i : Nat) v g r) = addK (addK os l ++ [i]) r by rw [addK, Int.toNat_natCast, if_neg hni])
        have HM := Lib.hid hni
        clear hin HIN hni
        go_enter Tryz.func64, Tryz.ntmps64
        go_wp2_with fail
        refine HINN.out.mono ?_
        rintro e w1 ⟨rfl, hS⟩
        have HX1 := Lib.hid (HX.out.trans hS)
        have HO1 := Lib.hid (HO.out.ext hS)
        clear hS
        obtain ⟨c0, c1⟩ := HC.out w1 HX1.out
        go_wp2_with fail
        refine (IHl.out lt _ os w1 HR.out.1 HX1.out HO1.out HN.out.1 HN.out.2).mono ?_
        rintro e w2 ⟨v2, rfl, o2, hX2⟩
        have hnd2 := addK_nodup HR.out.1 HN.out.1
        have hlt2 := addK_lt HR.out.1 HN.out.2
        have hl2 := nodup_len hnd2 hlt2
        clear c0 c1
        have HE := Lib.hid ((Ext.refl w2).alloc (.cells #[.int .i64 (i : Nat)] 3))
        have HO3 := Lib.hid (o2.ext HE.out)
        have HCC := Lib.hid (show (w2.alloc (.cells #[.int .i64 (i : Nat)] 3)).cell? ⟨w2.heap.size, 0, none⟩ = some (.int .i64 (i : Nat)) from cell_of (alloc_at w2 _ _ rfl) 0)
        have HSZ := Lib.hid (Nat.le_trans hX2.size HE.out.size)
        have HLEN := Lib.hid (show (addK os l).length ≤ 20000 by omega)
        have HX2 := Lib.hid hX2
        have HN2 := Lib.hid (show (addK os l ++ [i]).Nodup ∧ ∀ x ∈ addK os l ++ [i], x < ls.length from ⟨List.nodup_append.2 ⟨hnd2, by simp, fun x hx y hy => by
          rw [List.mem_singleton.1 hy]
          rintro rfl
          rcases addK_mem HR.out.1 _ hx with h | h
          · exact HM.out h
          · omega⟩, fun x hx => by
          rcases List.mem_append.1 hx with hx | hx
          · exact hlt2 x hx
          · rw [List.mem_singleton.1 hx]; exact hk⟩)
        clear o2 hX2 hnd2 hlt2 hl2
        go_wp2_with (at_builtin; refine wpList_append_j (B := w0.heap.size) (zs := addK os l) (d := i) (b := w2.heap.size) rfl (.tmp 23) (.tmp 25) rfl rfl rfl HO3.out HCC.out HLEN.out HSZ.out ?_)
        intro v6 w6 ho6 hg6 _
        have HH := Lib.hid (And.intro (JOwn.grown (HX2.out.trans HE.out) HO3.out hg6) ho6)
        clear ho6 hg6 HO3 HCC HSZ HLEN
        obtain ⟨c0, c1⟩ := HC.out w6 HH.out.1
        go_wp2_with fail
        refine (IHr.out rt _ _ w6 HR.out.2 HH.out.1 HH.out.2 HN2.out.1 HN2.out.2).mono ?_
        rintro e w7 ⟨v7, rfl, o7, hX7⟩
        have HF := Lib.hid (And.intro o7 hX7)
        clear o7 hX7 c0 c1
        go_wp2
        go_ret
        exact ⟨_, rfl, by rw [HK.out]; exact HF.out.1, HF.out.2⟩
/-- the trees of a row of versions. -/
def Told (ls : List (Int × Int)) (β : Nat → Nat) (ns : List Int) (Ts : List Tr) : Prop := ns.length = Ts.length ∧ ∀ (i : Nat) (a : Int), ns[i]? = some a → ∃ T, Ts[i]? = some T ∧ Rep ls β a T
theorem Told.rep {ls : List (Int × Int)} {β : Nat → Nat} {ns : List Int} {Ts : List Tr} (h : Told ls β ns Ts) : ∀ U ∈ Ts, ∃ a, Rep ls β a U := fun U hU => by
  obtain ⟨i, hi⟩ := List.getElem?_of_mem hU
  have hlt := (List.getElem?_eq_some_iff.1 hi).1
  obtain ⟨T, h1, h2⟩ := h.2 i _ (List.getElem?_eq_getElem (by rw [h.1]; exact hlt))
  rw [hi] at h1
  cases h1
  exact ⟨_, h2⟩
theorem Told.take {ls : List (Int × Int)} {β : Nat → Nat} {ns : List Int} {Ts : List Tr} (h : Told ls β ns Ts) (k : Nat) : Told ls β (ns.take k) (Ts.take k) := by
  refine ⟨by rw [List.length_take, List.length_take, h.1], fun i a hi => ?_⟩
  rw [List.getElem?_take] at hi
  split at hi
  · rename_i hik
    obtain ⟨T, h1, h2⟩ := h.2 i a hi
    exact ⟨T, by rw [List.getElem?_take, if_pos hik]; exact h1, h2⟩
  · cases hi
theorem allK_nodup {ls : List (Int × Int)} {β : Nat → Nat} : ∀ {Ts : List Tr} {os : List Nat}, (∀ U ∈ Ts, ∃ a, Rep ls β a U) → os.Nodup → (∀ x ∈ os, x < ls.length) → (allK os Ts).Nodup ∧ ∀ x ∈ allK os Ts, x < ls.length
  | [], _, _, h1, h2 => ⟨h1, h2⟩
  | T :: Ts, os, h, h1, h2 => by
    obtain ⟨a, ha⟩ := h T (List.mem_cons_self ..)
    exact allK_nodup (Ts := Ts) (fun U hU => h U (List.mem_cons_of_mem _ hU)) (addK_nodup ha h1) (addK_lt ha h2)
set_option maxHeartbeats 1000000 in
theorem old13_any {ls : List (Int × Int)} {β : Nat → Nat} (lv vv : Value) (ns : List Int) (Ts : List Tr) (w : World) (hls : ls.length ≤ 1000) (hP : PRow w lv ls) (hV : ZRow w vv ns) (hT : Told ls β ns Ts) (hl : ns.length ≤ 1000) :
    Calls Tryz.prog 45 #[lv, vv] w (fun e w' => ∃ v', e = .returned v' ∧ JOwn w.heap.size w' v' (allK [] Ts) ∧ Ext w w') := by
  obtain ⟨la, lc, rfl⟩ := prow_slice hP
  obtain ⟨va, vc, rfl⟩ := hV.slice
  have HP := Lib.hid hP
  have HV := Lib.hid hV
  have HT := Lib.hid hT
  have HTL := Lib.hid hT.1
  clear hP hV hT
  go_enter Tryz.func45, Tryz.ntmps45
  go_wp2
  go_loopw [5, 6] (fun o i W => ∃ k : Nat, k ≤ ns.length ∧ i = .int .i64 k ∧ JOwn w.heap.size W o (allK [] (Ts.take k)) ∧ Ext w W) (fun _ i _ => ns.length - (intOf i).toNat)
  case atStart => exact ⟨0, Nat.zero_le _, rfl, JOwn.nil _ _, Ext.refl _⟩
  case round =>
    obtain ⟨k, hk, rfl, ho, hX⟩ := hrel
    have HO := Lib.hid ho
    have HX := Lib.hid hX
    by_cases hlt : k < ns.length
    · obtain ⟨n, hn⟩ : ∃ n, ns[k]? = some n := ⟨_, List.getElem?_eq_getElem hlt⟩
      obtain ⟨T, hTk, hr⟩ := HT.out.2 k n hn
      obtain ⟨b, o, rfl, -, -, hc⟩ := (HV.out.ext hX).cell (List.ne_nil_of_length_pos (by omega))
      have hcl := hc k n hn
      have hnl := allK_nodup (os := []) (HT.out.take k).rep List.nodup_nil (fun x h => by cases h)
      have HC := Lib.hid (of13_any _ w hls HP.out T n _ _ wr hr hX ho hnl.1 hnl.2)
      have HA := Lib.hid (show addK (allK [] (Ts.take k)) T = allK [] (Ts.take (k + 1)) by rw [List.take_add_one, hTk, allK_append]; rfl)
      obtain ⟨oa, oc, rfl⟩ := ho.slice
      clear hn hTk hr hc hnl ho hX
      go_wp2_with fail
      refine HC.out.mono ?_
      rintro e w2 ⟨v2, rfl, o2, hX2⟩
      have HF := Lib.hid (And.intro o2 hX2)
      clear o2 hX2
      go_wp2
      go_roundw
      case rel => exact ⟨k + 1, by omega, by go_num, by rw [← HA.out]; exact HF.out.1, HF.out.2⟩
      case measure => simp [intOf]; omega
    · have hk' : k = ns.length := by omega
      have HK := Lib.hid hk'
      obtain ⟨oa, oc, rfl⟩ := ho.slice
      clear hk' ho hX
      go_wp2
      go_ret
      have h9 := HO.out
      rw [HK.out, HTL.out, List.take_length] at h9
      exact ⟨_, rfl, by rw [HK.out, HTL.out, List.take_length]; exact h9, HX.out⟩
end Go.Proofs.YtjiiokhjajfhjaaGreat
