/- sift.Split, Keep; joineryref06.Keep; joineryref04.Same. -/
import Derived.Test.YteibbdieckephaaSift5
namespace Go.Proofs.Yteibbdieckephaa
open Go Go.RowKit

/-- append, onto a row of one's own: and where it lies. -/
theorem append_pown2 {B : Nat} {w : World} {v u : Value} {zs ys : List (Int × Int)} (ty : TypeId) (hv : POwn B w v zs) (hu : PRow w u ys) (hlen : zs.length + ys.length ≤ 10000) (hB : B ≤ w.heap.size) (h0 : ys ≠ []) :
    ∃ v' w', (Builtin.append_ #[26, 26] ty #[v, u]).run Try.prog w = .ok v' w' ∧ POwn B w' v' (zs ++ ys) ∧ w.grownBy w' v.ownBlock ∧ (v'.ownBlock = v.ownBlock ∨ v'.ownBlock = some w.heap.size) := by
  obtain ⟨i, hi, hz, hs, hb⟩ := pair_info
  have hml : (10000 : Nat) ≤ maxLen := by decide
  rcases hu with ⟨h, _⟩ | ⟨b, o, c, rfl, _, hc, hr⟩
  · exact (h0 h).elim
  · obtain ⟨v', w', hrun, hown, hg, _, hw⟩ := run_append_own_at (P := Try.prog) w B _ ty _ i _ 2 16 Try.underlying26 hi hz hs hb rfl (by omega) v zs.length (pairCells zs) hv ⟨b, o, none⟩ ys.length c (pairCells ys) (pairCells_len ys)
      (fun j u hj => by rw [Addr.add_mid]; exact hr j u hj) (pairCells_one ys) (by omega) (by omega) hB
    refine ⟨v', w', hrun, ?_, hg, hw⟩
    show w'.ownsRow _ _ _ _ _ _
    rw [List.length_append, pairCells_append]
    exact hown
theorem wpList_append_pairs2 {ops : Array Oper} {rest : List Oper} {o : Oper} {a : Act} {Q : Exit → Act → World → Prop} (hgd : o.guard = none) (s x : Operand) (ho : o.op = .call { callee := .builtin .append, args := #[s, x], argTypes := #[26, 26] })
    {B : Nat} {w : World} {v u : Value} {zs ys : List (Int × Int)} (hs : a.eval s = v) (hx : a.eval x = u) (hv : POwn B w v zs) (hu : PRow w u ys) (hlen : zs.length + ys.length ≤ 10000) (hB : B ≤ w.heap.size) (h0 : ys ≠ [])
    (h : ∀ v' w', POwn B w' v' (zs ++ ys) → w.grownBy w' v.ownBlock → (v'.ownBlock = v.ownBlock ∨ v'.ownBlock = some w.heap.size) → wpList Try.prog ops Q rest (a.put o.dst v') w') : wpList Try.prog ops Q (o :: rest) a w := by
  refine wpList_plain hgd fun K hK => ?_
  obtain ⟨v', w', hr, h2, h3, h4⟩ := append_pown2 o.type hv hu hlen hB h0
  unfold Oper.wp execOp
  simp only [ho, resolve, invoke, builtin, Sem.run_bind, Sem.run_pure, Result.andThen_ok, List.map_toArray, List.map_cons, List.map_nil, hs, hx, hr]
  exact hK _ _ (h v' w' h2 h3 h4)
/-- two rows of one's own that lie apart. -/
def Apart (B : Nat) (w : World) (v u : Value) (xs ys : List (Int × Int)) : Prop := POwn B w v xs ∧ POwn B w u ys ∧ (v.ownBlock = none ∨ v.ownBlock ≠ u.ownBlock)
theorem Apart.symm {B : Nat} {w : World} {v u : Value} {xs ys : List (Int × Int)} (h : Apart B w v u xs ys) : Apart B w u v ys xs :=
  ⟨h.2.1, h.1, by rcases h.2.2 with h | h
                  · by_cases hu : u.ownBlock = none
                    · exact .inl hu
                    · exact .inr (by rw [h]; exact hu)
                  · exact .inr (Ne.symm h)⟩
theorem Apart.ext {B : Nat} {w w' : World} {v u : Value} {xs ys : List (Int × Int)} (h : Apart B w v u xs ys) (e : Ext w w') : Apart B w' v u xs ys := ⟨h.1.ext e, h.2.1.ext e, h.2.2⟩
theorem Apart.grow {B : Nat} {w w' : World} {v u v' : Value} {xs ys xs' : List (Int × Int)} (h : Apart B w v u xs ys) (h1 : POwn B w' v' xs') (h2 : w.grownBy w' v.ownBlock) (h3 : v'.ownBlock = v.ownBlock ∨ v'.ownBlock = some w.heap.size) : Apart B w' v' u xs' ys := by
  have hlt := World.ownsRow.lt h.2.1
  have hk : u.ownBlock = none ∨ u.ownBlock ≠ v.ownBlock := h.symm.2.2
  refine ⟨h1, World.ownsRow.kept h.2.1 h2 hk, ?_⟩
  cases hu : u.ownBlock with
  | none =>
    cases hv : v'.ownBlock with
    | none => exact .inl rfl
    | some g => exact .inr (by simp)
  | some g =>
    rcases h3 with h3 | h3
    · rw [h3, ← hu]; exact h.2.2
    · right
      rw [h3]
      intro e
      have := hlt g hu
      simp at e
      omega
theorem Apart.yes {B : Nat} {w : World} {v u : Value} {xs ys X Y : List (Int × Int)} {z : Int × Int} (h : Apart B w v u (xs ++ [z]) ys) (h1 : X = xs ++ if true = true then [z] else []) (h2 : Y = ys ++ if (!true) = true then [z] else []) : Apart B w v u X Y := by
  subst h1 h2; simpa using h
theorem Apart.no {B : Nat} {w : World} {v u : Value} {xs ys X Y : List (Int × Int)} {z : Int × Int} (h : Apart B w v u xs (ys ++ [z])) (h1 : X = xs ++ if false = true then [z] else []) (h2 : Y = ys ++ if (!false) = true then [z] else []) : Apart B w v u X Y := by
  subst h1 h2; simpa using h
/-- the cells of a pair of a row. -/
theorem prow_cells {w : World} {b o : Nat} {zs : List (Int × Int)} (hr : w.rangeAt b o (pairCells zs)) (k : Nat) (hk : k < zs.length) :
    w.cell? ⟨b, o + k * 2, none⟩ = some (.int .i64 (zs.getD k (0, 0)).1) ∧ w.cell? ⟨b, o + k * 2 + 1, none⟩ = some (.int .i64 (zs.getD k (0, 0)).2) := by
  have hz : zs[k]? = some (zs.getD k (0, 0)) := by rw [List.getD_eq_getElem?_getD, List.getElem?_eq_getElem hk]; rfl
  exact ⟨pair_cell hr hz (j := 0) rfl, pair_cell hr hz (j := 1) rfl⟩
theorem take_filter (f : Int × Int → Bool) (zs : List (Int × Int)) (k : Nat) (hk : k < zs.length) : (zs.take (k + 1)).filter f = (zs.take k).filter f ++ if f (zs.getD k (0, 0)) then [zs.getD k (0, 0)] else [] := by
  have hz : zs[k]? = some (zs.getD k (0, 0)) := by rw [List.getD_eq_getElem?_getD, List.getElem?_eq_getElem hk]; rfl
  rw [List.take_add_one, hz, List.filter_append]
  congr 1
  simp only [Option.toList_some, List.filter_cons, List.filter_nil]
theorem wrap_k {k n : Nat} (h : k < n) (hn : n ≤ 5000) : wrap64 ((k : Int) + 1) = ((k + 1 : Nat) : Int) := by unfold wrap64; omega
theorem int_k {k n : Nat} (h : k < n) (hn : n ≤ 5000) : Value.int .i64 (wrap64 ((k : Int) + 1)) = .int .i64 ((k + 1 : Nat) : Int) := by rw [wrap_k h hn]
theorem meas_k {k n : Nat} (h : k < n) (hn : n ≤ 5000) : n - (intOf (.int .i64 (wrap64 ((k : Int) + 1)))).toNat < n - (intOf (.int .i64 (k : Int))).toNat := by
  rw [wrap_k h hn]
  show n - (k + 1) < n - k
  omega
theorem flen (f : Int × Int → Bool) {zs : List (Int × Int)} (k : Nat) (z : Int × Int) (h : zs.length ≤ 5000) : ((zs.take k).filter f).length + [z].length ≤ 10000 := by
  have h1 := List.length_filter_le f (zs.take k)
  rw [List.length_take] at h1
  rw [List.length_singleton]
  omega
/-- the state of Split's loop. -/
def SplitSt (w1 : World) (f : Int × Int → Bool) (zs : List (Int × Int)) (v u i : Value) (W : World) : Prop :=
  ∃ k : Nat, k ≤ zs.length ∧ i = .int .i64 k ∧ Apart w1.heap.size W v u ((zs.take k).filter f) ((zs.take k).filter (fun z => !f z)) ∧ Ext w1 W
/-- the error. -/
def eMay (kd : Nat) (a b : Int) : Int := if sMay kd a b then 0 else 2
/-- what Split hands back. -/
def Splits (kd : Nat) (a b : Int) (nt : Bool) (zs : List (Int × Int)) (w : World) (e : Ending) (w' : World) : Prop :=
  ∃ v u, e = .returned (.tuple #[v, u, .int .i64 (eMay kd a b)]) ∧ POwn w.heap.size w' v (if sMay kd a b then zs.filter (fun z => sTakes kd a b nt z.1 z.2) else []) ∧ POwn w.heap.size w' u (if sMay kd a b then zs.filter (fun z => !sTakes kd a b nt z.1 z.2) else []) ∧ Ext w w'
set_option maxRecDepth 100000 in
set_option maxHeartbeats 4000000 in
theorem split_any (w : World) (kd : Nat) (a b : Int) (nt : Bool) (p : Value) (zs : List (Int × Int)) (hk : kd < 256) (hp : PRow w p zs) (hl : zs.length ≤ 5000) : Calls Try.prog 9 #[predV kd a b nt, p] w (Splits kd a b nt zs w) := by
  have HMAY := Lib.hid (fun W => siftMay_any W kd a b nt hk)
  have HTK := Lib.hid (fun W k v => siftTakes_any W kd a b nt k v hk)
  have hpv : predV kd a b nt = .agg #[.int .u8 kd, .int .i64 a, .int .i64 b, .bool nt] := rfl
  rw [hpv] at HMAY HTK
  rw [hpv]
  have HP := Lib.hid hp
  have HL := Lib.hid hl
  have hcase : zs = [] ∨ ∃ b0 o c, p = .slice (some ⟨b0, o, none⟩) zs.length c ∧ Hid (zs.length ≤ c ∧ w.rangeAt b0 o (pairCells zs)) := by
    rcases hp with ⟨h, _⟩ | ⟨b0, o, c, h, _, h1, h2⟩
    · exact .inl h
    · exact .inr ⟨b0, o, c, h, Lib.hid ⟨h1, h2⟩⟩
  obtain ⟨pa, pc, rfl⟩ := prow_slice hp
  have hbox := alloc_at w (.cells #[.int .u8 kd, .int .i64 a, .int .i64 b, .bool nt] 23) _ rfl
  have hE := (Ext.refl w).alloc (.cells #[.int .u8 kd, .int .i64 a, .int .i64 b, .bool nt] 23)
  clear hp hk hl hpv
  go_enter Try.func9, Try.ntmps9
  go_wp2_with fail
  have hs1 : w.heap.size ≤ (w.alloc (.cells #[.int .u8 kd, .int .i64 a, .int .i64 b, .bool nt] 23)).heap.size := hE.size
  generalize w.alloc (.cells #[.int .u8 kd, .int .i64 a, .int .i64 b, .bool nt] 23) = w1 at *
  generalize w.heap.size = N at *
  refine (HMAY.out w1).mono ?_
  cases hm : sMay kd a b with
  | false =>
    have HM := Lib.hid hm
    clear hm hcase
    rintro e w2 ⟨rfl, h2⟩
    go_wp2
    go_ret3
    unfold Splits eMay
    rw [HM.out]
    exact ⟨_, _, rfl, POwn.nil _ _, POwn.nil _ _, hE.trans h2⟩
  | true =>
    have HM := Lib.hid hm
    clear hm
    rintro e w2 ⟨rfl, h2⟩
    have hb2 := h2.get hbox
    have hE2 := Lib.hid (hE.trans h2)
    clear hbox hE h2 hs1
    obtain ⟨f, hf⟩ : ∃ f : Int × Int → Bool, f = fun z => sTakes kd a b nt z.1 z.2 := ⟨_, rfl⟩
    have HF := Lib.hid hf
    clear hf
    go_wp2_with fail
    go_loopw [4, 5, 14] (fun v u i W => SplitSt w2 f zs v u i W) (fun _ _ i _ => zs.length - (intOf i).toNat)
    case atStart => exact ⟨0, Nat.zero_le _, rfl, ⟨POwn.nil _ _, POwn.nil _ _, .inl rfl⟩, Ext.refl _⟩
    case round =>
      obtain ⟨k, hk, rfl, hap, hX⟩ := hrel
      by_cases hlt : k < zs.length
      · rcases hcase with rfl | ⟨b0, o, c, hpe, hc⟩
        · simp at hlt
        · obtain ⟨rfl, rfl⟩ : pa = some ⟨b0, o, none⟩ ∧ pc = c := by cases hpe; exact ⟨rfl, rfl⟩
          clear hpe
          obtain ⟨c0, c1⟩ := prow_cells (rangeAt_ext hc.out.2 (hE2.out.trans hX)) k hlt
          obtain ⟨z0, z1, hz⟩ : ∃ z0 z1, zs.getD k (0, 0) = (z0, z1) := ⟨_, _, rfl⟩
          rw [hz] at c0 c1
          have HZ := Lib.hid hz
          have HA := Lib.hid hap
          have HX := Lib.hid hX
          have hE3 := (Ext.refl wr).alloc (.cells #[.int .i64 z0, .int .i64 z1] 25)
          have hbr := hE3.get (hX.get hb2)
          have hxr := hX.trans hE3
          have hbp := alloc_at wr (.cells #[.int .i64 z0, .int .i64 z1] 25) _ rfl
          have p0 := cell_of hbr 0
          have p1 := cell_of hbr 1
          have p2 := cell_of hbr 2
          have p3 := cell_of hbr 3
          simp at p0 p1 p2 p3
          have HX3 := Lib.hid hE3
          clear hz hap hX hbr hE3 hxr
          have HBP := Lib.hid hbp
          clear hbp
          go_wp2_with fail
          clear p0 p1 p2 p3 c0 c1
          generalize wr.alloc (.cells #[.int .i64 z0, .int .i64 z1] 25) = w3 at *
          refine (HTK.out w3 z0 z1).mono ?_
          have hft : f (z0, z1) = sTakes kd a b nt z0 z1 := by rw [HF.out]
          have hT1 := take_filter f zs k hlt
          have hT2 := take_filter (fun z => !f z) zs k hlt
          rw [HZ.out, hft] at hT1 hT2
          clear hft
          cases ht : sTakes kd a b nt z0 z1 with
          | true =>
            rw [ht] at hT1 hT2
            clear ht
            have HT1 := Lib.hid hT1
            have HT2 := Lib.hid hT2
            clear hT1 hT2
            rintro e w4 ⟨rfl, h4⟩
            have hb4 := h4.get HBP.out
            have d0 := cell_of hb4 0
            have d1 := cell_of hb4 1
            simp at d0 d1
            have hE5 := (Ext.refl w4).alloc (.cells #[.int .i64 z0, .int .i64 z1] 25)
            have HA5 := Lib.hid (HA.out.ext ((HX3.out.trans h4).trans hE5))
            have HX5 := Lib.hid (HX.out.trans ((HX3.out.trans h4).trans hE5))
            have HR5 := Lib.hid ((pown_new (B := w4.heap.size) (w := w4) (z0, z1) (Nat.le_refl _)).row)
            clear hb4 hE5 h4
            go_wp2_with (at_builtin; refine wpList_append_pairs2 (B := w2.heap.size) (zs := (zs.take k).filter f) (ys := [(z0, z1)]) rfl (.tmp 21) (.tmp 23) rfl rfl rfl HA5.out.1 HR5.out ?b1 HX5.out.size (by simp) ?_)
            case b1 => exact flen f k _ HL.out
            intro v6 w6 ho6 hg6 hw6
            have HA6 := Lib.hid (HA5.out.grow ho6 hg6 (by simpa using hw6))
            have HX6 := Lib.hid (pgrown_ext HX5.out HA5.out.1 hg6)
            clear ho6 hg6 hw6 d0 d1
            go_wp2
            go_roundw
            case rel => exact ⟨k + 1, hlt, int_k hlt HL.out, HA6.out.yes HT1.out HT2.out, HX6.out⟩
            case measure => exact meas_k hlt HL.out
          | false =>
            rw [ht] at hT1 hT2
            clear ht
            have HT1 := Lib.hid hT1
            have HT2 := Lib.hid hT2
            clear hT1 hT2
            rintro e w4 ⟨rfl, h4⟩
            have hb4 := h4.get HBP.out
            have d0 := cell_of hb4 0
            have d1 := cell_of hb4 1
            simp at d0 d1
            have hE5 := (Ext.refl w4).alloc (.cells #[.int .i64 z0, .int .i64 z1] 25)
            have HA5 := Lib.hid (HA.out.ext ((HX3.out.trans h4).trans hE5))
            have HX5 := Lib.hid (HX.out.trans ((HX3.out.trans h4).trans hE5))
            have HR5 := Lib.hid ((pown_new (B := w4.heap.size) (w := w4) (z0, z1) (Nat.le_refl _)).row)
            clear hb4 hE5 h4
            go_wp2_with (at_builtin; refine wpList_append_pairs2 (B := w2.heap.size) (zs := (zs.take k).filter (fun z => !f z)) (ys := [(z0, z1)]) rfl (.tmp 25) (.tmp 27) rfl rfl rfl HA5.out.2.1 HR5.out ?b2 HX5.out.size (by simp) ?_)
            case b2 => exact flen (fun z => !f z) k _ HL.out
            intro v6 w6 ho6 hg6 hw6
            have HA6 := Lib.hid (HA5.out.symm.grow ho6 hg6 (by simpa using hw6)).symm
            have HX6 := Lib.hid (pgrown_ext HX5.out HA5.out.2.1 hg6)
            clear ho6 hg6 hw6 d0 d1
            go_wp2
            go_roundw
            case rel => exact ⟨k + 1, hlt, int_k hlt HL.out, HA6.out.no HT1.out HT2.out, HX6.out⟩
            case measure => exact meas_k hlt HL.out
      · have hke : k = zs.length := Nat.le_antisymm hk (Nat.le_of_not_lt hlt)
        have HA := Lib.hid hap
        have HX := Lib.hid hX
        have HK := Lib.hid hke
        clear hap hX hke hcase
        go_wp2
        go_ret3
        unfold Splits eMay
        rw [HM.out]
        have hap := HA.out
        rw [HK.out, List.take_length, HF.out] at hap
        exact ⟨_, _, rfl, hap.1.mono hE2.out.size, hap.2.1.mono hE2.out.size, hE2.out.trans HX.out⟩
/-- what Keep hands back. -/
def Keeps (kd : Nat) (a b : Int) (nt : Bool) (zs : List (Int × Int)) (w : World) (e : Ending) (w' : World) : Prop :=
  ∃ v, e = .returned (.tuple #[v, .int .i64 (eMay kd a b)]) ∧ POwn w.heap.size w' v (if sMay kd a b then zs.filter (fun z => sTakes kd a b nt z.1 z.2) else []) ∧ Ext w w'
set_option maxHeartbeats 1000000 in
theorem keep_any (w : World) (kd : Nat) (a b : Int) (nt : Bool) (p : Value) (zs : List (Int × Int)) (hk : kd < 256) (hp : PRow w p zs) (hl : zs.length ≤ 5000) : Calls Try.prog 8 #[predV kd a b nt, p] w (Keeps kd a b nt zs w) := by
  have hE := (Ext.refl w).alloc (.cells #[.int .u8 kd, .int .i64 a, .int .i64 b, .bool nt] 23)
  have HS := Lib.hid (split_any (w.alloc (.cells #[.int .u8 kd, .int .i64 a, .int .i64 b, .bool nt] 23)) kd a b nt p zs hk (hp.ext hE) hl)
  have hpv : predV kd a b nt = .agg #[.int .u8 kd, .int .i64 a, .int .i64 b, .bool nt] := rfl
  rw [hpv] at HS ⊢
  obtain ⟨pa, pc, rfl⟩ := prow_slice hp
  have HE := Lib.hid hE
  clear hp hk hl hpv hE
  go_enter Try.func8, Try.ntmps8
  go_wp2_with fail
  refine HS.out.mono ?_
  rintro e w2 ⟨v, u, rfl, h1, -, h3⟩
  have H1 := Lib.hid h1
  have H3 := Lib.hid h3
  clear h1 h3
  go_wp2
  all_goals
    go_ret2
    unfold Keeps
    first
    | exact ⟨_, rfl, H1.out.mono HE.out.size, HE.out.trans H3.out⟩
    | exact ⟨_, rfl, (H1.out.mono HE.out.size).ext (Ext.drew _), (HE.out.trans H3.out).trans (Ext.drew w2)⟩
end Go.Proofs.Yteibbdieckephaa
