/- The walk of CutEnds. joineryref30.Parts. The walk of CutTurns. -/
import Derived.Test.YtoiohjifjmejkaaGreatM5
import Derived.Test.YtoiohjifjmejkaaGreatM39
import Derived.Test.YtoiohjifjmejkaaGreatM40
import Derived.Test.YtoiohjifjmejkaaGreatM45
import Derived.Test.YtoiohjifjmejkaaGreatM46
import Derived.Test.YtoiohjifjmejkaaGreatM47
import Derived.Test.YtoiohjifjmejkaaGreatM51
namespace Go.Proofs.YtoiohjifjmejkaaGreat
open Go Go.RowKit

theorem icells_at {w : World} {b o : Nat} {zs : List (Int × Int × Int)} (hr : w.rangeAt b o (itemCells zs)) {i : Nat} {z : Int × Int × Int} (hi : zs[i]? = some z) :
    w.cell? ⟨b, o + i * 3, none⟩ = some (.int .i64 z.1) ∧ w.cell? ⟨b, o + i * 3 + 1, none⟩ = some (.int .i64 z.2.1) ∧ w.cell? ⟨b, o + i * 3 + 2, none⟩ = some (.int .u64 z.2.2) :=
  ⟨item_cell hr hi (j := 0) rfl, item_cell hr hi (j := 1) rfl, item_cell hr hi (j := 2) rfl⟩
theorem irow3_front {w : World} {b o c : Nat} {zs : List (Int × Int × Int)} {z : Int × Int × Int} (hr : w.rangeAt b o (itemCells (zs ++ [z]))) (hc : zs.length ≤ c) : IRow3 w (.slice (some ⟨b, o, none⟩) zs.length c) zs := by
  by_cases h0 : zs = []
  · subst h0; exact .inl ⟨rfl, _, _, rfl⟩
  · refine .inr ⟨b, o, c, rfl, h0, hc, fun j u hj => hr j u ?_⟩
    rw [itemCells_append, List.getElem?_append_left (List.getElem?_eq_some_iff.1 hj).1]
    exact hj
theorem irow3_rest {w : World} {b o c : Nat} {zs : List (Int × Int × Int)} {z : Int × Int × Int} (hr : w.rangeAt b o (itemCells (z :: zs))) (hc : zs.length ≤ c) : IRow3 w (.slice (some ⟨b, o + 3, none⟩) zs.length c) zs := by
  by_cases h0 : zs = []
  · subst h0; exact .inl ⟨rfl, _, _, rfl⟩
  · refine .inr ⟨b, o + 3, c, rfl, h0, hc, fun j u hj => ?_⟩
    have h := hr (3 + j) u (by
      show (icells z ++ itemCells zs)[3 + j]? = _
      rw [List.getElem?_append_right (by show 3 ≤ 3 + j; omega)]
      show (itemCells zs)[3 + j - 3]? = _
      rw [Nat.add_sub_cancel_left]
      exact hj)
    rw [show o + 3 + j = o + (3 + j) by omega]
    exact h
theorem irow3_tail {w : World} {b o c : Nat} {zs : List (Int × Int × Int)} {z : Int × Int × Int} (hr : w.rangeAt b o (itemCells (z :: zs))) (hc : zs.length + 1 ≤ c) : IRow3 w (.slice (if c = 1 then (some ⟨b, o, none⟩ : Option Addr) else some ⟨b, o + 3, none⟩) zs.length (c - 1)) zs := by
  by_cases h1 : c = 1
  · have h0 : zs = [] := List.eq_nil_of_length_eq_zero (by omega)
    subst h0; exact .inl ⟨rfl, _, _, rfl⟩
  · rw [if_neg h1]
    exact irow3_rest hr (by omega)
end Go.Proofs.YtoiohjifjmejkaaGreat
namespace Go.Proofs.YtoiohjifjmejkaaGreat
open Go Go.RowKit

/-- append, onto a row of items of one's own: and where it lies. -/
theorem append_iown3b {B : Nat} {w : World} {v u : Value} {zs ys : List (Int × Int × Int)} (ty : TypeId) (hv : IOwn3 B w v zs) (hu : IRow3 w u ys) (hlen : zs.length + ys.length ≤ 10000) (hB : B ≤ w.heap.size) (h0 : ys ≠ []) :
    ∃ v' w', (Builtin.append_ #[41, 41] ty #[v, u]).run Tryz.prog w = .ok v' w' ∧ IOwn3 B w' v' (zs ++ ys) ∧ w.grownBy w' v.ownBlock ∧ (v'.ownBlock = v.ownBlock ∨ v'.ownBlock = some w.heap.size) := by
  obtain ⟨i, hi, hz, hs, hb⟩ := item_info
  have hml : (10000 : Nat) ≤ maxLen := by decide
  rcases hu with ⟨h, _⟩ | ⟨b, o, c, rfl, _, hc, hr⟩
  · exact (h0 h).elim
  · obtain ⟨v', w', hrun, hown, hg, _, hw⟩ := run_append_own_at (P := Tryz.prog) w B _ ty _ i _ 3 24 Tryz.underlying41 hi hz hs hb rfl (by omega) v zs.length (itemCells zs) hv ⟨b, o, none⟩ ys.length c (itemCells ys) (itemCells_len ys)
      (fun j u hj => by rw [Addr.add_mid]; exact hr j u hj) (itemCells_one ys) (by omega) (by omega) hB
    refine ⟨v', w', hrun, ?_, hg, hw⟩
    show w'.ownsRow _ _ _ _ _ _
    rw [List.length_append, itemCells_append]
    exact hown
theorem wpList_append_items2 {ops : Array Oper} {rest : List Oper} {o : Oper} {a : Act} {Q : Exit → Act → World → Prop} (hgd : o.guard = none) (s x : Operand) (ho : o.op = .call { callee := .builtin .append, args := #[s, x], argTypes := #[41, 41] })
    {B : Nat} {w : World} {v u : Value} {zs ys : List (Int × Int × Int)} (hs : a.eval s = v) (hx : a.eval x = u) (hv : IOwn3 B w v zs) (hu : IRow3 w u ys) (hlen : zs.length + ys.length ≤ 10000) (hB : B ≤ w.heap.size) (h0 : ys ≠ [])
    (h : ∀ v' w', IOwn3 B w' v' (zs ++ ys) → w.grownBy w' v.ownBlock → (v'.ownBlock = v.ownBlock ∨ v'.ownBlock = some w.heap.size) → wpList Tryz.prog ops Q rest (a.put o.dst v') w') : wpList Tryz.prog ops Q (o :: rest) a w := by
  refine wpList_plain hgd fun K hK => ?_
  obtain ⟨v', w', hr, h2, h3, h4⟩ := append_iown3b o.type hv hu hlen hB h0
  unfold Oper.wp execOp
  simp only [ho, resolve, invoke, builtin, Sem.run_bind, Sem.run_pure, Result.andThen_ok, List.map_toArray, List.map_cons, List.map_nil, hs, hx, hr]
  exact hK _ _ (h v' w' h2 h3 h4)
/-- two rows of items of one's own that lie apart. -/
def IApart (B : Nat) (w : World) (v u : Value) (xs ys : List (Int × Int × Int)) : Prop := IOwn3 B w v xs ∧ IOwn3 B w u ys ∧ (v.ownBlock = none ∨ v.ownBlock ≠ u.ownBlock)
theorem IApart.symm {B : Nat} {w : World} {v u : Value} {xs ys : List (Int × Int × Int)} (h : IApart B w v u xs ys) : IApart B w u v ys xs :=
  ⟨h.2.1, h.1, by rcases h.2.2 with h | h
                  · by_cases hu : u.ownBlock = none
                    · exact .inl hu
                    · exact .inr (by rw [h]; exact hu)
                  · exact .inr (Ne.symm h)⟩
theorem IApart.ext {B : Nat} {w w' : World} {v u : Value} {xs ys : List (Int × Int × Int)} (h : IApart B w v u xs ys) (e : Ext w w') : IApart B w' v u xs ys := ⟨h.1.ext e, h.2.1.ext e, h.2.2⟩
theorem IApart.grow {B : Nat} {w w' : World} {v u v' : Value} {xs ys xs' : List (Int × Int × Int)} (h : IApart B w v u xs ys) (h1 : IOwn3 B w' v' xs') (h2 : w.grownBy w' v.ownBlock) (h3 : v'.ownBlock = v.ownBlock ∨ v'.ownBlock = some w.heap.size) : IApart B w' v' u xs' ys := by
  have hlt := World.ownsRow.lt h.2.1
  have hk : u.ownBlock = none ∨ u.ownBlock ≠ v.ownBlock := h.symm.2.2
  refine ⟨h1, World.ownsRow.kept h.2.1 h2 hk, ?_⟩
  cases hu : u.ownBlock with
  | none =>
    cases hv : v'.ownBlock with
    | none => exact .inl rfl
    | some g => exact .inr (by simp)
  | some g =>
    rcases h3 with h3 | h3
    · rw [h3, ← hu]; exact h.2.2
    · right
      rw [h3]
      intro e
      have := hlt g hu
      simp at e
      omega
theorem itake_filter (f : Int × Int × Int → Bool) (zs : List (Int × Int × Int)) (k : Nat) (z : Int × Int × Int) (hz : zs[k]? = some z) : (zs.take (k + 1)).filter f = (zs.take k).filter f ++ if f z then [z] else [] := by
  rw [List.take_add_one, hz, List.filter_append]
  cases h : f z <;> simp [h]
/-- the state of the loop. -/
def IPartSt (w1 : World) (f : Int × Int × Int → Bool) (zs : List (Int × Int × Int)) (v u i : Value) (W : World) : Prop :=
  ∃ k : Nat, k ≤ zs.length ∧ i = .int .i64 k ∧ Hid (IApart w1.heap.size W v u ((zs.take k).filter f) ((zs.take k).filter (fun z => !f z)) ∧ Ext w1 W)
theorem iflen (f : Int × Int × Int → Bool) {zs : List (Int × Int × Int)} (k : Nat) (h : zs.length ≤ 5000) : ((zs.take k).filter f).length ≤ 9999 := by
  have := List.length_filter_le f (zs.take k)
  rw [List.length_take] at this
  omega
/-- what it hands back. -/
def RParts (f : Int × Int × Int → Bool) (zs : List (Int × Int × Int)) (w : World) (e : Ending) (w' : World) : Prop :=
  ∃ v u, e = .returned (.tuple #[v, u]) ∧ IOwn3 w.heap.size w' v (zs.filter f) ∧ IOwn3 w.heap.size w' u (zs.filter (fun z => !f z)) ∧ Ext w w'
set_option maxRecDepth 100000 in
set_option maxHeartbeats 4000000 in
theorem refParts_any (w : World) (kd : Nat) (a b : Int) (nt : Bool) (ha : I64 a) (hb : I64 b) (p : Value) (zs : List (Int × Int × Int)) (hp : IRow3 w p zs) (hl : zs.length ≤ 5000) :
    Calls Tryz.prog 15 #[.agg #[.int .u8 kd, .int .i64 a, .int .i64 b, .bool nt], p] w (RParts (tkI kd a b nt) zs w) := by
  have HTK := Lib.hid (fun W k v => refTakes_any W kd a b nt k v ha hb)
  unfold predV pairV at HTK
  have HL := Lib.hid hl
  have hcase : zs = [] ∨ ∃ b0 o c, p = .slice (some ⟨b0, o, none⟩) zs.length c ∧ Hid (zs.length ≤ c ∧ w.rangeAt b0 o (itemCells zs)) := by
    rcases hp with ⟨h, _⟩ | ⟨b0, o, c, h, _, h1, h2⟩
    · exact .inl h
    · exact .inr ⟨b0, o, c, h, Lib.hid ⟨h1, h2⟩⟩
  obtain ⟨pa, pc, rfl⟩ := irow3_slice hp
  have hbox := alloc_at w (.cells #[.int .u8 kd, .int .i64 a, .int .i64 b, .bool nt] 23) _ rfl
  have hE := (Ext.refl w).alloc (.cells #[.int .u8 kd, .int .i64 a, .int .i64 b, .bool nt] 23)
  obtain ⟨f, hf⟩ : ∃ f : Int × Int × Int → Bool, f = tkI kd a b nt := ⟨_, rfl⟩
  rw [← hf]
  have HF := Lib.hid hf
  clear hp ha hb hl hf
  go_enter Tryz.func15, Tryz.ntmps15
  go_wp2_with fail
  have HEB := Lib.hid (And.intro hE hbox)
  clear hE hbox
  generalize w.alloc (.cells #[.int .u8 kd, .int .i64 a, .int .i64 b, .bool nt] 23) = w2 at *
  obtain ⟨N, hN⟩ : ∃ N, N = w.heap.size := ⟨_, rfl⟩
  rw [← hN]
  rw [← hN] at HEB
  have HN := Lib.hid hN
  clear hN
  go_loopw [6, 7, 8] (fun v u i W => IPartSt w2 f zs v u i W) (fun _ _ i _ => zs.length - (intOf i).toNat)
  case atStart => exact ⟨0, Nat.zero_le _, rfl, ⟨IOwn3.nil _ _, IOwn3.nil _ _, .inl rfl⟩, Ext.refl _⟩
  case round =>
    obtain ⟨k, hk, rfl, HAX⟩ := hrel
    by_cases hlt : k < zs.length
    · rcases hcase with rfl | ⟨b0, o, c, hpe, hc⟩
      · simp at hlt
      · obtain ⟨rfl, rfl⟩ : pa = some ⟨b0, o, none⟩ ∧ pc = c := by cases hpe; exact ⟨rfl, rfl⟩
        clear hpe
        obtain ⟨z, hz⟩ : ∃ z, zs[k]? = some z := ⟨_, List.getElem?_eq_getElem hlt⟩
        have HC := Lib.hid (fun W (e : Ext w W) => icells_at (rangeAt_ext hc.out.2 e) hz)
        have HZ := Lib.hid hz
        obtain ⟨z0, z1, z2⟩ := z
        obtain ⟨c0, c1, c2⟩ := HC.out wr (HEB.out.1.trans HAX.out.2)
        obtain ⟨p0, p1, p2, p3⟩ := cells4 (HAX.out.2.get HEB.out.2)
        obtain ⟨mm⟩ : Nonempty Nat := ⟨0⟩
        have hfn : ∀ f, Fence.wide.fn f := fun _ => trivial
        have hk0 : (0 : Int) ≤ (k : Int) := Int.natCast_nonneg _
        have hk1 : (k : Int) < (zs.length : Int) := by omega
        clear hz hc
        go_wp2_with fail
        refine (wpIn_wide (n := mm)).1 ?_
        gi_wp2_with fail
        replace p0 := cell_all p0
        replace p1 := cell_all p1
        replace p2 := cell_all p2
        replace p3 := cell_all p3
        replace c0 := cell_all c0
        replace c1 := cell_all c1
        have hx := Ext.drew wr
        refine wpIn_region_G (fun j => !(List.contains (α := Nat) [] j)) (by kernel_rfl) ?_
        refine batchG hfn (fuel := 1) [0, 1, 2, 3, 4, 5, 6, 7, 8, 9, 10, 11] (by kernel_rfl) rfl ?_
        repeat (go_big_quiet_step ((fail)))
        refine wpQuiet_nil ?_
        clear p0 p1 p2 p3 c0 c1
        refine wpAnyG_one (j := 12) (by kernel_rfl) rfl ?_
        gi_wp2_with fail
        refine ⟨wide_room _, (callsIn_wide.2 (HTK.out _ z0 z1)).mono ?_⟩
        have hT1 := itake_filter f zs k _ HZ.out
        have hT2 := itake_filter (fun z => !f z) zs k _ HZ.out
        have hft : f (z0, z1, z2) = sTakes kd a b nt z0 z1 := by rw [HF.out]; rfl
        rw [hft] at hT1 hT2
        clear hft
        cases ht : sTakes kd a b nt z0 z1 with
        | true =>
          rw [ht] at hT1 hT2
          clear ht
          have HT1 := Lib.hid hT1
          have HT2 := Lib.hid hT2
          clear hT1 hT2
          rintro e w4 ⟨rfl, h4⟩
          gi_wp2_with fail
          refine onePost_ext (h4) ?_
          refine wpAnyG_done (by kernel_rfl) ?_
          refine calmQ_normal ?_
          have hx4 := HAX.out.2.trans (hx.trans h4)
          have HA4 := Lib.hid (HAX.out.1.ext (hx.trans h4))
          obtain ⟨c0, c1, c2⟩ := HC.out w4 (HEB.out.1.trans hx4)
          have hE5 := (Ext.refl w4).alloc (.cells #[.int .i64 z0, .int .i64 z1, .int .u64 z2] 66)
          have HA5 := Lib.hid (HA4.out.ext hE5)
          have HX5 := Lib.hid (hx4.trans hE5)
          have HR5 := Lib.hid ((iown3_new (B := w4.heap.size) (w := w4) (z0, z1, z2) (Nat.le_refl _)).row)
          clear hx4 hE5 h4 hx
          go_wp2_with (at_builtin; refine wpList_append_items2 (B := w2.heap.size) (zs := (zs.take k).filter f) (ys := [(z0, z1, z2)]) rfl (.tmp 28) (.tmp 33) rfl rfl rfl HA5.out.1 HR5.out ?b1 HX5.out.size (by simp) ?_)
          case b1 => exact iflen _ k HL.out
          intro v6 w6 ho6 hg6 hw6
          clear c0 c1 c2
          have HA6 := Lib.hid (HA5.out.grow ho6 hg6 (by simpa using hw6))
          have HX6 := Lib.hid (igrown3_ext HX5.out HA5.out.1 hg6)
          clear ho6 hg6 hw6
          go_wp2
          go_roundw
          case rel => exact ⟨k + 1, hlt, int_k hlt HL.out, Lib.hid ⟨by rw [HT1.out, HT2.out]; simpa using HA6.out, HX6.out⟩⟩
          case measure => exact meas_k hlt HL.out
        | false =>
          rw [ht] at hT1 hT2
          clear ht
          have HT1 := Lib.hid hT1
          have HT2 := Lib.hid hT2
          clear hT1 hT2
          rintro e w4 ⟨rfl, h4⟩
          gi_wp2_with fail
          refine onePost_ext (h4) ?_
          refine wpAnyG_done (by kernel_rfl) ?_
          refine calmQ_normal ?_
          have hx4 := HAX.out.2.trans (hx.trans h4)
          have HA4 := Lib.hid (HAX.out.1.ext (hx.trans h4))
          obtain ⟨c0, c1, c2⟩ := HC.out w4 (HEB.out.1.trans hx4)
          have hE5 := (Ext.refl w4).alloc (.cells #[.int .i64 z0, .int .i64 z1, .int .u64 z2] 66)
          have HA5 := Lib.hid (HA4.out.ext hE5)
          have HX5 := Lib.hid (hx4.trans hE5)
          have HR5 := Lib.hid ((iown3_new (B := w4.heap.size) (w := w4) (z0, z1, z2) (Nat.le_refl _)).row)
          clear hx4 hE5 h4 hx
          go_wp2_with (at_builtin; refine wpList_append_items2 (B := w2.heap.size) (zs := (zs.take k).filter (fun z => !f z)) (ys := [(z0, z1, z2)]) rfl (.tmp 35) (.tmp 40) rfl rfl rfl HA5.out.2.1 HR5.out ?b2 HX5.out.size (by simp) ?_)
          case b2 => exact iflen _ k HL.out
          intro v6 w6 ho6 hg6 hw6
          clear c0 c1 c2
          have HA6 := Lib.hid (HA5.out.symm.grow ho6 hg6 (by simpa using hw6)).symm
          have HX6 := Lib.hid (igrown3_ext HX5.out HA5.out.2.1 hg6)
          clear ho6 hg6 hw6
          go_wp2
          go_roundw
          case rel => exact ⟨k + 1, hlt, int_k hlt HL.out, Lib.hid ⟨by rw [HT1.out, HT2.out]; simpa using HA6.out, HX6.out⟩⟩
          case measure => exact meas_k hlt HL.out
    · have hke : k = zs.length := Nat.le_antisymm hk (Nat.le_of_not_lt hlt)
      have HK := Lib.hid hke
      clear hke hcase
      go_wp2
      have hap := HAX.out.1
      rw [HK.out, List.take_length] at hap
      exact bodyPost_ret (v := .tuple #[_, _]) (by simp [results, Tryz.results15, go_sem]) rfl ⟨_, _, rfl, hap.1.mono (by rw [← HN.out]; exact Nat.le_trans (Nat.le_of_eq HN.out) HEB.out.1.size), hap.2.1.mono (by rw [← HN.out]; exact Nat.le_trans (Nat.le_of_eq HN.out) HEB.out.1.size), HEB.out.1.trans HAX.out.2⟩
end Go.Proofs.YtoiohjifjmejkaaGreat
namespace Go.Proofs.YtoiohjifjmejkaaGreat
open Go Go.RowKit

/-- of which a statement takes nothing, or a tree of which it takes all. -/
theorem parted_or {c : Nat} (h4 : 1 ≤ c ∧ c ≤ 4) {a0 : Option Addr} {len0 cap0 : Nat} {z0 : List BeadL} {w : World} (w0 : IsBeads w (.slice a0 len0 cap0) z0) :
    (∀ W, Ext w W → Calls Tryz.prog 6 #[.int .u8 c, .slice a0 len0 cap0] W (Ret (.bool true) W)) ∨
      ∃ t : BT, z0 = t.enc ∧ len0 = t.enc.length ∧ t.enc.length ≤ 400 ∧ ptV c t.tr = true ∧ Beads w (.slice a0 len0 cap0) t.enc ∧ (∀ z ∈ t.enc, z.wf) ∧
        ∀ W, Ext w W → Calls Tryz.prog 6 #[.int .u8 c, .slice a0 len0 cap0] W (Ret (.bool false) W) := by
  obtain rfl : len0 = z0.length := by obtain ⟨_, _, h⟩ := beads_slice w0.1; cases h; rfl
  have hl := fun W (e : Ext w W) => beadsLong_any W _ z0 (w0.1.ext e)
  cases d0 : (decide (400 < z0.length) || !mayB z0) with
  | true =>
    rw [d0] at hl
    exact .inl fun W e => parted_long c h4 _ W (fun W2 e2 => hl W2 (e.trans e2))
  | false =>
    obtain ⟨l0, t0, e0⟩ := long_tree d0
    subst e0
    rw [d0] at hl
    have h := fun W (e : Ext w W) => parted_t c h4 t0 t0.tr (.slice a0 t0.enc.length cap0) W t0.tr_fits (fun _ => fits_tagsOk t0 _ t0.tr_fits w0.2) (w0.1.ext e) (by omega) (fun W2 e2 => hl W2 (e.trans e2))
    cases hp : ptV c t0.tr with
    | false => rw [hp] at h; exact .inl h
    | true => rw [hp] at h; exact .inr ⟨t0, rfl, rfl, l0, hp, w0.1, w0.2, h⟩
/-- what is made of the beads of a part. -/
theorem made_part {c : Nat} (h4 : 1 ≤ c ∧ c ≤ 4) {t : BT} {T : Tr} (hf : t.fits T) (hw : ∀ z ∈ t.enc, z.wf) (hl : t.enc.length ≤ 400) (hp : ptV c t.tr = true) : PartC c T ∧ TagsOk T ∧ T.count = t.enc.length := by
  have ht := fits_tagsOk t T hf hw
  exact ⟨partC_of h4 (by rw [fits_cnt hf]; omega) ht (by rw [← fits_ptV h4 t.tr_fits hf]; exact hp), ht, fits_cnt hf⟩
theorem BothC.assoc {c : Nat} {A B C X Y Z1 Z2 : Tr} (h1 : BothC c A B X) (h2 : BothC c X C Z1) (h3 : BothC c B C Y) (h4 : BothC c A Y Z2) : itsC c Z1 = itsC c A ++ (itsC c B ++ itsC c C) ∧ itsC c Z2 = itsC c A ++ (itsC c B ++ itsC c C) := by
  rw [h2.its, h1.its, h4.its, h3.its, List.append_assoc]
  exact ⟨rfl, rfl⟩
theorem irow3_take {w : World} {b o c k : Nat} {zs : List (Int × Int × Int)} (hr : w.rangeAt b o (itemCells zs)) (hk : k ≤ zs.length) (hc : zs.length ≤ c) : IRow3 w (.slice (some ⟨b, o, none⟩) k c) (zs.take k) := by
  by_cases h0 : k = 0
  · subst h0; exact .inl ⟨rfl, _, _, rfl⟩
  · have hl : (zs.take k).length = k := by rw [List.length_take]; omega
    refine .inr ⟨b, o, c, by rw [hl], fun h => by rw [h] at hl; simp at hl; omega, by omega, fun j u hj => hr j u ?_⟩
    conv => lhs; rw [← List.take_append_drop k zs]
    rw [itemCells_append, List.getElem?_append_left (List.getElem?_eq_some_iff.1 hj).1]
    exact hj
theorem irow3_drop {w : World} {b o c k : Nat} {zs : List (Int × Int × Int)} (hr : w.rangeAt b o (itemCells zs)) (hk : k ≤ zs.length) (hc : zs.length ≤ c) : IRow3 w (.slice (some ⟨b, o + k * 3, none⟩) (zs.length - k) (c - k)) (zs.drop k) := by
  by_cases h0 : zs.length - k = 0
  · rw [h0]; exact .inl ⟨List.drop_eq_nil_of_le (by omega), _, _, rfl⟩
  · have hl : (zs.drop k).length = zs.length - k := by rw [List.length_drop]
    refine .inr ⟨b, o + k * 3, c - k, by rw [hl], fun h => by rw [h] at hl; simp at hl; omega, by omega, fun j u hj => ?_⟩
    have h := hr (k * 3 + j) u (by
      conv => lhs; rw [← List.take_append_drop k zs]
      rw [itemCells_append, List.getElem?_append_right (by rw [itemCells_len, List.length_take]; omega)]
      rw [itemCells_len, List.length_take, show min k zs.length = k by omega, Nat.add_sub_cancel_left]
      exact hj)
    rw [show o + k * 3 + j = o + (k * 3 + j) by omega]
    exact h
theorem two_le {a b : Nat} (h1 : a ≤ 400) (h2 : b ≤ 400) : a + b ≤ 20000 := by omega
theorem three_le {x a b d : Nat} (h : x = a + b) (h1 : a ≤ 400) (h2 : b ≤ 400) (h3 : d ≤ 400) : x + d ≤ 20000 := by omega
theorem three_le' {y a b d : Nat} (h : y = b + d) (h1 : a ≤ 400) (h2 : b ≤ 400) (h3 : d ≤ 400) : a + y ≤ 20000 := by omega
theorem turn_counts {x y z1 z2 a b d : Nat} (hx : x = a + b) (h1 : z1 = x + d) (hy : y = b + d) (h2 : z2 = a + y) (ha : a ≤ 400) (hb : b ≤ 400) (hd : d ≤ 400) : z1 = a + b + d ∧ z2 = a + b + d ∧ a ≤ 400 ∧ b ≤ 400 ∧ d ≤ 400 := by omega
theorem z_le {z a b d n : Nat} (h : z = a + b + d) (h1 : a ≤ 400 ∧ b ≤ 400 ∧ d ≤ 400) (hn : 1200 ≤ n) : z ≤ n := by omega
theorem z_lt {z a b d n : Nat} (h : z = a + b + d) (h1 : a ≤ 400 ∧ b ≤ 400 ∧ d ≤ 400) (hn : 1200 < n) : z < n := by omega
theorem three_sum {n z a b c x y v : Nat} (h : n = z) (h1 : z = a + b + c) (h2 : a ≤ 400 ∧ b ≤ 400 ∧ c ≤ 400) (h3 : a = x) (h4 : b = y) (h5 : c = v) : ∃ m : Nat, wrap64 ((x : Int) + (y : Int)) = (m : Int) ∧ wrap64 ((m : Int) + (v : Int)) = (n : Int) ∧ RowKit.Hid (m = x + y) :=
  ⟨x + y, by unfold wrap64; omega, by unfold wrap64; omega, rfl⟩
theorem turn_a {n z a b d x k : Nat} (h : n = z) (h1 : z = a + b + d) (h3 : a = x) (hk : n ≤ k) : (x : Int) ≤ (k : Int) := by omega
theorem turn_b {n z a b d x y m : Nat} (h : n = z) (h1 : z = a + b + d) (h3 : a = x) (h4 : b = y) (hm : m = x + y) : (m : Int) ≤ (n : Int) := by omega
theorem IOwn3.sides {B : Nat} {w : World} {a : Option Addr} {n cp : Nat} {zs : List (Int × Int × Int)} (h : IOwn3 B w (.slice a n cp) zs) : (a = none ∧ cp = 0 ∧ zs = []) ∨ ∃ g, a = some ⟨g, 0, none⟩ ∧ zs.length ≤ cp := by
  obtain ⟨h1, ⟨hv, h0⟩ | ⟨g, cap, cur, hv, hb, hg, hc, hm, hs, ht⟩⟩ := h
  · cases hv; exact .inl ⟨rfl, rfl, List.eq_nil_of_length_eq_zero h0⟩
  · cases hv; exact .inr ⟨g, rfl, hc⟩
theorem IOwn3.front {B : Nat} {w : World} {g n cp k : Nat} {zs xs : List (Int × Int × Int)} (h : IOwn3 B w (.slice (some ⟨g, 0, none⟩) n cp) zs) (hx : xs.length = k ∧ ∃ ys, zs = xs ++ ys) : IRow3 w (.slice (some ⟨g, 0, none⟩) k cp) xs := by
  obtain ⟨rfl, ys, rfl⟩ := hx
  rcases h.row with ⟨h0, a, c, hv⟩ | ⟨b, o, c, hv, hne, hc, hr⟩
  · have : xs = [] := (List.append_eq_nil_iff.1 h0).1
    subst this; exact .inl ⟨rfl, _, _, rfl⟩
  · cases hv
    have h2 := irow3_take hr (k := xs.length) (by simp) hc
    rwa [List.take_left] at h2
theorem turn_front {x y z : List (Int × Int × Int)} {t : List (Int × Int × Int)} {m n : Nat} (h : x.length = m) (h2 : m = n) (h3 : t = x ++ (y ++ z)) : x.length = n ∧ ∃ ys, t = x ++ ys := ⟨h.trans h2, _, h3⟩
theorem IOwn3.back {B : Nat} {w : World} {g n cp k : Nat} {zs xs : List (Int × Int × Int)} (h : IOwn3 B w (.slice (some ⟨g, 0, none⟩) n cp) zs) (hx : ∃ ys, zs = ys ++ xs ∧ ys.length = k) :
    (cp = k → IRow3 w (.slice (some ⟨g, 0, none⟩) (n - k) 0) xs) ∧ IRow3 w (.slice (some ⟨g, k * 3, none⟩) (n - k) (cp - k)) xs := by
  obtain ⟨ys, rfl, rfl⟩ := hx
  rcases h.row with ⟨h0, a, c, hv⟩ | ⟨b, o, c, hv, hne, hc, hr⟩
  · have : xs = [] := (List.append_eq_nil_iff.1 h0).2
    subst this
    cases hv
    rw [Nat.zero_sub]
    exact ⟨fun _ => .inl ⟨rfl, _, _, rfl⟩, .inl ⟨rfl, _, _, rfl⟩⟩
  · cases hv
    have h2 := irow3_drop hr (k := ys.length) (by simp) hc
    rw [List.drop_left] at h2
    refine ⟨fun hcp => ?_, by simpa using h2⟩
    have : xs = [] := List.eq_nil_of_length_eq_zero (by rw [List.length_append] at hc; omega)
    subst this
    exact .inl ⟨rfl, some ⟨g, 0, none⟩, 0, by simp⟩
theorem turn_back {x y z t : List (Int × Int × Int)} {a b n0 n1 m : Nat} (h : x.length = a) (h' : y.length = b) (h2 : a = n0) (h2' : b = n1) (hm : m = n0 + n1) (h3 : t = x ++ (y ++ z)) : ∃ ys, t = ys ++ z ∧ ys.length = m :=
  ⟨x ++ y, by rw [h3, List.append_assoc], by rw [List.length_append]; omega⟩
theorem turn_empty {x y z t : List (Int × Int × Int)} (h : t = []) (h3 : t = x ++ (y ++ z)) : x = [] ∧ y = [] ∧ z = [] := by
  rw [h] at h3
  obtain ⟨h1, h2⟩ := List.append_eq_nil_iff.1 h3.symm
  exact ⟨h1, List.append_eq_nil_iff.1 h2⟩
theorem turn_none {x y z : List (Int × Int × Int)} {a b n0 n1 m : Nat} (h : x.length = a) (h' : y.length = b) (h2 : a = n0) (h2' : b = n1) (hm : m = n0 + n1) (h3 : x = []) (h4 : y = []) (h5 : z = []) : n0 = 0 ∧ m = 0 ∧ z.length - m = 0 := by
  subst h3 h4 h5; simp at h h' ⊢; omega
theorem irow_zero {w : World} {p : Option Addr} {n k : Nat} {zs : List (Int × Int × Int)} (h : n = 0) (hz : zs = []) : IRow3 w (.slice p n k) zs := by
  subst h hz; exact .inl ⟨rfl, _, _, rfl⟩
end Go.Proofs.YtoiohjifjmejkaaGreat
