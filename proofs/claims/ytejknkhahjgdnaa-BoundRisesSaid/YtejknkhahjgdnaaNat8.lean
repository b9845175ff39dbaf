/- nat.Text. -/
import Derived.Test.YtejknkhahjgdnaaNat7
import Derived.Deep.LoopGhost
namespace Go.Proofs.Ytejknkhahjgdnaa
open Go Go.RowKit

/-- a number's text. -/
def textOf (n : Nat) : ByteArray := strOfNums ((decs n).reverse.map (fun d => ((48 + d : Nat) : Int)))
def TextV (xs : List Nat) : ByteArray := if mayN xs then textOf (nval xs) else ByteArray.empty
/-- what holds at each round's head. -/
structure TextH (K n gh L : Nat) (ds D : List Nat) : Prop where
  len : L ≤ ds.length
  big : ds.length ≤ 200
  words : Words ds
  norm : Norm (ds.take L)
  digs : Digs n D (nval (ds.take L))
  lt : ∀ d ∈ D, d < 10
  most : D.length ≤ K ∧ nval (ds.take L) < 2 ^ (K - D.length)
  cap : 1 ≤ K ∧ K ≤ 5000
  gh : 2 * nval (ds.take L) + (if D = [] then 1 else 0) ≤ gh
theorem take_nil_iff {xs : List Nat} {L : Nat} (h : L ≤ xs.length) (hN : Norm (xs.take L)) : nval (xs.take L) = 0 ↔ L = 0 := by
  constructor
  · intro h0
    have := norm_zero hN h0
    have h1 := congrArg List.length this
    rw [List.length_take, Nat.min_eq_left h] at h1
    exact h1
  · intro h0; subst h0; rfl
theorem TextH.step {K n gh L k : Nat} {ds es D : List Nat} {c : Nat} (h : TextH K n gh L ds D) (hc : 0 < L ∨ D = []) (he : es.length ≤ 200) (hLe : L ≤ es.length) (hw : Words es)
    (ht : nval (ds.take L) = 10 * nval (es.take L) + c) (hc10 : c < 10) (hk : k ≤ L) (hn : Norm (es.take k)) (hv : nval (es.take k) = nval (es.take L)) :
    c = nval (ds.take L) % 10 ∧ ∃ gh', gh' < gh ∧ TextH K n gh' k es (D ++ [c]) := by
  have e1 : c = nval (ds.take L) % 10 := by omega
  have e2 : nval (es.take L) = nval (ds.take L) / 10 := by omega
  have h0 : nval (ds.take L) ≠ 0 ∨ D = [] := by
    rcases hc with h1 | h1
    · exact .inl (fun h2 => by have := (take_nil_iff h.len h.norm).1 h2; omega)
    · exact .inr h1
  refine ⟨e1, 2 * nval (es.take k), ?_, by omega, he, hw, hn, ?_, ?_, ?_, h.cap, ?_⟩
  · have hg := h.gh
    rw [hv, e2]
    rcases h0 with h1 | h1
    · omega
    · rw [if_pos h1] at hg; omega
  · rw [hv, e2, e1]; exact digs_step h.digs h0
  · intro d hd
    rcases List.mem_append.1 hd with hd | hd
    · exact h.lt d hd
    · rw [List.mem_singleton] at hd; omega
  · rw [hv, e2, List.length_append, List.length_singleton]
    obtain ⟨m1, m2⟩ := h.most
    by_cases hz : nval (ds.take L) = 0
    · have hD : D = [] := h0.resolve_left (fun h => h hz)
      rw [hz, hD]
      exact ⟨h.cap.1, by rw [Nat.zero_div]; exact Nat.pow_pos (by decide)⟩
    · have hlt : D.length < K := by
        rcases Nat.lt_or_ge D.length K with h1 | h1
        · exact h1
        · rw [Nat.sub_eq_zero_of_le h1, Nat.pow_zero] at m2; omega
      refine ⟨hlt, ?_⟩
      have e3 : K - D.length = (K - (D.length + 1)) + 1 := by omega
      rw [e3, Nat.pow_succ] at m2
      generalize 2 ^ (K - (D.length + 1)) = P at *
      omega
  · rw [if_neg (by simp)]; omega
theorem pow_bits {a b c K : Nat} (h : a = 2 ^ b) (hK : K = b * c) : a ^ c = 2 ^ K := by rw [h, hK, Nat.pow_mul]
theorem text_bits {xs : List Nat} {K : Nat} (hK : 2 ^ K = beta ^ 128) (h : nval xs < beta ^ 128) : nval (xs.take xs.length) < 2 ^ (K - ([] : List Nat).length) := by
  rw [List.take_length, List.length_nil, Nat.sub_zero, hK]
  exact h
theorem text_cell (D : List Nat) (i : Nat) (hi : i < D.length) : (List.map by8 (List.map (fun x => 48 + x) D).reverse)[i]? = some (.int .u8 ((List.map (fun d => ((48 + d : Nat) : Int)) D.reverse).getD i 0)) := by
  have h : i < D.reverse.length := by rw [List.length_reverse]; exact hi
  rw [← List.map_reverse, List.getElem?_map, List.getElem?_map, List.getD_eq_getElem?_getD, List.getElem?_map, List.getElem?_eq_getElem h]
  rfl
/-- the state of Text's outer loop. -/
def TextSt (w : World) (K g n gh : Nat) (r v : Value) (W : World) : Prop :=
  ∃ (L c : Nat) (ds D : List Nat), r = .slice (some ⟨g, 0, none⟩) L c ∧ L ≤ c ∧ UBlk W g ds ∧ Ext w W ∧ DOwn (g + 1) W v (D.map (48 + ·)) ∧ Hid (TextH K n gh L ds D)
/-- the state of its inner loop. -/
def TextIn (W0 : World) (g L Td : Nat) (c k : Value) (W : World) : Prop :=
  ∃ (es : List Nat) (kk cc : Nat), c = .int .u64 (cc : Nat) ∧ k = .int .i64 (kk : Nat) ∧ UBlk W g es ∧ Only g W0 W ∧
    Hid (kk ≤ L ∧ L ≤ es.length ∧ es.length ≤ 200 ∧ cc < 10 ∧ Words es ∧ Td + 9 * nval (es.take (L - kk)) = 10 * nval (es.take L) + cc * beta ^ (L - kk))
theorem UBlk.rowTake {w : World} {g : Nat} {ds : List Nat} (h : UBlk w g ds) (L c : Nat) (hL : L ≤ ds.length) (hc : L ≤ c) : URow w (.slice (some ⟨g, 0, none⟩) L c) (ds.take L) := by
  by_cases h0 : L = 0
  · subst h0; exact .inl ⟨by simp, _, _, rfl⟩
  · refine .inr ⟨g, 0, c, by rw [List.length_take, Nat.min_eq_left hL], ?_, by rw [List.length_take]; omega, fun q u hq => ?_⟩
    · intro e
      have := congrArg List.length e
      rw [List.length_take, List.length_nil] at this
      omega
    · rw [Nat.zero_add, cell_of h q]
      rw [List.map_take, List.getElem?_take] at hq
      split at hq
      · simpa using hq
      · cases hq
theorem div_close {W0 W : World} {g L Td kk m cc e : Nat} {es : List Nat} (hU : UBlk W g es) (hO : Only g W0 W)
    (HJ : Hid (kk ≤ L ∧ L ≤ es.length ∧ es.length ≤ 200 ∧ cc < 10 ∧ Words es ∧ Td + 9 * nval (es.take (L - kk)) = 10 * nval (es.take L) + cc * beta ^ (L - kk)))
    (hk : kk < L) (hm : L - (kk + 1) = m) (_hml : m < L) (hst : let s := cc * beta + e; Td + 9 * nval ((es.set m (s / 10)).take m) = 10 * nval ((es.set m (s / 10)).take L) + (s % 10) * beta ^ m) (be : e < 4294967296) :
    TextIn W0 g L Td (.int .u64 (((cc : Int) * 4294967296 + (e : Int)) % 10)) (.int .i64 ((kk : Int) + 1)) (W.setCell ⟨g, m, none⟩ (.int .u32 (((cc : Int) * 4294967296 + (e : Int)) / 10))) ∧
      L - (intOf (.int .i64 ((kk : Int) + 1))).toNat < L - (intOf (.int .i64 (kk : Int))).toNat := by
  obtain ⟨h1, h2, h3, h4, h5, h6⟩ := HJ.out
  have e1 : ((cc : Int) * 4294967296 + (e : Int)) % 10 = (((cc * beta + e) % 10 : Nat) : Int) := by
    show _ = (((cc * 4294967296 + e) % 10 : Nat) : Int); omega
  have e2 : ((cc : Int) * 4294967296 + (e : Int)) / 10 = (((cc * beta + e) / 10 : Nat) : Int) := by
    show _ = (((cc * 4294967296 + e) / 10 : Nat) : Int); omega
  rw [e1, e2]
  refine ⟨⟨es.set m ((cc * beta + e) / 10), kk + 1, (cc * beta + e) % 10, rfl, rfl, hU.set m _, hO.set m _, Lib.hid ⟨hk, by rw [List.length_set]; exact h2, by rw [List.length_set]; exact h3, Nat.mod_lt _ (by decide), words_set h5 ?_, by rw [hm]; exact hst⟩⟩, meas_s hk⟩
  show (cc * 4294967296 + e) / 10 < 4294967296
  omega
set_option maxRecDepth 100000 in
set_option maxHeartbeats 4000000 in
theorem natText_any (w : World) (p : Value) (xs : List Nat) (hp : URow w p xs) (hx : Words xs) : Calls Try.prog 59 #[p] w (Ret (.string (TextV xs)) w) := by
  have HM1 := Lib.hid (natMay_any w p xs hp)
  have HP := Lib.hid hp
  have HX := Lib.hid hx
  obtain ⟨T, hT⟩ : ∃ T, TextV xs = T := ⟨_, rfl⟩
  rw [hT]
  have HT := Lib.hid hT
  cases m1 : mayN xs with
  | false =>
    have HE := Lib.hid (show T = ByteArray.empty by rw [← hT]; unfold TextV; rw [m1]; rfl)
    rw [m1] at HM1
    clear hp hx m1 hT
    go_enter Try.func59, Try.ntmps59
    go_wp2_with fail
    refine HM1.out.mono ?_
    rintro e w1 ⟨rfl, h1⟩
    go_wp2
    go_ret
    exact ⟨by rw [HE.out]; rfl, h1⟩
  | true =>
    obtain ⟨n, hn⟩ : ∃ n, nval xs = n := ⟨_, rfl⟩
    have HE := Lib.hid (show T = textOf n by rw [← hT]; unfold TextV; rw [m1, ← hn]; rfl)
    have HN := Lib.hid ((mayN_norm hx).1 m1)
    have HNV := Lib.hid hn
    rw [m1] at HM1
    obtain ⟨pa, pc, rfl⟩ := hp.slice
    clear hp hx m1 hT hn
    go_enter Try.func59, Try.ntmps59
    go_wp2_with fail
    refine HM1.out.mono ?_
    rintro e w1 ⟨rfl, h1⟩
    go_wp2_with fail
    refine (wide_any w1 _ xs xs.length (HP.out.ext h1) (Nat.le_refl _) (Nat.le_trans HN.out.2 (by decide))).mono ?_
    rintro e w2 ⟨g, rfl, hg, hb, h2⟩
    rw [Nat.sub_self, List.replicate_zero, List.append_nil] at hb
    have HB := Lib.hid hb
    have HX2 := Lib.hid (h1.trans h2)
    have HG := Lib.hid (Nat.le_trans h1.size hg)
    clear h1 h2 hg hb
    go_wp2_with fail
    obtain ⟨K, hK⟩ : ∃ K, K = 32 * 128 := ⟨_, rfl⟩
    go_loopg [3, 4] (2 * n + 1) (fun gh r v W => TextSt w K g n gh r v W)
    case atStart =>
      refine ⟨xs.length, xs.length, xs, [], rfl, Nat.le_refl _, HB.out, HX2.out, DOwn.nil _ _, Lib.hid ?_⟩
      refine ⟨Nat.le_refl _, Nat.le_trans HN.out.2 (by decide), HX.out, by rw [List.take_length]; exact HN.out.1, ?_, (fun d hd => by cases hd), ?_, ⟨by rw [hK]; decide, by rw [hK]; decide⟩, ?_⟩
      · left; exact ⟨rfl, by rw [List.take_length]; exact HNV.out⟩
      · refine ⟨Nat.zero_le _, ?_⟩
        have := (norm_len HN.out.1 128).1 HN.out.2
        exact text_bits (pow_bits rfl hK).symm this
      · rw [List.take_length, HNV.out, if_pos rfl]; exact Nat.le_refl _
    case round =>
      obtain ⟨L, c, ds, D, rfl, hLc, hU, hE, hD, HH⟩ := hrel
      by_cases hgo : 0 < L ∨ D = []
      · have HGO := Lib.hid hgo
        have HU := Lib.hid hU
        have HE2 := Lib.hid hE
        have HD := Lib.hid hD
        have HLC := Lib.hid hLc
        obtain ⟨va, vc, hv⟩ := hD.slice
        have hlt : L ≤ 200 := Nat.le_trans HH.out.len HH.out.big
        subst hv
        by_cases hL0 : 0 < L
        · have hL : (0 : Int) < (L : Int) := by omega
          clear hgo hU hE hD hLc hL0
          go_wp2_with fail
          clear hL
          obtain ⟨W0, rfl⟩ : ∃ W0, W0 = wr := ⟨_, rfl⟩
          go_loopw [5, 25] (fun c k W => TextIn W0 g L (nval (ds.take L)) c k W) (fun _ k _ => L - (intOf k).toNat)
          case atStart => exact ⟨ds, 0, 0, rfl, rfl, HU.out, Only.refl _ _, Lib.hid ⟨Nat.zero_le _, HH.out.len, HH.out.big, by decide, HH.out.words, by rw [Nat.sub_zero, Nat.zero_mul]; omega⟩⟩
          case round =>
            obtain ⟨es, kk, cc, rfl, rfl, hU3, hO, HJ⟩ := hrel
            by_cases hk : kk < L
            · obtain ⟨m, hm⟩ : ∃ m, L - (kk + 1) = m := ⟨_, rfl⟩
              have hat : (L : Int) - 1 - (kk : Int) = (m : Int) := by omega
              have hml : m < L := by omega
              obtain ⟨cx, cf⟩ := hU3.cell m (Nat.lt_of_lt_of_le hml HJ.out.2.1)
              have be := words_getD HJ.out.2.2.2.2.1 m
              have hcc := HJ.out.2.2.2.1
              have HST := Lib.hid (div_step (c := cc) (Td := nval (ds.take L)) hml HJ.out.2.1 (by have := HJ.out.2.2.2.2.2; rw [show L - kk = m + 1 by omega] at this; exact this))
              obtain ⟨e, he⟩ : ∃ e, es.getD m 0 = e := ⟨_, rfl⟩
              rw [he] at cx be HST
              unfold beta at be
              have HU3 := Lib.hid hU3
              have HO := Lib.hid hO
              have HM := Lib.hid (And.intro hm hml)
              clear hU3 hO hm he
              go_wp2
              exact div_close HU3.out HO.out HJ hk HM.out.1 HM.out.2 HST.out be
            · have hq := HJ.out.2.2.2.2.2
              rw [Nat.le_antisymm HJ.out.1 (Nat.le_of_not_lt hk), Nat.sub_self, Nat.pow_zero, Nat.mul_one, List.take_zero] at hq
              have HQ := Lib.hid (show nval (ds.take L) = 10 * nval (es.take L) + cc from by simpa [nval] using hq)
              have hcc := HJ.out.2.2.2.1
              have HE3 := Lib.hid (hO.1 w HE2.out HG.out)
              have hown : (Value.slice va (D.map (48 + ·)).length vc).ownBlock ≠ some g := fun e => by
                have := (World.ownsRow.lt HD.out) g e
                omega
              have hA := (Ext.refl wr).alloc (.cells #[.int .u8 (48 + (cc : Int))] 5)
              have hD5 := (HD.out.kept hO hown).ext hA
              rw [List.length_map] at hD5 hown
              have HD5 := Lib.hid hD5
              have HOWN := Lib.hid hown
              have HU5 := Lib.hid (show UBlk _ g es from hA.get hU3)
              have HE5 := Lib.hid (HE3.out.trans hA)
              have hcell : (wr.alloc (.cells #[.int .u8 (48 + (cc : Int))] 5)).cell? ⟨wr.heap.size, 0, none⟩ = some (.int .u8 ((48 + cc : Nat) : Int)) := cell_of (alloc_at wr (.cells #[.int .u8 (48 + (cc : Int))] 5) _ rfl) 0
              have HC := Lib.hid (show (wr.alloc (.cells #[.int .u8 (48 + (cc : Int))] 5)).cell? ⟨wr.heap.size, 0, none⟩ = some (.int .u8 ((48 + cc : Nat) : Int)) from hcell)
              clear hq hO hown hA hD5 hU3 hcell
              go_wp2_with (at_builtin; refine wpList_append_byte (B := g + 1) (zs := D.map (48 + ·)) (d := 48 + cc) (b := wr.heap.size) rfl (.tmp 50) (.tmp 54) rfl rfl rfl HD5.out HC.out (by rw [List.length_map]; have := HH.out.most.1; have := HH.out.cap.2; omega) (Array.getElem?_eq_some_iff.1 HU5.out).1 ?_)
              intro v6 w6 ho6 hg6 hw6
              have hlt6 := World.ownsRow.lt HD5.out
              have HE6 := Lib.hid (show Ext w w6 from RowKit.Below.grown HE5.out hg6 HE5.out.size (fun k hk => Nat.le_trans (Nat.le_trans HG.out (Nat.le_succ g)) (hlt6 k hk).1))
              have HU6 := Lib.hid (show UBlk w6 g es from (hg6.block g (Array.getElem?_eq_some_iff.1 HU5.out).1 (Ne.symm HOWN.out)).trans HU5.out)
              have HO6 := Lib.hid (show DOwn (g + 1) w6 v6 ((D ++ [cc]).map (48 + ·)) by simpa using ho6)
              clear ho6 hg6 hw6 hlt6
              have hLe : L ≤ es.length := HJ.out.2.1
              have htl : (es.take L).length = L := by rw [List.length_take]; exact Nat.min_eq_left hLe
              have HTR := Lib.hid (trim_any w6 (some ⟨g, 0, none⟩) c (es.take L) (by rw [htl]; exact HU6.out.rowTake L c hLe HLC.out) (by rw [htl]; exact Nat.le_trans hlt (by decide)))
              rw [htl] at HTR
              clear hLe htl
              go_wp2_with fail
              refine HTR.out.mono ?_
              rintro r w7 ⟨k, rfl, k1, k2, k3, k4⟩
              rw [List.length_take, Nat.min_eq_left HJ.out.2.1] at k1
              have hW : Words (es.take L) := words_take HJ.out.2.2.2.2.1 L
              obtain ⟨t1, t2⟩ := trim_norm hW (by rw [List.length_take, Nat.min_eq_left HJ.out.2.1]; exact k1) k2 k3
              rw [List.take_take, Nat.min_eq_left k1] at t1 t2
              obtain ⟨-, gh', hlt', hH'⟩ := HH.out.step HGO.out HJ.out.2.2.1 HJ.out.2.1 HJ.out.2.2.2.2.1 HQ.out HJ.out.2.2.2.1 k1 t1 t2
              have HH' := Lib.hid hH'
              have HU7 := Lib.hid (show UBlk w7 g es from k4.get HU6.out)
              have HE7 := Lib.hid (HE6.out.trans k4)
              have HO7 := Lib.hid (HO6.out.ext k4)
              have HK := Lib.hid (Nat.le_trans k1 HLC.out)
              have HLT := Lib.hid hlt'
              clear hW t1 t2 hH' k1 k2 k3 k4 hlt' hcc
              go_wp2
              go_roundg gh'
              case measure => exact HLT.out
              case rel => exact ⟨k, c, es, D ++ [cc], rfl, HK.out, HU7.out, HE7.out, HO7.out, HH'.out⟩
        · have hL1 : L = 0 := Nat.eq_zero_of_not_pos hL0
          have hD1 : D = [] := hgo.resolve_left hL0
          subst hL1 hD1
          rw [show ([] : List Nat).map (48 + ·) = [] from rfl] at HD ⊢
          clear hgo hU hE hD hLc hL0 hlt
          go_wp2_with fail
          refine wp_loop_rounds 1 ?_
          rw [rounds_succ]
          have hA := (Ext.refl wr).alloc (.cells #[.int .u8 48] 5)
          have HD5 := Lib.hid (HD.out.ext hA)
          have HU5 := Lib.hid (show UBlk _ g ds from hA.get HU.out)
          have HE5 := Lib.hid (HE2.out.trans hA)
          have hcell : (wr.alloc (.cells #[.int .u8 48] 5)).cell? ⟨wr.heap.size, 0, none⟩ = some (.int .u8 ((48 : Nat) : Int)) := cell_of (alloc_at wr (.cells #[.int .u8 48] 5) _ rfl) 0
          have HC := Lib.hid hcell
          have HOWN := Lib.hid (show (Value.slice va ([] : List Nat).length vc).ownBlock ≠ some g from fun e => by
            have := (World.ownsRow.lt HD.out) g e
            omega)
          clear hA hcell
          go_wp2_with (at_builtin; refine wpList_append_byte (B := g + 1) (zs := []) (d := 48) (b := wr.heap.size) rfl (.tmp 50) (.tmp 54) rfl rfl rfl HD5.out HC.out (by simp) (Array.getElem?_eq_some_iff.1 HU5.out).1 ?_)
          intro v6 w6 ho6 hg6 hw6
          have hlt6 := World.ownsRow.lt HD5.out
          have HE6 := Lib.hid (show Ext w w6 from RowKit.Below.grown HE5.out hg6 HE5.out.size (fun k hk => Nat.le_trans (Nat.le_trans HG.out (Nat.le_succ g)) (hlt6 k hk).1))
          have HU6 := Lib.hid (show UBlk w6 g ds from (hg6.block g (Array.getElem?_eq_some_iff.1 HU5.out).1 (Ne.symm HOWN.out)).trans HU5.out)
          have HO6 := Lib.hid (show DOwn (g + 1) w6 v6 (([] ++ [0]).map (48 + ·)) from ho6)
          clear ho6 hg6 hw6 hlt6
          have HTR := Lib.hid (trim_any w6 (some ⟨g, 0, none⟩) c [] (.inl ⟨rfl, _, _, rfl⟩) (by simp))
          rw [List.length_nil] at HTR
          go_wp2_with fail
          refine HTR.out.mono ?_
          rintro r w7 ⟨k, rfl, k1, k2, k3, k4⟩
          obtain rfl : k = 0 := Nat.le_zero.1 k1
          obtain ⟨-, gh', hlt', hH'⟩ := HH.out.step (.inr rfl) HH.out.big HH.out.len HH.out.words (c := 0) rfl (by decide) (Nat.le_refl _) HH.out.norm rfl
          have HH' := Lib.hid hH'
          have HU7 := Lib.hid (show UBlk w7 g ds from k4.get HU6.out)
          have HE7 := Lib.hid (HE6.out.trans k4)
          have HO7 := Lib.hid (HO6.out.ext k4)
          have HLT := Lib.hid hlt'
          clear hH' k1 k2 k3 k4 hlt'
          go_wp2
          go_roundg gh'
          case measure => exact HLT.out
          case rel => exact ⟨0, c, ds, [0], rfl, Nat.zero_le _, HU7.out, HE7.out, HO7.out, HH'.out⟩
      · have hL0 : L = 0 := Nat.eq_zero_of_not_pos (fun h => hgo (.inl h))
        have hD0 : D ≠ [] := fun h => hgo (.inr h)
        subst hL0
        have hDD := digs_end (n := n) (D := D) (by have := HH.out.digs; rw [List.take_zero] at this; exact this) hD0
        have HDD := Lib.hid hDD
        have hpos : 0 < D.length := List.length_pos_iff.2 hD0
        obtain ⟨va, vc, hv⟩ := hD.slice
        subst hv
        (try rw [List.length_map])
        obtain ⟨h1, h | ⟨b, cap, cur, hv, hb, hh, hc1, hc2, hc3, hc4⟩⟩ := hD
        · exact absurd (by simpa using h.2) hD0
        · rw [List.length_map] at hv
          cases hv
          have hle : D.length ≤ cur.size := by
            have := congrArg List.length hc4
            simp only [List.length_take, List.length_map, Nat.mul_one, Array.length_toList] at this
            omega
          have HR := Lib.hid (reverseB_any wr b D.length vc cur.toList (D.map (48 + ·)) (by simpa using hh) (by
            rw [List.length_map, Nat.mul_one] at hc4; exact hc4) (by simp) (by rw [Array.length_toList]; exact hle) (by have := HH.out.most.1; have := HH.out.cap.2; omega))
          have HGB := Lib.hid (Nat.le_trans (Nat.le_trans HG.out (Nat.le_succ g)) hb)
          have HE2 := Lib.hid hE
          have hguard : ¬ (D.length : Int) = 0 := by omega
          have HP0 := Lib.hid hpos
          clear hh hb hc1 hc2 hc3 hc4 hle h1 hgo hDD hU hE hD0 hLc hpos
          go_wp2_with fail
          refine HR.out.mono ?_
          rintro r w7 ⟨⟨v7, rfl⟩, ⟨fs, hf, hft⟩, hO⟩
          have hcv := run_convert_bytes_arg (P := Try.prog) w7 39 5 Try.underlying39 Try.underlying5 b 0 D.length vc ((decs n).reverse.map (fun d => ((48 + d : Nat) : Int))) (by rw [List.length_map, List.length_reverse, ← HDD.out]) (fun i hi => by
            rw [Nat.zero_add, cell_of hf i, List.getElem?_toArray]
            have e1 : (fs.take D.length)[i]? = fs[i]? := by rw [List.getElem?_take, if_pos hi]
            rw [← e1, hft, ← HDD.out]
            exact text_cell D i hi) 9 Try.underlying9
          have HXX := Lib.hid (hO.1 w HE2.out HGB.out)
          clear hf hft hO
          go_wp2_with fail
          go_ret
          exact ⟨by rw [HE.out]; unfold textOf; simp, HXX.out⟩
end Go.Proofs.Ytejknkhahjgdnaa
