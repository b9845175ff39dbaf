/- joinerylaw22.grown. The walk of SchemeAlike. -/
import Derived.Test.YtkkdobolloojjaaGreatM2
import Derived.Test.YtkkdobolloojjaaGreatM40
import Derived.Test.YtkkdobolloojjaaGreatM41
namespace Go.Proofs.YtkkdobolloojjaaGreat
open Go Go.RowKit

/-- a row of truths. -/
def LRow (w : World) (a : Option Addr) (len cap : Nat) : Prop :=
  len = 0 ∨ ∃ b o, a = some ⟨b, o, none⟩ ∧ len ≤ cap ∧ ∀ i, i < len → ∃ z : Bool, w.cell? ⟨b, o + i, none⟩ = some (.bool z)
/-- its tags fit uint64. -/
def ItOk (zs : List (Int × Int × Int)) : Prop := ∀ z ∈ zs, 0 ≤ z.2.2 ∧ z.2.2 < 18446744073709551616
theorem IOwn3.bt {B : Nat} {L : List Nat} {w w' : World} {v : Value} {zs : List (Int × Int × Int)} (h : IOwn3 B w v zs) (e : Bt L w w') (hL : ∀ P ∈ L, P < B) : IOwn3 B w' v zs := by
  obtain ⟨h1, h | ⟨g, cap, cur, hv, hb, hg, hc⟩⟩ := h
  · exact ⟨h1, .inl h⟩
  · exact ⟨h1, .inr ⟨g, cap, cur, hv, hb, e.get (fun hx => by have := hL g hx; omega) hg, hc⟩⟩
theorem IOwn3.block {B : Nat} {w : World} {v : Value} {zs : List (Int × Int × Int)} (h : IOwn3 B w v zs) {k : Nat} (hk : v.ownBlock = some k) : B ≤ k ∧ ∃ c, w.heap[k]? = some (.cells c 51 (0, 0)) := by
  obtain ⟨h1, ⟨rfl, -⟩ | ⟨g, cap, cur, rfl, hb, hg, hc⟩⟩ := h
  · cases hk
  · simp only [Value.ownBlock, Option.some.injEq] at hk
    subst hk
    exact ⟨hb, _, hg⟩
theorem InH.grown {B : Nat} {w w' : World} {v : Value} {zs : List (Int × Int × Int)} (hv : IOwn3 B w v zs) (hg : w.grownBy w' v.ownBlock) : ∀ {T : Tr}, InH w T → InH w' T
  | .nil, _ => trivial
  | .node b l k x g r, ⟨h0, h1, h2⟩ => ⟨by
      rw [hg.block b (lt_of h0) (fun e => by
        obtain ⟨-, c, hc⟩ := hv.block e.symm
        rw [h0] at hc
        injection hc with hc
        injection hc with _ h2 _
        exact absurd h2 (by decide))]
      exact h0, InH.grown hv hg h1, InH.grown hv hg h2⟩
theorem St.grown {B : Nat} {w W W' : World} {P c : Nat} {n : Int} {v : Value} {zs : List (Int × Int × Int)} (st : St w P c n W) (hv : IOwn3 B W v zs) (hP : P < B) (hg : W.grownBy W' v.ownBlock) : St w P c n W' := by
  have hwB : w.heap.size ≤ B := by have := st.new; omega
  refine ⟨igrown3_ext st.ext (hv.mono hwB) hg, st.new, ?_⟩
  have hp : W'.heap[P]? = W.heap[P]? := hg.block P st.lt (fun e => by have := (hv.block e.symm).1; omega)
  exact ⟨st.sch.1, st.sch.2.1, st.sch.2.2.imp (fun k => by unfold SchAt at k ⊢; rw [hp]; exact k) (fun k => by unfold SchAt at k ⊢; rw [hp]; exact k)⟩
theorem Sch.off {P c : Nat} {n : Int} {w : World} (h : Sch P c n w) {b o : Nat} {x : Int} (hc : w.cell? ⟨b, o, none⟩ = some (.int .i64 x)) : b ≠ P := by
  rintro rfl
  have key : ∀ (d st : Nat) (F : List Value), F = faces0 ∨ F = facesL c → SchAt b w c d st F n → False := by
    intro d st F hF hS
    rw [cell_of hS o] at hc
    have hF8 : ∃ f0 f1 f2 f3 f4 f5 f6 f7, F = [f0, f1, f2, f3, f4, f5, f6, f7] ∧ ∀ f ∈ F, ∀ y, f ≠ .int .i64 y := by
      rcases hF with rfl | rfl
      · exact ⟨_, _, _, _, _, _, _, _, rfl, by simp [faces0]⟩
      · exact ⟨_, _, _, _, _, _, _, _, rfl, by simp [facesL, fnV, joV, rkV]⟩
    obtain ⟨f0, f1, f2, f3, f4, f5, f6, f7, rfl, hf⟩ := hF8
    simp only [schL] at hc
    have hm : Value.int .i64 x ∈ ([.int .u8 c, .int .u32 d, .int .i32 st, .int .u32 0] ++ [f0, f1, f2, f3, f4, f5, f6, f7] ++ [.int .u64 n] : List Value) := by
      rw [List.getElem?_toArray] at hc
      exact List.mem_of_getElem? hc
    simp only [List.mem_append, List.mem_cons, List.not_mem_nil, or_false] at hm
    rcases hm with ((h1 | h1 | h1 | h1) | h1) | h1
    · cases h1
    · cases h1
    · cases h1
    · cases h1
    · exact hf _ (by simp only [List.mem_cons, List.not_mem_nil, or_false]; exact h1) x rfl
    · cases h1
  rcases h.2.2 with h1 | h1
  · exact key _ _ _ (.inl rfl) h1
  · exact key _ _ _ (.inr rfl) h1
theorem Bt.range {P c : Nat} {n : Int} {w w' : World} (e : Bt [P] w w') (h : Sch P c n w) {b o : Nat} {x : Int} {cs : List Value} (hr : w.rangeAt b o (.int .i64 x :: cs)) : w'.rangeAt b o (.int .i64 x :: cs) := by
  have h0 := hr 0 _ rfl
  have hne := h.off h0
  intro j u hj
  rw [World.cell?_of_block (w := w) (e.block b (cell_lt h0) (by simp; exact hne))]
  exact hr j u hj
theorem Beads.sch {P c : Nat} {n : Int} {w w' : World} {v : Value} {zs : List BeadL} (hb : Beads w v zs) (h : Sch P c n w) (e : Bt [P] w w') : Beads w' v zs := by
  rcases hb with hb | ⟨b, o, cp, rfl, hne, hc, hr⟩
  · exact .inl hb
  · cases zs with
    | nil => exact (hne rfl).elim
    | cons z zs => exact .inr ⟨b, o, cp, rfl, hne, hc, e.range h hr⟩
theorem IRow3.sch {P c : Nat} {n : Int} {w w' : World} {v : Value} {zs : List (Int × Int × Int)} (hb : IRow3 w v zs) (h : Sch P c n w) (e : Bt [P] w w') : IRow3 w' v zs := by
  rcases hb with hb | ⟨b, o, cp, rfl, hne, hc, hr⟩
  · exact .inl hb
  · cases zs with
    | nil => exact (hne rfl).elim
    | cons z zs => exact .inr ⟨b, o, cp, rfl, hne, hc, e.range h hr⟩
/-- what grown hands back. -/
def GrownS (w : World) (P c : Nat) (len : Nat) (W0 : World) (e : Ending) (W : World) : Prop :=
  ∃ (T : Tr) (v : Value) (row : List (Int × Int × Int)), e = .returned (.tuple #[.pointer T.ptr, v]) ∧ St w P c (len : Nat) W ∧ InH W T ∧ MayC c T ∧ TagsOk T ∧ itsC c T = row.map (itC c) ∧ T.count = len ∧ IOwn3 W0.heap.size W v row ∧ row.length = len
/-- how far it has come. -/
structure Half (w : World) (P c B k : Nat) (W : World) (T : Tr) (v : Value) (row : List (Int × Int × Int)) : Prop where
  st : St w P c (k : Nat) W
  big : B ≤ W.heap.size
  inh : InH W T
  may : MayC c T
  tags : TagsOk T
  its : itsC c T = row.map (itC c)
  cnt : T.count = k
  own : IOwn3 B W v row
  len : row.length = k
theorem u64_up {k : Nat} (h : k ≤ 1000) : IntKind.u64.wrap ((k : Int) + 1) = ((k + 1 : Nat) : Int) := by rw [u64_mod]; omega
theorem half_left {w : World} {P c B k m : Nat} {W w1 w2 w3 : World} {T u : Tr} {v v' v1 : Value} {row : List (Int × Int × Int)} {z : Int × Int × Int} (H : Half w P c B k W T v row) (hk : k < 100) (hz : 0 ≤ z.2.2 ∧ z.2.2 < 18446744073709551616) (hP : P < B)
    (BB : Bt [P] W w1) (SS : Sch P c (IntKind.u64.wrap ((k : Int) + 1)) w1) (hU : InH w1 u) (ok : JoinC m c .nil T z.1 z.2.1 z.2.2 u) (hE : Ext w1 w2) (hn : IOwn3 w1.heap.size w2 v1 [z]) (hB : B ≤ w1.heap.size) (ho : IOwn3 w1.heap.size w3 v' ([z] ++ row)) (hg : w2.grownBy w3 v1.ownBlock) : Half w P c B (k + 1) w3 u v' (z :: row) := by
  have st1 := (H.st.does BB SS).more hE
  rw [u64_up (by omega)] at st1
  refine ⟨st1.grown hn (by have := hP; omega) hg, Nat.le_trans (Nat.le_trans hB hE.size) hg.size, (hU.ext hE).grown hn hg, ok.may, ok.tags hz.1 hz.2 trivial H.tags (by have := ok.count; have := H.cnt; simp only [show Tr.count Tr.nil = 0 from rfl] at *; omega), ?_, ?_, ho.mono hB, by simp [H.len]⟩
  · rw [ok.its, H.its, itsC_nil]; rfl
  · have := ok.count; have := H.cnt; simp only [show Tr.count Tr.nil = 0 from rfl] at *; omega
theorem half_right {w : World} {P c B k m : Nat} {W w1 w2 w3 : World} {T u : Tr} {v v' v1 : Value} {row : List (Int × Int × Int)} {z : Int × Int × Int} (H : Half w P c B k W T v row) (hk : k < 100) (hz : 0 ≤ z.2.2 ∧ z.2.2 < 18446744073709551616) (hP : P < B)
    (BB : Bt [P] W w1) (SS : Sch P c (IntKind.u64.wrap ((k : Int) + 1)) w1) (hU : InH w1 u) (ok : JoinC m c T .nil z.1 z.2.1 z.2.2 u) (hE : Ext w1 w2) (hn : IOwn3 B w2 v1 row) (ho : IOwn3 B w3 v' (row ++ [z])) (hg : w2.grownBy w3 v1.ownBlock) : Half w P c B (k + 1) w3 u v' (row ++ [z]) := by
  have st1 := (H.st.does BB SS).more hE
  rw [u64_up (by omega)] at st1
  refine ⟨st1.grown hn hP hg, Nat.le_trans (Nat.le_trans (Nat.le_trans H.big BB.size) hE.size) hg.size, (hU.ext hE).grown hn hg, ok.may, ok.tags hz.1 hz.2 H.tags trivial (by have := ok.count; have := H.cnt; simp only [show Tr.count Tr.nil = 0 from rfl] at *; omega), ?_, ?_, ho, by simp [H.len]⟩
  · rw [ok.its, H.its, itsC_nil]; simp
  · have := ok.count; have := H.cnt; simp only [show Tr.count Tr.nil = 0 from rfl] at *; omega
set_option maxRecDepth 100000 in
set_option maxHeartbeats 4000000 in
theorem grown22_any (w : World) (P c : Nat) (a : Option Addr) (cap : Nat) (zs : List (Int × Int × Int)) (pa : Option Addr) (plen pcap : Nat) (W0 : World) (st : St w P c 0 W0) (hq : IRow3 w (.slice a zs.length cap) zs) (hlen : zs.length ≤ 100) (hz : ItOk zs) (hp : LRow w pa plen pcap) :
    Calls Tryz.prog 9 #[.pointer (some ⟨P, 0, none⟩), .slice a zs.length cap, .slice pa plen pcap] W0 (GrownS w P c zs.length W0) := by
  have hund : undef = Value.tuple #[] := rfl
  have HOK := Lib.hid hz
  have HST := Lib.hid st
  have hPB := st.lt
  clear hz st
  rcases hq with ⟨h0, a', c', hv⟩ | ⟨b, o, c', hv, hne, hc, hr⟩
  · injection hv with e1 e2 e3
    subst h0
    rw [show ([] : List (Int × Int × Int)).length = 0 from rfl]
    clear e1 e2 e3 hp hlen
    go_enter Tryz.func9, Tryz.ntmps9
    go_wp2
    go_loop [8, 9, 10] (fun t v i => t = .pointer none ∧ v = .slice none 0 0 ∧ i = .int .i64 0) (fun _ _ _ => 0)
    case atStart => exact ⟨rfl, rfl, rfl⟩
    case round =>
      obtain ⟨rfl, rfl, rfl⟩ := hrel
      go_wp2
      go_ret2
      exact ⟨.nil, _, [], rfl, HST.out, trivial, MayC.nil c, trivial, rfl, rfl, IOwn3.nil _ _, rfl⟩
  · injection hv with e1 e2 e3
    subst e1 e3
    have HR := Lib.hid hr
    have HLR := Lib.hid hp
    clear hr hp hne e2
    go_enter Tryz.func9, Tryz.ntmps9
    go_wp2
    go_loopw [8, 9, 10] (fun t v i W => ∃ (k : Nat) (T : Tr) (row : List (Int × Int × Int)), k ≤ zs.length ∧ t = .pointer T.ptr ∧ i = .int .i64 k ∧ Half w P c W0.heap.size k W T v row) (fun _ _ i _ => zs.length - (intOf i).toNat)
    case atStart => exact ⟨0, .nil, [], Nat.zero_le _, rfl, rfl, HST.out, Nat.le_refl _, trivial, MayC.nil c, trivial, rfl, rfl, IOwn3.nil _ _, rfl⟩
    case round =>
      obtain ⟨k, T, row, hk, rfl, rfl, hh⟩ := hrel
      have H := Lib.hid hh
      have HWR := Lib.hid (show W0.heap.size ≤ wr.heap.size from hh.big)
      clear hh
      by_cases hlt : k < zs.length
      · obtain ⟨z, hzz⟩ : ∃ z, zs[k]? = some z := ⟨_, List.getElem?_eq_getElem hlt⟩
        obtain ⟨z0, z1, z2⟩ := z
        have HZ := Lib.hid hzz
        clear hzz
        have c0 : wr.cell? ⟨b, o + k * 3, none⟩ = some (.int .i64 z0) := item_cell (rangeAt_ext HR.out H.out.st.ext) HZ.out (j := 0) rfl
        have c1 : wr.cell? ⟨b, o + k * 3 + 1, none⟩ = some (.int .i64 z1) := item_cell (rangeAt_ext HR.out H.out.st.ext) HZ.out (j := 1) rfl
        have c2 : wr.cell? ⟨b, o + k * 3 + 2, none⟩ = some (.int .u64 z2) := item_cell (rangeAt_ext HR.out H.out.st.ext) HZ.out (j := 2) rfl
        by_cases hpl : k < plen
        · rcases HLR.out with h | ⟨pb, po, rfl, hpc, hcells⟩
          · omega
          · obtain ⟨zb, hzb⟩ := hcells k hpl
            have hcb : wr.cell? ⟨pb, po + k, none⟩ = some (.bool zb) := by rw [H.out.st.ext.cell (cell_lt hzb)]; exact hzb
            clear hzb hcells
            cases zb with
            | true =>
              go_wp2_with fail
              refine (schJoin_any H.out.st.sch z0 z1 z2 (L := .nil) (R := T) trivial H.out.inh (MayC.nil c).part H.out.may.part (by have := H.out.cnt; simp only [show Tr.count Tr.nil = 0 from rfl]; omega) wr.heap.size (Nat.le_refl _) rfl (news_zero (Nat.le_refl _) H.out.inh)).mono ?_
              rintro e w1 ⟨x, rfl, BB, SS, u, rfl, hU, ok⟩
              clear c0 c1 c2
              have st1 := H.out.st.does BB SS
              have d0 : w1.cell? ⟨b, o + k * 3, none⟩ = some (.int .i64 z0) := item_cell (rangeAt_ext HR.out st1.ext) HZ.out (j := 0) rfl
              have d1 : w1.cell? ⟨b, o + k * 3 + 1, none⟩ = some (.int .i64 z1) := item_cell (rangeAt_ext HR.out st1.ext) HZ.out (j := 1) rfl
              have d2 : w1.cell? ⟨b, o + k * 3 + 2, none⟩ = some (.int .u64 z2) := item_cell (rangeAt_ext HR.out st1.ext) HZ.out (j := 2) rfl
              have HNEW := Lib.hid (iown3_new (B := w1.heap.size) (w := w1) (z0, z1, z2) (Nat.le_refl _))
              have HE1 := Lib.hid ((Ext.refl w1).alloc (.cells #[.int .i64 z0, .int .i64 z1, .int .u64 z2] 51))
              have HOWN := Lib.hid ((H.out.own.bt BB (by simp; exact hPB)).ext HE1.out)
              go_wp2_with (at_builtin; refine wpList_append_items (B := w1.heap.size) (zs := [(z0, z1, z2)]) rfl (.tmp 38) (.tmp 39) rfl rfl rfl HNEW.out HOWN.out.row ?b1 HE1.out.size ?_)
              case b1 => have := H.out.len; simp; omega
              intro v3 w3 ho3 hg3
              have HH := Lib.hid (half_left H.out (by omega) (HOK.out _ (List.mem_of_getElem? HZ.out)) hPB BB SS hU ok HE1.out HNEW.out (Nat.le_trans HWR.out BB.size) ho3 hg3)
              clear HNEW HOWN ho3 hg3 HE1 st1 BB SS hU ok d0 d1 d2
              go_wp2
              refine ⟨?_, ?measure⟩
              (repeat apply Exists.intro)
              refine ⟨?rel, rfl⟩
              case rel => exact ⟨k + 1, u, _, by omega, rfl, by go_num, HH.out⟩
              case measure => simp [intOf]; omega
            | false =>
              go_wp2_with fail
              refine (schJoin_any H.out.st.sch z0 z1 z2 (L := T) (R := .nil) H.out.inh trivial H.out.may.part (MayC.nil c).part (by have := H.out.cnt; simp only [show Tr.count Tr.nil = 0 from rfl]; omega) wr.heap.size (Nat.le_refl _) (news_zero (Nat.le_refl _) H.out.inh) rfl).mono ?_
              rintro e w1 ⟨x, rfl, BB, SS, u, rfl, hU, ok⟩
              clear c0 c1 c2
              have st1 := H.out.st.does BB SS
              have d0 : w1.cell? ⟨b, o + k * 3, none⟩ = some (.int .i64 z0) := item_cell (rangeAt_ext HR.out st1.ext) HZ.out (j := 0) rfl
              have d1 : w1.cell? ⟨b, o + k * 3 + 1, none⟩ = some (.int .i64 z1) := item_cell (rangeAt_ext HR.out st1.ext) HZ.out (j := 1) rfl
              have d2 : w1.cell? ⟨b, o + k * 3 + 2, none⟩ = some (.int .u64 z2) := item_cell (rangeAt_ext HR.out st1.ext) HZ.out (j := 2) rfl
              have HNEW := Lib.hid (iown3_new (B := w1.heap.size) (w := w1) (z0, z1, z2) (Nat.le_refl _)).row
              have HE1 := Lib.hid ((Ext.refl w1).alloc (.cells #[.int .i64 z0, .int .i64 z1, .int .u64 z2] 51))
              have HOWN := Lib.hid ((H.out.own.bt BB (by simp; exact hPB)).ext HE1.out)
              have HSZ := Lib.hid (Nat.le_trans (Nat.le_trans HWR.out BB.size) HE1.out.size)
              go_wp2_with (at_builtin; refine wpList_append_items (B := W0.heap.size) (ys := [(z0, z1, z2)]) rfl (.tmp 48) (.tmp 53) rfl rfl rfl HOWN.out HNEW.out ?b2 HSZ.out ?_)
              case b2 => have := H.out.len; simp; omega
              intro v3 w3 ho3 hg3
              have HH := Lib.hid (half_right H.out (by omega) (HOK.out _ (List.mem_of_getElem? HZ.out)) hPB BB SS hU ok HE1.out HOWN.out ho3 hg3)
              clear HNEW HOWN ho3 hg3 HE1 st1 BB SS hU ok HSZ d0 d1 d2
              go_wp2
              refine ⟨?_, ?measure⟩
              (repeat apply Exists.intro)
              refine ⟨?rel, rfl⟩
              case rel => exact ⟨k + 1, u, _, by omega, rfl, by go_num, HH.out⟩
              case measure => simp [intOf]; omega
        · have hpl' : ¬ ((k : Int) < (plen : Int)) := by omega
          clear hpl
          go_wp2_with fail
          refine (schJoin_any H.out.st.sch z0 z1 z2 (L := T) (R := .nil) H.out.inh trivial H.out.may.part (MayC.nil c).part (by have := H.out.cnt; simp only [show Tr.count Tr.nil = 0 from rfl]; omega) wr.heap.size (Nat.le_refl _) (news_zero (Nat.le_refl _) H.out.inh) rfl).mono ?_
          rintro e w1 ⟨x, rfl, BB, SS, u, rfl, hU, ok⟩
          clear c0 c1 c2
          have st1 := H.out.st.does BB SS
          have d0 : w1.cell? ⟨b, o + k * 3, none⟩ = some (.int .i64 z0) := item_cell (rangeAt_ext HR.out st1.ext) HZ.out (j := 0) rfl
          have d1 : w1.cell? ⟨b, o + k * 3 + 1, none⟩ = some (.int .i64 z1) := item_cell (rangeAt_ext HR.out st1.ext) HZ.out (j := 1) rfl
          have d2 : w1.cell? ⟨b, o + k * 3 + 2, none⟩ = some (.int .u64 z2) := item_cell (rangeAt_ext HR.out st1.ext) HZ.out (j := 2) rfl
          have HNEW := Lib.hid (iown3_new (B := w1.heap.size) (w := w1) (z0, z1, z2) (Nat.le_refl _)).row
          have HE1 := Lib.hid ((Ext.refl w1).alloc (.cells #[.int .i64 z0, .int .i64 z1, .int .u64 z2] 51))
          have HOWN := Lib.hid ((H.out.own.bt BB (by simp; exact hPB)).ext HE1.out)
          have HSZ := Lib.hid (Nat.le_trans (Nat.le_trans HWR.out BB.size) HE1.out.size)
          go_wp2_with (at_builtin; refine wpList_append_items (B := W0.heap.size) (ys := [(z0, z1, z2)]) rfl (.tmp 48) (.tmp 53) rfl rfl rfl HOWN.out HNEW.out ?b3 HSZ.out ?_)
          case b3 => have := H.out.len; simp; omega
          intro v3 w3 ho3 hg3
          have HH := Lib.hid (half_right H.out (by omega) (HOK.out _ (List.mem_of_getElem? HZ.out)) hPB BB SS hU ok HE1.out HOWN.out ho3 hg3)
          clear HNEW HOWN ho3 hg3 HE1 st1 BB SS hU ok HSZ d0 d1 d2
          go_wp2
          refine ⟨?_, ?measure⟩
          (repeat apply Exists.intro)
          refine ⟨?rel, rfl⟩
          case rel => exact ⟨k + 1, u, _, by omega, rfl, by go_num, HH.out⟩
          case measure => simp [intOf]; omega
      · have hk' : k = zs.length := by omega
        have HK := Lib.hid hk'
        clear hk'
        go_wp2
        go_ret2
        have h := H.out
        rw [HK.out] at h
        exact ⟨T, _, row, rfl, h.st, h.inh, h.may, h.tags, h.its, h.cnt, h.own, h.len⟩
end Go.Proofs.YtkkdobolloojjaaGreat
namespace Go.Proofs.YtkkdobolloojjaaGreat
open Go Go.RowKit

theorem its_4 {T : Tr} {row : List (Int × Int × Int)} (h : itsC 4 T = row.map (itC 4)) : T.its = row := by
  have e : ∀ zs : List (Int × Int × Int), zs.map (itC 4) = zs := fun zs => by
    conv => rhs; rw [← List.map_id zs]
    exact List.map_congr_left fun z _ => rfl
  rw [itsC, e, e] at h
  exact h
set_option maxRecDepth 100000 in
set_option maxHeartbeats 4000000 in
theorem schemeAlike_walk (a : Option Addr) (cap : Nat) (zs : List (Int × Int × Int)) (pa : Option Addr) (plen pcap : Nat) (w : World) (hq : IRow3 w (.slice a zs.length cap) zs) (hz : ItOk zs) (hp : LRow w pa plen pcap) :
    Calls Tryz.prog 3 #[.slice a zs.length cap, .slice pa plen pcap] w (Ret (.bool true) w) := by
  have hund : undef = Value.tuple #[] := rfl
  by_cases hlen : zs.length ≤ 100
  · have HQ := Lib.hid hq
    have HOK := Lib.hid hz
    have HP := Lib.hid (fun W (e : Ext w W) => (show LRow W pa plen pcap from hp.imp id (fun ⟨b, o, h1, h2, h3⟩ => ⟨b, o, h1, h2, fun i hi => by obtain ⟨z, hz⟩ := h3 i hi; exact ⟨z, by rw [e.cell (cell_lt hz)]; exact hz⟩⟩)))
    clear hq hz hp
    go_enter Tryz.func3, Tryz.ntmps3
    go_wp2
    go_loopw [5] (fun cv W => Ext w W ∧ ∃ c : Nat, 1 ≤ c ∧ c ≤ 5 ∧ cv = .int .u8 c) (fun cv _ => 5 - (intOf cv).toNat)
    case atStart => exact ⟨Ext.refl _, 1, by omega, by omega, rfl⟩
    case round =>
      obtain ⟨hX, c, hc1, hc5, rfl⟩ := hrel
      by_cases hc : c ≤ 4
      · have h4 : 1 ≤ c ∧ c ≤ 4 := ⟨hc1, hc⟩
        go_wp2_with fail
        refine (of22_yes _ h4 wr).mono ?_
        rintro e w1 ⟨P, rfl, st⟩
        go_wp2_with fail
        refine (grown22_any wr P _ a cap zs pa plen pcap w1 st (HQ.out.ext hX) hlen HOK.out (HP.out wr hX)).mono ?_
        rintro e w2 ⟨T, v2, row, rfl, st2, i2, m2, tg2, its2, c2, o2, l2⟩
        clear st
        have st := st2
        have HT := Lib.hid (And.intro m2 (And.intro tg2 (And.intro its2 (And.intro c2 l2))))
        have O2 := Lib.hid o2.row
        obtain ⟨a2, k2, hv2⟩ := irow3_slice o2.row
        rw [hv2] at O2 ⊢
        rw [l2] at O2 ⊢
        clear st2 m2 tg2 its2 c2 l2 o2 hv2
        go_wp2_with fail
        refine (see09_any w2 T i2 (by have := HT.out.2.2.2.1; unfold Tr.count at this; omega)).mono ?_
        rintro e w3 ⟨v3, rfl, o3, hS⟩
        have O3 := Lib.hid o3.beads
        obtain ⟨a3, k3, rfl⟩ := beads_slice o3.beads
        replace O2 := Lib.hid (O2.out.ext hS)
        replace i2 := i2.ext hS
        replace st := st.more hS
        clear hS o3
        go_wp2_with fail
        refine (schCheck_any st.sch i2 (fun _ => HT.out.2.1) (by have := HT.out.2.2.2.1; unfold Tr.count at this; omega)).mono ?_
        rw [HT.out.1.ck h4 (by have := HT.out.2.2.2.1; omega)]
        rintro e w4 ⟨x, rfl, BB, SS, rfl⟩
        replace O3 := Lib.hid (O3.out.sch st.sch BB)
        replace O2 := Lib.hid (O2.out.sch st.sch BB)
        replace st := st.does BB SS
        clear BB SS i2
        go_wp2_with fail
        refine (has22_any c h4 T w4 _ _ row O3.out O2.out HT.out.2.2.1.symm HT.out.1 (fun _ => HT.out.2.1) (by have := HT.out.2.2.2.1; omega)).mono ?_
        rintro e w5 ⟨rfl, hS⟩
        replace O3 := Lib.hid (O3.out.ext hS)
        replace O2 := Lib.hid (O2.out.ext hS)
        replace st := st.more hS
        clear hS
        go_wp2_with fail
        refine (schJoins_any P c _ w5 st.sch).mono ?_
        rintro e w6 ⟨rfl, hS⟩
        replace O3 := Lib.hid (O3.out.ext hS)
        replace O2 := Lib.hid (O2.out.ext hS)
        replace st := st.more hS
        clear hS
        by_cases h44 : c = 4
        · subst h44
          go_wp2_with fail
          refine (items20_any T.bt w6 _ (beads_bt O3.out) (by rw [← fits_cnt T.bt_fits]; have := HT.out.2.2.2.1; omega)).mono ?_
          rw [← BT.fits_its T.bt_fits, its_4 HT.out.2.2.1]
          rintro e w7 ⟨v7, rfl, o7, hS⟩
          have O7 := Lib.hid o7.row
          obtain ⟨a7, k7, hv7⟩ := irow3_slice o7.row
          rw [hv7] at O7 ⊢
          replace O2 := Lib.hid (O2.out.ext hS)
          replace st := st.more hS
          clear hS o7 hv7 O3
          go_wp2_with fail
          refine (same20_any w7 _ _ row O7.out O2.out (by have := HT.out.2.2.2.2; omega)).mono ?_
          rintro e w8 ⟨rfl, hS⟩
          replace st := st.more hS
          have HX := Lib.hid (hX.trans st.ext)
          clear hS O7 O2 st
          go_wp2
          refine ⟨?_, ?measure⟩
          (repeat apply Exists.intro)
          refine ⟨?rel, rfl⟩
          case rel => exact ⟨HX.out, 5, by omega, by omega, by go_num⟩
          case measure => simp [intOf]
        · have hc4 : ((c : Int) = 4) = False := by simp; omega
          have hd : decide ((c : Int) = 4) = false := by simp; omega
          have HX := Lib.hid (hX.trans st.ext)
          clear O2 O3 st
          obtain rfl | rfl | rfl : c = 1 ∨ c = 2 ∨ c = 3 := by omega
          all_goals
            go_wp2
            refine ⟨?_, ?measure⟩
            (repeat apply Exists.intro)
            refine ⟨?rel, rfl⟩
            case rel => first | exact ⟨HX.out, 2, by decide, by decide, by go_num⟩ | exact ⟨HX.out, 3, by decide, by decide, by go_num⟩ | exact ⟨HX.out, 4, by decide, by decide, by go_num⟩
            case measure => simp [intOf]
      · obtain rfl : c = 5 := by omega
        go_wp2_with fail
        refine (alive22_any wr).mono ?_
        rintro e w1 ⟨rfl, h1⟩
        go_wp2
        go_ret
        exact Ret.mk (hX.trans h1)
  · have hl : (100 : Int) < (zs.length : Int) := by omega
    have hx := Ext.refl w
    clear hq hz hp hlen
    go_enter Tryz.func3, Tryz.ntmps3
    go_wp2_with fail
    refine (alive22_any _).mono ?_
    rintro e w1 ⟨rfl, hS⟩
    replace hx := hx.trans hS
    clear hS
    go_wp2
    go_ret
    exact Ret.mk hx
theorem schemeAlike_row (a : Option Addr) (len cap : Nat) (zs : List (Int × Int × Int)) (pa : Option Addr) (plen pcap : Nat) (_bs : Unit) (w : World) (hq : (IRow3 w (.slice a len cap) zs ∧ ItOk zs) ∧ zs.length = len) (hp : LRow w pa plen pcap) :
    Calls Tryz.prog 3 #[.slice a len cap, .slice pa plen pcap] w (Ret (.bool true) w) := by
  obtain ⟨⟨h1, h2⟩, rfl⟩ := hq
  exact schemeAlike_walk a cap zs pa plen pcap w h1 h2 hp
end Go.Proofs.YtkkdobolloojjaaGreat
