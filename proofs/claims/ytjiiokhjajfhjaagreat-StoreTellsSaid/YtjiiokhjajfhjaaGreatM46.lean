/- The walk of StoreStays. -/
import Derived.Test.YtjiiokhjajfhjaaGreatM6
import Derived.Test.YtjiiokhjajfhjaaGreatM9
import Derived.Test.YtjiiokhjajfhjaaGreatM14
import Derived.Test.YtjiiokhjajfhjaaGreatM43
namespace Go.Proofs.YtjiiokhjajfhjaaGreat
open Go Go.RowKit

/-- trees' pointers in a block of one's own. -/
def NBlk (w : World) (g : Nat) (Ts : List Tr) : Prop := w.heap[g]? = some (.cells (Ts.map tptr).toArray 27 (0, 0))
theorem NBlk.trow {w : World} {g c : Nat} {Ts : List Tr} (h : NBlk w g Ts) (hc : Ts.length ≤ c) : TRow w (some ⟨g, 0, none⟩) c Ts :=
  .inr ⟨g, 0, rfl, hc, fun i T hi => by
    rw [Nat.zero_add, cell_of h i]
    simp [hi, tptr]⟩
theorem NBlk.cell {w : World} {g k : Nat} {Ts : List Tr} (h : NBlk w g Ts) {T : Tr} (hk : Ts[k]? = some T) : w.cell? ⟨g, k, none⟩ = some (.pointer T.ptr) ∧ w.frozen? ⟨g, k, none⟩ = false := by
  refine ⟨?_, frozen_of h k⟩
  rw [cell_of h k]
  simp [hk, tptr]
theorem NBlk.set {w : World} {g : Nat} {Ts : List Tr} (h : NBlk w g Ts) (k : Nat) (T : Tr) : NBlk (w.setCell ⟨g, k, none⟩ (.pointer T.ptr)) g (Ts.set k T) := by
  unfold NBlk at *
  simp only [World.setCell, Array.getElem?_modify, h]
  simp [tptr, List.map_set]
theorem NBlk.ext {w w' : World} {g : Nat} {Ts : List Tr} (h : NBlk w g Ts) (e : Ext w w') : NBlk w' g Ts := (e.block g (lt_of h)).trans h
theorem NBlk.fresh (w : World) (n : Nat) : NBlk (w.alloc (.cells (Array.replicate n (Value.pointer none)) 27)) w.heap.size (List.replicate n .nil) := by
  have := alloc_at w (.cells (Array.replicate n (Value.pointer none)) 27) _ rfl
  unfold NBlk
  simpa [tptr, Tr.ptr_nil] using this
theorem node_make (w : World) (n : Nat) (hn : n ≤ 20000) : (Instr.makeSlice 35 (.int .i64 (n : Nat)) (.int .i64 (n : Nat))).run Tryz.prog w = .ok (.slice (some ⟨w.heap.size, 0, none⟩) n n) (w.alloc (.cells (Array.replicate n (Value.pointer none)) 27)) := by
  obtain ⟨i, hi, hz, hs, hb⟩ := node_info
  have := run_make (P := Tryz.prog) w 35 27 i _ Tryz.underlying35 hi hz .i64 .i64 (n : Nat) (n : Nat) (by omega) (Int.le_refl _) (by rw [hb]; omega) (by omega)
  have e : madeCells (Value.pointer none).cells ((n : Int).toNat * 1) = Array.replicate n (Value.pointer none) := by
    simp only [madeCells, Value.cells]
    apply Array.ext
    · simp
    · intro i h1 h2
      simp [Nat.mod_one]
  rw [this, hs, e]
  rfl
/-- a row that is filled, up to a number. -/
def fillTo (L k : Nat) (B : Tr) : List Tr := List.replicate k B ++ List.replicate (L - k) .nil
theorem fillTo_set {L k : Nat} {B : Tr} (h : k < L) : (fillTo L k B).set k B = fillTo L (k + 1) B := by
  unfold fillTo
  rw [List.set_append, if_neg (by simp), List.length_replicate, Nat.sub_self, show L - k = (L - (k + 1)) + 1 by omega, List.replicate_succ, List.set_cons_zero, List.replicate_succ', List.append_assoc]
  rfl
theorem fillTo_at {L k : Nat} {B : Tr} (h : k < L) : (fillTo L k B)[k]? = some .nil := by
  unfold fillTo
  rw [List.getElem?_append_right (by simp), List.length_replicate, Nat.sub_self, show L - k = (L - (k + 1)) + 1 by omega, List.replicate_succ]
  rfl
theorem allT_le (Ts : List Tr) (bs : List Nat) : (allT bs Ts).length ≤ bs.length + (Ts.map Tr.count).sum := by
  induction Ts generalizing bs with
  | nil => simp [allT]
  | cons T Ts ih =>
    have h1 := ih (addT bs T)
    have h2 := addT_most (T := T) (bs := bs)
    show (allT (addT bs T) Ts).length ≤ _
    rw [List.map_cons, List.sum_cons]
    omega
theorem trow3 {w : World} {N : Nat} {A B C : Tr} {t : TypeId} (h : w.heap[N]? = some (.cells #[.pointer A.ptr, .pointer B.ptr, .pointer C.ptr] t (0, 0))) : TRow w (some ⟨N, 0, none⟩) 3 [A, B, C] :=
  .inr ⟨N, 0, rfl, Nat.le_refl _, fun i U hi => by
    match i, hi with
    | 0, hi => cases hi; exact cell_of h 0
    | 1, hi => cases hi; exact cell_of h 1
    | 2, hi => cases hi; exact cell_of h 2⟩
theorem fresh_again (A B : Tr) : freshN [.nil, A, B] A = 0 := by
  show (addT (addT (addT [] A) B) A).length - (addT (addT [] A) B).length = 0
  have : addT (addT (addT [] A) B) A = addT (addT [] A) B := by
    cases A with
    | nil => rfl
    | node b l k v g r =>
      refine addT_in (b := b) rfl (addT_sub ?_)
      rw [addT]
      split
      · assumption
      · exact addT_sub (List.mem_append_right _ (List.mem_singleton.2 rfl))
  rw [this]; omega
theorem get_app {Vs Us : List Tr} {i : Nat} {T : Tr} (h : Vs[i]? = some T) : (Vs ++ Us)[i]? = some T := by
  rw [List.getElem?_append_left (List.getElem?_eq_some_iff.1 h).1]; exact h
theorem verOf_nat {Vs : List Tr} {i : Nat} {T : Tr} (h : Vs[i]? = some T) : verOf Vs ((i : Nat) : Int) = some T := by
  unfold verOf
  rw [if_pos (by omega), Int.toNat_natCast, h]
set_option maxRecDepth 100000 in
set_option maxHeartbeats 16000000 in
theorem storeStays_walk (a0 : Option Addr) (len0 cap0 : Nat) (z0 : List BeadL) (a1 : Option Addr) (len1 cap1 : Nat) (z1 : List BeadL) (ah mo : Nat) (w : World) (w0 : IsBeads w (.slice a0 len0 cap0) z0) (w1 : IsBeads w (.slice a1 len1 cap1) z1) :
    Calls Tryz.prog 3 #[.slice a0 len0 cap0, .slice a1 len1 cap1, .int .u8 ah, .int .u8 mo] w (Ret (.bool true) w) := by
  have hund : undef = Value.tuple #[] := rfl
  obtain rfl : len0 = z0.length := by obtain ⟨_, _, h⟩ := beads_slice w0.1; cases h; rfl
  obtain rfl : len1 = z1.length := by obtain ⟨_, _, h⟩ := beads_slice w1.1; cases h; rfl
  have HB0 := Lib.hid w0.1
  have HB1 := Lib.hid w1.1
  have HL0 := Lib.hid (beadsLong_any w _ z0 w0.1)
  have HL1 := Lib.hid (fun W (e : Ext w W) => beadsLong_any W _ z1 (w1.1.ext e))
  clear w0 w1
  have hx := Ext.refl w
  cases d0 : (decide (400 < z0.length) || !mayB z0) with
  | true =>
    rw [d0] at HL0
    clear d0
    go_enter Tryz.func3, Tryz.ntmps3
    go_wp2_with fail
    refine (HL0.out).mono ?_
    rintro e w1 ⟨rfl, hS⟩
    replace hx := hx.trans hS
    clear hS
    go_wp2_with fail
    refine (alive36_any _).mono ?_
    rintro e w2 ⟨rfl, hS⟩
    replace hx := hx.trans hS
    clear hS
    go_wp2
    go_ret
    exact Ret.mk hx
  | false =>
    obtain ⟨l0, t0, e0⟩ := long_tree d0
    rw [d0] at HL0
    clear d0
    cases d1 : (decide (400 < z1.length) || !mayB z1) with
    | true =>
      rw [d1] at HL1
      clear d1
      go_enter Tryz.func3, Tryz.ntmps3
      go_wp2_with fail
      refine (HL0.out).mono ?_
      rintro e w1 ⟨rfl, hS⟩
      replace hx := hx.trans hS
      clear hS
      go_wp2_with fail
      refine (HL1.out _ hx).mono ?_
      rintro e w2 ⟨rfl, hS⟩
      replace hx := hx.trans hS
      clear hS
      go_wp2_with fail
      refine (alive36_any _).mono ?_
      rintro e w3 ⟨rfl, hS⟩
      replace hx := hx.trans hS
      clear hS
      go_wp2
      go_ret
      exact Ret.mk hx
    | false =>
      obtain ⟨l1, t1, e1⟩ := long_tree d1
      rw [d1] at HL1
      clear d1
      subst e0 e1
      have L0 := Lib.hid l0
      have L1 := Lib.hid l1
      clear l0 l1
      go_enter Tryz.func3, Tryz.ntmps3
      go_wp2_with fail
      refine (HL0.out).mono ?_
      rintro e w1 ⟨rfl, hS⟩
      replace hx := hx.trans hS
      clear hS
      go_wp2_with fail
      refine (HL1.out _ hx).mono ?_
      rintro e w2 ⟨rfl, hS⟩
      replace hx := hx.trans hS
      clear hS
      go_wp2_with fail
      refine (begun_yes 2 (by decide) w2).mono ?_
      rintro e w3 ⟨P, Q, rfl, ss0⟩
      have ss : SS w P 2 Q 0 [.nil] w3 := ⟨hx.trans ss0.ext, Nat.le_trans hx.size ss0.newP, Nat.le_trans hx.size ss0.newQ, ss0.sch, ss0.sto, ss0.inh⟩
      clear ss0 hx
      go_wp2_with fail
      refine (beadsMakeD_any t0 w3 _ (HB0.out.ext ss.ext) L0.out).mono ?_
      rintro e w7 ⟨A, rfl, iA, sA, hS⟩
      replace ss := ss.more hS
      clear hS
      go_wp2_with fail
      refine (beadsMakeD_any t1 w7 _ (HB1.out.ext ss.ext) L1.out).mono ?_
      rintro e w8 ⟨B, rfl, iB, sB, hS⟩
      replace ss := ss.more hS
      replace iA := iA.ext hS
      clear hS
      have SA := Lib.hid sA
      have SB := Lib.hid sB
      have CA := Lib.hid (fits_cnt sA.1)
      have CB := Lib.hid (fits_cnt sB.1)
      clear sA sB
      have hne : Q ≠ w8.heap.size := by have := ss.sto.lt; omega
      have hX : Ext w8 (w8.alloc (.cells #[.pointer A.ptr, .pointer B.ptr, .pointer A.ptr] 27)) := (Ext.refl w8).alloc _
      have hR := alloc_at w8 (.cells #[.pointer A.ptr, .pointer B.ptr, .pointer A.ptr] 27) _ rfl
      go_wp2_with fail
      refine (stoPut_any Q P [.nil] [A, B, A] _ 3 _ (ss.more hX).sto (trow3 hR) (fun b o h _ => by cases h; exact hne.symm) (by simp)).mono ?_
      rintro e w10 ⟨nv, rfl, BB, mm, own⟩
      obtain ⟨g1, cap1', rfl⟩ := own.blk (by simp [numsFrom])
      rw [numsFrom_len]
      rw [show numsFrom ([Tr.nil] : List Tr).length ([A, B, A] : List Tr).length = [1, 2, 3] from rfl] at own
      obtain ⟨Vs, hVs⟩ : ∃ Vs, Vs = [Tr.nil, A, B, A] := ⟨_, rfl⟩
      have s2 : SS w P 2 Q 0 Vs w10 := by
        rw [hVs]
        refine (ss.more hX).q BB mm fun U hU => ?_
        rcases List.mem_cons.1 hU with rfl | hU
        · trivial
        rcases List.mem_cons.1 hU with rfl | hU
        · exact iA.ext hX
        rcases List.mem_cons.1 hU with rfl | hU
        · exact iB.ext hX
        · exact (List.mem_singleton.1 hU) ▸ iA.ext hX
      obtain ⟨N0, hN0⟩ : ∃ N0, N0 = (w8.alloc (.cells #[.pointer A.ptr, .pointer B.ptr, .pointer A.ptr] 27)).heap.size := ⟨_, rfl⟩
      rw [← hN0] at own
      clear ss BB mm iA iB hX hR hne hN0
      have HV4 := Lib.hid (show Vs.length = 4 by rw [hVs]; rfl)
      have HALL := Lib.hid (show (allT [] Vs).length ≤ 100000 by
        have h := allT_le Vs []
        rw [hVs] at h ⊢
        have := CA.out; have := CB.out; have := L0.out; have := L1.out
        simp only [List.map_cons, List.map_nil, List.sum_cons, List.sum_nil, show Tr.count Tr.nil = 0 from rfl, List.length_nil] at h
        omega)
      have HFA := Lib.hid (show freshN (Vs.take 3) A = 0 by rw [hVs]; exact fresh_again A B)
      have HV1 := Lib.hid (show Vs[1]? = some A by rw [hVs]; rfl)
      have HV2 := Lib.hid (show Vs[2]? = some B by rw [hVs]; rfl)
      have HV3 := Lib.hid (show Vs[3]? = some A by rw [hVs]; rfl)
      clear hVs
      have H10 := Lib.hid (And.intro s2 own)
      clear s2 own
      go_wp2_with fail
      go_loopw [14, 15] (fun s i X => ∃ k : Nat, k ≤ 4 ∧ i = .int .i64 k ∧ s = .int .i64 ((allT [] (Vs.take k)).length : Nat) ∧ SS w P 2 Q 0 Vs X ∧ JOwn N0 X (.slice (some ⟨g1, 0, none⟩) 3 cap1') [1, 2, 3]) (fun _ i _ => 4 - (intOf i).toNat)
      case atStart => exact ⟨0, Nat.zero_le _, rfl, rfl, H10.out.1, H10.out.2⟩
      case round =>
        obtain ⟨k, hk, rfl, rfl, ss, own⟩ := hrel
        clear H10
        by_cases hlt : k < 4
        · obtain ⟨T, hT⟩ : ∃ T, Vs[k]? = some T := ⟨_, List.getElem?_eq_getElem (by rw [HV4.out]; exact hlt)⟩
          have hle := allT_take_le (Vs := Vs) (k + 1)
          have HF := Lib.hid (fun W (h : SS w P 2 Q 0 Vs W) => stoFresh_any Q P Vs k T W h.sto hT h.inh (by rw [HV4.out]; decide) (Nat.le_trans hle (Nat.le_trans HALL.out (by decide))))
          have hadd : (allT [] (Vs.take k)).length + freshN (Vs.take k) T = (allT [] (Vs.take (k + 1))).length := by
            have h1 := addT_len (T := T) (bs := allT [] (Vs.take k))
            rw [List.take_add_one, hT, allT_append]
            show _ = (addT (allT [] (Vs.take k)) T).length
            unfold freshN
            omega
          have HA := Lib.hid hadd
          have hle2 := Nat.le_trans hle HALL.out
          rw [← hadd] at hle2
          clear hadd hle hT
          generalize freshN (Vs.take k) T = F at *
          generalize (allT [] (Vs.take k)).length = S at *
          go_wp2_with fail
          refine (stoLen_any Q P Vs wr ss.sto).mono ?_
          rw [HV4.out]
          rintro e w11 ⟨rfl, BB, mm⟩
          replace own := own.bt ss BB (fun x hx => .inr (by simpa using hx))
          replace ss := ss.q BB mm ss.inh
          clear BB mm
          go_wp2_with fail
          refine (HF.out w11 ss).mono ?_
          rintro e w12 ⟨rfl, BB, mm⟩
          have HO := Lib.hid (own.bt ss BB (fun x hx => .inr (by simpa using hx)))
          have HS := Lib.hid (ss.q BB mm ss.inh)
          clear BB mm own ss
          go_wp2
          go_roundw
          case rel => exact ⟨k + 1, by omega, by go_num, by rw [← HA.out]; go_num, HS.out, HO.out⟩
          case measure => simp [intOf]; omega
        · obtain rfl : k = 4 := by omega
          rw [show Vs.take 4 = Vs by rw [← HV4.out, List.take_length]]
          go_wp2_with fail
          refine (stoLen_any Q P Vs wr ss.sto).mono ?_
          rw [HV4.out]
          rintro e w11 ⟨rfl, BB, mm⟩
          replace own := own.bt ss BB (fun x hx => .inr (by simpa using hx))
          replace ss := ss.q BB mm ss.inh
          clear BB mm
          go_wp2_with fail
          refine (stoNodes_any Q P Vs w11 ss.sto ss.inh (by rw [HV4.out]; decide) (Nat.le_trans HALL.out (by decide))).mono ?_
          rintro e w12 ⟨rfl, BB, mm⟩
          replace own := own.bt ss BB (fun x hx => .inr (by simpa using hx))
          replace ss := ss.q BB mm ss.inh
          clear BB mm
          have hc2 := own.get (i := 2) rfl
          go_wp2_with fail
          refine (stoFresh_any Q P Vs 3 A w12 ss.sto HV3.out ss.inh (by rw [HV4.out]; decide) (Nat.le_trans (allT_take_le _) (Nat.le_trans HALL.out (by decide)))).mono ?_
          rw [HFA.out]
          rintro e w13 ⟨rfl, BB, mm⟩
          replace own := own.bt ss BB (fun x hx => .inr (by simpa using hx))
          replace ss := ss.q BB mm ss.inh
          clear BB mm hc2
          obtain ⟨hh, hhe⟩ : ∃ hh : Nat, hh = ah % 9 := ⟨_, rfl⟩
          have hhI : (ah : Int) % 9 = (hh : Int) := by omega
          have hh9 : hh < 9 := by omega
          obtain ⟨L, hL⟩ : ∃ L : Nat, L = 4092 - hh := ⟨_, rfl⟩
          have hLI : (4092 : Int) - (hh : Int) = (L : Int) := by omega
          have hL1 : (L : Int) ≤ 4092 := by omega
          have hmk := node_make w13 L (by omega)
          have HLh := Lib.hid (show L + hh = 4092 by omega)
          have hE := Lib.hid ((Ext.refl w13).alloc (.cells (Array.replicate L (Value.pointer none)) 27))
          have hU := Lib.hid (NBlk.fresh w13 L)
          have hgQ := Lib.hid (show w13.heap.size ≠ Q by have := ss.sto.lt; omega)
          have H13 := Lib.hid (And.intro ss own)
          clear hhe hL ss own
          go_wp2_with fail
          clear hmk
          generalize hw14 : w13.alloc (.cells (Array.replicate L (Value.pointer none)) 27) = w14 at *
          generalize hg14 : w13.heap.size = g at *
          have HG := Lib.hid (show w13.heap.size ≤ g from Nat.le_of_eq hg14)
          clear hw14 hg14
          go_loopw [17] (fun i X => ∃ k : Nat, k ≤ L ∧ i = .int .i64 k ∧ Ext w13 X ∧ NBlk X g (fillTo L k B)) (fun i _ => L - (intOf i).toNat)
          case atStart => exact ⟨0, Nat.zero_le _, rfl, hE.out, by simpa [fillTo] using hU.out⟩
          case round =>
            obtain ⟨k, hk, rfl, hX, hU⟩ := hrel
            have HX := Lib.hid hX
            have HU := Lib.hid hU
            by_cases hlt : k < L
            · obtain ⟨cx, cf⟩ := hU.cell (fillTo_at (B := B) hlt)
              have HSET := Lib.hid (show NBlk (wr.setCell ⟨g, k, none⟩ (.pointer B.ptr)) g (fillTo L (k + 1) B) by rw [← fillTo_set hlt]; exact hU.set k B)
              have HX2 := Lib.hid (show Ext w13 (wr.setCell ⟨g, k, none⟩ (.pointer B.ptr)) from Below.setCell (B := w13.heap.size) HX.out HG.out _)
              clear hX hU
              go_wp2
              go_roundw
              case rel => exact ⟨k + 1, by omega, by go_num, HX2.out, HSET.out⟩
              case measure => simp [intOf]; omega
            · obtain rfl : k = L := by omega
              have ss := H13.out.1.more hX
              have own := H13.out.2.ext hX
              have HU2 := Lib.hid (show NBlk wr g (List.replicate k B) by simpa [fillTo] using hU)
              have HP := stoPut_any Q P Vs (List.replicate k B) (some ⟨g, 0, none⟩) k wr ss.sto (HU2.out.trow (by simp)) (fun b o h _ => by cases h; exact hgQ.out) (by rw [HV4.out, List.length_replicate]; have := HLh.out; omega)
              rw [List.length_replicate] at HP
              have HPP := Lib.hid HP
              clear hX hU HP HX HU HU2 hE H13
              go_wp2_with fail
              refine HPP.out.mono ?_
              rintro e w15 ⟨nv2, rfl, BB, mm, own2⟩
              obtain ⟨na, nc, rfl⟩ := own2.slice
              rw [numsFrom_len]
              replace own := own.bt ss BB (fun x hx => .inr (by simpa using hx))
              have s2 : SS w P 2 Q 0 (Vs ++ List.replicate k B) w15 := ss.q BB mm (fun U hU => by
                rcases List.mem_append.1 hU with hU | hU
                · exact ss.inh U hU
                · rw [List.eq_of_mem_replicate hU]; exact ss.inh B (List.mem_of_getElem? HV2.out))
              clear ss BB mm own2 HPP
              obtain ⟨nn, hne⟩ : ∃ nn : Nat, nn = mo % 12 := ⟨_, rfl⟩
              have hnI : (mo : Int) % 12 = (nn : Int) := by omega
              have hn12 : nn < 12 := by omega
              have hmk := node_make w15 nn (by omega)
              have ss := s2.more ((Ext.refl w15).alloc (.cells (Array.replicate nn (Value.pointer none)) 27))
              have hU := NBlk.fresh w15 nn
              replace own := own.ext ((Ext.refl w15).alloc (.cells (Array.replicate nn (Value.pointer none)) 27))
              have hQ2 := Lib.hid (show w15.heap.size ≠ Q by have := s2.sto.lt; omega)
              have HT := Lib.hid (hU.trow (c := nn) (by simp))
              have HM := Lib.hid (And.intro ss own)
              clear hne s2 hU ss own
              go_wp2_with fail
              clear hmk
              generalize w15.alloc (.cells (Array.replicate nn (Value.pointer none)) 27) = w16 at *
              have ss := HM.out.1
              have own := HM.out.2
              have hlA : (Vs ++ List.replicate k B).length = 4 + k := by rw [List.length_append, HV4.out, List.length_replicate]
              by_cases hf : nn ≤ hh
              · have HP := stoPut_any Q P (Vs ++ List.replicate k B) (List.replicate nn .nil) (some ⟨w15.heap.size, 0, none⟩) nn w16 ss.sto HT.out (fun b o h _ => by cases h; exact hQ2.out) (by rw [hlA, List.length_replicate]; have := HLh.out; omega)
                rw [List.length_replicate] at HP
                refine HP.mono ?_
                rintro e w17 ⟨nv3, rfl, BB, mm, own3⟩
                obtain ⟨na3, nc3, rfl⟩ := own3.slice
                rw [numsFrom_len]
                replace own := own.bt ss BB (fun x hx => .inr (by simpa using hx))
                obtain ⟨Vz, hVz⟩ : ∃ Vz, Vz = Vs ++ List.replicate k B ++ List.replicate nn .nil := ⟨_, rfl⟩
                have s2 : SS w P 2 Q 0 Vz w17 := by
                  rw [hVz]
                  refine ss.q BB mm (fun U hU => ?_)
                  rcases List.mem_append.1 hU with hU | hU
                  · exact ss.inh U hU
                  · rw [List.eq_of_mem_replicate hU]; trivial
                have HLN := Lib.hid (show ((Vz.length : Nat) : Int) = 4 + (k : Int) + (nn : Int) by rw [hVz, List.length_append, hlA, List.length_replicate]; omega)
                have hz1 : Vz[1]? = some A := by rw [hVz]; exact get_app (get_app HV1.out)
                have hz2 : Vz[2]? = some B := by rw [hVz]; exact get_app (get_app HV2.out)
                clear HP BB mm own3 ss hVz hlA HM HT
                have ss := s2
                clear s2
                have HMA := Lib.hid (fun (_ : Unit) => List.mem_of_getElem? hz1)
                have HMB := Lib.hid (fun (_ : Unit) => List.mem_of_getElem? hz2)
                have HGA := Lib.hid (fun W (h : Sto Q W P Vz) => stoGet_any Q P Vz ((1 : Nat) : Int) W h)
                rw [verOf_nat hz1] at HGA
                have HGB := Lib.hid (fun W (h : Sto Q W P Vz) => stoGet_any Q P Vz ((2 : Nat) : Int) W h)
                rw [verOf_nat hz2] at HGB
                clear hz1 hz2
                have hc0 := own.get (i := 0) rfl
                go_wp2_with fail
                refine (HGA.out _ ss.sto).mono ?_
                rintro e w20 ⟨rfl, BB, mm⟩
                replace own := own.bt ss BB (fun x hx => .inr (by simpa using hx))
                replace ss := ss.q BB mm ss.inh
                clear BB mm
                have hc1 := own.get (i := 1) rfl
                go_wp2_with fail
                refine (HGB.out _ ss.sto).mono ?_
                rintro e w21 ⟨rfl, BB, mm⟩
                replace ss := ss.q BB mm ss.inh
                clear BB mm own hc1
                have hpa := ptr_same A.ptr
                have hpb := ptr_same B.ptr
                go_wp2_with fail
                refine (of_any t0 w21 _ (HB0.out.ext ss.ext) (by have := L0.out; omega)).mono ?_
                rintro e w22 ⟨v1, rfl, o1, hS⟩
                replace ss := ss.more hS
                have O1 := Lib.hid o1.beads
                clear hS o1
                go_wp2_with fail
                refine (is_any w22 A v1 (ss.inh A (HMA.out ())) (by rw [fits_beads SA.out.1 (by have := L0.out; omega)]; exact O1.out) (by have := CA.out; have := L0.out; unfold Tr.count at *; omega)).mono ?_
                rintro e w23 ⟨rfl, hS⟩
                replace ss := ss.more hS
                clear hS
                go_wp2_with fail
                refine (of_any t1 w23 _ (HB1.out.ext ss.ext) (by have := L1.out; omega)).mono ?_
                rintro e w24 ⟨v2, rfl, o2, hS⟩
                replace ss := ss.more hS
                have O2 := Lib.hid o2.beads
                clear hS o2
                go_wp2_with fail
                refine (is_any w24 B v2 (ss.inh B (HMB.out ())) (by rw [fits_beads SB.out.1 (by have := L1.out; omega)]; exact O2.out) (by have := CB.out; have := L1.out; unfold Tr.count at *; omega)).mono ?_
                rintro e w25 ⟨rfl, hS⟩
                replace ss := ss.more hS
                clear hS
                go_wp2_with fail
                refine (stoLen_any Q P _ w25 ss.sto).mono ?_
                rw [HLN.out]
                rintro e w26 ⟨rfl, BB, mm⟩
                replace ss := ss.q BB mm ss.inh
                clear BB mm
                go_wp2_with fail
                refine (alive36_any w26).mono ?_
                rintro e w27 ⟨rfl, hS⟩
                replace ss := ss.more hS
                have HX := Lib.hid ss.ext
                clear hS ss
                go_wp2
                go_ret
                exact Ret.mk HX.out
              · have hf' : ¬ (nn : Int) ≤ (hh : Int) := by omega
                refine (stoPutFull_any Q P (Vs ++ List.replicate k B) nn _ _ w16 ss.sto (by rw [hlA]; have := HLh.out; omega) (by rw [hlA]; have := HLh.out; omega)).mono ?_
                rintro e w17 ⟨rfl, BB, mm⟩
                replace own := own.bt ss BB (fun x hx => .inr (by simpa using hx))
                obtain ⟨Vz, hVz⟩ : ∃ Vz, Vz = Vs ++ List.replicate k B := ⟨_, rfl⟩
                have s2 : SS w P 2 Q 0 Vz w17 := by
                  rw [hVz]
                  exact ss.q BB mm ss.inh
                have HLN := Lib.hid (show ((Vz.length : Nat) : Int) = 4 + (k : Int) by rw [hVz, hlA]; omega)
                have hz1 : Vz[1]? = some A := by rw [hVz]; exact get_app HV1.out
                have hz2 : Vz[2]? = some B := by rw [hVz]; exact get_app HV2.out
                clear BB mm ss hVz hlA HM HT
                have ss := s2
                clear s2
                have HMA := Lib.hid (fun (_ : Unit) => List.mem_of_getElem? hz1)
                have HMB := Lib.hid (fun (_ : Unit) => List.mem_of_getElem? hz2)
                have HGA := Lib.hid (fun W (h : Sto Q W P Vz) => stoGet_any Q P Vz ((1 : Nat) : Int) W h)
                rw [verOf_nat hz1] at HGA
                have HGB := Lib.hid (fun W (h : Sto Q W P Vz) => stoGet_any Q P Vz ((2 : Nat) : Int) W h)
                rw [verOf_nat hz2] at HGB
                clear hz1 hz2 hf
                have hc0 := own.get (i := 0) rfl
                go_wp2_with fail
                refine (HGA.out _ ss.sto).mono ?_
                rintro e w20 ⟨rfl, BB, mm⟩
                replace own := own.bt ss BB (fun x hx => .inr (by simpa using hx))
                replace ss := ss.q BB mm ss.inh
                clear BB mm
                have hc1 := own.get (i := 1) rfl
                go_wp2_with fail
                refine (HGB.out _ ss.sto).mono ?_
                rintro e w21 ⟨rfl, BB, mm⟩
                replace ss := ss.q BB mm ss.inh
                clear BB mm own hc1
                have hpa := ptr_same A.ptr
                have hpb := ptr_same B.ptr
                go_wp2_with fail
                refine (of_any t0 w21 _ (HB0.out.ext ss.ext) (by have := L0.out; omega)).mono ?_
                rintro e w22 ⟨v1, rfl, o1, hS⟩
                replace ss := ss.more hS
                have O1 := Lib.hid o1.beads
                clear hS o1
                go_wp2_with fail
                refine (is_any w22 A v1 (ss.inh A (HMA.out ())) (by rw [fits_beads SA.out.1 (by have := L0.out; omega)]; exact O1.out) (by have := CA.out; have := L0.out; unfold Tr.count at *; omega)).mono ?_
                rintro e w23 ⟨rfl, hS⟩
                replace ss := ss.more hS
                clear hS
                go_wp2_with fail
                refine (of_any t1 w23 _ (HB1.out.ext ss.ext) (by have := L1.out; omega)).mono ?_
                rintro e w24 ⟨v2, rfl, o2, hS⟩
                replace ss := ss.more hS
                have O2 := Lib.hid o2.beads
                clear hS o2
                go_wp2_with fail
                refine (is_any w24 B v2 (ss.inh B (HMB.out ())) (by rw [fits_beads SB.out.1 (by have := L1.out; omega)]; exact O2.out) (by have := CB.out; have := L1.out; unfold Tr.count at *; omega)).mono ?_
                rintro e w25 ⟨rfl, hS⟩
                replace ss := ss.more hS
                clear hS
                go_wp2_with fail
                refine (stoLen_any Q P _ w25 ss.sto).mono ?_
                rw [HLN.out]
                rintro e w26 ⟨rfl, BB, mm⟩
                replace ss := ss.q BB mm ss.inh
                clear BB mm
                go_wp2_with fail
                refine (alive36_any w26).mono ?_
                rintro e w27 ⟨rfl, hS⟩
                replace ss := ss.more hS
                have HX := Lib.hid ss.ext
                clear hS ss
                go_wp2
                go_ret
                exact Ret.mk HX.out
theorem storeStays_row (a0 : Option Addr) (len0 cap0 : Nat) (z0 : List BeadL) (a1 : Option Addr) (len1 cap1 : Nat) (z1 : List BeadL) (ah mo : Int) (w : World) (w0 : IsBeads w (.slice a0 len0 cap0) z0) (w1 : IsBeads w (.slice a1 len1 cap1) z1) (ha : (Lit.int .u8 ah).wf = true) (hm : (Lit.int .u8 mo).wf = true) :
    Calls Tryz.prog 3 #[.slice a0 len0 cap0, .slice a1 len1 cap1, .int .u8 ah, .int .u8 mo] w (Ret (.bool true) w) := by
  obtain ⟨m, rfl, -⟩ := u8_nat ha
  obtain ⟨k, rfl, -⟩ := u8_nat hm
  exact storeStays_walk a0 len0 cap0 z0 a1 len1 cap1 z1 m k w w0 w1
end Go.Proofs.YtjiiokhjajfhjaaGreat
