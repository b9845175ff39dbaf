/- The walk of StoreTells. -/
import Derived.Test.YtjiiokhjajfhjaaGreatM14
import Derived.Test.YtjiiokhjajfhjaaGreatM46
import Derived.Test.YtjiiokhjajfhjaaGreatM50
namespace Go.Proofs.YtjiiokhjajfhjaaGreat
open Go Go.RowKit

theorem ptr_neq_same (p : Option Addr) (w : World) : (binOp .neq 27 (.pointer p) (.pointer p)).run Tryz.prog w = .ok (.bool false) w := by
  obtain ⟨j, hj⟩ : ∃ j, Tryz.prog.info? 124 = some j := by
    have h : (Tryz.prog.info? 124).isSome = true := by kernel_rfl
    exact Option.isSome_iff_exists.1 h
  cases p with
  | none =>
    have := run_neq_pointer_nil (P := Tryz.prog) (w := w) 27 none (by kernel_rfl)
    simpa using this
  | some a => exact Go.Lib.run_neq_ptr_same w a Tryz.underlying27 hj
/-- a row of bytes. -/
def YRow (w : World) (v : Value) (ys : List Nat) : Prop := ∃ a c, v = .slice a ys.length c ∧ (∀ y ∈ ys, y < 256) ∧ (ys ≠ [] → ∃ b o, a = some ⟨b, o, none⟩ ∧ ys.length ≤ c ∧ ∀ (i y : Nat), ys[i]? = some y → w.cell? ⟨b, o + i, none⟩ = some (.int .u8 (y : Nat)))
theorem TO.to {w X : World} {P Q : Nat} {ls : List (Int × Int)} {Ts : List Tr} {ms ns : List Int} {vers nv : Value} (h : TO w P Q ls Ts ms ns vers nv X) : ∀ U ∈ ms.map (pickT Ts), InH X U := h.ss.inh
theorem told_of {ls : List (Int × Int)} {Ts : List Tr} {β : Nat → Nat} (hr : ∀ a : Int, a < ls.length → Rep ls β a (pickT Ts a)) {vs : List Int} (hv : ∀ a ∈ vs, a < ls.length) : Told ls β vs (vs.map (pickT Ts)) :=
  ⟨by rw [List.length_map], fun i a hi => ⟨pickT Ts a, by rw [List.getElem?_map, hi]; rfl, hr a (hv a (List.mem_of_getElem? hi))⟩⟩
theorem one_z {B : Nat} {w : World} (d : Int) (h : B ≤ w.heap.size) : ZOwn B (w.alloc (.cells #[.int .i64 d] 3)) (.slice (some ⟨w.heap.size, 0, none⟩) 1 1) [d] :=
  ⟨rfl, .inr ⟨w.heap.size, 1, _, rfl, h, alloc_at _ _ _ rfl, Nat.le_refl _, by decide, rfl, rfl⟩⟩
set_option maxRecDepth 100000 in
set_option maxHeartbeats 1600000 in
theorem storeTells_walk (ls : List (Int × Int)) (lv : Value) (ys : List Nat) (yv : Value) (st : Nat) (n : Int) (w : World) (hP : PRow w lv ls) (hY : YRow w yv ys) (_hs : st < 256) :
    Calls Tryz.prog 4 #[lv, yv, .int .u8 st, .int .i64 n] w (Ret (.bool true) w) := by
  have hund : undef = Value.tuple #[] := rfl
  obtain ⟨la, lc, rfl⟩ := prow_slice hP
  obtain ⟨pa, pc, rfl, hy256, hycell⟩ := hY
  have hx := Ext.refl w
  by_cases h18 : ls.length ≤ 18
  · have HM := Lib.hid (may13_any w _ ls hP (by omega))
    cases hm : may13 0 ls with
    | false =>
      rw [hm] at HM
      clear hP hycell hy256 hm
      go_enter Tryz.func4, Tryz.ntmps4
      go_wp2_with fail
      refine (HM.out).mono ?_
      rintro e w1 ⟨rfl, hS⟩
      replace hx := hx.trans hS
      clear hS
      go_wp2_with fail
      refine (alive36_any _).mono ?_
      rintro e w2 ⟨rfl, hS⟩
      replace hx := hx.trans hS
      clear hS
      go_wp2
      go_ret
      exact Ret.mk hx
    | true =>
      have HMM := Lib.hid hm
      rw [hm] at HM
      clear hm
      by_cases h0 : ls.length = 0
      · have hl0 : ls = [] := List.eq_nil_of_length_eq_zero h0
        subst hl0
        simp only [List.length_nil] at HM ⊢
        clear hP hycell hy256 h0 h18
        go_enter Tryz.func4, Tryz.ntmps4
        go_wp2_with fail
        refine (HM.out).mono ?_
        rintro e w1 ⟨rfl, hS⟩
        replace hx := hx.trans hS
        clear hS
        go_wp2_with fail
        refine (alive36_any _).mono ?_
        rintro e w2 ⟨rfl, hS⟩
        replace hx := hx.trans hS
        clear hS
        go_wp2
        go_ret
        exact Ret.mk hx
      · by_cases h30 : ys.length ≤ 30
        · have HP := Lib.hid hP
          have HY := Lib.hid hycell
          have HY2 := Lib.hid hy256
          have h0b : (((ls.length : Nat) : Int) == 0) = false := beq_eq_false_iff_ne.2 (by omega)
          clear hP hycell hy256
          go_enter Tryz.func4, Tryz.ntmps4
          go_wp2_with fail
          refine (HM.out).mono ?_
          rintro e w1 ⟨rfl, hS⟩
          replace hx := hx.trans hS
          clear hS
          go_wp2_with fail
          refine (begun_yes 4 (by decide) w1).mono ?_
          rintro e w2 ⟨P, Q, rfl, ss0⟩
          have ss : SS w P 4 Q 0 [.nil] w2 := ⟨hx.trans ss0.ext, Nat.le_trans hx.size ss0.newP, Nat.le_trans hx.size ss0.newQ, ss0.sch, ss0.sto, ss0.inh⟩
          clear ss0 hx
          go_wp2_with fail
          refine (some36_any ls _ w2 (HP.out.ext ss.ext) HMM.out (by omega)).mono ?_
          rintro e w3 ⟨nv, Ts, rfl, hno, hTl, hsn, hS⟩
          have HT0 := Lib.hid (show TO w P Q ls Ts [-1] [-1] (.slice (some ⟨w3.heap.size, 0, none⟩) 1 1) nv (w3.alloc (.cells #[.int .i64 (-1)] 3)) by
            have hE := (Ext.refl w3).alloc (.cells #[.int .i64 (-1)] 3)
            refine ⟨?_, one_z (-1) (ss.more hS).ext.size, (hno.mono ss.ext.size).ext hE, hsn.ext hE⟩
            rw [show ([-1] : List Int).map (pickT Ts) = [.nil] by simp [pickT]]
            exact (ss.more hS).more hE)
          obtain ⟨β, hβ, hβ2⟩ := tell_apart (Ts.map Tr.blk) hsn.one
          have HR := Lib.hid (fun (a : Int) (ha : a < ls.length) => Dag.rep (β := β) hsn.dag hTl (fun i T hi => hβ2 i T.blk (by rw [List.getElem?_map, hi]; rfl)) ls.length a ha (by omega))
          have HBI := Lib.hid hβ
          obtain ⟨na, nc, rfl⟩ := hno.slice
          rw [List.length_map] at HT0 ⊢
          obtain ⟨S, hS1⟩ : ∃ S : Nat, S = 1 + st % 4 := ⟨_, rfl⟩
          have hS2 : 1 + (st : Int) % 4 = (S : Int) := by omega
          have hS3 : 1 ≤ S := by omega
          have hS4 : S ≤ 4 := by omega
          have HTL := Lib.hid hTl
          clear hS1 ss hno hsn hS hβ hβ2 hTl
          go_wp2_with fail
          generalize w3.alloc (.cells #[.int .i64 (-1)] 3) = w4 at *
          go_loopw [11, 13] (fun vv i X => ∃ (I : Nat) (ns : List Int), i = .int .i64 I ∧ I ≤ ys.length + 4 ∧ TO w P Q ls Ts ns ns vv (.slice na Ts.length nc) X ∧ Hid ((∀ a ∈ ns, a < ls.length) ∧ ns ≠ [] ∧ (I ≤ ys.length → ns.length ≤ 1 + I) ∧ ns.length ≤ 31)) (fun _ i _ => ys.length + 4 - (intOf i).toNat)
          case atStart => exact ⟨0, [-1], rfl, by omega, HT0.out, Lib.hid ⟨fun a ha => by rw [List.mem_singleton.1 ha]; omega, by simp, fun _ => by simp, by simp⟩⟩
          case round =>
            obtain ⟨I, ns, rfl, hI, hT, HN⟩ := hrel
            have HTO := Lib.hid hT
            by_cases hlt : I < ys.length
            · obtain ⟨va, vc, rfl⟩ := hT.vers.slice
              obtain ⟨g0, hg0⟩ := own_some hT.vers (by have := HN.out.2.1; intro h; exact this (List.eq_nil_of_length_eq_zero h))
              have HST := Lib.hid (hT.start hg0)
              have HG0 := Lib.hid hg0
              clear hT hg0 HT0
              generalize wr = W1 at *
              go_wp2_with fail
              go_loopw [11, 14, 15, 16] (fun vv tr wt k Y => ∃ (K : Nat) (zs : List Int), k = .int .i64 K ∧ K = I + zs.length ∧ K ≤ ys.length ∧ zs.length ≤ S ∧ TIn w W1 g0 (ns ++ zs) (numsFrom ns.length zs.length) ((zs.map (pickT Ts)).map Tr.ptr) vv tr wt Y ∧ Hid (∀ a ∈ zs, a < ls.length)) (fun _ _ _ k _ => ys.length - (intOf k).toNat)
              case atStart => exact ⟨I, [], rfl, rfl, by omega, Nat.zero_le _, by simpa [numsFrom] using HST.out, Lib.hid (fun a ha => by cases ha)⟩
              case round =>
                obtain ⟨K, zs, rfl, hK, hKy, hzS, hIn, HZ⟩ := hrel
                have HIN := Lib.hid hIn
                have HKK := Lib.hid hK
                by_cases hgo : K < I + S ∧ K < ys.length
                · have hg1 : (K : Int) < (I : Int) + (S : Int) := by omega
                  obtain ⟨y, hy⟩ : ∃ y, ys[K]? = some y := ⟨_, List.getElem?_eq_getElem hgo.2⟩
                  obtain ⟨b, o, rfl, hcap, hcl⟩ := HY.out (List.ne_nil_of_length_pos (by omega))
                  have hXY := Lib.hid (Bt.out HTO.out.ss.ext (by simp; exact (own_at HTO.out.vers HG0.out).1) hIn.bt)
                  have hcy : wr.cell? ⟨b, o + K, none⟩ = some (.int .u8 (y : Nat)) := by
                    have h := hcl K y hy
                    rw [hXY.out.cell (cell_lt h)]; exact h
                  have hy2 := HY2.out y (List.mem_of_getElem? hy)
                  obtain ⟨A, hA⟩ : ∃ A : Int, A = (y : Int) % ((ls.length : Int) + 1) - 1 := ⟨_, rfl⟩
                  have hA1 : -1 ≤ A := by have := Int.emod_nonneg (y : Int) (show ((ls.length : Int) + 1) ≠ 0 by omega); omega
                  have hA2 : A < ls.length := by have := Int.emod_lt_of_pos (y : Int) (show 0 < ((ls.length : Int) + 1) by omega); omega
                  have hAI : (y : Int) % ((ls.length : Int) + 1) - 1 = A := hA.symm
                  have hAT : (y : Int).tmod ((ls.length : Int) + 1) - 1 = A := by rw [Int.tmod_eq_emod_of_nonneg (by omega)]; exact hAI
                  obtain ⟨vs, hvs⟩ : ∃ vs, vs = ns ++ zs := ⟨_, rfl⟩
                  rw [← hvs] at HIN
                  have hvl : vs.length = ns.length + zs.length := by rw [hvs, List.length_append]
                  have HVS := Lib.hid hvs
                  obtain ⟨va2, vc2, rfl⟩ := HIN.out.vers.slice
                  have hns := HN.out.2.2.1 (by omega)
                  have HLE := Lib.hid (show vs.length ≤ 20000 ∧ (numsFrom ns.length zs.length).length ≤ 20000 ∧ ((zs.map (pickT Ts)).map Tr.ptr).length ≤ 20000 by
                    rw [numsFrom_len, List.length_map, List.length_map]
                    have := HN.out.2.2.2; omega)
                  have HE := Lib.hid ((Ext.refl wr).alloc (.cells #[.int .i64 (vs.length : Nat)] 3))
                  have T1 := Lib.hid (HIN.out.ext HE.out)
                  have HC := Lib.hid (show (wr.alloc (.cells #[.int .i64 (vs.length : Nat)] 3)).cell? ⟨wr.heap.size, 0, none⟩ = some (.int .i64 (vs.length : Nat)) from cell_of (alloc_at wr _ _ rfl) 0)
                  obtain ⟨hg0', hg2⟩ := hgo
                  clear hIn hA hvs hy hcl hns hvl HIN hK
                  go_wp2_with (at_builtin; refine wpList_append_j (B := W1.heap.size) (zs := numsFrom ns.length zs.length) (d := vs.length) (b := wr.heap.size) rfl (.tmp 86) (.tmp 89) rfl rfl rfl T1.out.want HC.out HLE.out.2.1 T1.out.bt.size ?_)
                  intro v6 w6 ho6 hg6 hb6
                  have T2 := Lib.hid (T1.out.want' hg6 ho6 (by simpa using hb6))
                  clear ho6 hg6 hb6 T1 HC HE hcy
                  have HE := Lib.hid ((Ext.refl w6).alloc (.cells #[.int .i64 A] 3))
                  have T3 := Lib.hid (T2.out.ext HE.out)
                  have HC := Lib.hid (show (w6.alloc (.cells #[.int .i64 A] 3)).cell? ⟨w6.heap.size, 0, none⟩ = some (.int .i64 A) from cell_of (alloc_at w6 _ _ rfl) 0)
                  have HSZ := Lib.hid (Nat.le_trans HTO.out.ss.ext.size T3.out.bt.size)
                  clear T2
                  go_wp2_with (at_builtin; refine wpList_append_z (B := w.heap.size) (zs := vs) (d := A) (b := w6.heap.size) rfl (.tmp 91) (.tmp 93) rfl rfl rfl T3.out.vers HC.out HLE.out.1 HSZ.out ?_)
                  intro v7 w7 ho7 hg7 hb7
                  have T4 := Lib.hid (T3.out.vers' hg7 ho7 (by simpa using hb7))
                  clear ho7 hg7 hb7 T3 HC HE HSZ
                  go_wp2_with fail
                  refine (pick_any na nc Ts A w7 (HTO.out.inner HG0.out T4.out).nodes.trow).mono ?_
                  rintro e w8 ⟨rfl, hS⟩
                  have HE := Lib.hid ((Ext.refl w8).alloc (.cells #[.pointer (pickT Ts A).ptr] 27))
                  have T6 := Lib.hid ((T4.out.ext hS).ext HE.out)
                  have HC := Lib.hid (show (w8.alloc (.cells #[.pointer (pickT Ts A).ptr] 27)).cell? ⟨w8.heap.size, 0, none⟩ = some (.pointer (pickT Ts A).ptr) from cell_of (alloc_at w8 _ _ rfl) 0)
                  clear hS T4
                  go_wp2_with (at_builtin; refine wpList_append_n (B := W1.heap.size) (xs := (zs.map (pickT Ts)).map Tr.ptr) (p := (pickT Ts A).ptr) (b := w8.heap.size) rfl (.tmp 95) (.tmp 99) rfl rfl rfl T6.out.tr HC.out HLE.out.2.2 T6.out.bt.size ?_)
                  intro v9 w9 ho9 hg9
                  have T7 := Lib.hid (T6.out.tr' hg9 ho9)
                  clear ho9 hg9 T6 HC HE
                  go_wp2
                  go_roundw
                  case rel =>
                    refine ⟨K + 1, zs ++ [A], by go_num, by rw [List.length_append, HKK.out]; rfl, by omega, by rw [List.length_append, List.length_singleton]; have := HKK.out; omega, ?_, Lib.hid (fun a ha => ?_)⟩
                    · have h := T7.out
                      rw [HVS.out, List.append_assoc] at h
                      rw [List.length_append, List.length_singleton, numsFrom_succ, List.map_append, List.map_append, List.map_map]
                      rw [List.length_append] at h
                      exact h
                    · rcases List.mem_append.1 ha with ha | ha
                      · exact HZ.out a ha
                      · rw [List.mem_singleton.1 ha]; exact hA2
                  case measure => simp [intOf]; omega
                · have hgo' : ¬ ((K : Int) < (I : Int) + (S : Int)) ∨ (((K : Int) < (I : Int) + (S : Int)) ∧ ¬ (K < ys.length)) := by omega
                  have T9 := HTO.out.inner HG0.out hIn
                  obtain ⟨vs, hvs⟩ : ∃ vs, vs = ns ++ zs := ⟨_, rfl⟩
                  have hvm : vs.map (pickT Ts) = ns.map (pickT Ts) ++ zs.map (pickT Ts) := by rw [hvs, List.map_append]
                  rw [← hvs] at T9
                  have hvl : vs.length = ns.length + zs.length := by rw [hvs, List.length_append]
                  have hns := HN.out.2.2.1 (by omega)
                  have HV9 := Lib.hid (show (∀ a ∈ vs, a < ls.length) ∧ vs ≠ [] ∧ (I + S ≤ ys.length → vs.length ≤ 1 + (I + S)) ∧ vs.length ≤ 31 from
                    ⟨fun a ha => by
                      rw [hvs] at ha
                      rcases List.mem_append.1 ha with ha | ha
                      · exact HN.out.1 a ha
                      · exact HZ.out a ha,
                    fun h => HN.out.2.1 (by rw [hvs] at h; exact (List.append_eq_nil_iff.1 h).1), fun _ => by omega, by omega⟩)
                  obtain ⟨va2, vc2, hv2⟩ := T9.vers.slice
                  obtain ⟨ta, tc, ht2⟩ := hIn.tr.slice
                  have HWT := Lib.hid hIn.want
                  have htr := hIn.tr
                  rw [ht2] at htr
                  have hQ1 := HTO.out.ss.sto.lt
                  have HPUT := stoPut_any Q P (ns.map (pickT Ts)) (zs.map (pickT Ts)) ta tc wr T9.ss.sto htr.trow (fun b o h _ => by
                    subst h
                    have h2 := (own_at htr (g := b) rfl).1
                    omega) (by rw [List.length_map, List.length_map]; have := HN.out.2.2.2; omega)
                  rw [← hvm] at HPUT
                  simp only [List.length_map] at HPUT ht2
                  have HPT := Lib.hid HPUT
                  have HT9 := Lib.hid T9
                  have HVL := Lib.hid hvl
                  subst hv2 ht2
                  clear hvm T9 hvl hns htr hQ1 HPUT hIn HIN hvs hgo hK
                  rcases hgo' with hgo | ⟨hgo1, hgo⟩
                  · go_wp2_with fail
                    refine HPT.out.mono ?_
                    rintro e w5 ⟨nv2, rfl, BB, mm, own2⟩
                    obtain ⟨cQ, hcQ⟩ := HT9.out.ss.sto.cells
                    have hwt : JOwn W1.heap.size w5 u15 (numsFrom ns.length zs.length) := own_other HWT.out BB hcQ (by decide)
                    have T10 := HT9.out.q BB mm
                    have HSI := Lib.hid (sameInts_any w5 nv2 u15 ((numsFrom ns.length zs.length).map Int.ofNat) own2.row.z hwt.row.z (by rw [List.length_map, numsFrom_len]; have := HV9.out.2.2.2; have := HVL.out; omega))
                    clear BB mm own2 hcQ hwt
                    have HT10 := Lib.hid T10
                    clear T10
                    go_wp2_with fail
                    refine HSI.out.mono ?_
                    rintro e w6 ⟨rfl, hS⟩
                    have HT11 := Lib.hid (HT10.out.ext hS)
                    clear hS
                    go_wp2_with fail
                    refine (stoLen_any Q P _ w6 HT11.out.ss.sto).mono ?_
                    rw [List.length_map]
                    rintro e w7 ⟨rfl, BB, mm⟩
                    have HT12 := Lib.hid (HT11.out.q BB mm)
                    clear BB mm
                    go_wp2
                    go_roundw
                    case rel => exact ⟨I + S, vs, by go_num, by omega, HT12.out, HV9⟩
                    case measure => simp [intOf]; omega
                  · go_wp2_with fail
                    refine HPT.out.mono ?_
                    rintro e w5 ⟨nv2, rfl, BB, mm, own2⟩
                    obtain ⟨cQ, hcQ⟩ := HT9.out.ss.sto.cells
                    have hwt : JOwn W1.heap.size w5 u15 (numsFrom ns.length zs.length) := own_other HWT.out BB hcQ (by decide)
                    have T10 := HT9.out.q BB mm
                    have HSI := Lib.hid (sameInts_any w5 nv2 u15 ((numsFrom ns.length zs.length).map Int.ofNat) own2.row.z hwt.row.z (by rw [List.length_map, numsFrom_len]; have := HV9.out.2.2.2; have := HVL.out; omega))
                    clear BB mm own2 hcQ hwt
                    have HT10 := Lib.hid T10
                    clear T10
                    go_wp2_with fail
                    refine HSI.out.mono ?_
                    rintro e w6 ⟨rfl, hS⟩
                    have HT11 := Lib.hid (HT10.out.ext hS)
                    clear hS
                    go_wp2_with fail
                    refine (stoLen_any Q P _ w6 HT11.out.ss.sto).mono ?_
                    rw [List.length_map]
                    rintro e w7 ⟨rfl, BB, mm⟩
                    have HT12 := Lib.hid (HT11.out.q BB mm)
                    clear BB mm
                    go_wp2
                    go_roundw
                    case rel => exact ⟨I + S, vs, by go_num, by omega, HT12.out, HV9⟩
                    case measure => simp [intOf]; omega
            · clear hT HT0
              obtain ⟨va, vc, hva⟩ := HTO.out.vers.slice
              subst hva
              have HVS := Lib.hid HN.out.1
              have hl31 := HN.out.2.2.2
              have HTD := Lib.hid (told_of HR.out HN.out.1)
              have HALL := Lib.hid (show ∀ k, (allT [] ((ns.map (pickT Ts)).take k)).length ≤ 9999999 from fun k => by
                rw [nodes_told HBI.out (HTD.out.take k).rep]
                have h1 := allK_nodup (os := []) (HTD.out.take k).rep List.nodup_nil (fun x h => by cases h)
                have h2 := nodup_len h1.1 h1.2
                omega)
              clear HN hI
              go_wp2_with fail
              clear hlt
              go_loopw [20] (fun i X => ∃ k : Nat, k ≤ ns.length ∧ i = .int .i64 k ∧ TO w P Q ls Ts ns ns (.slice va ns.length vc) (.slice na Ts.length nc) X) (fun i _ => ns.length - (intOf i).toNat)
              case atStart => exact ⟨0, Nat.zero_le _, rfl, HTO.out⟩
              case round =>
                obtain ⟨k, hk, rfl, hT⟩ := hrel
                have HT := Lib.hid hT
                clear hT HTO
                by_cases hlt : k < ns.length
                · obtain ⟨a, ha⟩ : ∃ a, ns[k]? = some a := ⟨_, List.getElem?_eq_getElem hlt⟩
                  have HAT := Lib.hid (show (ns.map (pickT Ts))[k]? = some (pickT Ts a) by rw [List.getElem?_map, ha]; rfl)
                  have HG := Lib.hid (fun W (h : Sto Q W P (ns.map (pickT Ts))) => stoGet_any Q P (ns.map (pickT Ts)) ((k : Nat) : Int) W h)
                  rw [verOf_nat HAT.out] at HG
                  have HA := Lib.hid ha
                  have hpn := ptr_neq_same (pickT Ts a).ptr
                  clear ha
                  go_wp2_with fail
                  refine (HG.out _ HT.out.ss.sto).mono ?_
                  rintro e w5 ⟨rfl, BB, mm⟩
                  have HT5 := Lib.hid (HT.out.q BB mm)
                  clear BB mm
                  obtain ⟨b, o, rfl, -, -, hcl⟩ := HT5.out.vers.row.cell (List.ne_nil_of_length_pos (by omega))
                  have hca := hcl k a HA.out
                  clear hcl
                  go_wp2_with fail
                  refine (pick_any na nc Ts a w5 HT5.out.nodes.trow).mono ?_
                  rintro e w6 ⟨rfl, hS⟩
                  have HT6 := Lib.hid (HT5.out.ext hS)
                  clear hS hca
                  go_wp2_with fail
                  refine (stoFresh_any Q P (ns.map (pickT Ts)) k (pickT Ts a) w6 HT6.out.ss.sto HAT.out HT6.out.to (by rw [List.length_map]; omega) (HALL.out _)).mono ?_
                  rw [fresh_told HBI.out (fun U hU => HT6.out.to U (List.mem_of_mem_take hU)) (pickT_in HT6.out.sn.inh a) (HTD.out.take k).rep (HR.out a (HVS.out a (List.mem_of_getElem? HA.out)))]
                  rintro e w7 ⟨rfl, BB, mm⟩
                  have HT7 := Lib.hid (HT6.out.q BB mm)
                  clear BB mm
                  have HF := Lib.hid (fresh36_any (β := β) (.slice la ls.length lc) (some ⟨b, o, none⟩) vc k (pickT Ts a) ns (ns.map (pickT Ts)) w7 (by omega) (HP.out.ext HT7.out.ss.ext) HT7.out.vers.row HTD.out HAT.out (by omega))
                  generalize newK (allK [] ((ns.map (pickT Ts)).take k)) (addK [] (pickT Ts a)) = F at *
                  go_wp2_with fail
                  refine HF.out.mono ?_
                  rintro e w8 ⟨rfl, hS⟩
                  have HT8 := Lib.hid (HT7.out.ext hS)
                  clear hS
                  go_wp2
                  go_roundw
                  case rel => exact ⟨k + 1, by omega, by go_num, HT8.out⟩
                  case measure => simp [intOf]; omega
                · have hND := Lib.hid (show (allT [] (ns.map (pickT Ts))).length = (allK [] (ns.map (pickT Ts))).length from nodes_told HBI.out HTD.out.rep)
                  have HAL := Lib.hid (show (allT [] (ns.map (pickT Ts))).length ≤ 9999999 by
                    have h := HALL.out ns.length
                    rwa [List.take_of_length_le (by rw [List.length_map]; exact Nat.le_refl _)] at h)
                  by_cases hn : 0 ≤ n ∧ n < ns.length
                  · obtain ⟨N, rfl⟩ := Int.eq_ofNat_of_zero_le hn.1
                    obtain ⟨T, hTN⟩ : ∃ T, (ns.map (pickT Ts))[N]? = some T := ⟨_, List.getElem?_eq_getElem (by rw [List.length_map]; omega)⟩
                    have HG := Lib.hid (fun W (h : Sto Q W P (ns.map (pickT Ts))) => stoGet_any Q P (ns.map (pickT Ts)) ((N : Nat) : Int) W h)
                    rw [verOf_nat hTN] at HG
                    obtain ⟨hn1, hn2⟩ := hn
                    clear hTN
                    go_wp2_with fail
                    refine (HG.out _ HT.out.ss.sto).mono ?_
                    rintro e w5 ⟨rfl, BB, mm⟩
                    have HT5 := Lib.hid (HT.out.q BB mm)
                    clear BB mm
                    go_wp2_with fail
                    refine (stoNodes_any Q P (ns.map (pickT Ts)) w5 HT5.out.ss.sto HT5.out.to (by rw [List.length_map]; omega) HAL.out).mono ?_
                    rw [hND.out]
                    rintro e w6 ⟨rfl, BB, mm⟩
                    have HT6 := Lib.hid (HT5.out.q BB mm)
                    clear BB mm
                    go_wp2_with fail
                    refine (nodes36_any (β := β) (.slice la ls.length lc) (.slice va ns.length vc) ns (ns.map (pickT Ts)) w6 (by omega) (HP.out.ext HT6.out.ss.ext) HT6.out.vers.row HTD.out (by omega)).mono ?_
                    rintro e w7 ⟨rfl, hS⟩
                    have HT7 := Lib.hid (HT6.out.ext hS)
                    clear hS
                    go_wp2_with fail
                    refine (nothing36_any w7).mono ?_
                    rintro e w8 ⟨rfl, hS⟩
                    have HT8 := Lib.hid (HT7.out.ext hS)
                    clear hS
                    go_wp2_with fail
                    refine (alive36_any w8).mono ?_
                    rintro e w9 ⟨rfl, hS⟩
                    have HX := Lib.hid (HT8.out.ss.ext.trans hS)
                    clear hS
                    go_wp2
                    go_ret
                    first | exact Ret.mk HX.out | exact ⟨ret_bool (by simp; omega), HX.out⟩
                  · have hvn : verOf (ns.map (pickT Ts)) n = none := by
                      unfold verOf
                      split
                      · exact List.getElem?_eq_none (by rw [List.length_map]; omega)
                      · rfl
                    have HG := Lib.hid (fun W (h : Sto Q W P (ns.map (pickT Ts))) => stoGet_any Q P (ns.map (pickT Ts)) n W h)
                    rw [hvn] at HG
                    have HF := Lib.hid (fun W (h : Sto Q W P (ns.map (pickT Ts))) => stoFreshNo_any Q P (ns.map (pickT Ts)) n W h hvn)
                    have hn' : ¬ 0 ≤ n ∨ (0 ≤ n ∧ ¬ n < ns.length) := by omega
                    clear hn hvn
                    rcases hn' with hn | ⟨hn1, hn⟩
                    · go_wp2_with fail
                      refine (HG.out _ HT.out.ss.sto).mono ?_
                      rintro e w4 ⟨rfl, BB, mm⟩
                      have HT4 := Lib.hid (HT.out.q BB mm)
                      clear BB mm
                      go_wp2_with fail
                      refine (HF.out _ HT4.out.ss.sto).mono ?_
                      rintro e w5 ⟨rfl, BB, mm⟩
                      have HT5 := Lib.hid (HT4.out.q BB mm)
                      clear BB mm
                      go_wp2_with fail
                      refine (stoNodes_any Q P (ns.map (pickT Ts)) w5 HT5.out.ss.sto HT5.out.to (by rw [List.length_map]; omega) HAL.out).mono ?_
                      rw [hND.out]
                      rintro e w6 ⟨rfl, BB, mm⟩
                      have HT6 := Lib.hid (HT5.out.q BB mm)
                      clear BB mm
                      go_wp2_with fail
                      refine (nodes36_any (β := β) (.slice la ls.length lc) (.slice va ns.length vc) ns (ns.map (pickT Ts)) w6 (by omega) (HP.out.ext HT6.out.ss.ext) HT6.out.vers.row HTD.out (by omega)).mono ?_
                      rintro e w7 ⟨rfl, hS⟩
                      have HT7 := Lib.hid (HT6.out.ext hS)
                      clear hS
                      go_wp2_with fail
                      refine (nothing36_any w7).mono ?_
                      rintro e w8 ⟨rfl, hS⟩
                      have HT8 := Lib.hid (HT7.out.ext hS)
                      clear hS
                      go_wp2_with fail
                      refine (alive36_any w8).mono ?_
                      rintro e w9 ⟨rfl, hS⟩
                      have HX := Lib.hid (HT8.out.ss.ext.trans hS)
                      clear hS
                      go_wp2
                      go_ret
                      first | exact Ret.mk HX.out | exact ⟨ret_bool (by simp; omega), HX.out⟩
                    · go_wp2_with fail
                      refine (HG.out _ HT.out.ss.sto).mono ?_
                      rintro e w4 ⟨rfl, BB, mm⟩
                      have HT4 := Lib.hid (HT.out.q BB mm)
                      clear BB mm
                      go_wp2_with fail
                      refine (HF.out _ HT4.out.ss.sto).mono ?_
                      rintro e w5 ⟨rfl, BB, mm⟩
                      have HT5 := Lib.hid (HT4.out.q BB mm)
                      clear BB mm
                      go_wp2_with fail
                      refine (stoNodes_any Q P (ns.map (pickT Ts)) w5 HT5.out.ss.sto HT5.out.to (by rw [List.length_map]; omega) HAL.out).mono ?_
                      rw [hND.out]
                      rintro e w6 ⟨rfl, BB, mm⟩
                      have HT6 := Lib.hid (HT5.out.q BB mm)
                      clear BB mm
                      go_wp2_with fail
                      refine (nodes36_any (β := β) (.slice la ls.length lc) (.slice va ns.length vc) ns (ns.map (pickT Ts)) w6 (by omega) (HP.out.ext HT6.out.ss.ext) HT6.out.vers.row HTD.out (by omega)).mono ?_
                      rintro e w7 ⟨rfl, hS⟩
                      have HT7 := Lib.hid (HT6.out.ext hS)
                      clear hS
                      go_wp2_with fail
                      refine (nothing36_any w7).mono ?_
                      rintro e w8 ⟨rfl, hS⟩
                      have HT8 := Lib.hid (HT7.out.ext hS)
                      clear hS
                      go_wp2_with fail
                      refine (alive36_any w8).mono ?_
                      rintro e w9 ⟨rfl, hS⟩
                      have HX := Lib.hid (HT8.out.ss.ext.trans hS)
                      clear hS
                      go_wp2
                      go_ret
                      first | exact Ret.mk HX.out | exact ⟨ret_bool (by simp; omega), HX.out⟩
        · clear hP hycell hy256
          go_enter Tryz.func4, Tryz.ntmps4
          go_wp2_with fail
          refine (HM.out).mono ?_
          rintro e w1 ⟨rfl, hS⟩
          replace hx := hx.trans hS
          clear hS
          go_wp2_with fail
          refine (alive36_any _).mono ?_
          rintro e w2 ⟨rfl, hS⟩
          replace hx := hx.trans hS
          clear hS
          go_wp2
          go_ret
          exact Ret.mk hx
  · clear hP hycell hy256
    go_enter Tryz.func4, Tryz.ntmps4
    go_wp2_with fail
    refine (alive36_any _).mono ?_
    rintro e w2 ⟨rfl, hS⟩
    replace hx := hx.trans hS
    clear hS
    go_wp2
    go_ret
    exact Ret.mk hx
theorem storeTells_row (a0 : Option Addr) (len0 cap0 : Nat) (z0 : List (Int × Int)) (a1 : Option Addr) (len1 cap1 : Nat) (z1 : List Nat) (st n : Int) (w : World) (w0 : PRow w (.slice a0 len0 cap0) z0) (w1 : YRow w (.slice a1 len1 cap1) z1) (hs : (Lit.int .u8 st).wf = true) (_hn : (Lit.int .i64 n).wf = true) :
    Calls Tryz.prog 4 #[.slice a0 len0 cap0, .slice a1 len1 cap1, .int .u8 st, .int .i64 n] w (Ret (.bool true) w) := by
  obtain ⟨m, rfl, hm⟩ := u8_nat hs
  exact storeTells_walk z0 _ z1 _ m n w w0 w1 hm
end Go.Proofs.YtjiiokhjajfhjaaGreat
