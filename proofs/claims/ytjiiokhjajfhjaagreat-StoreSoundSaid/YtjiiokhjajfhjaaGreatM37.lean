/- store: versions, New, Scheme, Len, Get. store: Fresh, Nodes, Sound. -/
import Derived.Test.YtjiiokhjajfhjaaGreatM36
namespace Go.Proofs.YtjiiokhjajfhjaaGreat
open Go Go.RowKit

theorem stoDo_any (Q pl P : Nat) (Vs : List Tr) (w : World) (hpl : pl ≠ Q) (hp : w.cell? ⟨pl, 0, none⟩ = some (.pointer (some ⟨Q, 0, none⟩))) (h : Sto Q w P Vs) :
    Calls Tryz.prog 57 #[.pointer (some ⟨Q, 1, none⟩), .func (.func 58) #[] #[.pointer (some ⟨pl, 0, none⟩)]] w
      (fun e w' => e = .returned (.tuple #[]) ∧ Bt [Q] w w' ∧ Made Q w' P Vs) := by
  rcases h with ⟨h, rfl⟩ | h
  · have HS := Lib.hid h
    have HP := Lib.hid hp
    clear h hp
    go_enter Tryz.func57, Tryz.ntmps57
    go_wp2_with fail
    refine (boolLoad_any ⟨Q, 1, none⟩ 0 w (cell_of HS.out 1)).mono ?_
    rintro e w1' ⟨rfl, rfl⟩
    go_wp2_with fail
    refine (stoSlow_any Q pl P _ hpl HP.out HS.out).mono ?_
    rintro e w2 ⟨rfl, B2, h2⟩
    have H2 := Lib.hid h2.made
    clear h2
    go_wp2
    go_end0
    exact ⟨rfl, B2, H2.out⟩
  · have HM := Lib.hid h
    obtain ⟨RB, G, cap, h, -⟩ := h
    have HS := Lib.hid h
    clear h hp
    go_enter Tryz.func57, Tryz.ntmps57
    go_wp2_with fail
    refine (boolLoad_any ⟨Q, 1, none⟩ 1 w (cell_of HS.out 1)).mono ?_
    rintro e w1' ⟨rfl, rfl⟩
    go_wp2
    go_end0
    exact ⟨rfl, Bt.refl _ _, HM.out⟩
/-- the row of versions, handed back. -/
def RowsV (Q P : Nat) (Vs : List Tr) (w : World) (e : Ending) (w' : World) : Prop := ∃ G cap, e = .returned (.slice (some ⟨G, 0, none⟩) Vs.length cap) ∧ Bt [Q] w w' ∧ Made Q w' P Vs ∧ Vs.length ≤ cap ∧ Vers w' G Vs
set_option maxHeartbeats 1000000 in
theorem versions_any (Q P : Nat) (Vs : List Tr) (w : World) (h : Sto Q w P Vs) :
    Calls Tryz.prog 37 #[.pointer (some ⟨Q, 0, none⟩)] w (RowsV Q P Vs w) := by
  have HS := Lib.hid h
  have hlt := h.lt
  clear h
  have hmf : ∀ (fn : Fn) (first cap : Array Value) (w : World), (Instr.makeFunc fn first cap).run Tryz.prog w = .ok (.func fn first cap) w := fun _ _ _ _ => rfl
  go_enter Tryz.func37, Tryz.ntmps37
  go_wp2_with fail
  have hbox := alloc_at w (.cells #[.pointer (some ⟨Q, 0, none⟩)] 25) _ rfl
  have hE := (Ext.refl w).alloc (.cells #[.pointer (some ⟨Q, 0, none⟩)] 25)
  generalize w.alloc (.cells #[.pointer (some ⟨Q, 0, none⟩)] 25) = w1 at *
  refine (stoDo_any Q w.heap.size P Vs w1 (by omega) (cell_of hbox 0) (HS.out.ext hE)).mono ?_
  rintro e w2 ⟨rfl, B2, m2⟩
  have hq := cell_of (B2.get (by simp; omega) hbox) 0
  simp at hq
  have HB := Lib.hid ((Bt.ext hE).trans B2)
  have HM := Lib.hid m2
  obtain ⟨RB, G, cap, s2, r2, c2, g2, -⟩ := m2
  have HG := Lib.hid g2
  have hcr := cell_of r2 0
  simp at hcr
  have hL := Lib.hid (ptrLoad_any Q (some ⟨RB, 0, none⟩) w2 (cell_of s2 4) (fun a ha => by cases ha; exact ⟨RB, _, rfl, r2⟩))
  clear hbox hE B2 s2 r2 g2
  go_wp2_with fail
  refine hL.out.mono ?_
  rintro e w3 ⟨rfl, rfl⟩
  go_wp2
  go_ret
  exact ⟨G, cap, rfl, HB.out, HM.out, c2, HG.out⟩
theorem nilVersions_any (w : World) : Calls Tryz.prog 37 #[.pointer none] w (Ret (.slice none 0 0) w) := by
  go_enter Tryz.func37, Tryz.ntmps37
  go_wp2
  go_ret
  exact Ret.mk ((Ext.refl w).alloc _)
theorem stoLen_any (Q P : Nat) (Vs : List Tr) (w : World) (h : Sto Q w P Vs) :
    Calls Tryz.prog 12 #[.pointer (some ⟨Q, 0, none⟩)] w (fun e w' => e = .returned (.int .i64 Vs.length) ∧ Bt [Q] w w' ∧ Made Q w' P Vs) := by
  have HS := Lib.hid h
  clear h
  go_enter Tryz.func12, Tryz.ntmps12
  go_wp2_with fail
  refine (versions_any Q P Vs w HS.out).mono ?_
  rintro e w1 ⟨G, cap, rfl, B1, m1, -, -⟩
  have HM := Lib.hid m1
  clear m1
  go_wp2
  go_ret
  exact ⟨rfl, B1, HM.out⟩
/-- the tree of a version's number. -/
def verOf (Vs : List Tr) (n : Int) : Option Tr := if 0 ≤ n then Vs[n.toNat]? else none
set_option maxHeartbeats 1000000 in
theorem stoGet_any (Q P : Nat) (Vs : List Tr) (n : Int) (w : World) (h : Sto Q w P Vs) :
    Calls Tryz.prog 15 #[.pointer (some ⟨Q, 0, none⟩), .int .i64 n] w
      (fun e w' => e = .returned (match verOf Vs n with | some T => .tuple #[.pointer T.ptr, .bool true] | none => .tuple #[.pointer none, .bool false]) ∧ Bt [Q] w w' ∧ Made Q w' P Vs) := by
  have hund : undef = Value.tuple #[] := rfl
  have HS := Lib.hid h
  clear h
  by_cases h0 : n < 0
  · rw [show verOf Vs n = none by unfold verOf; rw [if_neg (by omega)]]
    go_enter Tryz.func15, Tryz.ntmps15
    go_wp2_with fail
    refine (versions_any Q P Vs w HS.out).mono ?_
    rintro e w1 ⟨G, cap, rfl, B1, m1, -, -⟩
    have HM := Lib.hid m1
    clear m1
    go_wp2
    go_ret2
    exact ⟨rfl, B1, HM.out⟩
  · obtain ⟨k, rfl⟩ := Int.eq_ofNat_of_zero_le (show 0 ≤ n by omega)
    by_cases hk : k < Vs.length
    · obtain ⟨T, hT⟩ : ∃ T, Vs[k]? = some T := ⟨_, List.getElem?_eq_getElem hk⟩
      rw [show verOf Vs ((k : Nat) : Int) = some T by unfold verOf; rw [if_pos (by omega), Int.toNat_natCast, hT]]
      simp only
      go_enter Tryz.func15, Tryz.ntmps15
      go_wp2_with fail
      refine (versions_any Q P Vs w HS.out).mono ?_
      rintro e w1 ⟨G, cap, rfl, B1, m1, hcap, g1⟩
      have HM := Lib.hid m1
      have hc := g1.cell hT
      have hk' : (k : Int) < (Vs.length : Int) := by omega
      clear m1 hT g1
      go_wp2
      go_ret2
      exact ⟨rfl, B1, HM.out⟩
    · rw [show verOf Vs ((k : Nat) : Int) = none by unfold verOf; rw [if_pos (by omega), Int.toNat_natCast, List.getElem?_eq_none (by omega)]]
      simp only
      have hk' : (Vs.length : Int) ≤ (k : Int) := by omega
      clear hk h0
      go_enter Tryz.func15, Tryz.ntmps15
      go_wp2_with fail
      refine (versions_any Q P Vs w HS.out).mono ?_
      rintro e w1 ⟨G, cap, rfl, B1, m1, -, -⟩
      have HM := Lib.hid m1
      clear m1
      go_wp2
      go_ret2
      exact ⟨rfl, B1, HM.out⟩
theorem stoNew_any (P : Nat) (w : World) : Calls Tryz.prog 35 #[.pointer (some ⟨P, 0, none⟩)] w (fun e w' => ∃ Q, e = .returned (.tuple #[.pointer (some ⟨Q, 0, none⟩), .int .i64 0]) ∧ w.heap.size ≤ Q ∧ StoAt Q w' P 0 0 none ∧ Ext w w') := by
  go_enter Tryz.func35, Tryz.ntmps35
  go_wp2
  refine bodyPost_ret (v := .tuple #[.pointer (some ⟨w.heap.size, 0, none⟩), .int .i64 0]) (by simp [results, Tryz.results35, go_sem]) rfl ⟨w.heap.size, rfl, Nat.le_refl _, alloc_at w _ _ rfl, (Ext.refl w).alloc _⟩
theorem stoNewNil_any (w : World) : Calls Tryz.prog 35 #[.pointer none] w (Ret (.tuple #[.pointer none, .int .i64 2]) w) := by
  go_enter Tryz.func35, Tryz.ntmps35
  go_wp2
  exact bodyPost_ret (v := .tuple #[.pointer none, .int .i64 2]) (by simp [results, Tryz.results35, go_sem]) rfl (Ret.mk (Ext.refl _))
theorem stoScheme_any (Q P : Nat) (Vs : List Tr) (w : World) (h : Sto Q w P Vs) : Calls Tryz.prog 29 #[.pointer (some ⟨Q, 0, none⟩)] w (Ret (.pointer (some ⟨P, 0, none⟩)) w) := by
  have hc : w.cell? ⟨Q, 0, none⟩ = some (.pointer (some ⟨P, 0, none⟩)) := by
    rcases h with h | ⟨_, _, _, h, -⟩
    · exact cell_of h.1 0
    · exact cell_of h 0
  clear h
  go_enter Tryz.func29, Tryz.ntmps29
  go_wp2
  go_ret
  exact Ret.mk (Ext.refl _)
end Go.Proofs.YtjiiokhjajfhjaaGreat
namespace Go.Proofs.YtjiiokhjajfhjaaGreat
open Go Go.RowKit

theorem Vers.take {w : World} {G : Nat} {Vs : List Tr} (h : Vers w G Vs) (k : Nat) : ∀ i T, (Vs.take k)[i]? = some T → w.cell? ⟨G, 0 + i, none⟩ = some (.pointer T.ptr) := fun i T hi => by
  rw [Nat.zero_add]
  refine h.cell ?_
  rw [List.getElem?_take] at hi
  split at hi
  · exact hi
  · cases hi
set_option maxHeartbeats 1000000 in
theorem stoFresh_any (Q P : Nat) (Vs : List Tr) (k : Nat) (T : Tr) (w : World) (h : Sto Q w P Vs) (hT : Vs[k]? = some T) (hI : ∀ T ∈ Vs, InH w T) (hl : Vs.length ≤ 5000) (hb : (allT [] (Vs.take (k + 1))).length ≤ 9999999) :
    Calls Tryz.prog 13 #[.pointer (some ⟨Q, 0, none⟩), .int .i64 k] w
      (fun e w' => e = .returned (.int .i64 (freshN (Vs.take k) T : Nat)) ∧ Bt [Q] w w' ∧ Made Q w' P Vs) := by
  have HS := Lib.hid h
  have hk := (List.getElem?_eq_some_iff.1 hT).1
  have hG := stoGet_any Q P Vs k w h
  rw [show verOf Vs ((k : Nat) : Int) = some T by unfold verOf; rw [if_pos (by omega), Int.toNat_natCast, hT]] at hG
  have HG := Lib.hid hG
  have HI := Lib.hid hI
  have HT := Lib.hid hT
  have hb' : (addT (allT [] (Vs.take k)) T).length ≤ 9999999 := by
    rw [List.take_add_one, hT, allT_append] at hb
    exact hb
  have hlen : (Vs.take k).length = k := by rw [List.length_take]; omega
  have HB := Lib.hid hb'
  obtain ⟨F, hF⟩ : ∃ F, F = freshN (Vs.take k) T := ⟨_, rfl⟩
  rw [← hF]
  have HF := Lib.hid hF
  clear h hG hI hT hb hb' hF
  go_enter Tryz.func13, Tryz.ntmps13
  go_wp2_with fail
  refine HG.out.mono ?_
  rintro e w1 ⟨rfl, B1, m1⟩
  have M1 := Lib.hid m1
  clear m1
  go_wp2_with fail
  refine (versions_any Q P Vs w1 (.inr M1.out)).mono ?_
  rintro e w2 ⟨G, cap, rfl, B2, m2, hcap, g2⟩
  have M2 := Lib.hid m2
  have B12 := B1.trans B2
  have HN := Lib.hid (shareNewN_any T (Vs.take k) (some ⟨G, 0, none⟩) G 0 cap w2 (fun _ => rfl) (g2.take k) (fun U hU => HS.out.inh B12 (HI.out U (List.mem_of_mem_take hU))) (HS.out.inh B12 (HI.out T (List.mem_of_getElem? HT.out))) (by omega) (by omega) HB.out)
  rw [hlen, ← HF.out] at HN
  clear m2 g2
  go_wp2_with fail
  refine HN.out.mono ?_
  rintro e w3 ⟨rfl, h3⟩
  go_wp2
  go_ret
  exact ⟨rfl, B12.trans (Bt.ext h3), M2.out.ext h3⟩
theorem stoFreshNo_any (Q P : Nat) (Vs : List Tr) (n : Int) (w : World) (h : Sto Q w P Vs) (hn : verOf Vs n = none) :
    Calls Tryz.prog 13 #[.pointer (some ⟨Q, 0, none⟩), .int .i64 n] w
      (fun e w' => e = .returned (.int .i64 0) ∧ Bt [Q] w w' ∧ Made Q w' P Vs) := by
  have hG := stoGet_any Q P Vs n w h
  rw [hn] at hG
  have HG := Lib.hid hG
  clear h hG hn
  go_enter Tryz.func13, Tryz.ntmps13
  go_wp2_with fail
  refine HG.out.mono ?_
  rintro e w1 ⟨rfl, B1, m1⟩
  have M1 := Lib.hid m1
  clear m1
  go_wp2
  go_ret
  exact ⟨rfl, B1, M1.out⟩
theorem allT_take_le {Vs : List Tr} (k : Nat) : (allT [] (Vs.take k)).length ≤ (allT [] Vs).length := by
  have : ∀ (bs : List Nat) (Ts : List Tr), bs.length ≤ (allT bs Ts).length := by
    intro bs Ts
    induction Ts generalizing bs with
    | nil => exact Nat.le_refl _
    | cons T Ts ih => exact Nat.le_trans addT_len (ih (addT bs T))
  conv => rhs; rw [← List.take_append_drop k Vs, allT_append]
  exact this _ _
set_option maxHeartbeats 1000000 in
theorem stoNodes_any (Q P : Nat) (Vs : List Tr) (w : World) (h : Sto Q w P Vs) (hI : ∀ T ∈ Vs, InH w T) (hl : Vs.length ≤ 5000) (hb : (allT [] Vs).length ≤ 9999999) :
    Calls Tryz.prog 14 #[.pointer (some ⟨Q, 0, none⟩)] w
      (fun e w' => e = .returned (.int .i64 ((allT [] Vs).length : Nat)) ∧ Bt [Q] w w' ∧ Made Q w' P Vs) := by
  have HS := Lib.hid h
  have HI := Lib.hid hI
  have HB := Lib.hid hb
  clear h hI hb
  go_enter Tryz.func14, Tryz.ntmps14
  go_wp2_with fail
  refine (versions_any Q P Vs w HS.out).mono ?_
  rintro e w1 ⟨G, cap, rfl, B1, m1, hcap, -⟩
  have M1 := Lib.hid m1
  have HB1 := Lib.hid B1
  clear m1 B1
  go_wp2
  go_loopw [2, 7] (fun s i W => (Bt [Q] w W ∧ Made Q W P Vs) ∧ ∃ k : Nat, k ≤ Vs.length ∧ i = .int .i64 k ∧ s = .int .i64 ((allT [] (Vs.take k)).length : Nat)) (fun _ i _ => Vs.length - (intOf i).toNat)
  case atStart => exact ⟨⟨HB1.out, M1.out⟩, 0, Nat.zero_le _, rfl, rfl⟩
  case round =>
    obtain ⟨⟨hX, hM⟩, k, hk, rfl, rfl⟩ := hrel
    have HM := Lib.hid hM
    clear hM
    by_cases hlt : k < Vs.length
    · obtain ⟨T, hT⟩ : ∃ T, Vs[k]? = some T := ⟨_, List.getElem?_eq_getElem hlt⟩
      have hle := allT_take_le (Vs := Vs) (k + 1)
      have hF := stoFresh_any Q P Vs k T wr (.inr HM.out) hT (fun U hU => HS.out.inh hX (HI.out U hU)) hl (Nat.le_trans hle HB.out)
      have hadd : (allT [] (Vs.take k)).length + freshN (Vs.take k) T = (allT [] (Vs.take (k + 1))).length := by
        have h1 := addT_len (T := T) (bs := allT [] (Vs.take k))
        rw [List.take_add_one, hT, allT_append]
        show _ = (addT (allT [] (Vs.take k)) T).length
        unfold freshN
        omega
      have HF := Lib.hid hF
      have HA := Lib.hid hadd
      have hle2 := Nat.le_trans hle HB.out
      rw [← hadd] at hle2
      clear hF hadd hle hT
      generalize freshN (Vs.take k) T = F at *
      generalize (allT [] (Vs.take k)).length = S at *
      go_wp2_with fail
      refine HF.out.mono ?_
      rintro e w2 ⟨rfl, B2, m2⟩
      have HX := Lib.hid (And.intro (hX.trans B2) m2)
      clear hX B2 m2
      go_wp2
      go_roundw
      case rel => exact ⟨HX.out, k + 1, by omega, by go_num, by rw [← HA.out]; go_num⟩
      case measure => simp [intOf]; omega
    · have hk' : k = Vs.length := by omega
      have HK := Lib.hid hk'
      clear hk'
      go_wp2
      go_ret
      exact ⟨ret_int (by rw [HK.out, List.take_length]), hX, HM.out⟩
end Go.Proofs.YtjiiokhjajfhjaaGreat
