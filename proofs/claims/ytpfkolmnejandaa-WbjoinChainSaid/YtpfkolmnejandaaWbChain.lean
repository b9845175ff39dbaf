/- The walk of joinerylaw19.WbjoinChain. -/
import Derived.Test.YtpfkolmnejandaaWbJoins
import Derived.Test.YtpfkolmnejandaaAvlChain
namespace Go.Proofs.Ytpfkolmnejandaa
open Go Go.RowKit

theorem wjoin_nil_right {n : Nat} {l T : Tr} {k v : Int} (hok : WJoinOk n l .nil k v T) : WbH T ∧ T.count = l.count + 1 ∧ T.sum = wrap64 (l.sum + v) := by
  refine ⟨hok.wb, by rw [wjoin_count hok]; rfl, ?_⟩
  rw [Tr.sum_kvs, hok.kvs, Tr.sum_kvs, wrap_add]
  congr 1
  simp [kvSum, Tr.kvs]
theorem wjoin_nil_left {n : Nat} {l T : Tr} {k v : Int} (hok : WJoinOk n .nil l k v T) : WbH T ∧ T.count = l.count + 1 ∧ T.sum = wrap64 (l.sum + v) := by
  refine ⟨hok.wb, by rw [wjoin_count hok]; simp [Tr.count, Tr.pre]; omega, ?_⟩
  rw [Tr.sum_kvs, hok.kvs, Tr.sum_kvs, wrap_add]
  congr 1
  simp [kvSum, Tr.kvs]; omega
theorem wbMayH_any (w : World) (T : Tr) (hT : InH w T) (h : WbH T) (hc : T.count ≤ 4000) : Calls Try.prog 16 #[.pointer T.ptr] w (Ret (.bool true) w) := by
  have e := h.may (by omega)
  rw [← e]
  exact wbMay_any w T hT hc
set_option maxRecDepth 100000 in
set_option maxHeartbeats 4000000 in
theorem wbjoinChain_walk (a0 : Option Addr) (len0 cap0 : Nat) (z0 : List BeadL) (a1 : Option Addr) (len1 cap1 : Nat) (z1 : List (Int × Int)) (bk : Bool) (w : World) (w0 : IsBeads w (.slice a0 len0 cap0) z0) (w1 : PRow w (.slice a1 len1 cap1) z1) :
    Calls Try.prog 4 #[.slice a0 len0 cap0, .slice a1 len1 cap1, .bool bk] w (Ret (.bool true) w) := by
  have hfn : ∀ f, Fence.wide.fn f := fun _ => trivial
  have HB0 := Lib.hid w0.1
  have W0 := Lib.hid w0.2
  have HLong := Lib.hid (long19_any w _ (.slice none 0 0) z0 [] w0.1 (.inl ⟨rfl, _, _, rfl⟩))
  have HP := Lib.hid w1
  have HLEN := Lib.hid (show z1.length = len1 by
    obtain ⟨a, c, h⟩ := prow_slice w1
    injection h with _ h _
    exact h.symm)
  clear w0 w1
  go_enter Try.func4, Try.ntmps4
  obtain ⟨m⟩ : Nonempty Nat := ⟨0⟩
  refine (wpIn_wide (n := m)).1 ?_
  gi_wp2_with fail
  refine ⟨wide_room _, (callsIn_wide.2 HLong.out).mono ?_⟩
  rintro e w1 ⟨b, rfl, hS, h01⟩
  cases b with
  | true =>
    clear hS
    gi_wp2_with fail
    refine ⟨wide_room _, (callsIn_wide.2 (alive19_any _)).mono ?_⟩
    rintro e w2 ⟨rfl, h2⟩
    gi_wp2
    go_ret
    exact Ret.mk (h01.trans h2)
  | false =>
    by_cases hbig : 200 < len1
    · have hbig' : (200 : Int) < (len1 : Int) := by omega
      clear hS
      gi_wp2_with fail
      refine ⟨wide_room _, (callsIn_wide.2 (alive19_any _)).mono ?_⟩
      rintro e w2 ⟨rfl, h2⟩
      gi_wp2
      go_ret
      exact Ret.mk (h01.trans h2)
    · have hbig' : ¬ (200 : Int) < (len1 : Int) := by omega
      obtain ⟨⟨t0, g0⟩, -⟩ := hS rfl
      have G0 := Lib.hid g0
      obtain ⟨rfl, l0, -⟩ := g0
      have L0 := Lib.hid l0
      clear hS l0
      gi_wp2_with fail
      refine ⟨wide_room _, (callsIn_wide.2 (beadsMake_any t0 w1 _ (HB0.out.ext h01) L0.out)).mono ?_⟩
      rintro e w2 ⟨A, rfl, hA, fA, h2⟩
      have h02 := h01.trans h2
      have FA := Lib.hid (goodW_tree G0.out fA)
      clear fA
      gi_wp2_with fail
      refine ⟨wide_room _, (callsIn_wide.2 (sum_any w2 A hA)).mono ?_⟩
      rintro e w3 ⟨rfl, h3⟩
      have h03 := h02.trans h3
      have HA3 := Lib.hid (hA.ext h3)
      clear h01 h2 h02 h3 hA
      gi_wp2_with fail
      gi_loopw [7, 8, 9] (fun t s i W => Ext w W ∧ ∃ (k : Nat) (T : Tr), k ≤ len1 ∧ i = .int .i64 k ∧ t = .pointer T.ptr ∧ s = .int .i64 T.sum ∧ InH W T ∧ Hid (WbH T) ∧ T.count ≤ 400 + k) (fun _ _ i _ => len1 - (intOf i).toNat)
      case atStart =>
        obtain ⟨f1, f3⟩ := FA.out
        exact ⟨h03, 0, A, by omega, rfl, rfl, rfl, HA3.out, Lib.hid f1, by omega⟩
      case round =>
        obtain ⟨hE, k, T, hk, rfl, rfl, rfl, hT, HA, hc⟩ := hrel
        clear h03
        by_cases hlt : k < len1
        · rcases HP.out with ⟨e0, _⟩ | ⟨pb, po, pc, hsl, _, hcap, hrow⟩
          · have := HLEN.out; rw [e0] at this; simp at this; omega
          · injection hsl with q1 q2 q3
            subst q1 q3
            clear q2
            obtain ⟨z, hz⟩ : ∃ z, z1[k]? = some z := ⟨_, List.getElem?_eq_getElem (by rw [HLEN.out]; exact hlt)⟩
            obtain ⟨zk, zv⟩ := z
            have HC1 := Lib.hid (show w.cell? ⟨pb, po + k * 2 + 1, none⟩ = some (.int .i64 zv) from pair_cell hrow hz (j := 1) rfl)
            have HC0 := Lib.hid (show w.cell? ⟨pb, po + k * 2, none⟩ = some (.int .i64 zk) from pair_cell hrow hz (j := 0) rfl)
            have hki : (k : Int) < (len1 : Int) := by omega
            clear hz hrow hcap
            cases bk with
            | true =>
              gi_wp2_with fail
              have hx := Ext.drew wr
              have hc0 := cell_all (cell_keep hE HC0.out)
              have hc1 := cell_all (cell_keep hE HC1.out)
              refine wpIn_region_G (fun j => !(List.contains (α := Nat) [11] j)) (by kernel_rfl) ?_
              refine batchG hfn (fuel := 2) [0, 1, 2, 3, 4, 5, 6, 7, 8, 9, 10] (by kernel_rfl) rfl ?_
              repeat (go_big_quiet_step ((fail)))
              refine wpQuiet_nil ?_
              clear hc0 hc1
              refine wpAnyG_one (j := 11) (by kernel_rfl) rfl ?_
              gi_wp2_with fail
              refine ⟨wide_room _, (callsIn_wide.2 (wbJoin_any wr.heap.size wr.drew .nil T zk zv hx.size trivial (hT.ext hx) trivial HA.out (by have e : Tr.count .nil = 0 := rfl; omega) rfl (news_zero (Nat.le_refl _) hT))).mono ?_⟩
              rintro e w2 ⟨U, rfl, hok, hU, h2'⟩
              have h12 := hx.trans h2'
              clear hx h2'
              gi_wp2_with fail
              refine onePost_any (by kernel_rfl) ?_
              refine batchG hfn (fuel := 0) [12] (by kernel_rfl) rfl ?_
              repeat (go_big_quiet_step ((fail)))
              refine wpQuiet_nil ?_
              refine wpAnyG_done (by kernel_rfl) ?_
              refine calmQ_normal ?_
              have hfac := wjoin_nil_left hok
              obtain ⟨u1, u3, u4⟩ := hfac
              have U1 := Lib.hid u1
              have U3 := Lib.hid u3
              have U4 := Lib.hid u4
              have US := Lib.hid (size_step u3)
              clear u1 u3 u4 hok
              have hT2 := hT.ext h12
              have hc1 := cell_keep (hE.trans h12) HC1.out
              (try simp at hc1)
              gi_wp2_with fail
              refine ⟨wide_room _, (callsIn_wide.2 (wbMayH_any w2 U hU U1.out (by have := U3.out; omega))).mono ?_⟩
              rintro e w3 ⟨rfl, h3⟩
              gi_wp2_with fail
              refine ⟨wide_room _, (callsIn_wide.2 (size_any w3 U (hU.ext h3))).mono ?_⟩
              rw [US.out]
              rintro e w4 ⟨rfl, h4⟩
              have h24 := h3.trans h4
              gi_wp2_with fail
              refine ⟨wide_room _, (callsIn_wide.2 (size_any w4 T (hT2.ext h24))).mono ?_⟩
              rintro e w5 ⟨rfl, h5⟩
              have h25 := h24.trans h5
              gi_wp2_with fail
              refine ⟨wide_room _, (callsIn_wide.2 (sum_any w5 U (hU.ext h25))).mono ?_⟩
              rw [U4.out]
              rintro e w6 ⟨rfl, h6⟩
              have h26 := h25.trans h6
              clear h3 h4 h24 h5 h25 h6 hc1
              gi_wp2
              go_roundw
              case rel => exact ⟨hE.trans (h12.trans h26), k + 1, U, by omega, by go_num, rfl, by rw [U4.out], hU.ext h26, U1, by have := U3.out; omega⟩
              case measure => simp [intOf]; omega
            | false =>
              gi_wp2_with fail
              have hx := Ext.drew wr
              have hc0 := cell_all (cell_keep hE HC0.out)
              have hc1 := cell_all (cell_keep hE HC1.out)
              refine wpIn_region_G (fun j => !(List.contains (α := Nat) [11] j)) (by kernel_rfl) ?_
              refine batchG hfn (fuel := 2) [0, 1, 2, 3, 4, 5, 6, 7, 8, 9, 10] (by kernel_rfl) rfl ?_
              repeat (go_big_quiet_step ((fail)))
              refine wpQuiet_nil ?_
              clear hc0 hc1
              refine wpAnyG_one (j := 11) (by kernel_rfl) rfl ?_
              gi_wp2_with fail
              refine ⟨wide_room _, (callsIn_wide.2 (wbJoin_any wr.heap.size wr.drew T .nil zk zv hx.size (hT.ext hx) trivial HA.out trivial (by have e : Tr.count .nil = 0 := rfl; omega) (news_zero (Nat.le_refl _) hT) rfl)).mono ?_⟩
              rintro e w2 ⟨U, rfl, hok, hU, h2'⟩
              have h12 := hx.trans h2'
              clear hx h2'
              gi_wp2_with fail
              refine onePost_any (by kernel_rfl) ?_
              refine batchG hfn (fuel := 0) [12] (by kernel_rfl) rfl ?_
              repeat (go_big_quiet_step ((fail)))
              refine wpQuiet_nil ?_
              refine wpAnyG_done (by kernel_rfl) ?_
              refine calmQ_normal ?_
              have hfac := wjoin_nil_right hok
              obtain ⟨u1, u3, u4⟩ := hfac
              have U1 := Lib.hid u1
              have U3 := Lib.hid u3
              have U4 := Lib.hid u4
              have US := Lib.hid (size_step u3)
              clear u1 u3 u4 hok
              have hT2 := hT.ext h12
              have hc1 := cell_keep (hE.trans h12) HC1.out
              (try simp at hc1)
              gi_wp2_with fail
              refine ⟨wide_room _, (callsIn_wide.2 (wbMayH_any w2 U hU U1.out (by have := U3.out; omega))).mono ?_⟩
              rintro e w3 ⟨rfl, h3⟩
              gi_wp2_with fail
              refine ⟨wide_room _, (callsIn_wide.2 (size_any w3 U (hU.ext h3))).mono ?_⟩
              rw [US.out]
              rintro e w4 ⟨rfl, h4⟩
              have h24 := h3.trans h4
              gi_wp2_with fail
              refine ⟨wide_room _, (callsIn_wide.2 (size_any w4 T (hT2.ext h24))).mono ?_⟩
              rintro e w5 ⟨rfl, h5⟩
              have h25 := h24.trans h5
              gi_wp2_with fail
              refine ⟨wide_room _, (callsIn_wide.2 (sum_any w5 U (hU.ext h25))).mono ?_⟩
              rw [U4.out]
              rintro e w6 ⟨rfl, h6⟩
              have h26 := h25.trans h6
              clear h3 h4 h24 h5 h25 h6 hc1
              gi_wp2
              go_roundw
              case rel => exact ⟨hE.trans (h12.trans h26), k + 1, U, by omega, by go_num, rfl, by rw [U4.out], hU.ext h26, U1, by have := U3.out; omega⟩
              case measure => simp [intOf]; omega
        · have hki : ¬ (k : Int) < (len1 : Int) := by omega
          gi_wp2_with fail
          refine ⟨wide_room _, (callsIn_wide.2 (alive19_any wr)).mono ?_⟩
          rintro e w2 ⟨rfl, h2⟩
          gi_wp2
          go_ret
          exact Ret.mk (hE.trans h2)
end Go.Proofs.Ytpfkolmnejandaa
