/- joineryref13.New, joineryref36, told by numbers; joinerylaw36.pick, some, sameInts; joineryref13.May. -/
import Derived.BigQuiet
import Derived.Test.YtjiiokhjajfhjaaGreatM30
import Derived.Test.YtjiiokhjajfhjaaGreatM48
namespace Go.Proofs.YtjiiokhjajfhjaaGreat
open Go Go.RowKit

theorem JOwn.same {B : Nat} {w w' : World} {v : Value} {zs : List Nat} (h : JOwn B w v zs) (e : Ext w w') : JOwn B w' v zs := h.ext e
theorem newK_nil (b : List Nat) : newK b [] = 0 := rfl
theorem newK_take {b a : List Nat} {k x : Nat} (h : a[k]? = some x) : newK b (a.take (k + 1)) = newK b (a.take k) + if x ∈ b then 0 else 1 := by
  unfold newK outOf'
  rw [List.take_add_one, h, List.filter_append, List.length_append]
  by_cases hx : x ∈ b <;> simp [hx]
theorem newK_le (b a : List Nat) : newK b a ≤ a.length := List.length_filter_le _ _
set_option maxHeartbeats 1000000 in
theorem new13_any {ls : List (Int × Int)} {β : Nat → Nat} (lv vv : Value) (n : Int) (T : Tr) (ns : List Int) (Ts : List Tr) (w : World) (hls : ls.length ≤ 1000) (hP : PRow w lv ls) (hV : ZRow w vv ns) (hT : Told ls β ns Ts) (hr : Rep ls β n T) (hl : ns.length ≤ 1000) :
    Calls Tryz.prog 44 #[lv, .int .i64 n, vv] w (Ret (.int .i64 (newK (allK [] Ts) (addK [] T) : Nat)) w) := by
  have HA := Lib.hid (of13_any lv w hls hP T n (.slice none 0 0) [] w hr (Ext.refl _) (JOwn.nil _ _) List.nodup_nil (fun x h => by cases h))
  have HB := Lib.hid (fun W (e : Ext w W) => old13_any lv vv ns Ts W hls (hP.ext e) (hV.ext e) hT hl)
  have hla := nodup_len (addK_nodup hr List.nodup_nil) (addK_lt hr (fun x h => by cases h))
  have hlb := allK_nodup (os := []) hT.rep List.nodup_nil (fun x h => by cases h)
  have hlb' := nodup_len hlb.1 hlb.2
  obtain ⟨la, lc, rfl⟩ := prow_slice hP
  obtain ⟨va, vc, rfl⟩ := hV.slice
  obtain ⟨A, hA⟩ : ∃ A, A = addK [] T := ⟨_, rfl⟩
  obtain ⟨B, hB⟩ : ∃ B, B = allK [] Ts := ⟨_, rfl⟩
  rw [← hA] at HA hla ⊢
  rw [← hB] at HB hlb' ⊢
  clear hP hV hT hr hlb hA hB
  go_enter Tryz.func44, Tryz.ntmps44
  go_wp2_with fail
  refine HA.out.mono ?_
  rintro e w1 ⟨v1, rfl, o1, h1⟩
  have O1 := Lib.hid o1
  obtain ⟨a1, c1, rfl⟩ := o1.slice
  clear o1
  go_wp2_with fail
  refine (HB.out w1 h1).mono ?_
  rintro e w2 ⟨v2, rfl, o2, h2⟩
  have O2 := Lib.hid o2.row
  obtain ⟨a2, c2, rfl⟩ := o2.slice
  replace O1 := Lib.hid (O1.out.ext h2).row
  have HX := Lib.hid (h1.trans h2)
  clear o2 h1 h2
  go_wp2
  go_loopw [9, 10] (fun s i W => ∃ k : Nat, k ≤ A.length ∧ i = .int .i64 k ∧ s = .int .i64 (newK B (A.take k) : Nat) ∧ Ext w2 W) (fun _ i _ => A.length - (intOf i).toNat)
  case atStart => exact ⟨0, Nat.zero_le _, rfl, rfl, Ext.refl _⟩
  case round =>
    obtain ⟨k, hk, rfl, rfl, hX⟩ := hrel
    have HXX := Lib.hid hX
    by_cases hlt : k < A.length
    · obtain ⟨x, hx⟩ : ∃ x, A[k]? = some x := ⟨_, List.getElem?_eq_getElem hlt⟩
      obtain ⟨b, o, rfl, -, hc⟩ := (O1.out.ext hX).cell (List.ne_nil_of_length_pos (by omega))
      have hcl := hc k x hx
      have hst := newK_take (b := B) hx
      have HI := Lib.hid (in13_any wr a2 c2 B x (O2.out.ext hX) (by omega))
      have hle := newK_le B (A.take k)
      rw [List.length_take] at hle
      clear hX hx hc
      by_cases hm : x ∈ B
      · rw [if_pos hm, Nat.add_zero] at hst
        rw [decide_eq_true hm] at HI
        have HST := Lib.hid hst
        clear hm hst
        generalize newK B (A.take k) = S at *
        go_wp2_with fail
        refine HI.out.mono ?_
        rintro e w3 ⟨rfl, h3⟩
        have H3 := Lib.hid (HXX.out.trans h3)
        clear h3
        go_wp2
        go_roundw
        case rel => exact ⟨k + 1, by omega, by go_num, by rw [HST.out]; rfl, H3.out⟩
        case measure => simp [intOf]; omega
      · rw [if_neg hm] at hst
        rw [decide_eq_false hm] at HI
        have HST := Lib.hid hst
        clear hm hst
        generalize newK B (A.take k) = S at *
        go_wp2_with fail
        refine HI.out.mono ?_
        rintro e w3 ⟨rfl, h3⟩
        have H3 := Lib.hid (HXX.out.trans h3)
        clear h3
        go_wp2
        go_roundw
        case rel => exact ⟨k + 1, by omega, by go_num, by rw [HST.out]; go_num, H3.out⟩
        case measure => simp [intOf]; omega
    · have hk' : k = A.length := by omega
      have HK := Lib.hid hk'
      clear hk' hX
      go_wp2
      go_ret
      exact ⟨ret_int (by rw [HK.out, List.take_length]), HX.out.trans HXX.out⟩
theorem ZRow.take {w : World} {a : Option Addr} {c : Nat} {ns : List Int} (h : ZRow w (.slice a ns.length c) ns) {k : Nat} (hk : k < ns.length) : ZRow w (.slice a k c) (ns.take k) := by
  obtain ⟨b, o, rfl, -, hc, hcl⟩ := h.cell (List.ne_nil_of_length_pos (by omega))
  by_cases h0 : k = 0
  · subst h0; exact .inl ⟨rfl, _, _, rfl⟩
  · have hl : (ns.take k).length = k := by rw [List.length_take]; omega
    refine .inr ⟨b, o, c, by rw [hl], by intro h; rw [h] at hl; simp at hl; omega, by rw [hl]; omega, fun i u hi => ?_⟩
    rw [List.getElem?_map, List.getElem?_take] at hi
    split at hi
    · cases hn : ns[i]? with
      | none => rw [hn] at hi; cases hi
      | some x =>
        rw [hn] at hi
        simp only [Option.map_some, Option.some.injEq] at hi
        subst hi
        exact hcl i x hn
    · cases hi
set_option maxHeartbeats 1000000 in
theorem fresh36_any {ls : List (Int × Int)} {β : Nat → Nat} (lv : Value) (va : Option Addr) (vc k : Nat) (T : Tr) (ns : List Int) (Ts : List Tr) (w : World) (hls : ls.length ≤ 1000) (hP : PRow w lv ls) (hV : ZRow w (.slice va ns.length vc) ns) (hT : Told ls β ns Ts) (hk : Ts[k]? = some T) (hl : ns.length ≤ 1000) :
    Calls Tryz.prog 22 #[lv, .slice va ns.length vc, .int .i64 k] w (Ret (.int .i64 (newK (allK [] (Ts.take k)) (addK [] T) : Nat)) w) := by
  have hkl : k < ns.length := by rw [hT.1]; exact (List.getElem?_eq_some_iff.1 hk).1
  obtain ⟨n, hn⟩ : ∃ n, ns[k]? = some n := ⟨_, List.getElem?_eq_getElem hkl⟩
  obtain ⟨T', h1, hr⟩ := hT.2 k n hn
  rw [hk] at h1
  cases h1
  have hlk : (ns.take k).length = k := by rw [List.length_take]; omega
  have HN := Lib.hid (fun W (e : Ext w W) => new13_any (β := β) lv (.slice va k vc) n T (ns.take k) (Ts.take k) W hls (hP.ext e) ((hV.ext e).take hkl) (hT.take k) hr (by omega))
  obtain ⟨b, o, rfl, -, hcap, hc⟩ := hV.cell (List.ne_nil_of_length_pos (by omega))
  have hcl := hc k n hn
  obtain ⟨la, lc, rfl⟩ := prow_slice hP
  clear hP hV hT hk hn hr hc hlk
  generalize newK (allK [] (Ts.take k)) (addK [] T) = F at *
  have hfn : ∀ f, Fence.wide.fn f := fun _ => trivial
  go_enter Tryz.func22, Tryz.ntmps22
  obtain ⟨m⟩ : Nonempty Nat := ⟨0⟩
  refine (wpIn_wide (n := m)).1 ?_
  gi_wp2_with fail
  have hca := cell_all hcl
  have hx := Ext.drew w
  refine wpIn_region_G (fun j => !(List.contains (α := Nat) [8] j)) (by kernel_rfl) ?_
  refine batchG hfn (fuel := 2) [0, 1, 2, 3, 4, 5, 6, 7] (by kernel_rfl) rfl ?_
  repeat (go_big_quiet_step ((fail)))
  refine wpQuiet_nil ?_
  clear hca hcl
  refine wpAnyG_one (j := 8) (by kernel_rfl) rfl ?_
  gi_wp2_with fail
  refine ⟨wide_room _, (callsIn_wide.2 (HN.out _ hx)).mono ?_⟩
  rintro e w2 ⟨rfl, h2⟩
  have HX := Lib.hid (hx.trans h2)
  clear hx h2
  gi_wp2_with fail
  refine onePost_any (by kernel_rfl) ?_
  refine batchG hfn (fuel := 0) [9] (by kernel_rfl) rfl ?_
  repeat (go_big_quiet_step ((fail)))
  refine wpQuiet_nil ?_
  refine wpAnyG_done (by kernel_rfl) ?_
  refine calmQ_normal ?_
  gi_wp2
  go_ret
  exact Ret.mk HX.out
theorem nodes36_any {ls : List (Int × Int)} {β : Nat → Nat} (lv vv : Value) (ns : List Int) (Ts : List Tr) (w : World) (hls : ls.length ≤ 1000) (hP : PRow w lv ls) (hV : ZRow w vv ns) (hT : Told ls β ns Ts) (hl : ns.length ≤ 1000) :
    Calls Tryz.prog 23 #[lv, vv] w (Ret (.int .i64 ((allK [] Ts).length : Nat)) w) := by
  have HO := Lib.hid (old13_any lv vv ns Ts w hls hP hV hT hl)
  obtain ⟨la, lc, rfl⟩ := prow_slice hP
  obtain ⟨va, vc, rfl⟩ := hV.slice
  clear hP hV hT
  go_enter Tryz.func23, Tryz.ntmps23
  go_wp2_with fail
  refine HO.out.mono ?_
  rintro e w1 ⟨v1, rfl, o1, h1⟩
  obtain ⟨a1, c1, rfl⟩ := o1.slice
  have HX := Lib.hid h1
  clear o1 h1
  go_wp2
  go_ret
  exact Ret.mk HX.out
theorem pick_any (a : Option Addr) (c : Nat) (Ts : List Tr) (n : Int) (w : World) (h : TRow w a c Ts) : Calls Tryz.prog 20 #[.slice a Ts.length c, .int .i64 n] w (Ret (.pointer (pickT Ts n).ptr) w) := by
  by_cases h0 : n < 0
  · rw [show pickT Ts n = .nil by unfold pickT; rw [if_neg (by omega)], Tr.ptr_nil]
    clear h
    go_enter Tryz.func20, Tryz.ntmps20
    go_wp2
    go_ret
    exact Ret.mk (Ext.refl _)
  · obtain ⟨k, rfl⟩ := Int.eq_ofNat_of_zero_le (show 0 ≤ n by omega)
    by_cases hk : k < Ts.length
    · obtain ⟨T, hT⟩ : ∃ T, Ts[k]? = some T := ⟨_, List.getElem?_eq_getElem hk⟩
      rw [show pickT Ts ((k : Nat) : Int) = T by unfold pickT; rw [if_pos (by omega), Int.toNat_natCast, hT]; rfl]
      rcases h with h | ⟨b, o, rfl, hc, hcells⟩
      · rw [h] at hk; exact absurd hk (Nat.not_lt_zero _)
      · have hcl := hcells k T hT
        have hk' : (k : Int) < (Ts.length : Int) := by omega
        clear hcells hT
        go_enter Tryz.func20, Tryz.ntmps20
        go_wp2
        go_ret
        exact Ret.mk (Ext.refl _)
    · rw [show pickT Ts ((k : Nat) : Int) = .nil by unfold pickT; rw [if_pos (by omega), Int.toNat_natCast, List.getElem?_eq_none (by omega)]; rfl, Tr.ptr_nil]
      have hk' : (Ts.length : Int) ≤ (k : Int) := by omega
      clear h hk h0
      go_enter Tryz.func20, Tryz.ntmps20
      go_wp2
      go_ret
      exact Ret.mk (Ext.refl _)
theorem sameInts_any (w : World) (p q : Value) (xs : List Int) (hp : ZRow w p xs) (hq : ZRow w q xs) (hl : xs.length ≤ 20000) : Calls Tryz.prog 21 #[p, q] w (Ret (.bool true) w) := by
  obtain ⟨a, c, rfl⟩ := hp.slice
  obtain ⟨a2, c2, rfl⟩ := hq.slice
  have H := Lib.hid hp
  have H2 := Lib.hid hq
  clear hp hq
  go_enter Tryz.func21, Tryz.ntmps21
  go_wp2
  go_loopw [5] (fun i W => Ext w W ∧ ∃ k : Nat, k ≤ xs.length ∧ i = .int .i64 k) (fun i _ => xs.length - (intOf i).toNat)
  case atStart => exact ⟨Ext.refl _, 0, Nat.zero_le _, rfl⟩
  case round =>
    obtain ⟨hX, k, hk, rfl⟩ := hrel
    by_cases hlt : k < xs.length
    · obtain ⟨z, hz⟩ : ∃ z, xs[k]? = some z := ⟨_, List.getElem?_eq_getElem hlt⟩
      obtain ⟨b, o, rfl, -, -, hc⟩ := (H.out.ext hX).cell (List.ne_nil_of_length_pos (by omega))
      obtain ⟨b2, o2, rfl, -, -, hc2⟩ := (H2.out.ext hX).cell (List.ne_nil_of_length_pos (by omega))
      have c0 := hc k z hz
      have d0 := hc2 k z hz
      clear hz hc hc2
      go_wp2_with fail
      go_region
      go_wp2
      go_roundw
      case rel => exact ⟨by first | exact hX | exact hX.trans (Ext.drew _), k + 1, by omega, by go_num⟩
      case measure => simp [intOf]; omega
    · go_wp2
      go_ret
      exact Ret.mk hX
/-- may nodes stand in a row? -/
def may13 : Nat → List (Int × Int) → Bool
  | _, [] => true
  | i, (a, b) :: ls => decide (a < i) && decide (b < i) && may13 (i + 1) ls
theorem may13_at : ∀ {ls : List (Int × Int)} {i : Nat}, may13 i ls = true → ∀ (k : Nat) (a b : Int), ls[k]? = some (a, b) → a < (i + k : Nat) ∧ b < (i + k : Nat)
  | (a, b) :: ls, i, h, k, x, y, hk => by
    simp only [may13, Bool.and_eq_true, decide_eq_true_eq] at h
    cases k with
    | zero =>
      simp only [List.getElem?_cons_zero, Option.some.injEq, Prod.mk.injEq] at hk
      obtain ⟨rfl, rfl⟩ := hk
      exact ⟨h.1.1, h.1.2⟩
    | succ k =>
      have := may13_at h.2 k x y (by simpa using hk)
      rw [show i + (k + 1) = i + 1 + k by omega]
      exact this
set_option maxHeartbeats 1000000 in
theorem may13_any (w : World) (p : Value) (ls : List (Int × Int)) (hp : PRow w p ls) (hl : ls.length ≤ 1000) : Calls Tryz.prog 18 #[p] w (Ret (.bool (may13 0 ls)) w) := by
  obtain ⟨a, c, rfl⟩ := prow_slice hp
  have H := Lib.hid hp
  clear hp
  go_enter Tryz.func18, Tryz.ntmps18
  go_wp2
  go_loop [3] (fun i => ∃ k : Nat, k ≤ ls.length ∧ i = .int .i64 k ∧ Hid (may13 0 ls = may13 k (ls.drop k))) (fun i => ls.length - (intOf i).toNat)
  case atStart => exact ⟨0, Nat.zero_le _, rfl, Lib.hid rfl⟩
  case round =>
    obtain ⟨k, hk, rfl, HD⟩ := hrel
    by_cases hlt : k < ls.length
    · obtain ⟨x, y, hz⟩ : ∃ x y, ls[k]? = some (x, y) := ⟨_, _, List.getElem?_eq_getElem hlt⟩
      rcases H.out with ⟨h, _⟩ | ⟨b, o, c', hv, _, _, hr⟩
      · rw [h] at hlt; exact absurd hlt (Nat.not_lt_zero _)
      · obtain ⟨rfl, rfl⟩ : a = some ⟨b, o, none⟩ ∧ c = c' := by cases hv; exact ⟨rfl, rfl⟩
        have c0 : w.cell? ⟨b, o + k * 2, none⟩ = some (.int .i64 x) := pair_cell hr hz (j := 0) rfl
        have c1 : w.cell? ⟨b, o + k * 2 + 1, none⟩ = some (.int .i64 y) := pair_cell hr hz (j := 1) rfl
        have hdrop : ls.drop k = (x, y) :: ls.drop (k + 1) := by
          rw [List.drop_eq_getElem_cons hlt]
          congr 1
          exact (List.getElem?_eq_some_iff.1 hz).2
        have hst : may13 0 ls = (decide (x < k) && decide (y < k) && may13 (k + 1) (ls.drop (k + 1))) := by rw [HD.out, hdrop]; rfl
        clear hv hr hz hdrop HD
        by_cases hx : x < k
        · by_cases hy : y < k
          · have HST := Lib.hid (show may13 0 ls = may13 (k + 1) (ls.drop (k + 1)) by rw [hst, decide_eq_true hx, decide_eq_true hy]; rfl)
            clear hst
            go_wp2
            go_round
            case rel => exact ⟨k + 1, by omega, by go_num, HST⟩
            case measure => simp [intOf]; omega
          · have HST := Lib.hid (show may13 0 ls = false by rw [hst, decide_eq_false hy]; simp)
            clear hst
            go_wp2
            go_ret
            exact ⟨ret_bool HST.out.symm, Ext.refl _⟩
        · have HST := Lib.hid (show may13 0 ls = false by rw [hst, decide_eq_false hx]; rfl)
          clear hst
          go_wp2
          go_ret
          exact ⟨ret_bool HST.out.symm, Ext.refl _⟩
    · have hk' : k = ls.length := by omega
      have HK := Lib.hid hk'
      clear hk'
      go_wp2
      go_ret
      exact ⟨ret_bool (by rw [HD.out, HK.out, List.drop_length]; rfl), Ext.refl _⟩
end Go.Proofs.YtjiiokhjajfhjaaGreat
