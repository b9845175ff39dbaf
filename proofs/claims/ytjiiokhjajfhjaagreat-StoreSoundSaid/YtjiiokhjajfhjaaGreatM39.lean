/- joinerylaw36: begun, nothing, alive. joinerylaw09.Make: each node of the tree is a new one, and no other one's. -/
import Derived.Lib.Builder
import Derived.Test.YtjiiokhjajfhjaaGreatM8
import Derived.Test.YtjiiokhjajfhjaaGreatM36
import Derived.Test.YtjiiokhjajfhjaaGreatM38
namespace Go.Proofs.YtjiiokhjajfhjaaGreat
open Go Go.RowKit

theorem sch_same (P : Nat) (w : World) : (binOp .neq 60 (.pointer (some ⟨P, 0, none⟩)) (.pointer (some ⟨P, 0, none⟩))).run Tryz.prog w = .ok (.bool false) w := by
  obtain ⟨j, hj⟩ : ∃ j, Tryz.prog.info? 116 = some j := by
    have h : (Tryz.prog.info? 116).isSome = true := by kernel_rfl
    exact Option.isSome_iff_exists.1 h
  exact Go.Lib.run_neq_ptr_same w _ Tryz.underlying60 hj
theorem begun_no (c : Nat) (hc : c < 256) (h : ¬ (1 ≤ c ∧ c ≤ 4)) (w : World) : Calls Tryz.prog 9 #[.int .u8 c] w (Ret (.pointer none) w) := by
  have H := Lib.hid (of22_no c hc h w)
  clear h
  go_enter Tryz.func9, Tryz.ntmps9
  go_wp2_with fail
  refine (H.out).mono ?_
  rintro e w1 ⟨rfl, hS⟩
  go_wp2
  go_ret
  exact Ret.mk hS
theorem begun_yes (c : Nat) (h4 : 1 ≤ c ∧ c ≤ 4) (w : World) : Calls Tryz.prog 9 #[.int .u8 c] w (fun e w' => ∃ P Q, e = .returned (.pointer (some ⟨Q, 0, none⟩)) ∧ SS w P c Q 0 [.nil] w') := by
  have hund : undef = Value.tuple #[] := rfl
  have H := Lib.hid (of22_yes c h4 w)
  clear h4
  go_enter Tryz.func9, Tryz.ntmps9
  go_wp2_with fail
  refine H.out.mono ?_
  rintro e w1 ⟨P, rfl, st⟩
  have hne := sch_same P
  go_wp2_with fail
  refine (stoNew_any P w1).mono ?_
  rintro e w2 ⟨Q, rfl, hQ, hSA, hX⟩
  have HS := Lib.hid (show SS w P c Q 0 [.nil] w2 from ⟨st.ext.trans hX, st.new, Nat.le_trans st.ext.size hQ, st.sch.ext hX, .inl ⟨hSA, rfl⟩, fun T hT => by rw [List.mem_singleton.1 hT]; trivial⟩)
  clear st hQ hSA hX
  go_wp2_with fail
  refine (stoScheme_any Q P [.nil] w2 HS.out.sto).mono ?_
  rintro e w3 ⟨rfl, h3⟩
  have H3 := Lib.hid (HS.out.more h3)
  go_wp2
  go_ret
  exact ⟨P, Q, rfl, H3.out⟩
theorem nilPut_any (w : World) (v : Value) : Calls Tryz.prog 11 #[.pointer none, v] w (Ret (.tuple #[.slice none 0 0, .int .i64 1]) w) := by
  go_enter Tryz.func11, Tryz.ntmps11
  go_wp2
  go_ret2
  exact ⟨rfl, Ext.refl _⟩
theorem nilGet_any (w : World) : Calls Tryz.prog 15 #[.pointer none, .int .i64 0] w (Ret (.tuple #[.pointer none, .bool false]) w) := by
  have hund : undef = Value.tuple #[] := rfl
  go_enter Tryz.func15, Tryz.ntmps15
  go_wp2_with fail
  refine (nilVersions_any w).mono ?_
  rintro e w1 ⟨rfl, hS⟩
  go_wp2
  go_ret2
  exact ⟨rfl, hS⟩
theorem nilSound_any (w : World) : Calls Tryz.prog 26 #[.pointer none] w (Ret (.tuple #[.int .i64 0, .int .i64 1]) w) := by
  go_enter Tryz.func26, Tryz.ntmps26
  go_wp2
  go_ret2
  exact ⟨rfl, Ext.refl _⟩
theorem nilLen_any (w : World) : Calls Tryz.prog 12 #[.pointer none] w (Ret (.int .i64 0) w) := by
  go_enter Tryz.func12, Tryz.ntmps12
  go_wp2_with fail
  refine (nilVersions_any w).mono ?_
  rintro e w1 ⟨rfl, hS⟩
  go_wp2
  go_ret
  exact Ret.mk hS
theorem nilScheme_any (w : World) : Calls Tryz.prog 29 #[.pointer none] w (Ret (.pointer none) w) := by
  go_enter Tryz.func29, Tryz.ntmps29
  go_wp2
  go_ret
  exact Ret.mk (Ext.refl _)
theorem nilFresh_any (w : World) : Calls Tryz.prog 13 #[.pointer none, .int .i64 0] w (Ret (.int .i64 0) w) := by
  go_enter Tryz.func13, Tryz.ntmps13
  go_wp2_with fail
  refine (nilGet_any w).mono ?_
  rintro e w1 ⟨rfl, hS⟩
  go_wp2
  go_ret
  exact Ret.mk hS
theorem nilNodes_any (w : World) : Calls Tryz.prog 14 #[.pointer none] w (Ret (.int .i64 0) w) := by
  go_enter Tryz.func14, Tryz.ntmps14
  go_wp2_with fail
  refine (nilVersions_any w).mono ?_
  rintro e w1 ⟨rfl, hS⟩
  go_wp2
  go_loop [2, 7] (fun s i => s = .int .i64 0 ∧ i = .int .i64 0) (fun _ _ => 0)
  case atStart => exact ⟨rfl, rfl⟩
  case round =>
    obtain ⟨rfl, rfl⟩ := hrel
    go_wp2
    go_ret
    exact Ret.mk hS
set_option maxHeartbeats 2000000 in
theorem nothing36_any (w : World) : Calls Tryz.prog 24 #[] w (Ret (.bool true) w) := by
  have hund : undef = Value.tuple #[] := rfl
  have hx := Ext.refl w
  go_enter Tryz.func24, Tryz.ntmps24
  go_wp2_with fail
  refine (stoNewNil_any _).mono ?_
  rintro e w1 ⟨rfl, hS⟩
  replace hx := hx.trans hS
  clear hS
  go_wp2_with fail
  replace hx := hx.alloc (.cells #[.pointer none] 27)
  refine (nilPut_any _ _).mono ?_
  rintro e w2 ⟨rfl, hS⟩
  replace hx := hx.trans hS
  clear hS
  go_wp2_with fail
  refine (nilGet_any w2).mono ?_
  rintro e w3 ⟨rfl, hS⟩
  replace hx := hx.trans hS
  clear hS
  go_wp2_with fail
  refine (nilSound_any w3).mono ?_
  rintro e w4 ⟨rfl, hS⟩
  replace hx := hx.trans hS
  clear hS
  go_wp2_with fail
  refine (nilLen_any w4).mono ?_
  rintro e w5 ⟨rfl, hS⟩
  replace hx := hx.trans hS
  clear hS
  go_wp2_with fail
  refine (nilScheme_any w5).mono ?_
  rintro e w6 ⟨rfl, hS⟩
  replace hx := hx.trans hS
  clear hS
  go_wp2_with fail
  refine (nilFresh_any w6).mono ?_
  rintro e w7 ⟨rfl, hS⟩
  replace hx := hx.trans hS
  clear hS
  go_wp2_with fail
  refine (nilNodes_any w7).mono ?_
  rintro e w8 ⟨rfl, hS⟩
  replace hx := hx.trans hS
  clear hS
  go_wp2
  go_ret
  exact Ret.mk hx
theorem JRow.cell {w : World} {a : Option Addr} {n c : Nat} {xs : List Nat} (h : JRow w (.slice a n c) xs) (hne : xs ≠ []) : ∃ b o, a = some ⟨b, o, none⟩ ∧ n = xs.length ∧ ∀ i x, xs[i]? = some x → w.cell? ⟨b, o + i, none⟩ = some (.int .i64 (x : Nat)) := by
  rcases h with ⟨h, -⟩ | ⟨b, o, c', hv, -, -, hr⟩
  · exact (hne h).elim
  · injection hv with e1 e2 e3
    exact ⟨b, o, e1, e2, fun i x hi => hr i _ (by rw [List.getElem?_map, hi]; rfl)⟩
set_option maxRecDepth 100000 in
set_option maxHeartbeats 4000000 in
theorem alive36_any (w : World) : Calls Tryz.prog 8 #[] w (Ret (.bool true) w) := by
  have hund : undef = Value.tuple #[] := rfl
  go_enter Tryz.func8, Tryz.ntmps8
  go_wp2_with fail
  refine (begun_yes 1 (by decide) w).mono ?_
  rintro e w1 ⟨P, Q, rfl, ss⟩
  go_wp2_with fail
  have hn1 := new_any w1 .nil .nil 1 1 1 trivial trivial
  rw [Tr.ptr_nil] at hn1
  refine hn1.mono ?_
  rintro e w2 ⟨A, rfl, hA, iA, h2⟩
  replace ss := ss.more h2
  clear hn1 h2
  have hn2 := new_any w2 _ .nil 2 2 2 iA trivial
  rw [Tr.ptr_nil] at hn2
  go_wp2_with fail
  refine hn2.mono ?_
  rintro e w3 ⟨B, rfl, hB, iB, h3⟩
  replace ss := ss.more h3
  replace iA := iA.ext h3
  clear hn2 h3
  obtain ⟨TA, eA⟩ : ∃ TA, TA = Tr.node A .nil 1 1 1 .nil := ⟨_, rfl⟩
  obtain ⟨TB, eB⟩ : ∃ TB, TB = Tr.node B TA 2 2 2 .nil := ⟨_, rfl⟩
  rw [← eA] at iA iB ⊢
  rw [← eB] at iB ⊢
  have HE := Lib.hid (And.intro eA eB)
  clear eA eB
  go_wp2_with fail
  have hrow := alloc_at w3 (.cells #[.pointer TB.ptr, .pointer TA.ptr] 27) _ rfl
  have hS := (Ext.refl w3).alloc (.cells #[.pointer TB.ptr, .pointer TA.ptr] 27)
  have hQlt := ss.sto.lt
  generalize w3.alloc (.cells #[.pointer TB.ptr, .pointer TA.ptr] 27) = w4 at *
  replace ss := ss.more hS
  replace iA := iA.ext hS
  replace iB := iB.ext hS
  clear hS
  refine (stoPut_any Q P [.nil] [TB, TA] (some ⟨w3.heap.size, 0, none⟩) 2 w4 ss.sto (.inr ⟨w3.heap.size, 0, rfl, Nat.le_refl _, fun i T hi => ?hcells⟩) (fun b o hb _ => by injection hb with hb; injection hb with hb; omega) (by simp)).mono ?_
  case hcells =>
    rw [cell_of hrow, Nat.zero_add]
    match i, hi with
    | 0, hi => obtain rfl : TB = T := by simpa using hi
               rfl
    | 1, hi => obtain rfl : TA = T := by simpa using hi
               rfl
    | i + 2, hi => simp at hi
  rintro e w5 ⟨nv, rfl, B5, m5, j5⟩
  have hVs : ([.nil] : List Tr) ++ [TB, TA] = [.nil, TB, TA] := rfl
  rw [hVs] at m5
  replace ss := ss.q B5 m5 (fun T hT => by
    simp only [List.mem_cons, List.not_mem_nil, or_false] at hT
    rcases hT with rfl | rfl | rfl
    · trivial
    · exact iB
    · exact iA)
  have hj := j5.row
  obtain ⟨ja, jc, rfl⟩ := j5.slice
  obtain ⟨jb, jo, rfl, -, jcells⟩ := hj.cell (by simp [numsFrom])
  have c0 : w5.cell? ⟨jb, jo, none⟩ = some (.int .i64 1) := by have := jcells 0 1 rfl; simpa using this
  have c1 : w5.cell? ⟨jb, jo + 1, none⟩ = some (.int .i64 2) := jcells 1 2 rfl
  rw [numsFrom_len]
  clear B5 m5 j5 hj jcells iA iB hrow hVs
  have hF1 : freshN ([Tr.nil, TB, TA].take 1) TB = 2 := by
    rw [HE.out.2, HE.out.1]; simp [freshN, allT, addT]
  have hF2 : freshN ([Tr.nil, TB, TA].take 2) TA = 0 := by
    rw [HE.out.2, HE.out.1]; simp [freshN, allT, addT]
  have hN : (allT [] [Tr.nil, TB, TA]).length = 2 := by
    rw [HE.out.2, HE.out.1]; simp [allT, addT]
  have hle : ∀ k, (allT [] ([Tr.nil, TB, TA].take k)).length ≤ 9999999 := fun k => Nat.le_trans (allT_take_le k) (by omega)
  have HF1 := Lib.hid (fun W (h : Sto Q W P [.nil, TB, TA]) (hI : ∀ T ∈ [Tr.nil, TB, TA], InH W T) => stoFresh_any Q P [.nil, TB, TA] 1 TB W h rfl hI (by simp) (hle _))
  have HF2 := Lib.hid (fun W (h : Sto Q W P [.nil, TB, TA]) (hI : ∀ T ∈ [Tr.nil, TB, TA], InH W T) => stoFresh_any Q P [.nil, TB, TA] 2 TA W h rfl hI (by simp) (hle _))
  have HNN := Lib.hid (fun W (h : Sto Q W P [.nil, TB, TA]) (hI : ∀ T ∈ [Tr.nil, TB, TA], InH W T) => stoNodes_any Q P [.nil, TB, TA] W h hI (by simp) (by omega))
  rw [hF1] at HF1
  rw [hF2] at HF2
  rw [hN] at HNN
  clear hF1 hF2 hN hle
  go_wp2_with fail
  refine (HF1.out w5 ss.sto ss.inh).mono ?_
  rintro e w6 ⟨rfl, B6, m6⟩
  replace ss := ss.q B6 m6 ss.inh
  clear B6 m6 c0 c1
  go_wp2_with fail
  refine (HF2.out w6 ss.sto ss.inh).mono ?_
  rintro e w7 ⟨rfl, B7, m7⟩
  replace ss := ss.q B7 m7 ss.inh
  clear B7 m7
  go_wp2_with fail
  refine (stoLen_any Q P [.nil, TB, TA] w7 ss.sto).mono ?_
  rw [show (([Tr.nil, TB, TA] : List Tr).length : Int) = 3 from rfl]
  rintro e w8 ⟨rfl, B8, m8⟩
  replace ss := ss.q B8 m8 ss.inh
  clear B8 m8
  go_wp2_with fail
  refine (HNN.out w8 ss.sto ss.inh).mono ?_
  rintro e w9 ⟨rfl, B9, m9⟩
  replace ss := ss.q B9 m9 ss.inh
  clear B9 m9
  go_wp2
  go_ret
  exact Ret.mk ss.ext
end Go.Proofs.YtjiiokhjajfhjaaGreat
namespace Go.Proofs.YtjiiokhjajfhjaaGreat
open Go Go.RowKit

/-- a tree of some beads, each node of which lies in a block of its own, from a number on. -/
def Sole (B : Nat) (t : BT) (T : Tr) : Prop := t.fits T ∧ T.blks.Nodup ∧ ∀ x ∈ T.blks, B ≤ x
theorem Sole.node {A A1 A2 n2 n3 n4 b : Nat} {l r : BT} {L R : Tr} {k v s n g : Int} (hl : Sole A1 l L) (hr : Sole A2 r R) (ll : ∀ x ∈ L.blks, x < n3) (rl : ∀ x ∈ R.blks, x < n4) (h1 : A ≤ A1) (_h2 : n2 ≤ n3) (h3 : A1 ≤ n3) (h4 : A2 ≤ n4) (hb : n4 ≤ b) (e : A2 = n3 := by rfl) : Sole A (.node k v s n g l r) (.node b L k v g R) := by
  subst e
  refine ⟨⟨rfl, rfl, rfl, hl.1, hr.1⟩, ?_, fun x hx => ?_⟩
  · rw [Tr.blks_node, List.nodup_cons]
    refine ⟨fun hm => ?_, List.nodup_append.2 ⟨hl.2.1, hr.2.1, fun x hx y hy => ?_⟩⟩
    · rcases List.mem_append.1 hm with hm | hm
      · have := ll b hm; omega
      · have := rl b hm; omega
    · have := ll x hx
      have := hr.2.2 y hy
      omega
  · rw [Tr.blks_node] at hx
    rcases List.mem_cons.1 hx with rfl | hx
    · omega
    · rcases List.mem_append.1 hx with hx | hx
      · have := hl.2.2 x hx; omega
      · have := hr.2.2 x hx; omega
/-- such a tree, put into a set that has none of it. -/
theorem addT_sole : ∀ {T : Tr} {bs : List Nat}, T.blks.Nodup → (∀ x ∈ T.blks, x ∉ bs) → (addT bs T).length = bs.length + T.count
  | .nil, _, _, _ => rfl
  | .node b l k v g r, bs, hn, hb => by
    rw [Tr.blks_node, List.nodup_cons, List.nodup_append] at hn
    rw [Tr.blks_node] at hb
    have h0 := hb b (List.mem_cons_self ..)
    rw [addT, if_neg h0, Tr.count_node]
    have h1 := addT_sole (T := l) (bs := bs) hn.2.1 (fun x hx => hb x (List.mem_cons_of_mem _ (List.mem_append_left _ hx)))
    have h2 := addT_sole (T := r) (bs := addT bs l ++ [b]) hn.2.2.1 (fun x hx hm => by
      rcases List.mem_append.1 hm with hm | hm
      · rcases addT_mem hm with hm | hm
        · exact hb x (List.mem_cons_of_mem _ (List.mem_append_right _ hx)) hm
        · exact hn.2.2.2 x hm x hx rfl
      · rw [List.mem_singleton] at hm
        exact hn.1 (List.mem_append_right _ (hm ▸ hx)))
    rw [h2, List.length_append, h1, List.length_singleton]
    omega
theorem addT_twice {T : Tr} {bs : List Nat} : addT (addT bs T) T = addT bs T := by
  cases T with
  | nil => rfl
  | node b l k v g r =>
    refine addT_in (b := b) rfl ?_
    rw [addT]
    split
    · assumption
    · exact addT_sub (List.mem_append_right _ (List.mem_singleton.2 rfl))
set_option maxHeartbeats 1000000 in
theorem beadsMakeD_any (t : BT) : ∀ (w : World) (p : Value), Beads w p t.enc → t.enc.length ≤ 400 →
    Calls Tryz.prog 10 #[p] w (Makes (Sole w.heap.size t) w) := by
  have hfn : ∀ f, Fence.wide.fn f := fun _ => trivial
  induction t with
  | nil =>
    intro w p hb hl
    obtain ⟨a, c, rfl⟩ := beads_slice hb
    rw [show BT.nil.enc.length = 0 from rfl]
    clear hb hl
    go_enter Tryz.func10, Tryz.ntmps10
    go_wp2
    go_ret
    exact ⟨.nil, rfl, trivial, ⟨trivial, List.nodup_nil, fun x hx => by cases hx⟩, Ext.refl _⟩
  | node k v s n g l r ihl ihr =>
    intro w p hb hl
    have hp := parts_any w p k v s n g l r hb (by omega)
    have hlen : (BT.node k v s n g l r).enc.length = 1 + l.enc.length + r.enc.length := by simp [BT.enc]; omega
    have IHl := Lib.hid ihl
    have IHr := Lib.hid ihr
    have hll : l.enc.length ≤ 400 := by omega
    have hlr : r.enc.length ≤ 400 := by omega
    have HLL := Lib.hid hll
    have HLR := Lib.hid hlr
    have h1 : 1 ≤ (BT.node k v s n g l r).enc.length := by omega
    obtain ⟨a, c, rfl⟩ := beads_slice hb
    have HP := Lib.hid hp
    clear hb hp hlen ihl ihr hll hlr
    generalize (BT.node k v s n g l r).enc.length = LL at *
    go_enter Tryz.func10, Tryz.ntmps10
    obtain ⟨m⟩ : Nonempty Nat := ⟨0⟩
    refine (wpIn_wide (n := m)).1 ?_
    gi_wp2_with fail
    refine ⟨wide_room _, (callsIn_wide.2 (HP.out)).mono ?_⟩
    rintro e w1 ⟨v1, v2, rfl, hv1, hv2, hE⟩
    gi_wp2_with fail
    have hnew := alloc_at w1 (.cells #[.int .i64 k, .int .i64 v, .int .i64 s, .int .i64 n, .int .u64 g, .bool (!l.isNil), .bool (!r.isNil)] 71) _ rfl
    have hE2 := (Ext.refl w1).alloc (.cells #[.int .i64 k, .int .i64 v, .int .i64 s, .int .i64 n, .int .u64 g, .bool (!l.isNil), .bool (!r.isNil)] 71)
    generalize (w1.alloc (.cells #[.int .i64 k, .int .i64 v, .int .i64 s, .int .i64 n, .int .u64 g, .bool (!l.isNil), .bool (!r.isNil)] 71)) = w2 at *
    have hE02 := hE.trans hE2
    have HV1 := Lib.hid (hv1.ext hE2)
    have HV2 := Lib.hid (hv2.ext hE2)
    clear hv1 hv2 hE hE2
    have hc0 := cell_all (cell_of hnew 0)
    have hc1 := cell_all (cell_of hnew 1)
    have hc4 := cell_all (cell_of hnew 4)
    have hx := Ext.drew w2
    clear hnew
    refine wpIn_region_G (fun j => !(List.contains (α := Nat) [10] j)) (by kernel_rfl) ?_
    refine batchG hfn (fuel := 4) [0, 2, 3, 4, 5, 6, 7, 8] (by kernel_rfl) rfl ?_
    repeat (go_big_quiet_step ((fail)))
    refine wpQuiet_nil ?_
    refine wpAnyG_one (j := 1) (by kernel_rfl) rfl ?_
    gi_wp2_with fail
    refine ⟨wide_room _, (callsIn_wide.2 (IHl.out _ _ (HV1.out.ext hx) HLL.out)).mono ?_⟩
    rintro e w3 ⟨L, rfl, hL, hLs, h3⟩
    have HLs := Lib.hid (And.intro hLs (fun x (hx : x ∈ L.blks) => blks_lt hL hx))
    clear hLs
    gi_wp2_with fail
    refine onePost_ext (h3) ?_
    refine wpAnyG_one (j := 9) (by kernel_rfl) rfl ?_
    gi_wp2_with fail
    have h23 := hx.trans h3
    refine ⟨wide_room _, (callsIn_wide.2 (IHr.out _ _ (HV2.out.ext h23) HLR.out)).mono ?_⟩
    rintro e w4 ⟨R, rfl, hR, hRs, h4⟩
    have HRs := Lib.hid (And.intro hRs (fun x (hx : x ∈ R.blks) => blks_lt hR hx))
    clear hRs
    gi_wp2_with fail
    refine onePost_ext (h4) ?_
    refine wpAnyG_one (j := 10) (by kernel_rfl) rfl ?_
    gi_wp2_with fail
    refine ⟨wide_room _, (callsIn_wide.2 (new_any w4 L R k v g (hL.ext h4) hR)).mono ?_⟩
    rintro e w5 ⟨B, rfl, hB, hT, h5⟩
    gi_wp2_with fail
    refine onePost_any (by kernel_rfl) ?_
    refine batchG hfn (fuel := 0) [11] (by kernel_rfl) rfl ?_
    repeat (go_big_quiet_step ((fail)))
    refine wpQuiet_nil ?_
    refine wpAnyG_done (by kernel_rfl) ?_
    refine calmQ_normal ?_
    gi_wp2
    go_ret
    exact ⟨_, rfl, hT, Sole.node HLs.out.1 HRs.out.1 HLs.out.2 HRs.out.2 (hE02.trans hx).size h23.size h3.size h4.size hB, ((hE02.trans h23).trans h4).trans h5⟩
end Go.Proofs.YtjiiokhjajfhjaaGreat
