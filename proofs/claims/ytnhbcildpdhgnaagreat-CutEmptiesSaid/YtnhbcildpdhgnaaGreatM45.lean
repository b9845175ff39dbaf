/- joinerylaw23.alive. share: all of any trees, New. joinerylaw09.Make: each node of the tree is a new one, and no other one's. -/
import Derived.Test.YtnhbcildpdhgnaaGreatM8
import Derived.Test.YtnhbcildpdhgnaaGreatM25
import Derived.Test.YtnhbcildpdhgnaaGreatM26
import Derived.Test.YtnhbcildpdhgnaaGreatM44
namespace Go.Proofs.YtnhbcildpdhgnaaGreat
open Go Go.RowKit

theorem irow3_alloc {w : World} {N c : Nat} {zs : List (Int × Int × Int)} (h : w.heap[N]? = some (.cells (itemCells zs).toArray 43 (0, 0))) (hne : zs ≠ []) (hc : zs.length ≤ c) : IRow3 w (.slice (some ⟨N, 0, none⟩) zs.length c) zs :=
  .inr ⟨N, 0, c, rfl, hne, hc, fun j u hj => by
    rw [Nat.zero_add, cell_of h j]
    simpa using hj⟩
theorem joined_one {n : Nat} {k : Int} {T R : Tr} {zs : List (Int × Int × Int)} (h : JoinC n 1 .nil R k 0 0 T) (hz : itsC 1 R = zs) : itsC 1 T = (k, 0, 0) :: zs := by
  rw [h.its, itsC_nil, hz]
  rfl
set_option maxRecDepth 100000 in
set_option maxHeartbeats 4000000 in
theorem alive23_any (w : World) : Calls Tryz.prog 9 #[] w (Ret (.bool true) w) := by
  have HJ := Lib.hid (fun (P : Nat) (nn : Int) (W : World) (k : Int) (R : Tr) (hS : Sch P 1 nn W) (hR : InH W R) (pR : PartC 1 R) (hc : R.count ≤ 100) =>
    schJoinM_any hS (L := .nil) (R := R) k 0 0 trivial hR (MayC.nil 1).part pR (by rw [show Tr.count Tr.nil = 0 from rfl]; omega) _ (Nat.le_refl _) (news_zero (w := W) (t := .nil) (Nat.le_refl _) trivial) (news_zero (Nat.le_refl _) hR))
  simp only [Tr.ptr_nil] at HJ
  go_enter Tryz.func9, Tryz.ntmps9
  go_wp2_with fail
  refine (of22_yes 1 (by decide) w).mono ?_
  rintro e w1 ⟨P, rfl, st⟩
  go_wp2_with fail
  refine (HJ.out P _ w1 1 .nil st.sch trivial (MayC.nil 1).part (by decide)).mono ?_
  rintro e w2 ⟨x, rfl, B2, S2, T1, rfl, i1, k1⟩
  have s2 := st.does B2 S2.sch
  clear st B2
  go_wp2_with fail
  refine (HJ.out P _ w2 2 .nil s2.sch trivial (MayC.nil 1).part (by decide)).mono ?_
  rintro e w3 ⟨x, rfl, B3, S3, T2, rfl, i2, k2⟩
  have s3 := s2.does B3 S3.sch
  replace i1 := s2.sch.inh B3 i1
  clear s2 B3 S2
  go_wp2_with fail
  refine (HJ.out P _ w3 3 .nil s3.sch trivial (MayC.nil 1).part (by decide)).mono ?_
  rintro e w4 ⟨x, rfl, B4, S4, T3, rfl, i3, k3⟩
  have s4 := s3.does B4 S4.sch
  replace i1 := s3.sch.inh B4 i1
  replace i2 := s3.sch.inh B4 i2
  clear s3 B4 S3
  have j1 : itsC 1 T1 = [(1, 0, 0)] := joined_one k1 (itsC_nil 1)
  have j2 : itsC 1 T2 = [(2, 0, 0)] := joined_one k2 (itsC_nil 1)
  have j3 : itsC 1 T3 = [(3, 0, 0)] := joined_one k3 (itsC_nil 1)
  have n1 : T1.count = 1 := by rw [← itsC_len 1, j1]; rfl
  have n2 : T2.count = 1 := by rw [← itsC_len 1, j2]; rfl
  have n3 : T3.count = 1 := by rw [← itsC_len 1, j3]; rfl
  have hrow := alloc_at w4 (.cells #[.pointer T1.ptr, .pointer T2.ptr, .pointer T3.ptr] 29) _ rfl
  have hE := (Ext.refl w4).alloc (.cells #[.pointer T1.ptr, .pointer T2.ptr, .pointer T3.ptr] 29)
  have hPl := s4.lt
  have HA := Lib.hid (cutAll_any P 1 _ [T1, T2, T3] w4.heap.size 0 3 _ (s4.more hE).sch (by omega) (fun i T hi => by
      rw [cell_of hrow, Nat.zero_add]
      match i, hi with
      | 0, hi => cases hi; rfl
      | 1, hi => cases hi; rfl
      | 2, hi => cases hi; rfl) (by simp) (fun T hT => by
      simp only [List.mem_cons, List.not_mem_nil, or_false] at hT
      rcases hT with rfl | rfl | rfl
      · exact i1.ext hE
      · exact i2.ext hE
      · exact i3.ext hE) (fun T hT => by
      simp only [List.mem_cons, List.not_mem_nil, or_false] at hT
      rcases hT with rfl | rfl | rfl
      · exact k1.may.part
      · exact k2.may.part
      · exact k3.may.part) (by simp [n1, n2, n3]))
  have s5 := s4.more hE
  clear s4 S4 i1 i2 i3 hrow hE k1 k2 k3 n1 n2 n3 hPl
  go_wp2_with fail
  refine HA.out.mono ?_
  rintro e w6 ⟨A, m, rfl, B6, S6, iA, okA⟩
  have s6 := s5.does B6 S6
  have jA : itsC 1 A = [(1, 0, 0), (2, 0, 0), (3, 0, 0)] := by rw [okA.its]; simp [j1, j2, j3]
  have nA : A.count = 3 := by rw [← itsC_len 1, jA]; rfl
  have HMA := Lib.hid okA.may
  clear s5 B6 S6 okA j1 j2 j3 HA
  have HL := Lib.hid (cutLast_yes P 1 m A w6 s6.sch iA HMA.out.part (by rintro rfl; cases nA) (by omega))
  clear iA
  go_wp2_with fail
  refine HL.out.mono ?_
  rintro e w7 ⟨R, z, m7, rfl, B7, S7, iR, kR⟩
  unfold itV
  have hz : itsC 1 R = [(1, 0, 0), (2, 0, 0)] ∧ z = (3, 0, 0) := by
    have h := kR.its
    rw [jA] at h
    have h2 : [(1, 0, 0), (2, 0, 0)] ++ [((3 : Int), (0 : Int), (0 : Int))] = itsC 1 R ++ [z] := h
    obtain ⟨e1, e2⟩ := List.append_inj' h2 rfl
    injection e2 with e2
    exact ⟨e1.symm, e2.symm⟩
  obtain ⟨jR, rfl⟩ := hz
  have HMR := Lib.hid kR.may
  have s7 := s6.does B7 S7.sch
  have hb7 := alloc_at w7 (.cells #[.int .i64 3, .int .i64 0, .int .u64 0] 43) _ rfl
  have hE7 := (Ext.refl w7).alloc (.cells #[.int .i64 3, .int .i64 0, .int .u64 0] 43)
  have s8 := s7.more hE7
  replace iR := iR.ext hE7
  have hPl := s7.lt
  clear s6 B7 S7 kR jA nA HMA HL hE7
  go_wp2_with fail
  generalize w7.alloc (.cells #[.int .i64 3, .int .i64 0, .int .u64 0] 43) = w8 at *
  generalize w7.heap.size = b5 at *
  refine (HJ.out P _ w8 4 .nil s8.sch trivial (MayC.nil 1).part (by decide)).mono ?_
  rintro e w9 ⟨x, rfl, B9, S9, T4, rfl, i4, k4⟩
  have j4 : itsC 1 T4 = [(4, 0, 0)] := joined_one k4 (itsC_nil 1)
  have n4 : T4.count = 1 := by rw [← itsC_len 1, j4]; rfl
  have s9 := s8.does B9 S9.sch
  replace iR := s8.sch.inh B9 iR
  replace hb7 := B9.get (show b5 ∉ [P] by simp; omega) hb7
  clear s7 s8 B9 S9
  go_wp2_with fail
  refine (HJ.out P _ w9 3 T4 s9.sch i4 k4.may.part (by omega)).mono ?_
  rintro e w10 ⟨x, rfl, B10, S10, T5, rfl, i5, k5⟩
  have j5 : itsC 1 T5 = [(3, 0, 0), (4, 0, 0)] := joined_one k5 j4
  have n5 : T5.count = 2 := by rw [← itsC_len 1, j5]; rfl
  have nR : R.count = 2 := by rw [← itsC_len 1, jR]; rfl
  have s10 := s9.does B10 S10.sch
  replace iR := s9.sch.inh B10 iR
  replace hb7 := B10.get (show b5 ∉ [P] by simp; omega) hb7
  have HB := Lib.hid (cutJoin2_any P 1 _ R T5 w10 s10.sch iR i5 HMR.out.part k5.may.part (by omega))
  clear s9 B10 S10 k4 k5 j4 n4 i4 i5
  go_wp2_with fail
  refine HB.out.mono ?_
  rintro e w11 ⟨V, m11, rfl, B11, S11, iV, kV⟩
  have jV : itsC 1 V = [(1, 0, 0), (2, 0, 0), (3, 0, 0), (4, 0, 0)] := by rw [kV.its, jR, j5]; rfl
  have nV : V.count = 4 := by rw [← itsC_len 1, jV]; rfl
  have HMV := Lib.hid kV.may
  have s11 := s10.does B11 S11.sch
  replace iR := s10.sch.inh B11 iR
  replace hb7 := B11.get (show b5 ∉ [P] by simp; omega) hb7
  obtain ⟨c0, -, -, -⟩ := cells3 hb7
  have hq1 := irow3_alloc (c := 2) (zs := [(1, 0, 0), (2, 0, 0)]) (alloc_at w11 (.cells #[.int .i64 1, .int .i64 0, .int .u64 0, .int .i64 2, .int .i64 0, .int .u64 0] 43) _ rfl) (by simp) (by simp)
  have hE11 := (Ext.refl w11).alloc (.cells #[.int .i64 1, .int .i64 0, .int .u64 0, .int .i64 2, .int .i64 0, .int .u64 0] 43)
  have HH1 := Lib.hid (has23_any 1 (by decide) R _ _ 2 _ (iR.ext hE11) hq1 (by rw [jR]; rfl) HMR.out (fun h => by cases h) (by omega))
  have s12 := s11.more hE11
  replace iV := iV.ext hE11
  clear s10 s11 B11 S11 kV hb7 hE11 hq1 HB
  go_wp2_with fail
  refine HH1.out.mono ?_
  rintro e w13 ⟨rfl, h13⟩
  have hq2 := irow3_alloc (c := 4) (zs := [(1, 0, 0), (2, 0, 0), (3, 0, 0), (4, 0, 0)]) (alloc_at w13 (.cells #[.int .i64 1, .int .i64 0, .int .u64 0, .int .i64 2, .int .i64 0, .int .u64 0, .int .i64 3, .int .i64 0, .int .u64 0, .int .i64 4, .int .i64 0, .int .u64 0] 43) _ rfl) (by simp) (by simp)
  have hE13 := (Ext.refl w13).alloc (.cells #[.int .i64 1, .int .i64 0, .int .u64 0, .int .i64 2, .int .i64 0, .int .u64 0, .int .i64 3, .int .i64 0, .int .u64 0, .int .i64 4, .int .i64 0, .int .u64 0] 43)
  have HH2 := Lib.hid (has23_any 1 (by decide) V _ _ 4 _ ((iV.ext h13).ext hE13) hq2 (by rw [jV]; rfl) HMV.out (fun h => by cases h) (by omega))
  have HX := Lib.hid ((s12.ext.trans h13).trans hE13)
  clear s12 h13 hq2 hE13 HH1
  go_wp2_with fail
  refine HH2.out.mono ?_
  rintro e w15 ⟨rfl, h15⟩
  go_wp2
  go_ret
  exact Ret.mk (HX.out.trans h15)
end Go.Proofs.YtnhbcildpdhgnaaGreat
namespace Go.Proofs.YtnhbcildpdhgnaaGreat
open Go Go.RowKit Go.Shelf
attribute [local go_sem] Oper.semAt_some

def allT (bs : List Nat) (Ts : List Tr) : List Nat := Ts.foldl addT bs
theorem allT_cons (bs : List Nat) (T : Tr) (Ts : List Tr) : allT bs (T :: Ts) = allT (addT bs T) Ts := rfl
theorem allT_append (bs : List Nat) (A B : List Tr) : allT bs (A ++ B) = allT (allT bs A) B := by simp [allT]
/-- how many of a tree's nodes are in none of others. -/
def freshN (Ts : List Tr) (T : Tr) : Nat := (addT (allT [] Ts) T).length - (allT [] Ts).length
def putAll (Ds : List Nat) (W : World) : World := Ds.foldl (fun W D => W.putObj D (.deferred none)) W
def dcol (D : Nat) : Deferred := { target := .collected D, args := #[] }
theorem leaves_put {F : Fence} {n : Nat} {P : Program} {fn : Func} {tmps : Array Value} {R : Ending → World → Prop} : ∀ (Ds : List Nat) (W : World), (∀ D ∈ Ds, W.heap[D]? = some (.deferred (some []))) → Ds.Nodup →
    LeavesInM F n P fn tmps R [] .returning (putAll Ds W) → LeavesInM F n P fn tmps R (Ds.map dcol) .returning W
  | [], _, _, _, h => h
  | D :: Ds, W, hD, hnd, h => by
    rw [List.nodup_cons] at hnd
    refine ⟨by simp, .inl ⟨_, _, rfl, run_takeDeferred (hD D (List.mem_cons_self ..)), leaves_put Ds _ (fun E hE => ?_) hnd.2 h⟩⟩
    rw [World.putObj_heap_other (fun e => hnd.1 (by subst e; exact hE))]
    exact hD E (List.mem_cons_of_mem _ hE)
theorem putAll_keeps {w : World} {R : Nat} {bs : List Nat} : ∀ (Ds : List Nat) (W : World), (∀ D ∈ Ds, W.heap[D]? = some (.deferred (some []))) → Ds.Nodup → (∀ D ∈ Ds, w.heap.size ≤ D) → Ext w W → SetM W R bs →
    Ext w (putAll Ds W) ∧ SetM (putAll Ds W) R bs
  | [], _, _, _, _, hE, hS => ⟨hE, hS⟩
  | D :: Ds, W, hD, hnd, hw, hE, hS => by
    rw [List.nodup_cons] at hnd
    have hK := hD D (List.mem_cons_self ..)
    have h1 : Ext w (W.putObj D (.deferred none)) := below_put hE hE.size (hw D (List.mem_cons_self ..)) _
    have h2 := hS.put hK rfl (by have := hS.map; intro e; rw [← e, this] at hK; cases hK) (.deferred none)
    refine putAll_keeps Ds _ (fun E hE' => ?_) hnd.2 (fun E hE' => hw E (List.mem_cons_of_mem _ hE')) h1 h2
    show (W.putObj D (.deferred none)).heap[E]? = _
    rw [World.putObj_heap_other (fun e => hnd.1 (by subst e; exact hE'))]
    exact hD E (List.mem_cons_of_mem _ hE')
end Go.Proofs.YtnhbcildpdhgnaaGreat
namespace Go.Proofs.YtnhbcildpdhgnaaGreat
open Go Go.RowKit

/-- a tree of some beads, each node of which lies in a block of its own, from a number on. -/
def Sole (B : Nat) (t : BT) (T : Tr) : Prop := t.fits T ∧ T.blks.Nodup ∧ ∀ x ∈ T.blks, B ≤ x
theorem Sole.node {A A1 A2 n2 n3 n4 b : Nat} {l r : BT} {L R : Tr} {k v s n g : Int} (hl : Sole A1 l L) (hr : Sole A2 r R) (ll : ∀ x ∈ L.blks, x < n3) (rl : ∀ x ∈ R.blks, x < n4) (h1 : A ≤ A1) (_h2 : n2 ≤ n3) (h3 : A1 ≤ n3) (h4 : A2 ≤ n4) (hb : n4 ≤ b) (e : A2 = n3 := by rfl) : Sole A (.node k v s n g l r) (.node b L k v g R) := by
  subst e
  refine ⟨⟨rfl, rfl, rfl, hl.1, hr.1⟩, ?_, fun x hx => ?_⟩
  · rw [Tr.blks_node, List.nodup_cons]
    refine ⟨fun hm => ?_, List.nodup_append.2 ⟨hl.2.1, hr.2.1, fun x hx y hy => ?_⟩⟩
    · rcases List.mem_append.1 hm with hm | hm
      · have := ll b hm; omega
      · have := rl b hm; omega
    · have := ll x hx
      have := hr.2.2 y hy
      omega
  · rw [Tr.blks_node] at hx
    rcases List.mem_cons.1 hx with rfl | hx
    · omega
    · rcases List.mem_append.1 hx with hx | hx
      · have := hl.2.2 x hx; omega
      · have := hr.2.2 x hx; omega
/-- such a tree, put into a set that has none of it. -/
theorem addT_sole : ∀ {T : Tr} {bs : List Nat}, T.blks.Nodup → (∀ x ∈ T.blks, x ∉ bs) → (addT bs T).length = bs.length + T.count
  | .nil, _, _, _ => rfl
  | .node b l k v g r, bs, hn, hb => by
    rw [Tr.blks_node, List.nodup_cons, List.nodup_append] at hn
    rw [Tr.blks_node] at hb
    have h0 := hb b (List.mem_cons_self ..)
    rw [addT, if_neg h0, Tr.count_node]
    have h1 := addT_sole (T := l) (bs := bs) hn.2.1 (fun x hx => hb x (List.mem_cons_of_mem _ (List.mem_append_left _ hx)))
    have h2 := addT_sole (T := r) (bs := addT bs l ++ [b]) hn.2.2.1 (fun x hx hm => by
      rcases List.mem_append.1 hm with hm | hm
      · rcases addT_mem hm with hm | hm
        · exact hb x (List.mem_cons_of_mem _ (List.mem_append_right _ hx)) hm
        · exact hn.2.2.2 x hm x hx rfl
      · rw [List.mem_singleton] at hm
        exact hn.1 (List.mem_append_right _ (hm ▸ hx)))
    rw [h2, List.length_append, h1, List.length_singleton]
    omega
theorem addT_twice {T : Tr} {bs : List Nat} : addT (addT bs T) T = addT bs T := by
  cases T with
  | nil => rfl
  | node b l k v g r =>
    refine addT_in (b := b) rfl ?_
    rw [addT]
    split
    · assumption
    · exact addT_sub (List.mem_append_right _ (List.mem_singleton.2 rfl))
set_option maxHeartbeats 1000000 in
theorem beadsMakeD_any (t : BT) : ∀ (w : World) (p : Value), Beads w p t.enc → t.enc.length ≤ 400 →
    Calls Tryz.prog 10 #[p] w (Makes (Sole w.heap.size t) w) := by
  have hfn : ∀ f, Fence.wide.fn f := fun _ => trivial
  induction t with
  | nil =>
    intro w p hb hl
    obtain ⟨a, c, rfl⟩ := beads_slice hb
    rw [show BT.nil.enc.length = 0 from rfl]
    clear hb hl
    go_enter Tryz.func10, Tryz.ntmps10
    go_wp2
    go_ret
    exact ⟨.nil, rfl, trivial, ⟨trivial, List.nodup_nil, fun x hx => by cases hx⟩, Ext.refl _⟩
  | node k v s n g l r ihl ihr =>
    intro w p hb hl
    have hp := parts_any w p k v s n g l r hb (by omega)
    have hlen : (BT.node k v s n g l r).enc.length = 1 + l.enc.length + r.enc.length := by simp [BT.enc]; omega
    have IHl := Lib.hid ihl
    have IHr := Lib.hid ihr
    have hll : l.enc.length ≤ 400 := by omega
    have hlr : r.enc.length ≤ 400 := by omega
    have HLL := Lib.hid hll
    have HLR := Lib.hid hlr
    have h1 : 1 ≤ (BT.node k v s n g l r).enc.length := by omega
    obtain ⟨a, c, rfl⟩ := beads_slice hb
    have HP := Lib.hid hp
    clear hb hp hlen ihl ihr hll hlr
    generalize (BT.node k v s n g l r).enc.length = LL at *
    go_enter Tryz.func10, Tryz.ntmps10
    obtain ⟨m⟩ : Nonempty Nat := ⟨0⟩
    refine (wpIn_wide (n := m)).1 ?_
    gi_wp2_with fail
    refine ⟨wide_room _, (callsIn_wide.2 (HP.out)).mono ?_⟩
    rintro e w1 ⟨v1, v2, rfl, hv1, hv2, hE⟩
    gi_wp2_with fail
    have hnew := alloc_at w1 (.cells #[.int .i64 k, .int .i64 v, .int .i64 s, .int .i64 n, .int .u64 g, .bool (!l.isNil), .bool (!r.isNil)] 61) _ rfl
    have hE2 := (Ext.refl w1).alloc (.cells #[.int .i64 k, .int .i64 v, .int .i64 s, .int .i64 n, .int .u64 g, .bool (!l.isNil), .bool (!r.isNil)] 61)
    generalize (w1.alloc (.cells #[.int .i64 k, .int .i64 v, .int .i64 s, .int .i64 n, .int .u64 g, .bool (!l.isNil), .bool (!r.isNil)] 61)) = w2 at *
    have hE02 := hE.trans hE2
    have HV1 := Lib.hid (hv1.ext hE2)
    have HV2 := Lib.hid (hv2.ext hE2)
    clear hv1 hv2 hE hE2
    have hc0 := cell_all (cell_of hnew 0)
    have hc1 := cell_all (cell_of hnew 1)
    have hc4 := cell_all (cell_of hnew 4)
    have hx := Ext.drew w2
    clear hnew
    refine wpIn_region_G (fun j => !(List.contains (α := Nat) [10] j)) (by kernel_rfl) ?_
    refine batchG hfn (fuel := 4) [0, 2, 3, 4, 5, 6, 7, 8] (by kernel_rfl) rfl ?_
    repeat (go_big_quiet_step ((fail)))
    refine wpQuiet_nil ?_
    refine wpAnyG_one (j := 1) (by kernel_rfl) rfl ?_
    gi_wp2_with fail
    refine ⟨wide_room _, (callsIn_wide.2 (IHl.out _ _ (HV1.out.ext hx) HLL.out)).mono ?_⟩
    rintro e w3 ⟨L, rfl, hL, hLs, h3⟩
    have HLs := Lib.hid (And.intro hLs (fun x (hx : x ∈ L.blks) => blks_lt hL hx))
    clear hLs
    gi_wp2_with fail
    refine onePost_ext (h3) ?_
    refine wpAnyG_one (j := 9) (by kernel_rfl) rfl ?_
    gi_wp2_with fail
    have h23 := hx.trans h3
    refine ⟨wide_room _, (callsIn_wide.2 (IHr.out _ _ (HV2.out.ext h23) HLR.out)).mono ?_⟩
    rintro e w4 ⟨R, rfl, hR, hRs, h4⟩
    have HRs := Lib.hid (And.intro hRs (fun x (hx : x ∈ R.blks) => blks_lt hR hx))
    clear hRs
    gi_wp2_with fail
    refine onePost_ext (h4) ?_
    refine wpAnyG_one (j := 10) (by kernel_rfl) rfl ?_
    gi_wp2_with fail
    refine ⟨wide_room _, (callsIn_wide.2 (new_any w4 L R k v g (hL.ext h4) hR)).mono ?_⟩
    rintro e w5 ⟨B, rfl, hB, hT, h5⟩
    gi_wp2_with fail
    refine onePost_any (by kernel_rfl) ?_
    refine batchG hfn (fuel := 0) [11] (by kernel_rfl) rfl ?_
    repeat (go_big_quiet_step ((fail)))
    refine wpQuiet_nil ?_
    refine wpAnyG_done (by kernel_rfl) ?_
    refine calmQ_normal ?_
    gi_wp2
    go_ret
    exact ⟨_, rfl, hT, Sole.node HLs.out.1 HRs.out.1 HLs.out.2 HRs.out.2 (hE02.trans hx).size h23.size h3.size h4.size hB, ((hE02.trans h23).trans h4).trans h5⟩
end Go.Proofs.YtnhbcildpdhgnaaGreat
