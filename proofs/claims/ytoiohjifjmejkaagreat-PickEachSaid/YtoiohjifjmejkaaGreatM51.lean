/- cut.All; joinerylaw23: Has, Parted, nothing. joinerylaw23.alive. joinerylaw30.odd, nothing, alive; pick.Each of no scheme, and of no function. share: all of any trees, New. joinerylaw09.Make: each node of the tree is a new one, and no other one's. -/
import Derived.Test.YtoiohjifjmejkaaGreatM8
import Derived.Test.YtoiohjifjmejkaaGreatM26
import Derived.Test.YtoiohjifjmejkaaGreatM27
import Derived.Test.YtoiohjifjmejkaaGreatM39
import Derived.Test.YtoiohjifjmejkaaGreatM40
import Derived.Test.YtoiohjifjmejkaaGreatM43
import Derived.Test.YtoiohjifjmejkaaGreatM50
namespace Go.Proofs.YtoiohjifjmejkaaGreat
open Go Go.RowKit

/-- trees made into one. -/
structure AllC (c : Nat) (Ts : List Tr) (T : Tr) : Prop where
  may : MayC c T
  its : itsC c T = Ts.flatMap (itsC c)
  tags : (∀ U ∈ Ts, TagsOk U) → T.count < 100000 → TagsOk T
theorem AllC.nil (c : Nat) : AllC c [] .nil := ⟨MayC.nil c, by rw [itsC_nil]; rfl, fun _ _ => trivial⟩
theorem AllC.count {c : Nat} {Ts : List Tr} {T : Tr} (h : AllC c Ts T) : T.count = (Ts.map Tr.count).sum := by
  have h1 := congrArg List.length h.its
  rw [itsC_len, List.length_flatMap] at h1
  rw [h1]
  congr 1
  exact List.map_congr_left (fun U _ => itsC_len c U)
theorem AllC.snoc {c : Nat} {Ts : List Tr} {T U V : Tr} (h : AllC c Ts T) (k : BothC c T U V) : AllC c (Ts ++ [U]) V := by
  refine ⟨k.may, ?_, fun ht hc => ?_⟩
  · rw [k.its, h.its, List.flatMap_append]
    simp
  · have := k.count
    exact k.tags (h.tags (fun X hX => ht X (List.mem_append_left _ hX)) (by omega)) (ht U (by simp)) hc
theorem sum_take_le (l : List Nat) (k : Nat) : (l.take k).sum ≤ l.sum := by
  conv => rhs; rw [← List.take_append_drop k l, List.sum_append]
  omega
theorem has23_any (c : Nat) (h4 : 1 ≤ c ∧ c ≤ 4) (T : Tr) (w : World) (a : Option Addr) (cp : Nat) (zs : List (Int × Int × Int)) (hT : InH w T) (hq : IRow3 w (.slice a zs.length cp) zs) (hz : zs.map (itC c) = itsC c T) (hm : MayC c T) (ho : c = 2 → TagsOk T) (hl : T.count ≤ 2000) :
    Calls Tryz.prog 17 #[.int .u8 c, .pointer T.ptr, .slice a zs.length cp] w (Ret (.bool true) w) := by
  have HS := Lib.hid (see09_any w T hT hl)
  have HH := Lib.hid (fun W (e : Ext w W) p (hb : Beads W p T.beads) => has22_any c h4 T W p _ zs hb (hq.ext e) hz hm ho hl)
  clear hT hq hz hm ho
  go_enter Tryz.func17, Tryz.ntmps17
  go_wp2_with fail
  refine HS.out.mono ?_
  rintro e w1 ⟨v, rfl, ow, h1⟩
  have HB := Lib.hid ow.beads
  obtain ⟨va, vc, rfl⟩ := beads_slice ow.beads
  clear ow
  go_wp2_with fail
  refine (HH.out w1 h1 _ HB.out).mono ?_
  rintro e w2 ⟨rfl, h2⟩
  go_wp2
  go_ret
  exact Ret.mk (h1.trans h2)
theorem parted_no (c : Nat) (h : ¬ (1 ≤ c ∧ c ≤ 4)) (v : Value) (w : World) : Calls Tryz.prog 6 #[.int .u8 c, v] w (Ret (.bool true) w) := by
  have H := Lib.hid (is22_any c w)
  rw [decide_eq_false h] at H
  clear h
  go_enter Tryz.func6, Tryz.ntmps6
  go_wp2_with fail
  refine (H.out).mono ?_
  rintro e w1 ⟨rfl, hS⟩
  go_wp2
  go_ret
  exact Ret.mk hS
theorem parted_long (c : Nat) (h : 1 ≤ c ∧ c ≤ 4) (v : Value) (w : World) (HL : ∀ W, Ext w W → Calls Tryz.prog 27 #[v] W (Ret (.bool true) W)) : Calls Tryz.prog 6 #[.int .u8 c, v] w (Ret (.bool true) w) := by
  have H := Lib.hid (is22_any c w)
  rw [decide_eq_true h] at H
  have HLL := Lib.hid HL
  clear h HL
  have hx := Ext.refl w
  go_enter Tryz.func6, Tryz.ntmps6
  go_wp2_with fail
  refine (H.out).mono ?_
  rintro e w1 ⟨rfl, hS⟩
  replace hx := hx.trans hS
  clear hS
  go_wp2_with fail
  refine (HLL.out w1 hx).mono ?_
  rintro e w2 ⟨rfl, hS⟩
  replace hx := hx.trans hS
  clear hS
  go_wp2
  go_ret
  exact Ret.mk hx
theorem parted_t (c : Nat) (h4 : 1 ≤ c ∧ c ≤ 4) (t : BT) (T : Tr) (v : Value) (w : World) (hf : t.fits T) (ho : c = 2 → TagsOk T) (hb : Beads w v t.enc) (hl : t.enc.length ≤ 2000) (HL : ∀ W, Ext w W → Calls Tryz.prog 27 #[v] W (Ret (.bool false) W)) :
    Calls Tryz.prog 6 #[.int .u8 c, v] w (Ret (.bool (!ptV c T)) w) := by
  have H := Lib.hid (is22_any c w)
  rw [decide_eq_true h4] at H
  have HLL := Lib.hid HL
  have HP := Lib.hid (fun W (e : Ext w W) => part22_any c h4 t T W v hf ho (hb.ext e) hl)
  clear h4 HL hf ho hb
  generalize ptV c T = B at *
  have hx := Ext.refl w
  go_enter Tryz.func6, Tryz.ntmps6
  go_wp2_with fail
  refine (H.out).mono ?_
  rintro e w1 ⟨rfl, hS⟩
  replace hx := hx.trans hS
  clear hS
  go_wp2_with fail
  refine (HLL.out w1 hx).mono ?_
  rintro e w2 ⟨rfl, hS⟩
  replace hx := hx.trans hS
  clear hS
  go_wp2_with fail
  refine (HP.out w2 hx).mono ?_
  rintro e w3 ⟨rfl, hS⟩
  replace hx := hx.trans hS
  clear hS
  go_wp2
  go_ret
  exact Ret.mk hx
set_option maxHeartbeats 1000000 in
theorem join2Nil_any (w : World) : Calls Tryz.prog 40 #[.pointer none, .pointer none, .pointer none] w (Ret (.pointer none) w) := by
  have H := Lib.hid (cutLast_no none w)
  unfold itV at H
  go_enter Tryz.func40, Tryz.ntmps40
  go_wp2_with fail
  refine (H.out).mono ?_
  rintro e w1 ⟨rfl, hS⟩
  go_wp2_with fail
  refine (nilWhole_any _ _).mono ?_
  rintro e w2 ⟨rfl, h2⟩
  go_wp2
  go_ret
  exact Ret.mk ((hS.trans ((Ext.refl w1).alloc _)).trans h2)
end Go.Proofs.YtoiohjifjmejkaaGreat
namespace Go.Proofs.YtoiohjifjmejkaaGreat
open Go Go.RowKit

theorem irow3_alloc {w : World} {N c : Nat} {zs : List (Int × Int × Int)} (h : w.heap[N]? = some (.cells (itemCells zs).toArray 66 (0, 0))) (hne : zs ≠ []) (hc : zs.length ≤ c) : IRow3 w (.slice (some ⟨N, 0, none⟩) zs.length c) zs :=
  .inr ⟨N, 0, c, rfl, hne, hc, fun j u hj => by
    rw [Nat.zero_add, cell_of h j]
    simpa using hj⟩
theorem joined_one {n : Nat} {k : Int} {T R : Tr} {zs : List (Int × Int × Int)} (h : JoinC n 1 .nil R k 0 0 T) (hz : itsC 1 R = zs) : itsC 1 T = (k, 0, 0) :: zs := by
  rw [h.its, itsC_nil, hz]
  rfl
end Go.Proofs.YtoiohjifjmejkaaGreat
namespace Go.Proofs.YtoiohjifjmejkaaGreat
open Go Go.RowKit Go.Shelf

theorem odd_any (w : World) : Calls Tryz.prog 29 #[] w (Ret (.agg #[.int .u8 4, .int .i64 2, .int .i64 1, .bool false]) w) := by
  have h4 := cells4 (alloc_at w (.cells #[.int .u8 4, .int .i64 2, .int .i64 1, .bool false] 23) _ rfl)
  have hE := (Ext.refl w).alloc (.cells #[.int .u8 4, .int .i64 2, .int .i64 1, .bool false] 23)
  go_enter Tryz.func29, Tryz.ntmps29
  go_wp2
  exact bodyPost_ret (v := .agg #[.int .u8 4, .int .i64 2, .int .i64 1, .bool false]) (by simp [results, Tryz.results29, go_sem, h4.1, h4.2.1, h4.2.2.1, h4.2.2.2]) rfl ⟨rfl, hE⟩
theorem each_nil (w : World) (p : Value) (g : Nat) : Calls Tryz.prog 20 #[.pointer none, p, .func (.func g) #[] #[]] w (Ret (.pointer none) w) := by
  go_enter Tryz.func20, Tryz.ntmps20
  go_wp2
  go_ret
  exact Ret.mk (((Ext.refl w).alloc _).alloc _)
theorem each_fnil (w : World) : (binOp .eql 54 .nilFunc .nilFunc).run Tryz.prog w = .ok (.bool true) w := by kernel_rfl
set_option maxRecDepth 100000 in
theorem each_nof (w : World) (s : Addr) (p : Value) : Calls Tryz.prog 20 #[.pointer (some s), p, .nilFunc] w (Ret (.pointer none) w) := by
  have hfn := each_fnil
  go_enter Tryz.func20, Tryz.ntmps20
  go_wp2
  go_ret
  exact Ret.mk (((Ext.refl w).alloc _).alloc _)
theorem joined_two {n c : Nat} {k v : Int} {L R T : Tr} {xs zs : List (Int × Int × Int)} (h : JoinC n c L R k v 0 T) (hx : itsC c L = xs) (hz : itsC c R = zs) : itsC c T = xs ++ (k, v, 0) :: zs := by
  rw [h.its, hx, hz]
  congr 2
  unfold itC
  split <;> rfl
theorem inl_kv (c : Nat) (T : Tr) : T.inl.map kvT = (itsC c T).map (fun z => (z.1, z.2.1)) := by
  rw [← inl_its c T, List.map_map]
  rfl
set_option maxRecDepth 100000 in
set_option maxHeartbeats 4000000 in
theorem nothing30_any (w : World) : Calls Tryz.prog 8 #[] w (Ret (.bool true) w) := by
  have HJ := Lib.hid (fun (P : Nat) (nn : Int) (W : World) (k : Int) (R : Tr) (hS : Sch P 1 nn W) (hR : InH W R) (pR : PartC 1 R) (hc : R.count ≤ 100) =>
    schJoinM_any hS (L := .nil) (R := R) k 0 0 trivial hR (MayC.nil 1).part pR (by rw [show Tr.count Tr.nil = 0 from rfl]; omega) _ (Nat.le_refl _) (news_zero (w := W) (t := .nil) (Nat.le_refl _) trivial) (news_zero (Nat.le_refl _) hR))
  simp only [Tr.ptr_nil] at HJ
  unfold itV at HJ
  have hund : undef = Value.tuple #[] := rfl
  go_enter Tryz.func8, Tryz.ntmps8
  go_wp2_with fail
  refine (odd_any w).mono ?_
  rintro e w1 ⟨rfl, h1⟩
  go_wp2_with fail
  refine (pikKeep_nil w1 4 2 1 false _).mono ?_
  rintro e w2 ⟨rfl, h2⟩
  go_wp2_with fail
  refine (odd_any w2).mono ?_
  rintro e w3 ⟨rfl, h3⟩
  go_wp2_with fail
  refine (pikParts_nil w3 4 2 1 false _).mono ?_
  rintro e w4 ⟨rfl, h4⟩
  have hx := ((h1.trans h2).trans h3).trans h4
  clear h1 h2 h3 h4
  go_wp2_with fail
  refine (of22_yes 1 (by decide) w4).mono ?_
  rintro e w5 ⟨P, rfl, st⟩
  go_wp2_with fail
  refine (each_nil w5 _ _).mono ?_
  rintro e w6 ⟨rfl, h6⟩
  replace st := st.more h6
  clear h6
  go_wp2_with fail
  refine (HJ.out P _ w6 1 .nil st.sch trivial (MayC.nil 1).part (by decide)).mono ?_
  rintro e w7 ⟨x, rfl, B7, S7, T, rfl, iT, kT⟩
  have s7 := st.does B7 S7.sch
  clear st B7 S7 iT kT
  go_wp2_with fail
  refine (each_nof w7 _ _).mono ?_
  rintro e w8 ⟨rfl, h8⟩
  go_wp2
  go_ret
  exact Ret.mk (hx.trans (s7.ext.trans h8))
set_option maxRecDepth 100000 in
set_option maxHeartbeats 4000000 in
theorem alive30_any (w : World) : Calls Tryz.prog 9 #[] w (Ret (.bool true) w) := by
  have HJ := Lib.hid (fun (P : Nat) (nn : Int) (W : World) (k v : Int) (L R : Tr) (hS : Sch P 3 nn W) (hL : InH W L) (hR : InH W R) (pL : PartC 3 L) (pR : PartC 3 R) (hc : L.count + R.count ≤ 20000) =>
    schJoinM_any hS (L := L) (R := R) k v 0 hL hR pL pR hc _ (Nat.le_refl _) (news_zero (w := W) (Nat.le_refl _) hL) (news_zero (Nat.le_refl _) hR))
  unfold itV at HJ
  have H0 := Lib.hid (fun (P : Nat) (nn : Int) (W : World) (k v : Int) (hS : Sch P 3 nn W) => HJ.out P nn W k v .nil .nil hS trivial trivial (MayC.nil 3).part (MayC.nil 3).part (by decide))
  simp only [Tr.ptr_nil] at H0
  have hund : undef = Value.tuple #[] := rfl
  go_enter Tryz.func9, Tryz.ntmps9
  go_wp2_with fail
  refine (of22_yes 3 (by decide) w).mono ?_
  rintro e w1 ⟨P, rfl, st⟩
  go_wp2_with fail
  refine (H0.out P _ w1 1 10 st.sch).mono ?_
  rintro e w2 ⟨x, rfl, B2, S2, T1, rfl, i1, k1⟩
  have s2 := st.does B2 S2.sch
  have j1 := joined_two k1 (itsC_nil 3) (itsC_nil 3)
  have HK1 := Lib.hid k1.may
  clear st B2 S2 k1
  go_wp2_with fail
  refine (H0.out P _ w2 3 30 s2.sch).mono ?_
  rintro e w3 ⟨x, rfl, B3, S3, T3, rfl, i3, k3⟩
  have s3 := s2.does B3 S3.sch
  replace i1 := s2.sch.inh B3 i1
  have j3 := joined_two k3 (itsC_nil 3) (itsC_nil 3)
  have HK3 := Lib.hid k3.may
  clear s2 B3 S3 k3
  have n1 : T1.count = 1 := by rw [← itsC_len 3, j1]; rfl
  have n3 : T3.count = 1 := by rw [← itsC_len 3, j3]; rfl
  go_wp2_with fail
  refine (HJ.out P _ w3 2 20 T1 T3 s3.sch i1 i3 HK1.out.part HK3.out.part (by omega)).mono ?_
  rintro e w4 ⟨x, rfl, B4, S4, T, rfl, iT, kT⟩
  have s4 := s3.does B4 S4.sch
  have jT := Lib.hid (show itsC 3 T = [(1, 10, 0), (2, 20, 0), (3, 30, 0)] by rw [joined_two kT j1 j3]; rfl)
  have nT : T.count = 3 := by rw [← itsC_len 3, jT.out]; rfl
  have HKT := Lib.hid kT.may
  clear s3 B4 S4 kT j1 j3 i1 i3 n1 n3 HK1 HK3
  go_wp2_with fail
  refine (odd_any w4).mono ?_
  rintro e w5 ⟨rfl, h5⟩
  have s5 := s4.more h5
  replace iT := iT.ext h5
  clear s4 h5
  have hKP := Lib.hid (pikKeep_any P 3 _ w5 4 2 1 false (by decide) T (by decide) s5.sch iT HKT.out.part (by omega))
  go_wp2_with fail
  refine hKP.out.mono ?_
  rintro e w6 ⟨A, m6, rfl, B6, S6, iA, mA, jA⟩
  have s6 := s5.does B6 S6
  replace iT := s5.sch.inh B6 iT
  have JA := Lib.hid (show itsC 3 A = [(1, 10, 0), (3, 30, 0)] by rw [jA, jT.out]; decide +kernel)
  have nA : A.count = 2 := by rw [← itsC_len 3, JA.out]; rfl
  have HMA := Lib.hid mA
  clear s5 B6 S6 jA mA hKP
  go_wp2_with fail
  refine (odd_any w6).mono ?_
  rintro e w7 ⟨rfl, h7⟩
  have s7 := s6.more h7
  replace iT := iT.ext h7
  replace iA := iA.ext h7
  clear s6 h7
  have hCN := Lib.hid (pikCount_any w7 4 2 1 false (by decide) T (by decide) iT)
  rw [inl_kv 3 T, jT.out, show wrap64 (((([(1, 10, 0), (2, 20, 0), (3, 30, 0)] : List (Int × Int × Int)).map (fun z => (z.1, z.2.1))).filter (tkP 4 2 1 false)).length : Nat) = 2 by decide +kernel] at hCN
  go_wp2_with fail
  refine hCN.out.mono ?_
  rintro e w8 ⟨rfl, h8⟩
  have s8 := s7.more h8
  replace iA := iA.ext h8
  clear s7 h8 iT
  go_wp2_with fail
  refine (pikKeep_bad w8 _ 0 0 0 false (by decide) _ (by decide)).mono ?_
  rintro e w9 ⟨rfl, h9⟩
  have s9 := s8.more h9
  replace iA := iA.ext h9
  clear s8 h9
  have hq := irow3_alloc (c := 2) (zs := [(1, 10, 0), (3, 30, 0)]) (alloc_at w9 (.cells #[.int .i64 1, .int .i64 10, .int .u64 0, .int .i64 3, .int .i64 30, .int .u64 0] 66) _ rfl) (by simp) (by simp)
  have hE := (Ext.refl w9).alloc (.cells #[.int .i64 1, .int .i64 10, .int .u64 0, .int .i64 3, .int .i64 30, .int .u64 0] 66)
  have HH := Lib.hid (has23_any 3 (by decide) A _ _ 2 _ (iA.ext hE) hq (by rw [JA.out]; rfl) HMA.out (fun h => by cases h) (by omega))
  have HX := Lib.hid (s9.ext.trans hE)
  clear s9 hq hE iA nA nT
  go_wp2_with fail
  refine HH.out.mono ?_
  rintro e w10 ⟨rfl, h10⟩
  go_wp2
  go_ret
  exact Ret.mk (HX.out.trans h10)
end Go.Proofs.YtoiohjifjmejkaaGreat
namespace Go.Proofs.YtoiohjifjmejkaaGreat
open Go Go.RowKit Go.Shelf
attribute [local go_sem] Oper.semAt_some

def allT (bs : List Nat) (Ts : List Tr) : List Nat := Ts.foldl addT bs
theorem allT_cons (bs : List Nat) (T : Tr) (Ts : List Tr) : allT bs (T :: Ts) = allT (addT bs T) Ts := rfl
theorem allT_append (bs : List Nat) (A B : List Tr) : allT bs (A ++ B) = allT (allT bs A) B := by simp [allT]
/-- how many of a tree's nodes are in none of others. -/
def freshN (Ts : List Tr) (T : Tr) : Nat := (addT (allT [] Ts) T).length - (allT [] Ts).length
def putAll (Ds : List Nat) (W : World) : World := Ds.foldl (fun W D => W.putObj D (.deferred none)) W
def dcol (D : Nat) : Deferred := { target := .collected D, args := #[] }
theorem leaves_put {F : Fence} {n : Nat} {P : Program} {fn : Func} {tmps : Array Value} {R : Ending → World → Prop} : ∀ (Ds : List Nat) (W : World), (∀ D ∈ Ds, W.heap[D]? = some (.deferred (some []))) → Ds.Nodup →
    LeavesInM F n P fn tmps R [] .returning (putAll Ds W) → LeavesInM F n P fn tmps R (Ds.map dcol) .returning W
  | [], _, _, _, h => h
  | D :: Ds, W, hD, hnd, h => by
    rw [List.nodup_cons] at hnd
    refine ⟨by simp, .inl ⟨_, _, rfl, run_takeDeferred (hD D (List.mem_cons_self ..)), leaves_put Ds _ (fun E hE => ?_) hnd.2 h⟩⟩
    rw [World.putObj_heap_other (fun e => hnd.1 (by subst e; exact hE))]
    exact hD E (List.mem_cons_of_mem _ hE)
theorem putAll_keeps {w : World} {R : Nat} {bs : List Nat} : ∀ (Ds : List Nat) (W : World), (∀ D ∈ Ds, W.heap[D]? = some (.deferred (some []))) → Ds.Nodup → (∀ D ∈ Ds, w.heap.size ≤ D) → Ext w W → SetM W R bs →
    Ext w (putAll Ds W) ∧ SetM (putAll Ds W) R bs
  | [], _, _, _, _, hE, hS => ⟨hE, hS⟩
  | D :: Ds, W, hD, hnd, hw, hE, hS => by
    rw [List.nodup_cons] at hnd
    have hK := hD D (List.mem_cons_self ..)
    have h1 : Ext w (W.putObj D (.deferred none)) := below_put hE hE.size (hw D (List.mem_cons_self ..)) _
    have h2 := hS.put hK rfl (by have := hS.map; intro e; rw [← e, this] at hK; cases hK) (.deferred none)
    refine putAll_keeps Ds _ (fun E hE' => ?_) hnd.2 (fun E hE' => hw E (List.mem_cons_of_mem _ hE')) h1 h2
    show (W.putObj D (.deferred none)).heap[E]? = _
    rw [World.putObj_heap_other (fun e => hnd.1 (by subst e; exact hE'))]
    exact hD E (List.mem_cons_of_mem _ hE')
end Go.Proofs.YtoiohjifjmejkaaGreat
namespace Go.Proofs.YtoiohjifjmejkaaGreat
open Go Go.RowKit

/-- a tree of some beads, each node of which lies in a block of its own, from a number on. -/
def Sole (B : Nat) (t : BT) (T : Tr) : Prop := t.fits T ∧ T.blks.Nodup ∧ ∀ x ∈ T.blks, B ≤ x
theorem Sole.node {A A1 A2 n2 n3 n4 b : Nat} {l r : BT} {L R : Tr} {k v s n g : Int} (hl : Sole A1 l L) (hr : Sole A2 r R) (ll : ∀ x ∈ L.blks, x < n3) (rl : ∀ x ∈ R.blks, x < n4) (h1 : A ≤ A1) (_h2 : n2 ≤ n3) (h3 : A1 ≤ n3) (h4 : A2 ≤ n4) (hb : n4 ≤ b) (e : A2 = n3 := by rfl) : Sole A (.node k v s n g l r) (.node b L k v g R) := by
  subst e
  refine ⟨⟨rfl, rfl, rfl, hl.1, hr.1⟩, ?_, fun x hx => ?_⟩
  · rw [Tr.blks_node, List.nodup_cons]
    refine ⟨fun hm => ?_, List.nodup_append.2 ⟨hl.2.1, hr.2.1, fun x hx y hy => ?_⟩⟩
    · rcases List.mem_append.1 hm with hm | hm
      · have := ll b hm; omega
      · have := rl b hm; omega
    · have := ll x hx
      have := hr.2.2 y hy
      omega
  · rw [Tr.blks_node] at hx
    rcases List.mem_cons.1 hx with rfl | hx
    · omega
    · rcases List.mem_append.1 hx with hx | hx
      · have := hl.2.2 x hx; omega
      · have := hr.2.2 x hx; omega
/-- such a tree, put into a set that has none of it. -/
theorem addT_sole : ∀ {T : Tr} {bs : List Nat}, T.blks.Nodup → (∀ x ∈ T.blks, x ∉ bs) → (addT bs T).length = bs.length + T.count
  | .nil, _, _, _ => rfl
  | .node b l k v g r, bs, hn, hb => by
    rw [Tr.blks_node, List.nodup_cons, List.nodup_append] at hn
    rw [Tr.blks_node] at hb
    have h0 := hb b (List.mem_cons_self ..)
    rw [addT, if_neg h0, Tr.count_node]
    have h1 := addT_sole (T := l) (bs := bs) hn.2.1 (fun x hx => hb x (List.mem_cons_of_mem _ (List.mem_append_left _ hx)))
    have h2 := addT_sole (T := r) (bs := addT bs l ++ [b]) hn.2.2.1 (fun x hx hm => by
      rcases List.mem_append.1 hm with hm | hm
      · rcases addT_mem hm with hm | hm
        · exact hb x (List.mem_cons_of_mem _ (List.mem_append_right _ hx)) hm
        · exact hn.2.2.2 x hm x hx rfl
      · rw [List.mem_singleton] at hm
        exact hn.1 (List.mem_append_right _ (hm ▸ hx)))
    rw [h2, List.length_append, h1, List.length_singleton]
    omega
theorem addT_twice {T : Tr} {bs : List Nat} : addT (addT bs T) T = addT bs T := by
  cases T with
  | nil => rfl
  | node b l k v g r =>
    refine addT_in (b := b) rfl ?_
    rw [addT]
    split
    · assumption
    · exact addT_sub (List.mem_append_right _ (List.mem_singleton.2 rfl))
set_option maxHeartbeats 1000000 in
theorem beadsMakeD_any (t : BT) : ∀ (w : World) (p : Value), Beads w p t.enc → t.enc.length ≤ 400 →
    Calls Tryz.prog 10 #[p] w (Makes (Sole w.heap.size t) w) := by
  have hfn : ∀ f, Fence.wide.fn f := fun _ => trivial
  induction t with
  | nil =>
    intro w p hb hl
    obtain ⟨a, c, rfl⟩ := beads_slice hb
    rw [show BT.nil.enc.length = 0 from rfl]
    clear hb hl
    go_enter Tryz.func10, Tryz.ntmps10
    go_wp2
    go_ret
    exact ⟨.nil, rfl, trivial, ⟨trivial, List.nodup_nil, fun x hx => by cases hx⟩, Ext.refl _⟩
  | node k v s n g l r ihl ihr =>
    intro w p hb hl
    have hp := parts_any w p k v s n g l r hb (by omega)
    have hlen : (BT.node k v s n g l r).enc.length = 1 + l.enc.length + r.enc.length := by simp [BT.enc]; omega
    have IHl := Lib.hid ihl
    have IHr := Lib.hid ihr
    have hll : l.enc.length ≤ 400 := by omega
    have hlr : r.enc.length ≤ 400 := by omega
    have HLL := Lib.hid hll
    have HLR := Lib.hid hlr
    have h1 : 1 ≤ (BT.node k v s n g l r).enc.length := by omega
    obtain ⟨a, c, rfl⟩ := beads_slice hb
    have HP := Lib.hid hp
    clear hb hp hlen ihl ihr hll hlr
    generalize (BT.node k v s n g l r).enc.length = LL at *
    go_enter Tryz.func10, Tryz.ntmps10
    obtain ⟨m⟩ : Nonempty Nat := ⟨0⟩
    refine (wpIn_wide (n := m)).1 ?_
    gi_wp2_with fail
    refine ⟨wide_room _, (callsIn_wide.2 (HP.out)).mono ?_⟩
    rintro e w1 ⟨v1, v2, rfl, hv1, hv2, hE⟩
    gi_wp2_with fail
    have hnew := alloc_at w1 (.cells #[.int .i64 k, .int .i64 v, .int .i64 s, .int .i64 n, .int .u64 g, .bool (!l.isNil), .bool (!r.isNil)] 68) _ rfl
    have hE2 := (Ext.refl w1).alloc (.cells #[.int .i64 k, .int .i64 v, .int .i64 s, .int .i64 n, .int .u64 g, .bool (!l.isNil), .bool (!r.isNil)] 68)
    generalize (w1.alloc (.cells #[.int .i64 k, .int .i64 v, .int .i64 s, .int .i64 n, .int .u64 g, .bool (!l.isNil), .bool (!r.isNil)] 68)) = w2 at *
    have hE02 := hE.trans hE2
    have HV1 := Lib.hid (hv1.ext hE2)
    have HV2 := Lib.hid (hv2.ext hE2)
    clear hv1 hv2 hE hE2
    have hc0 := cell_all (cell_of hnew 0)
    have hc1 := cell_all (cell_of hnew 1)
    have hc4 := cell_all (cell_of hnew 4)
    have hx := Ext.drew w2
    clear hnew
    refine wpIn_region_G (fun j => !(List.contains (α := Nat) [10] j)) (by kernel_rfl) ?_
    refine batchG hfn (fuel := 4) [0, 2, 3, 4, 5, 6, 7, 8] (by kernel_rfl) rfl ?_
    repeat (go_big_quiet_step ((fail)))
    refine wpQuiet_nil ?_
    refine wpAnyG_one (j := 1) (by kernel_rfl) rfl ?_
    gi_wp2_with fail
    refine ⟨wide_room _, (callsIn_wide.2 (IHl.out _ _ (HV1.out.ext hx) HLL.out)).mono ?_⟩
    rintro e w3 ⟨L, rfl, hL, hLs, h3⟩
    have HLs := Lib.hid (And.intro hLs (fun x (hx : x ∈ L.blks) => blks_lt hL hx))
    clear hLs
    gi_wp2_with fail
    refine onePost_ext (h3) ?_
    refine wpAnyG_one (j := 9) (by kernel_rfl) rfl ?_
    gi_wp2_with fail
    have h23 := hx.trans h3
    refine ⟨wide_room _, (callsIn_wide.2 (IHr.out _ _ (HV2.out.ext h23) HLR.out)).mono ?_⟩
    rintro e w4 ⟨R, rfl, hR, hRs, h4⟩
    have HRs := Lib.hid (And.intro hRs (fun x (hx : x ∈ R.blks) => blks_lt hR hx))
    clear hRs
    gi_wp2_with fail
    refine onePost_ext (h4) ?_
    refine wpAnyG_one (j := 10) (by kernel_rfl) rfl ?_
    gi_wp2_with fail
    refine ⟨wide_room _, (callsIn_wide.2 (new_any w4 L R k v g (hL.ext h4) hR)).mono ?_⟩
    rintro e w5 ⟨B, rfl, hB, hT, h5⟩
    gi_wp2_with fail
    refine onePost_any (by kernel_rfl) ?_
    refine batchG hfn (fuel := 0) [11] (by kernel_rfl) rfl ?_
    repeat (go_big_quiet_step ((fail)))
    refine wpQuiet_nil ?_
    refine wpAnyG_done (by kernel_rfl) ?_
    refine calmQ_normal ?_
    gi_wp2
    go_ret
    exact ⟨_, rfl, hT, Sole.node HLs.out.1 HRs.out.1 HLs.out.2 HRs.out.2 (hE02.trans hx).size h23.size h3.size h4.size hB, ((hE02.trans h23).trans h4).trans h5⟩
end Go.Proofs.YtoiohjifjmejkaaGreat
