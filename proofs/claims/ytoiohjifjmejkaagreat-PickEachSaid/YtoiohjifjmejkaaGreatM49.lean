/- look.goes and look.pairs as iterators. look.All and look.Back, as iterators over a tree's pairs. -/
import Derived.Test.YtoiohjifjmejkaaGreatM48
namespace Go.Proofs.YtoiohjifjmejkaaGreat
open Go Go.RowKit Go.Shelf
attribute [local go_sem] Oper.semAt_some

set_option maxHeartbeats 1000000 in
/-- what look.nodes hands back goes over a tree's nodes, from left to right. -/
theorem goesL_iter
 (M : Nat → Prop) (ba bb bt : Nat) (T : Tr) (w : World) (hba : Boxed w ba 87 (.func (.func 36) #[] #[])) (hbb : Boxed w bb 87 (.func (.func 37) #[] #[])) (hbt : Boxed w bt 31 (.pointer T.ptr))
    (ha0 : ¬ M ba) (hb0 : ¬ M bb) (hT : InH w T) (ho : Off M T) :
    Iter 130 #[.pointer (some ⟨ba, 0, none⟩), .pointer (some ⟨bb, 0, none⟩), .pointer (some ⟨bt, 0, none⟩)] (fun x : Tr => #[Value.pointer x.ptr]) T.inl 2 M w := by
  intro n l J Jx W hE hM hJ hJx hY h0
  have hW2 : Ext W ((W.alloc (.cells #[.func (.yield l) #[] #[]] 104)).alloc (.cells #[.func (.func 131) #[] #[.pointer (some ⟨W.heap.size + 1, 0, none⟩), .pointer (some ⟨ba, 0, none⟩), .pointer (some ⟨W.heap.size, 0, none⟩), .pointer (some ⟨bb, 0, none⟩)]] 104)) := ((Ext.refl W).alloc _).alloc _
  have hon := (lookOnL_in M (fun x => x ∈ T.inl) l (T.inl).length W.heap.size (W.heap.size + 1) ba bb (fun pre V => J pre V ∧ W.heap.size + 2 ≤ V.heap.size) Jx (by simpa using hM 0 (by omega)) (hM 1 (by omega)) ha0 hb0
    (fun m pre x W1 hx ⟨hj, hsz⟩ hl => YieldAt.mono (hY m pre x W1 hx hj hl hsz) fun e W' h => h.elim (fun ⟨he, h1, h2⟩ => .inl ⟨he, ⟨h1, Nat.le_trans hsz h2.1.size⟩, h2.1⟩) (fun h => .inr ⟨h.1, h.2.1⟩))
    (fun pre W1 W2 ⟨h, hs⟩ e => ⟨hJ.ext _ _ _ h e, Nat.le_trans hs e.size⟩) T (n - 1) [] _ ((hT.ext hE).ext hW2) ho (fun _ h => h) ⟨hJ.ext _ _ _ h0 hW2, by simp⟩ (by simp)
    ((Boxed.new W _ _).alloc _) (by have := Boxed.new (W.alloc (.cells #[.func (.yield l) #[] #[]] 104)) 104 (.func (.func 131) #[] #[.pointer (some ⟨W.heap.size + 1, 0, none⟩), .pointer (some ⟨ba, 0, none⟩), .pointer (some ⟨W.heap.size, 0, none⟩), .pointer (some ⟨bb, 0, none⟩)]); simpa using this) ((hE.trans hW2).get hba) ((hE.trans hW2).get hbb))
  have Hon := Lib.hid hon
  clear hon hY hJ hJx
  have hcb := (show Boxed W bt _ _ from hE.get hbt).cell
  have hlb := (show Boxed W bt _ _ from hE.get hbt).lt
  have hfn : ∀ f, Fence.wide.fn f := fun _ => trivial
  refine callsIn_of_wp Tryz.func130 rfl trivial ?_ rfl
  simp only [Tryz.ntmps130, List.size_toArray, List.length_cons, List.length_nil, Nat.reduceAdd, Nat.reduceSub, Array.replicate_succ, Array.replicate_zero, List.push_toArray, List.append_toArray, List.nil_append, List.cons_append]
  gi_wp2_with fail
  refine ⟨wide_room _, Hon.out.mono ?_⟩
  rintro e W1 (⟨rfl, ⟨hJ1, -⟩, -⟩ | ⟨rfl, q, hq, hJ1⟩)
  · gi_wp2
    go_end0
    exact ⟨⟨_, rfl⟩, .inl hJ1⟩
  · gi_wp2
    go_end0
    exact ⟨⟨_, rfl⟩, .inr ⟨q, hq, by simpa using hJ1⟩⟩
set_option maxHeartbeats 1000000 in
theorem goesR_iter
 (M : Nat → Prop) (ba bb bt : Nat) (T : Tr) (w : World) (hba : Boxed w ba 87 (.func (.func 37) #[] #[])) (hbb : Boxed w bb 87 (.func (.func 36) #[] #[])) (hbt : Boxed w bt 31 (.pointer T.ptr))
    (ha0 : ¬ M ba) (hb0 : ¬ M bb) (hT : InH w T) (ho : Off M T) :
    Iter 130 #[.pointer (some ⟨ba, 0, none⟩), .pointer (some ⟨bb, 0, none⟩), .pointer (some ⟨bt, 0, none⟩)] (fun x : Tr => #[Value.pointer x.ptr]) T.inr 2 M w := by
  intro n l J Jx W hE hM hJ hJx hY h0
  have hW2 : Ext W ((W.alloc (.cells #[.func (.yield l) #[] #[]] 104)).alloc (.cells #[.func (.func 131) #[] #[.pointer (some ⟨W.heap.size + 1, 0, none⟩), .pointer (some ⟨ba, 0, none⟩), .pointer (some ⟨W.heap.size, 0, none⟩), .pointer (some ⟨bb, 0, none⟩)]] 104)) := ((Ext.refl W).alloc _).alloc _
  have hon := (lookOnR_in M (fun x => x ∈ T.inr) l (T.inr).length W.heap.size (W.heap.size + 1) ba bb (fun pre V => J pre V ∧ W.heap.size + 2 ≤ V.heap.size) Jx (by simpa using hM 0 (by omega)) (hM 1 (by omega)) ha0 hb0
    (fun m pre x W1 hx ⟨hj, hsz⟩ hl => YieldAt.mono (hY m pre x W1 hx hj hl hsz) fun e W' h => h.elim (fun ⟨he, h1, h2⟩ => .inl ⟨he, ⟨h1, Nat.le_trans hsz h2.1.size⟩, h2.1⟩) (fun h => .inr ⟨h.1, h.2.1⟩))
    (fun pre W1 W2 ⟨h, hs⟩ e => ⟨hJ.ext _ _ _ h e, Nat.le_trans hs e.size⟩) T (n - 1) [] _ ((hT.ext hE).ext hW2) ho (fun _ h => h) ⟨hJ.ext _ _ _ h0 hW2, by simp⟩ (by simp)
    ((Boxed.new W _ _).alloc _) (by have := Boxed.new (W.alloc (.cells #[.func (.yield l) #[] #[]] 104)) 104 (.func (.func 131) #[] #[.pointer (some ⟨W.heap.size + 1, 0, none⟩), .pointer (some ⟨ba, 0, none⟩), .pointer (some ⟨W.heap.size, 0, none⟩), .pointer (some ⟨bb, 0, none⟩)]); simpa using this) ((hE.trans hW2).get hba) ((hE.trans hW2).get hbb))
  have Hon := Lib.hid hon
  clear hon hY hJ hJx
  have hcb := (show Boxed W bt _ _ from hE.get hbt).cell
  have hlb := (show Boxed W bt _ _ from hE.get hbt).lt
  have hfn : ∀ f, Fence.wide.fn f := fun _ => trivial
  refine callsIn_of_wp Tryz.func130 rfl trivial ?_ rfl
  simp only [Tryz.ntmps130, List.size_toArray, List.length_cons, List.length_nil, Nat.reduceAdd, Nat.reduceSub, Array.replicate_succ, Array.replicate_zero, List.push_toArray, List.append_toArray, List.nil_append, List.cons_append]
  gi_wp2_with fail
  refine ⟨wide_room _, Hon.out.mono ?_⟩
  rintro e W1 (⟨rfl, ⟨hJ1, -⟩, -⟩ | ⟨rfl, q, hq, hJ1⟩)
  · gi_wp2
    go_end0
    exact ⟨⟨_, rfl⟩, .inl hJ1⟩
  · gi_wp2
    go_end0
    exact ⟨⟨_, rfl⟩, .inr ⟨q, hq, by simpa using hJ1⟩⟩
/-- a node's pair. -/
def kvT (x : Tr) : Int × Int := (x.key, x.val)
theorem map_app (xs : List Tr) (x : Tr) : xs.map kvT ++ [kvT x] = (xs ++ [x]).map kvT := by simp
set_option maxRecDepth 100000 in
set_option maxHeartbeats 2000000 in
/-- look.pairs of what goes over nodes. -/
theorem pairs_iter {gf : Nat} {lb : Array Value} (eg : ∀ args w, (callFunc gf args).run Tryz.prog w = .ok (.enter gf args) w) (xs : List Tr) (d : Nat) (M : Nat → Prop) (W0 : World) (bq : Nat) (hq : Boxed W0 bq 135 (.func (.func gf) #[] lb))
    (hit : Iter gf lb (fun x : Tr => #[Value.pointer x.ptr]) xs d M W0) (hx : ∀ x ∈ xs, InH W0 x ∧ x ≠ .nil ∧ Off M x) :
    Iter 104 #[.pointer (some ⟨bq, 0, none⟩)] (fun z : Int × Int => #[Value.int .i64 z.1, .int .i64 z.2]) (xs.map kvT) (d + 3) M W0 := by
  intro n l J Jx W hE hM hJ hJx hY h0
  have HX := Lib.hid hx
  have HI := Lib.hid (hit.more hE)
  have HM := Lib.hid hM
  have HJ := Lib.hid (And.intro hJ hJx)
  have HY := Lib.hid hY
  have hcb := (show Boxed W bq _ _ from hE.get hq).cell
  have hlb := (show Boxed W bq _ _ from hE.get hq).lt
  clear hx hit hM hJ hJx hY
  have hE1 := (Ext.refl W).alloc (.cells #[.func (.yield l) #[] #[]] 123)
  have hby := Boxed.new W 123 (.func (.yield l) #[] #[])
  have hs1 : (W.alloc (.cells #[.func (.yield l) #[] #[]] 123)).heap.size = W.heap.size + 1 := by simp
  have HE := Lib.hid (And.intro hE hE1)
  refine callsIn_of_wp_marks Tryz.func104 rfl trivial ?_ rfl
  simp only [Tryz.ntmps104, List.size_toArray, List.length_cons, List.length_nil, Nat.reduceAdd, Nat.reduceSub, Array.replicate_succ, Array.replicate_zero, List.push_toArray, List.append_toArray, List.nil_append, List.cons_append]
  gi_wp2_with fail
  generalize W.alloc (.cells #[.func (.yield l) #[] #[]] 123) = w1 at *
  have HS := Lib.hid hs1
  have HB := Lib.hid hby
  clear hE hE1 hby hs1 hcb hlb
  have h0' := h0
  clear h0
  refine range_raw rfl eg (HI.out.more HE.out.2) ?hM (fun _ => rfl) (fun pre V => J (pre.map kvT) V ∧ Boxed V W.heap.size 123 (.func (.yield l) #[] #[]) ∧ Keep M W0 V) (fun c pre V => c = .ret ∧ Jx (pre.map kvT) V) ?hI ?hIx ?h0
    (fun x a' V => a' = { tmps := #[Value.func (Fn.yield l) #[] #[], Value.pointer (some ⟨bq, 0, none⟩), Value.pointer (some ⟨W.heap.size, 0, none⟩), .pointer x.ptr, Value.func (Fn.func gf) #[] lb, .pointer x.ptr, undef, undef, undef, undef, undef, undef, undef], defers := [] }) ?hAx ?hassign ?hbody ?hdone ?hstop
  case hM => exact fun j hj => by rw [HS.out]; have := HM.out (3 + j) (by omega); rwa [show W.heap.size + 1 + 2 + j = W.heap.size + (3 + j) by omega]
  case hI =>
    refine ⟨fun s V V' ⟨h1, h2, h3⟩ e => ⟨HJ.out.1.ext _ _ _ h1 e, e.get h2, h3.trans (Keep.ext e)⟩, fun s V b o o' ⟨h1, h2, h3⟩ hb ho hc => ⟨HJ.out.1.put _ _ _ _ _ h1 (by have := HS.out; omega) ho hc, (Keep.putObj (M := fun _ => False) V b o o' ho hc).boxed (fun h => h) h2, h3.trans (Keep.putObj V b o o' ho hc)⟩⟩
  case hIx =>
    exact fun c => ⟨fun s V V' ⟨h1, h2⟩ e => ⟨h1, HJ.out.2.ext _ _ _ h2 e⟩, fun s V b o o' ⟨h1, h2⟩ hb ho hc => ⟨h1, HJ.out.2.put _ _ _ _ _ h2 (by have := HS.out; omega) ho hc⟩⟩
  case h0 => exact ⟨HJ.out.1.ext _ _ _ h0' HE.out.2, HB.out, Keep.ext (HE.out.1.trans HE.out.2)⟩
  case hAx => exact fun x a' V b o o' h _ _ => h
  case hassign =>
    intro l2 m x V K hsz hK
    gi_wp2
    exact hK _ _ (Ext.refl _) rfl
  case hbody =>
    rintro l2 m pre x a' V hsz hx ⟨hj, hy, hk⟩ rfl hlen
    have hfn : ∀ f, (Fence.wide.inRound l2).fn f := fun _ => trivial
    have HT := Lib.hid (show InH V x from InH.keep hk (HX.out x hx).2.2 (HX.out x hx).1)
    have HK := Lib.hid hk
    have HJ1 := Lib.hid hj
    have HYB := Lib.hid hy
    have HXX := Lib.hid (List.mem_map_of_mem (f := kvT) hx)
    have HLEN := Lib.hid (show (pre.map kvT).length < (xs.map kvT).length by simpa using hlen)
    have HSZ := Lib.hid (show W.heap.size + (d + 3) ≤ V.heap.size by have := HS.out; omega)
    have hcy := cell_all hy.cell
    clear hk hj hy hx hlen hsz h0'
    have hx := Ext.drew V
    gi_wp2_with fail
    refine wpIn_region_G (fun j => !(List.contains (α := Nat) [5] j)) (by kernel_rfl) ?_
    refine batchG hfn (fuel := 4) [0, 1, 3] (by kernel_rfl) rfl ?_
    repeat (go_big_quiet_step ((fail)))
    refine wpQuiet_nil ?_
    refine wpAnyG_one (j := 2) (by kernel_rfl) rfl ?_
    gi_wp2_with fail
    refine ⟨fun h => (by cases h), (CallsIn.inRound l2 (callsIn_wide.2 (key_any _ x (HT.out.ext hx)))).mono ?_⟩
    rintro e V1 ⟨rfl, h1⟩
    gi_wp2_with fail
    refine onePost_ext (h1) ?_
    replace hx := hx.trans h1
    clear h1
    refine wpAnyG_one (j := 4) (by kernel_rfl) rfl ?_
    gi_wp2_with fail
    refine ⟨fun h => (by cases h), (CallsIn.inRound l2 (callsIn_wide.2 (val_any _ x (HT.out.ext hx)))).mono ?_⟩
    rintro e V2 ⟨rfl, h2⟩
    gi_wp2_with fail
    refine onePost_ext (h2) ?_
    replace hx := hx.trans h2
    clear h2 hcy
    obtain ⟨fn, tmps, assign, body, hyy, hR⟩ : YieldAt Fence.wide m Tryz.prog l #[.int .i64 x.key, .int .i64 x.val] V2 _ := HY.out m (pre.map kvT) (kvT x) V2 HXX.out (HJ.out.1.ext _ _ _ HJ1.out hx) HLEN.out (Nat.le_trans HSZ.out hx.size)
    have HR := Lib.hid hR
    clear hR
    refine wpAnyG_one (j := 5) (by kernel_rfl) rfl ?_
    gi_wp2_with fail
    refine ⟨fun h => (by cases h), (RoundIn.any HR.out).mono ?_⟩
    rintro e V3 (⟨rfl, hj3, hk3, hf3⟩ | ⟨rfl, hjx3, hf3⟩)
    · gi_wp2_with fail
      refine onePost_any (by kernel_rfl) ?_
      refine batchG hfn (fuel := 0) [6] (by kernel_rfl) rfl ?_
      repeat (go_big_quiet_step ((fail)))
      refine wpQuiet_nil ?_
      refine wpAnyG_done (by kernel_rfl) ?_
      refine calmQ_normal ?_
      gi_wp2
      exact ⟨(keepsFrom_ext hx).trans (keepsFrom_up hf3 HE.out.2.size), (Keep.ext hx).trans hk3, by rw [← map_app]; exact hj3, hk3.boxed (by simpa using HM.out 0 (by omega)) (hx.get HYB.out), HK.out.trans ((Keep.ext hx).trans hk3)⟩
    · gi_wp2_with fail
      refine onePost_any (by kernel_rfl) ?_
      refine batchG hfn (fuel := 0) [6] (by kernel_rfl) rfl ?_
      repeat (go_big_quiet_step ((fail)))
      refine wpQuiet_nil ?_
      refine wpAnyG_done (by kernel_rfl) ?_
      refine calmQ_normal ?_
      gi_wp2
      exact ⟨(keepsFrom_ext hx).trans (keepsFrom_up hf3 HE.out.2.size), rfl, by rw [← map_app]; exact hjx3⟩
  case hdone =>
    rintro D V hD ⟨hj, -, -⟩ hK
    have hD2 := HE.out.2.size
    gi_wp2
    refine ⟨by simp, .inl ⟨_, _, rfl, run_takeDeferred hK, ?_⟩⟩
    exact ⟨.tuple #[], by simp [results, Tryz.results104, go_sem], ⟨_, rfl⟩, .inl (HJ.out.1.put _ _ _ _ _ hj (by omega) hK rfl)⟩
  case hstop =>
    rintro D c pre V hD hp ⟨rfl, hj⟩ hK
    have hD2 := HE.out.2.size
    gi_wp2
    refine ⟨by simp, .inl ⟨_, _, rfl, run_takeDeferred hK, ?_⟩⟩
    exact ⟨.tuple #[], by simp [results, Tryz.results104, go_sem], ⟨_, rfl⟩, .inr ⟨_, hp.map kvT, HJ.out.2.put _ _ _ _ _ hj (by omega) hK rfl⟩⟩
end Go.Proofs.YtoiohjifjmejkaaGreat
namespace Go.Proofs.YtoiohjifjmejkaaGreat
open Go Go.RowKit Go.Shelf
attribute [local go_sem] Oper.semAt_some

/-- what look.pairs hands back. -/
def pairsV (bq : Nat) : Value := .func (.func 104) #[] #[.pointer (some ⟨bq, 0, none⟩)]
theorem pairs_any (w : World) (N : Nat) : Calls Tryz.prog 64 #[goesV N] w fun e w' => e = .returned (pairsV w.heap.size) ∧ w' = w.alloc (.cells #[goesV N] 135) := by
  unfold goesV
  have hmf : ∀ (fn : Fn) (first cap : Array Value) (w : World), (Instr.makeFunc fn first cap).run Tryz.prog w = .ok (.func fn first cap) w := fun _ _ _ _ => rfl
  go_enter Tryz.func64, Tryz.ntmps64
  go_wp2
  go_ret
  exact ⟨rfl, rfl⟩
/-- what goes over the pairs of a row: whatever blocks M a round may turn, but those that it needs. -/
def Goes (zs : List (Int × Int)) (T : Tr) (w : World) (e : Ending) (w' : World) : Prop :=
  ∃ bq, e = .returned (pairsV bq) ∧ Ext w w' ∧ w'.heap.size = w.heap.size + 4 ∧ ∀ M : Nat → Prop, (∀ i, w.heap.size ≤ i → i < w.heap.size + 4 → ¬ M i) → Off M T → Iter 104 #[.pointer (some ⟨bq, 0, none⟩)] (fun z : Int × Int => #[Value.int .i64 z.1, .int .i64 z.2]) zs 5 M w'
theorem inl_sub {w : World} {M : Nat → Prop} : ∀ {T : Tr}, InH w T → Off M T → ∀ x ∈ T.inl, InH w x ∧ x ≠ .nil ∧ Off M x
  | .nil, _, _, x, h => by cases h
  | .node b l k v g r, hT, ho, x, h => by
    rcases List.mem_append.1 h with h | h
    · exact inl_sub hT.2.1 ho.2.1 x h
    · rcases List.mem_cons.1 h with rfl | h
      · exact ⟨hT, ⟨fun h => (by cases h), ho⟩⟩
      · exact inl_sub hT.2.2 ho.2.2 x h
theorem inr_sub {w : World} {M : Nat → Prop} {T : Tr} (hT : InH w T) (ho : Off M T) : ∀ x ∈ T.inr, InH w x ∧ x ≠ .nil ∧ Off M x := fun x h => by
  rw [inr_rev] at h
  exact inl_sub hT ho x (List.mem_reverse.1 h)
theorem goes_pairs {w : World} {T : Tr} (hT : InH w T) {F1 F2 : Nat} {xs : List Tr}
    (hit : ∀ M : Nat → Prop, ∀ W : World, InH W T → Off M T → Boxed W (w.heap.size + 1) 87 (.func (.func F1) #[] #[]) → Boxed W (w.heap.size + 1 + 1) 87 (.func (.func F2) #[] #[]) → Boxed W w.heap.size 31 (.pointer T.ptr) → ¬ M (w.heap.size + 1) → ¬ M (w.heap.size + 1 + 1) →
      Iter 130 #[.pointer (some ⟨w.heap.size + 1, 0, none⟩), .pointer (some ⟨w.heap.size + 1 + 1, 0, none⟩), .pointer (some ⟨w.heap.size, 0, none⟩)] (fun x : Tr => #[Value.pointer x.ptr]) xs 2 M W)
    (hx : ∀ (M : Nat → Prop) W, InH W T → Off M T → ∀ x ∈ xs, InH W x ∧ x ≠ .nil ∧ Off M x) :
    Goes (xs.map kvT) T w (.returned (pairsV (goesW w T.ptr (.func (.func F1) #[] #[]) (.func (.func F2) #[] #[])).heap.size)) ((goesW w T.ptr (.func (.func F1) #[] #[]) (.func (.func F2) #[] #[])).alloc (.cells #[goesV w.heap.size] 135)) := by
  obtain ⟨hE, hsz, htb, hba, hbb⟩ := goesW_all w T.ptr (.func (.func F1) #[] #[]) (.func (.func F2) #[] #[])
  generalize goesW w T.ptr (.func (.func F1) #[] #[]) (.func (.func F2) #[] #[]) = W0 at *
  have hE2 := (Ext.refl W0).alloc (.cells #[goesV w.heap.size] 135)
  refine ⟨W0.heap.size, rfl, hE.trans hE2, by simp [hsz], fun M hM ho => ?_⟩
  exact pairs_iter (enters_of Tryz.func130 (by kernel_rfl) rfl) xs 2 M _ W0.heap.size (Boxed.new W0 _ _)
    ((hit M W0 (hT.ext hE) ho hba hbb htb (hM _ (by omega) (by omega)) (hM _ (by omega) (by omega))).more hE2) (hx M _ ((hT.ext hE).ext hE2) ho)
/-- **look.All**. -/
theorem all_any (w : World) (T : Tr) (hT : InH w T) : Calls Tryz.prog 41 #[.pointer T.ptr] w (Goes (T.inl.map kvT) T w) := by
  have HN := Lib.hid (nodes_any w T.ptr)
  have HP := Lib.hid (pairs_any)
  have HG := Lib.hid (goes_pairs (w := w) hT (F1 := 36) (F2 := 37) (xs := T.inl) (fun M W h1 h2 h3 h4 h5 h6 h7 => goesL_iter M _ _ _ T W h3 h4 h5 h6 h7 h1 h2) (fun M W h1 h2 => inl_sub h1 h2))
  clear hT
  go_enter Tryz.func41, Tryz.ntmps41
  go_wp2_with fail
  refine HN.out.mono ?_
  rintro e w1 ⟨rfl, rfl⟩
  go_wp2_with fail
  refine (HP.out _ _).mono ?_
  rintro e w2 ⟨rfl, rfl⟩
  go_wp2
  go_ret
  exact HG.out
end Go.Proofs.YtoiohjifjmejkaaGreat
