/- joinerylaw22.grown. look.goes, as what goes over a tree; look.nodes, Count, Height. cut.Items. -/
import Derived.RangeFuncNested
import Derived.Test.YtoiohjifjmejkaaGreatM2
import Derived.Test.YtoiohjifjmejkaaGreatM36
import Derived.Test.YtoiohjifjmejkaaGreatM37
import Derived.Test.YtoiohjifjmejkaaGreatM39
namespace Go.Proofs.YtoiohjifjmejkaaGreat
open Go Go.RowKit

/-- a row of truths. -/
def LRow (w : World) (a : Option Addr) (len cap : Nat) : Prop :=
  len = 0 ∨ ∃ b o, a = some ⟨b, o, none⟩ ∧ len ≤ cap ∧ ∀ i, i < len → ∃ z : Bool, w.cell? ⟨b, o + i, none⟩ = some (.bool z)
/-- its tags fit uint64. -/
def ItOk (zs : List (Int × Int × Int)) : Prop := ∀ z ∈ zs, 0 ≤ z.2.2 ∧ z.2.2 < 18446744073709551616
theorem IOwn3.bt {B : Nat} {L : List Nat} {w w' : World} {v : Value} {zs : List (Int × Int × Int)} (h : IOwn3 B w v zs) (e : Bt L w w') (hL : ∀ P ∈ L, P < B) : IOwn3 B w' v zs := by
  obtain ⟨h1, h | ⟨g, cap, cur, hv, hb, hg, hc⟩⟩ := h
  · exact ⟨h1, .inl h⟩
  · exact ⟨h1, .inr ⟨g, cap, cur, hv, hb, e.get (fun hx => by have := hL g hx; omega) hg, hc⟩⟩
theorem IOwn3.block {B : Nat} {w : World} {v : Value} {zs : List (Int × Int × Int)} (h : IOwn3 B w v zs) {k : Nat} (hk : v.ownBlock = some k) : B ≤ k ∧ ∃ c, w.heap[k]? = some (.cells c 66 (0, 0)) := by
  obtain ⟨h1, ⟨rfl, -⟩ | ⟨g, cap, cur, rfl, hb, hg, hc⟩⟩ := h
  · cases hk
  · simp only [Value.ownBlock, Option.some.injEq] at hk
    subst hk
    exact ⟨hb, _, hg⟩
theorem InH.grown {B : Nat} {w w' : World} {v : Value} {zs : List (Int × Int × Int)} (hv : IOwn3 B w v zs) (hg : w.grownBy w' v.ownBlock) : ∀ {T : Tr}, InH w T → InH w' T
  | .nil, _ => trivial
  | .node b l k x g r, ⟨h0, h1, h2⟩ => ⟨by
      rw [hg.block b (lt_of h0) (fun e => by
        obtain ⟨-, c, hc⟩ := hv.block e.symm
        rw [h0] at hc
        injection hc with hc
        injection hc with _ h2 _
        exact absurd h2 (by decide))]
      exact h0, InH.grown hv hg h1, InH.grown hv hg h2⟩
theorem St.grown {B : Nat} {w W W' : World} {P c : Nat} {n : Int} {v : Value} {zs : List (Int × Int × Int)} (st : St w P c n W) (hv : IOwn3 B W v zs) (hP : P < B) (hg : W.grownBy W' v.ownBlock) : St w P c n W' := by
  have hwB : w.heap.size ≤ B := by have := st.new; omega
  refine ⟨igrown3_ext st.ext (hv.mono hwB) hg, st.new, ?_⟩
  have hp : W'.heap[P]? = W.heap[P]? := hg.block P st.lt (fun e => by have := (hv.block e.symm).1; omega)
  exact ⟨st.sch.1, st.sch.2.1, st.sch.2.2.imp (fun k => by unfold SchAt at k ⊢; rw [hp]; exact k) (fun k => by unfold SchAt at k ⊢; rw [hp]; exact k)⟩
theorem Sch.off {P c : Nat} {n : Int} {w : World} (h : Sch P c n w) {b o : Nat} {x : Int} (hc : w.cell? ⟨b, o, none⟩ = some (.int .i64 x)) : b ≠ P := by
  rintro rfl
  have key : ∀ (d st : Nat) (F : List Value), F = faces0 ∨ F = facesL c → SchAt b w c d st F n → False := by
    intro d st F hF hS
    rw [cell_of hS o] at hc
    have hF8 : ∃ f0 f1 f2 f3 f4 f5 f6 f7, F = [f0, f1, f2, f3, f4, f5, f6, f7] ∧ ∀ f ∈ F, ∀ y, f ≠ .int .i64 y := by
      rcases hF with rfl | rfl
      · exact ⟨_, _, _, _, _, _, _, _, rfl, by simp [faces0]⟩
      · exact ⟨_, _, _, _, _, _, _, _, rfl, by simp [facesL, fnV, joV, rkV]⟩
    obtain ⟨f0, f1, f2, f3, f4, f5, f6, f7, rfl, hf⟩ := hF8
    simp only [schL] at hc
    have hm : Value.int .i64 x ∈ ([.int .u8 c, .int .u32 d, .int .i32 st, .int .u32 0] ++ [f0, f1, f2, f3, f4, f5, f6, f7] ++ [.int .u64 n] : List Value) := by
      rw [List.getElem?_toArray] at hc
      exact List.mem_of_getElem? hc
    simp only [List.mem_append, List.mem_cons, List.not_mem_nil, or_false] at hm
    rcases hm with ((h1 | h1 | h1 | h1) | h1) | h1
    · cases h1
    · cases h1
    · cases h1
    · cases h1
    · exact hf _ (by simp only [List.mem_cons, List.not_mem_nil, or_false]; exact h1) x rfl
    · cases h1
  rcases h.2.2 with h1 | h1
  · exact key _ _ _ (.inl rfl) h1
  · exact key _ _ _ (.inr rfl) h1
theorem Bt.range {P c : Nat} {n : Int} {w w' : World} (e : Bt [P] w w') (h : Sch P c n w) {b o : Nat} {x : Int} {cs : List Value} (hr : w.rangeAt b o (.int .i64 x :: cs)) : w'.rangeAt b o (.int .i64 x :: cs) := by
  have h0 := hr 0 _ rfl
  have hne := h.off h0
  intro j u hj
  rw [World.cell?_of_block (w := w) (e.block b (cell_lt h0) (by simp; exact hne))]
  exact hr j u hj
theorem Beads.sch {P c : Nat} {n : Int} {w w' : World} {v : Value} {zs : List BeadL} (hb : Beads w v zs) (h : Sch P c n w) (e : Bt [P] w w') : Beads w' v zs := by
  rcases hb with hb | ⟨b, o, cp, rfl, hne, hc, hr⟩
  · exact .inl hb
  · cases zs with
    | nil => exact (hne rfl).elim
    | cons z zs => exact .inr ⟨b, o, cp, rfl, hne, hc, e.range h hr⟩
theorem IRow3.sch {P c : Nat} {n : Int} {w w' : World} {v : Value} {zs : List (Int × Int × Int)} (hb : IRow3 w v zs) (h : Sch P c n w) (e : Bt [P] w w') : IRow3 w' v zs := by
  rcases hb with hb | ⟨b, o, cp, rfl, hne, hc, hr⟩
  · exact .inl hb
  · cases zs with
    | nil => exact (hne rfl).elim
    | cons z zs => exact .inr ⟨b, o, cp, rfl, hne, hc, e.range h hr⟩
/-- what grown hands back. -/
def GrownS (w : World) (P c : Nat) (len : Nat) (W0 : World) (e : Ending) (W : World) : Prop :=
  ∃ (T : Tr) (v : Value) (row : List (Int × Int × Int)), e = .returned (.tuple #[.pointer T.ptr, v]) ∧ St w P c (len : Nat) W ∧ InH W T ∧ MayC c T ∧ TagsOk T ∧ itsC c T = row.map (itC c) ∧ T.count = len ∧ IOwn3 W0.heap.size W v row ∧ row.length = len
/-- how far it has come. -/
structure Half (w : World) (P c B k : Nat) (W : World) (T : Tr) (v : Value) (row : List (Int × Int × Int)) : Prop where
  st : St w P c (k : Nat) W
  big : B ≤ W.heap.size
  inh : InH W T
  may : MayC c T
  tags : TagsOk T
  its : itsC c T = row.map (itC c)
  cnt : T.count = k
  own : IOwn3 B W v row
  len : row.length = k
theorem u64_up {k : Nat} (h : k ≤ 1000) : IntKind.u64.wrap ((k : Int) + 1) = ((k + 1 : Nat) : Int) := by rw [u64_mod]; omega
theorem half_left {w : World} {P c B k m : Nat} {W w1 w2 w3 : World} {T u : Tr} {v v' v1 : Value} {row : List (Int × Int × Int)} {z : Int × Int × Int} (H : Half w P c B k W T v row) (hk : k < 100) (hz : 0 ≤ z.2.2 ∧ z.2.2 < 18446744073709551616) (hP : P < B)
    (BB : Bt [P] W w1) (SS : Sch P c (IntKind.u64.wrap ((k : Int) + 1)) w1) (hU : InH w1 u) (ok : JoinC m c .nil T z.1 z.2.1 z.2.2 u) (hE : Ext w1 w2) (hn : IOwn3 w1.heap.size w2 v1 [z]) (hB : B ≤ w1.heap.size) (ho : IOwn3 w1.heap.size w3 v' ([z] ++ row)) (hg : w2.grownBy w3 v1.ownBlock) : Half w P c B (k + 1) w3 u v' (z :: row) := by
  have st1 := (H.st.does BB SS).more hE
  rw [u64_up (by omega)] at st1
  refine ⟨st1.grown hn (by have := hP; omega) hg, Nat.le_trans (Nat.le_trans hB hE.size) hg.size, (hU.ext hE).grown hn hg, ok.may, ok.tags hz.1 hz.2 trivial H.tags (by have := ok.count; have := H.cnt; simp only [show Tr.count Tr.nil = 0 from rfl] at *; omega), ?_, ?_, ho.mono hB, by simp [H.len]⟩
  · rw [ok.its, H.its, itsC_nil]; rfl
  · have := ok.count; have := H.cnt; simp only [show Tr.count Tr.nil = 0 from rfl] at *; omega
theorem half_right {w : World} {P c B k m : Nat} {W w1 w2 w3 : World} {T u : Tr} {v v' v1 : Value} {row : List (Int × Int × Int)} {z : Int × Int × Int} (H : Half w P c B k W T v row) (hk : k < 100) (hz : 0 ≤ z.2.2 ∧ z.2.2 < 18446744073709551616) (hP : P < B)
    (BB : Bt [P] W w1) (SS : Sch P c (IntKind.u64.wrap ((k : Int) + 1)) w1) (hU : InH w1 u) (ok : JoinC m c T .nil z.1 z.2.1 z.2.2 u) (hE : Ext w1 w2) (hn : IOwn3 B w2 v1 row) (ho : IOwn3 B w3 v' (row ++ [z])) (hg : w2.grownBy w3 v1.ownBlock) : Half w P c B (k + 1) w3 u v' (row ++ [z]) := by
  have st1 := (H.st.does BB SS).more hE
  rw [u64_up (by omega)] at st1
  refine ⟨st1.grown hn hP hg, Nat.le_trans (Nat.le_trans (Nat.le_trans H.big BB.size) hE.size) hg.size, (hU.ext hE).grown hn hg, ok.may, ok.tags hz.1 hz.2 H.tags trivial (by have := ok.count; have := H.cnt; simp only [show Tr.count Tr.nil = 0 from rfl] at *; omega), ?_, ?_, ho, by simp [H.len]⟩
  · rw [ok.its, H.its, itsC_nil]; simp
  · have := ok.count; have := H.cnt; simp only [show Tr.count Tr.nil = 0 from rfl] at *; omega
end Go.Proofs.YtoiohjifjmejkaaGreat
namespace Go.Proofs.YtoiohjifjmejkaaGreat
open Go Go.RowKit Go.Shelf
attribute [local go_sem] Oper.semAt_some

theorem ext_abides {β : Type} {B : Nat} {J : β → World → Prop} (hJ : AbidesFrom B J) {s : β} {W W' : World} (h : J s W) (hE : Ext W W') : J s W' :=
  hJ s W W' none h ⟨hE.os, hE.tape, hE.output, Below.size hE, fun k hk _ => Below.block hE k hk⟩ (fun r e => by cases e)
/-- lists of what has a property, as lists. -/
def UnderP {Px : Tr → Prop} (J : List { x : Tr // Px x } → World → Prop) (l : List Tr) (W : World) : Prop := ∃ l' : List { x : Tr // Px x }, l'.map (·.1) = l ∧ J l' W
set_option maxHeartbeats 1000000 in
/-- what look.nodes hands back goes over a tree's nodes, from left to right. -/
theorem goesL_stops
 (M : Nat → Prop) (Px : Tr → Prop) (n ba bb bt : Nat) (T : Tr) (w : World) (hM : ∀ i, M i → i < w.heap.size) (hba : Boxed w ba 87 (.func (.func 36) #[] #[])) (hbb : Boxed w bb 87 (.func (.func 37) #[] #[])) (hbt : Boxed w bt 31 (.pointer T.ptr))
    (ha0 : ¬ M ba) (hb0 : ¬ M bb) (hT : InH w T) (ho : Off M T) (hP : ∀ x ∈ T.inl, Px x) :
    SeqStopsK Fence.wide n Tryz.prog 130 #[.pointer (some ⟨ba, 0, none⟩), .pointer (some ⟨bb, 0, none⟩), .pointer (some ⟨bt, 0, none⟩)] (fun x : { x : Tr // Px x } => #[Value.pointer x.1.ptr]) (Keep M) (fun ys => ys.map (·.1) = T.inl) (fun q => q.map (·.1) <+: T.inl) (T.inl).length w := by
  intro l J Jx W hW hJ hJx hY h0
  have hE : Ext w W := hW
  have hsz : w.heap.size ≤ W.heap.size := hW.size
  have hW2 : Ext W ((W.alloc (.cells #[.func (.yield l) #[] #[]] 104)).alloc (.cells #[.func (.func 131) #[] #[.pointer (some ⟨W.heap.size + 1, 0, none⟩), .pointer (some ⟨ba, 0, none⟩), .pointer (some ⟨W.heap.size, 0, none⟩), .pointer (some ⟨bb, 0, none⟩)]] 104)) := ((Ext.refl W).alloc _).alloc _
  have hon := (lookOnL_in M Px l (T.inl).length W.heap.size (W.heap.size + 1) ba bb (UnderP J) (UnderP Jx) (fun h => by have := hM _ h; omega) (fun h => by have := hM _ h; omega) ha0 hb0
    (fun m pre x W hx ⟨l', hl', hj⟩ hl => YieldAt.any m (YieldAt.mono (hY l' ⟨x, hx⟩ W hj (by rw [← hl'] at hl; simpa using hl)) fun e W' h => h.elim
      (fun ⟨he, h1, h2⟩ => .inl ⟨he, ⟨l' ++ [⟨x, hx⟩], by simp [hl'], h1⟩, h2⟩) (fun ⟨he, h1⟩ => .inr ⟨he, ⟨l' ++ [⟨x, hx⟩], by simp [hl'], h1⟩⟩)))
    (fun pre W W' ⟨l', hl', h⟩ hE => ⟨l', hl', ext_abides hJ h hE⟩) T (n - 1) [] _ ((hT.ext hE).ext hW2) ho hP ⟨[], rfl, ext_abides hJ h0 hW2⟩ (by simp)
    ((Boxed.new W _ _).alloc _) (by have := Boxed.new (W.alloc (.cells #[.func (.yield l) #[] #[]] 104)) 104 (.func (.func 131) #[] #[.pointer (some ⟨W.heap.size + 1, 0, none⟩), .pointer (some ⟨ba, 0, none⟩), .pointer (some ⟨W.heap.size, 0, none⟩), .pointer (some ⟨bb, 0, none⟩)]); simpa using this) ((hE.trans hW2).get hba) ((hE.trans hW2).get hbb))
  have Hon := Lib.hid hon
  clear hon hY hP
  have hcb := (show Boxed W bt _ _ from hE.get hbt).cell
  have hlb := (show Boxed W bt _ _ from hE.get hbt).lt
  have hfn : ∀ f, Fence.wide.fn f := fun _ => trivial
  refine callsIn_of_wp Tryz.func130 rfl trivial ?_ rfl
  simp only [Tryz.ntmps130, List.size_toArray, List.length_cons, List.length_nil, Nat.reduceAdd, Nat.reduceSub, Array.replicate_succ, Array.replicate_zero, List.push_toArray, List.append_toArray, List.nil_append, List.cons_append]
  gi_wp2_with fail
  refine ⟨wide_room _, Hon.out.mono ?_⟩
  rintro e W1 (⟨rfl, ⟨l', hl', hJ1⟩, -⟩ | ⟨rfl, q, hq, l', hl', hJ1⟩)
  · gi_wp2
    go_end0
    exact ⟨⟨_, rfl⟩, .inl ⟨_, by simpa using hl', hJ1⟩⟩
  · gi_wp2
    go_end0
    exact ⟨⟨_, rfl⟩, .inr ⟨l', by rw [hl']; simpa using hq, hJ1⟩⟩
set_option maxHeartbeats 1000000 in
theorem goesR_stops
 (M : Nat → Prop) (Px : Tr → Prop) (n ba bb bt : Nat) (T : Tr) (w : World) (hM : ∀ i, M i → i < w.heap.size) (hba : Boxed w ba 87 (.func (.func 37) #[] #[])) (hbb : Boxed w bb 87 (.func (.func 36) #[] #[])) (hbt : Boxed w bt 31 (.pointer T.ptr))
    (ha0 : ¬ M ba) (hb0 : ¬ M bb) (hT : InH w T) (ho : Off M T) (hP : ∀ x ∈ T.inr, Px x) :
    SeqStopsK Fence.wide n Tryz.prog 130 #[.pointer (some ⟨ba, 0, none⟩), .pointer (some ⟨bb, 0, none⟩), .pointer (some ⟨bt, 0, none⟩)] (fun x : { x : Tr // Px x } => #[Value.pointer x.1.ptr]) (Keep M) (fun ys => ys.map (·.1) = T.inr) (fun q => q.map (·.1) <+: T.inr) (T.inr).length w := by
  intro l J Jx W hW hJ hJx hY h0
  have hE : Ext w W := hW
  have hsz : w.heap.size ≤ W.heap.size := hW.size
  have hW2 : Ext W ((W.alloc (.cells #[.func (.yield l) #[] #[]] 104)).alloc (.cells #[.func (.func 131) #[] #[.pointer (some ⟨W.heap.size + 1, 0, none⟩), .pointer (some ⟨ba, 0, none⟩), .pointer (some ⟨W.heap.size, 0, none⟩), .pointer (some ⟨bb, 0, none⟩)]] 104)) := ((Ext.refl W).alloc _).alloc _
  have hon := (lookOnR_in M Px l (T.inr).length W.heap.size (W.heap.size + 1) ba bb (UnderP J) (UnderP Jx) (fun h => by have := hM _ h; omega) (fun h => by have := hM _ h; omega) ha0 hb0
    (fun m pre x W hx ⟨l', hl', hj⟩ hl => YieldAt.any m (YieldAt.mono (hY l' ⟨x, hx⟩ W hj (by rw [← hl'] at hl; simpa using hl)) fun e W' h => h.elim
      (fun ⟨he, h1, h2⟩ => .inl ⟨he, ⟨l' ++ [⟨x, hx⟩], by simp [hl'], h1⟩, h2⟩) (fun ⟨he, h1⟩ => .inr ⟨he, ⟨l' ++ [⟨x, hx⟩], by simp [hl'], h1⟩⟩)))
    (fun pre W W' ⟨l', hl', h⟩ hE => ⟨l', hl', ext_abides hJ h hE⟩) T (n - 1) [] _ ((hT.ext hE).ext hW2) ho hP ⟨[], rfl, ext_abides hJ h0 hW2⟩ (by simp)
    ((Boxed.new W _ _).alloc _) (by have := Boxed.new (W.alloc (.cells #[.func (.yield l) #[] #[]] 104)) 104 (.func (.func 131) #[] #[.pointer (some ⟨W.heap.size + 1, 0, none⟩), .pointer (some ⟨ba, 0, none⟩), .pointer (some ⟨W.heap.size, 0, none⟩), .pointer (some ⟨bb, 0, none⟩)]); simpa using this) ((hE.trans hW2).get hba) ((hE.trans hW2).get hbb))
  have Hon := Lib.hid hon
  clear hon hY hP
  have hcb := (show Boxed W bt _ _ from hE.get hbt).cell
  have hlb := (show Boxed W bt _ _ from hE.get hbt).lt
  have hfn : ∀ f, Fence.wide.fn f := fun _ => trivial
  refine callsIn_of_wp Tryz.func130 rfl trivial ?_ rfl
  simp only [Tryz.ntmps130, List.size_toArray, List.length_cons, List.length_nil, Nat.reduceAdd, Nat.reduceSub, Array.replicate_succ, Array.replicate_zero, List.push_toArray, List.append_toArray, List.nil_append, List.cons_append]
  gi_wp2_with fail
  refine ⟨wide_room _, Hon.out.mono ?_⟩
  rintro e W1 (⟨rfl, ⟨l', hl', hJ1⟩, -⟩ | ⟨rfl, q, hq, l', hl', hJ1⟩)
  · gi_wp2
    go_end0
    exact ⟨⟨_, rfl⟩, .inl ⟨_, by simpa using hl', hJ1⟩⟩
  · gi_wp2
    go_end0
    exact ⟨⟨_, rfl⟩, .inr ⟨l', by rw [hl']; simpa using hq, hJ1⟩⟩
/-- what look.goes lays into memory. -/
def goesW (w : World) (p : Option Addr) (fa fb : Value) : World := ((w.alloc (.cells #[.pointer p] 31)).alloc (.cells #[fa] 87)).alloc (.cells #[fb] 87)
def goesV (N : Nat) : Value := .func (.func 130) #[] #[.pointer (some ⟨N + 1, 0, none⟩), .pointer (some ⟨N + 1 + 1, 0, none⟩), .pointer (some ⟨N, 0, none⟩)]
theorem goesW_all (w : World) (p : Option Addr) (fa fb : Value) : Ext w (goesW w p fa fb) ∧ (goesW w p fa fb).heap.size = w.heap.size + 3 ∧ Boxed (goesW w p fa fb) w.heap.size 31 (.pointer p) ∧ Boxed (goesW w p fa fb) (w.heap.size + 1) 87 fa ∧ Boxed (goesW w p fa fb) (w.heap.size + 1 + 1) 87 fb := by
  refine ⟨(((Ext.refl w).alloc _).alloc _).alloc _, by simp [goesW], ?_, ?_, ?_⟩ <;> unfold goesW <;> (try unfold Boxed) <;> (repeat (first | exact alloc_at _ _ _ (by simp) | rw [alloc_lt _ _ _ (by simp <;> omega)]))
theorem goes_any (w : World) (p : Option Addr) (f g : Nat) : Calls Tryz.prog 105 #[.pointer p, .func (.func f) #[] #[], .func (.func g) #[] #[]] w fun e w' => e = .returned (goesV w.heap.size) ∧ w' = goesW w p (.func (.func f) #[] #[]) (.func (.func g) #[] #[]) := by
  go_enter Tryz.func105, Tryz.ntmps105
  go_wp2
  go_ret
  exact ⟨rfl, rfl⟩
theorem nodes_any (w : World) (p : Option Addr) : Calls Tryz.prog 65 #[.pointer p] w fun e w' => e = .returned (goesV w.heap.size) ∧ w' = goesW w p (.func (.func 36) #[] #[]) (.func (.func 37) #[] #[]) := by
  have HG := Lib.hid (goes_any w p 36 37)
  go_enter Tryz.func65, Tryz.ntmps65
  go_wp2_with fail
  refine HG.out.mono ?_
  rintro e w1 ⟨rfl, rfl⟩
  go_wp2
  go_ret
  exact ⟨rfl, rfl⟩
/-- how high a tree is. -/
def hgt : Tr → Int
  | .nil => 0
  | .node _ l _ _ _ r => wrap64 (1 + max (hgt l) (hgt r))
theorem wrap64_up (a : Int) : wrap64 (wrap64 a + 1) = wrap64 (a + 1) := by unfold wrap64; omega
theorem results_box {fn : Func} {t : Tmp} {A : TypeId} (h : fn.results = #[.cell t A]) (tmps : Array Value) (w : World) {a : Value} {p : Addr} (ht : tmps.getD t undef = .pointer (some p))
    (hA : ∀ w : World, (isAgg A).run Tryz.prog w = .ok false w) (hp : w.cell? p = some a) :
    (results fn tmps).run Tryz.prog w = .ok a w := by
  simp only [Array.getD_eq_getD_getElem?] at ht
  simp [results, h, ht, loadVar, hA, asAddr, hp]
/-- a function's end, whose one result lies in a box of its own that has been written once more, behind a range over a function. -/
theorem one_end {w W0 W : World} {N D : Nat} {t : TypeId} {a : Value} (hN : w.heap.size = N) (hE : Ext w W0) (hb : Below N W0 W) (hD : W0.heap.size ≤ D) (hK : W.heap[D]? = some (.deferred (some []))) (h1 : Boxed W N t a) (hs : N + 1 ≤ W0.heap.size) :
    (W.setCell ⟨N, 0, none⟩ a).heap[D]? = some (.deferred (some [])) ∧ ((W.setCell ⟨N, 0, none⟩ a).putObj D (.deferred none)).cell? ⟨N, 0, none⟩ = some a ∧ Ext w ((W.setCell ⟨N, 0, none⟩ a).putObj D (.deferred none)) := by
  have hk : (W.setCell ⟨N, 0, none⟩ a).heap[D]? = some (.deferred (some [])) := (KeepsOthers.setCell _ _ _).same D _ hK rfl
  refine ⟨hk, (Boxed.kept (h1.set a) (grownBy_putObj' _ D _) (by simp; omega)).cell, ?_⟩
  have hB : Below N w W0 := by have := hE; unfold Ext at this; rwa [hN] at this
  have hB2 := (hB.trans hb).setCell (p := ⟨N, 0, none⟩) (Nat.le_refl N) a
  have := hB2.trans (belowK_b (w := W0) (n₀ := N) (by omega) _ D _ (.deferred none) hD hk rfl rfl)
  unfold Ext
  rwa [hN]
/-- the world ahead of Count's loop. -/
def cntW (w : World) (p : Option Addr) : World := goesW (w.alloc (.cells #[.int .i64 0] 3)) p (.func (.func 36) #[] #[]) (.func (.func 37) #[] #[])
theorem cntW_all (w : World) (p : Option Addr) : Ext w (cntW w p) ∧ (cntW w p).heap.size = w.heap.size + 4 ∧ Boxed (cntW w p) w.heap.size 3 (.int .i64 0) ∧ Boxed (cntW w p) (w.heap.size + 1) 31 (.pointer p) ∧
    Boxed (cntW w p) (w.heap.size + 1 + 1) 87 (.func (.func 36) #[] #[]) ∧ Boxed (cntW w p) (w.heap.size + 1 + 1 + 1) 87 (.func (.func 37) #[] #[]) := by
  refine ⟨((((Ext.refl w).alloc _).alloc _).alloc _).alloc _, by simp [cntW, goesW], ?_, ?_, ?_, ?_⟩ <;> unfold cntW goesW <;> (try unfold Boxed) <;> (repeat (first | exact alloc_at _ _ _ (by simp) | rw [alloc_lt _ _ _ (by simp <;> omega)]))
end Go.Proofs.YtoiohjifjmejkaaGreat
namespace Go.Proofs.YtoiohjifjmejkaaGreat
open Go Go.RowKit Go.Shelf
attribute [local go_sem] Oper.semAt_some

theorem Sch.cells' {P c : Nat} {n : Int} {w : World} (h : Sch P c n w) : ∃ cs, w.heap[P]? = some (.cells cs 113 (0, 0)) := by
  rcases h.2.2 with h | h
  · exact ⟨_, h⟩
  · exact ⟨_, h⟩
/-- what cut.each lays into memory. -/
def eachW (w : World) (s p : Option Addr) : World := (w.alloc (.cells #[.pointer s] 25)).alloc (.cells #[.pointer p] 31)
/-- the world ahead of Items' loop. -/
def itmW (w : World) (s p : Option Addr) : World := eachW (w.alloc (.cells #[.slice none 0 0] 41)) s p
theorem itmW_all (w : World) (s p : Option Addr) : Ext w (itmW w s p) ∧ (itmW w s p).heap.size = w.heap.size + 3 ∧ Boxed (itmW w s p) w.heap.size 41 (.slice none 0 0) ∧ Boxed (itmW w s p) (w.heap.size + 1) 25 (.pointer s) ∧
    Boxed (itmW w s p) (w.heap.size + 1 + 1) 31 (.pointer p) := by
  refine ⟨(((Ext.refl w).alloc _).alloc _).alloc _, by simp [itmW, eachW], ?_, ?_, ?_⟩ <;> unfold itmW eachW <;> (try unfold Boxed) <;> (repeat (first | exact alloc_at _ _ _ (by simp) | rw [alloc_lt _ _ _ (by simp <;> omega)]))
theorem Bt.row {L : List Nat} {w W W' : World} {v : Value} (h : Bt L w W) (hg : W.grownBy W' v.ownBlock) (hv : ∀ g, v.ownBlock = some g → w.heap.size ≤ g) : Bt L w W' :=
  ⟨hg.os.trans h.os, hg.tape.trans h.tape, hg.output.trans h.output, Nat.le_trans h.size hg.size, fun k hk hn => (hg.block k (Nat.lt_of_lt_of_le hk h.size) (fun e => by have := hv k e.symm; omega)).trans (h.block k hk hn)⟩
theorem Sch.row {P c : Nat} {n : Int} {W W' : World} {v : Value} (h : Sch P c n W) (hg : W.grownBy W' v.ownBlock) (hv : ∀ g, v.ownBlock = some g → P < g) : Sch P c n W' := by
  have hp : W'.heap[P]? = W.heap[P]? := hg.block P h.lt (fun e => by have := hv P e.symm; omega)
  exact ⟨h.1, h.2.1, h.2.2.imp (fun k => by unfold SchAt at k ⊢; rw [hp]; exact k) (fun k => by unfold SchAt at k ⊢; rw [hp]; exact k)⟩
theorem Keep.row {M : Nat → Prop} {W W' : World} {v : Value} (hg : W.grownBy W' v.ownBlock) (hv : ∀ g, v.ownBlock = some g → M g) : Keep M W W' :=
  ⟨hg.os, hg.tape, hg.output, hg.size, fun i _ _ _ hi hx => (hg.block i (lt_of hx) (fun e => hi (hv i e.symm))).trans hx⟩
theorem keepsFrom_row {B : Nat} {W W' : World} {v : Value} (hg : W.grownBy W' v.ownBlock) (hv : ∀ g, v.ownBlock = some g → ∃ c t f, W.heap[g]? = some (.cells c t f)) : KeepsFrom B W W' :=
  ⟨hg.size, fun k o _ hk ho => (hg.block k (lt_of hk) (fun e => by
    obtain ⟨c, t, f, h⟩ := hv k e.symm
    rw [hk] at h
    cases h
    cases ho)).trans hk⟩
theorem off_of {w : World} {P c N : Nat} {n : Int} (hS : Sch P c n w) (hN : w.heap.size ≤ N) (m : Nat) : ∀ {T : Tr}, InH w T → Off (fun i => i = N ∨ i = P ∨ N + m ≤ i) T
  | .nil, _ => trivial
  | .node b l k v g r, ⟨h0, h1, h2⟩ => ⟨fun hb => by
      have := lt_of h0
      rcases hb with hb | hb | hb
      · omega
      · subst hb
        obtain ⟨cs, hc⟩ := hS.cells'
        rw [h0] at hc
        injection hc with hc
        injection hc with _ h2 _
        exact absurd h2 (by decide)
      · omega, off_of hS hN m h1, off_of hS hN m h2⟩
end Go.Proofs.YtoiohjifjmejkaaGreat
