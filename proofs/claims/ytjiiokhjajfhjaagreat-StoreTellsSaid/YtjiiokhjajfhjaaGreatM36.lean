/- store: how it lies in memory; sync.Once; versions. share: all of any trees, New. -/
import Derived.Test.YtjiiokhjajfhjaaGreatM5
import Derived.Test.YtjiiokhjajfhjaaGreatM28
import Derived.Test.YtjiiokhjajfhjaaGreatM35
namespace Go.Proofs.YtjiiokhjajfhjaaGreat
open Go Go.RowKit

/-- a store in memory: its scheme, whether its row is made, the lock, where the row lies. -/
def StoAt (Q : Nat) (w : World) (P d st : Nat) (p : Option Addr) : Prop := w.heap[Q]? = some (.cells #[.pointer (some ⟨P, 0, none⟩), .int .u32 d, .int .i32 st, .int .u32 0, .pointer p] 93 (0, 0))
/-- a row of trees' pointers, in a block of its own. -/
def Vers (w : World) (G : Nat) (Vs : List Tr) : Prop := ∃ cur : Array Value, w.heap[G]? = some (.cells cur 27 (0, 0)) ∧ ∀ (i : Nat) (T : Tr), Vs[i]? = some T → cur[i]? = some (Value.pointer T.ptr)
/-- a store whose row is made. -/
def Made (Q : Nat) (w : World) (P : Nat) (Vs : List Tr) : Prop := ∃ RB G cap, StoAt Q w P 1 0 (some ⟨RB, 0, none⟩) ∧ RowBox w RB (.slice (some ⟨G, 0, none⟩) Vs.length cap) ∧ Vs.length ≤ cap ∧ Vers w G Vs ∧ Vs ≠ []
/-- a store: its row is not made yet, or it is. -/
def Sto (Q : Nat) (w : World) (P : Nat) (Vs : List Tr) : Prop := (StoAt Q w P 0 0 none ∧ Vs = [.nil]) ∨ Made Q w P Vs
theorem Vers.cell {w : World} {G : Nat} {Vs : List Tr} (h : Vers w G Vs) {i : Nat} {T : Tr} (hi : Vs[i]? = some T) : w.cell? ⟨G, i, none⟩ = some (.pointer T.ptr) := by
  obtain ⟨cur, h1, h2⟩ := h
  rw [cell_of h1]
  exact h2 i T hi
theorem Vers.bt {L : List Nat} {w w' : World} {G : Nat} {Vs : List Tr} (h : Vers w G Vs) (e : Bt L w w') (hG : G ∉ L) : Vers w' G Vs := by
  obtain ⟨cur, h1, h2⟩ := h
  exact ⟨cur, e.get hG h1, h2⟩
theorem StoAt.ne {Q P d st : Nat} {p : Option Addr} {w : World} (h : StoAt Q w P d st p) {k : Nat} {c : Array Value} {t : TypeId} {f : Nat × Nat} (hk : w.heap[k]? = some (.cells c t f)) (ht : t ≠ 93) : k ≠ Q := by
  rintro rfl
  rw [show w.heap[k]? = _ from h] at hk
  injection hk with hk
  injection hk with _ h2 _
  exact ht h2.symm
theorem Sch.ne {P c : Nat} {n : Int} {w : World} (h : Sch P c n w) {k : Nat} {cs : Array Value} {t : TypeId} {f : Nat × Nat} (hk : w.heap[k]? = some (.cells cs t f)) (ht : t ≠ 116) : k ≠ P := by
  rintro rfl
  rcases h.2.2 with h | h
  · rw [show w.heap[k]? = _ from h] at hk
    injection hk with hk
    injection hk with _ h2 _
    exact ht h2.symm
  · rw [show w.heap[k]? = _ from h] at hk
    injection hk with hk
    injection hk with _ h2 _
    exact ht h2.symm
theorem Made.bt {Q P : Nat} {L : List Nat} {w w' : World} {Vs : List Tr} (h : Made Q w P Vs) (e : Bt L w w') (hL : ∀ k ∈ L, k ≠ Q ∧ ∃ c t f, w.heap[k]? = some (.cells c t f) ∧ t ≠ 27 ∧ t ≠ 35) : Made Q w' P Vs := by
  obtain ⟨RB, G, cap, h1, h2, h3, ⟨cur, h4, h5⟩, h6⟩ := h
  refine ⟨RB, G, cap, e.get (fun hk => (hL Q hk).1 rfl) h1, e.get (fun hk => ?_) h2, h3, ⟨cur, e.get (fun hk => ?_) h4, h5⟩, h6⟩
  · obtain ⟨-, c, t, f, a1, -, a3⟩ := hL RB hk
    rw [show w.heap[RB]? = _ from h2] at a1
    injection a1 with a1
    injection a1 with _ b2 _
    exact a3 b2.symm
  · obtain ⟨-, c, t, f, a1, a2, -⟩ := hL G hk
    rw [h4] at a1
    injection a1 with a1
    injection a1 with _ b2 _
    exact a2 b2.symm
theorem Made.ext {Q P : Nat} {w w' : World} {Vs : List Tr} (h : Made Q w P Vs) (e : Ext w w') : Made Q w' P Vs := h.bt (L := []) (Bt.ext e) (fun k hk => by cases hk)
theorem Sto.ext {Q P : Nat} {w w' : World} {Vs : List Tr} (h : Sto Q w P Vs) (e : Ext w w') : Sto Q w' P Vs := h.imp (fun k => ⟨e.get k.1, k.2⟩) (fun k => k.ext e)
theorem Made.lt {Q P : Nat} {w : World} {Vs : List Tr} (h : Made Q w P Vs) : Q < w.heap.size := by obtain ⟨_, _, _, h1, -⟩ := h; exact lt_of h1
theorem Sto.lt {Q P : Nat} {w : World} {Vs : List Tr} (h : Sto Q w P Vs) : Q < w.heap.size := by
  rcases h with h | h
  · exact lt_of h.1
  · exact h.lt
theorem Sto.noNode {Q P : Nat} {w : World} {Vs : List Tr} (h : Sto Q w P Vs) : NoNode w Q := by
  rcases h with h | ⟨_, _, _, h, -⟩
  · exact ⟨_, _, h.1, by decide⟩
  · exact ⟨_, _, h, by decide⟩
theorem Sto.inh {Q P : Nat} {w w' : World} {Vs : List Tr} {t : Tr} (h : Sto Q w P Vs) (e : Bt [Q] w w') (k : InH w t) : InH w' t := k.bt e fun x hx => by rw [List.mem_singleton.1 hx]; exact h.noNode
set_option maxHeartbeats 1000000 in
/-- what is done once. -/
theorem stoOnce_any (Q pl P st : Nat) (w : World) (hp : w.cell? ⟨pl, 0, none⟩ = some (.pointer (some ⟨Q, 0, none⟩))) (h : StoAt Q w P 0 st none) :
    Calls Tryz.prog 58 #[.pointer (some ⟨pl, 0, none⟩)] w
      (fun e w' => e = .returned (.tuple #[]) ∧ Bt [Q] w w' ∧ ∃ RB G, StoAt Q w' P 0 st (some ⟨RB, 0, none⟩) ∧ RowBox w' RB (.slice (some ⟨G, 0, none⟩) 1 1) ∧ Vers w' G [.nil]) := by
  have HS := Lib.hid h
  have hlt := lt_of h
  have hplt := cell_lt hp
  clear h
  go_enter Tryz.func58, Tryz.ntmps58
  go_wp2_with fail
  have hb1 := alloc_at w (.cells #[.pointer none] 27) _ rfl
  have hE1 := (Ext.refl w).alloc (.cells #[.pointer none] 27)
  have hs1 : (w.alloc (.cells #[.pointer none] 27)).heap.size = w.heap.size + 1 := by simp
  generalize w.alloc (.cells #[.pointer none] 27) = w1 at *
  have hb2 := alloc_at w1 (.cells #[.slice (some ⟨w.heap.size, 0, none⟩) 1 1] 35) (w.heap.size + 1) hs1.symm
  have hE2 := (Ext.refl w1).alloc (.cells #[.slice (some ⟨w.heap.size, 0, none⟩) 1 1] 35)
  generalize w1.alloc (.cells #[.slice (some ⟨w.heap.size, 0, none⟩) 1 1] 35) = w2 at *
  have hS2 : StoAt Q w2 P 0 st none := (hE1.trans hE2).get HS.out
  refine (ptrCas_any Q none (w.heap.size + 1) _ w2 (cell_of hS2 4) (frozen_of hS2 4) (fun a h => by cases h) hb2).mono ?_
  rintro e w3 ⟨rfl, rfl⟩
  have hb1' := hE2.get hb1
  have B : Bt [Q] w (w2.setCell ⟨Q, 4, none⟩ (.pointer (some ⟨w.heap.size + 1, 0, none⟩))) := (Bt.ext (hE1.trans hE2)).set _ _ (by simp)
  have C : Bt [Q] w2 (w2.setCell ⟨Q, 4, none⟩ (.pointer (some ⟨w.heap.size + 1, 0, none⟩))) := (Bt.refl _ _).set _ _ (by simp)
  have HF := Lib.hid (show StoAt Q (w2.setCell ⟨Q, 4, none⟩ (.pointer (some ⟨w.heap.size + 1, 0, none⟩))) P 0 st (some ⟨w.heap.size + 1, 0, none⟩) from sch_set hS2 4 _)
  have HB := Lib.hid B
  have HR := Lib.hid (C.get (by simp; omega) hb2)
  have HG := Lib.hid (C.get (by simp; omega) hb1')
  clear B C hb1 hb1' hb2 hS2
  go_wp2
  go_end0
  refine ⟨rfl, HB.out, w.heap.size + 1, w.heap.size, HF.out, HR.out, _, HG.out, fun i T hi => ?_⟩
  cases i with
  | zero => obtain rfl : Tr.nil = T := by simpa using hi
            rfl
  | succ i => simp at hi
/-- the row of a store that has the empty version alone. -/
def Fresh1 (Q P : Nat) (w : World) : Prop := ∃ RB G, StoAt Q w P 1 0 (some ⟨RB, 0, none⟩) ∧ RowBox w RB (.slice (some ⟨G, 0, none⟩) 1 1) ∧ Vers w G [.nil]
theorem Fresh1.made {Q P : Nat} {w : World} (h : Fresh1 Q P w) : Made Q w P [.nil] := by
  obtain ⟨RB, G, h1, h2, h3⟩ := h
  exact ⟨RB, G, 1, h1, h2, Nat.le_refl _, h3, by simp⟩
set_option maxRecDepth 100000 in
set_option maxHeartbeats 1600000 in
theorem stoSlow_any (Q pl P : Nat) (w : World) (hpl : pl ≠ Q) (hp : w.cell? ⟨pl, 0, none⟩ = some (.pointer (some ⟨Q, 0, none⟩))) (h : StoAt Q w P 0 0 none) :
    Calls Tryz.prog 76 #[.pointer (some ⟨Q, 1, none⟩), .func (.func 58) #[] #[.pointer (some ⟨pl, 0, none⟩)]] w
      (fun e w' => e = .returned (.tuple #[]) ∧ Bt [Q] w w' ∧ Fresh1 Q P w') := by
  have hnot : ∀ (x : Bool) (w : World), (Op.unary .not (.bool x)).run Tryz.prog w = .ok (.bool (!x)) w := fun _ _ => rfl
  have hl2 : w.cell? ⟨Q, 2, none⟩ = some (.int .i32 0) := cell_of h 2
  have hf2 := frozen_of h 2
  have HS := Lib.hid h
  have HP := Lib.hid hp
  clear h hp
  go_enter_defers Tryz.func76, Tryz.ntmps76
  go_wp2_with fail
  refine (lock_free ⟨Q, 2, none⟩ _ hl2 hf2).mono ?_
  rintro e w1 ⟨rfl, ew⟩
  have B1 : Bt [Q] w w1 := by rw [ew]; exact (Bt.refl _ _).set _ _ (by simp)
  have h1 : StoAt Q w1 P 0 1 none := by rw [ew]; exact sch_set HS.out 2 _
  have hp1 : w1.cell? ⟨pl, 0, none⟩ = some (.pointer (some ⟨Q, 0, none⟩)) := by
    rw [ew]
    exact (World.cell?_setCell_other _ _ _ _ (fun k => hpl (congrArg Addr.block k).symm)).trans HP.out
  clear ew hl2 hf2
  go_wp2_with fail
  refine (boolLoad_any ⟨Q, 1, none⟩ 0 w1 (cell_of h1 1)).mono ?_
  rintro e w1' ⟨rfl, rfl⟩
  have H1 := Lib.hid h1
  have HP1 := Lib.hid hp1
  clear h1 hp1
  go_wp2_with fail
  refine (stoOnce_any Q pl P 1 _ HP1.out H1.out).mono ?_
  rintro e w2 ⟨rfl, B2, RB, G, h2, r2, g2⟩
  have H2 := Lib.hid h2
  have HR2 := Lib.hid (And.intro r2 g2)
  have hRB := H2.out.ne r2 (by decide)
  have hG : G ≠ Q := by obtain ⟨cur, hg, -⟩ := g2; exact H2.out.ne hg (by decide)
  clear h2 r2 g2
  go_wp2
  refine leaves_cons (f := 108) (args := #[.pointer (some ⟨Q, 1, none⟩), .bool true]) (by simp) (by simp [go_sem]) ?_
  refine (store_deferred ⟨Q, 1, none⟩ (.int .u32 0) .returning _ (cell_of H2.out 1) (frozen_of H2.out 1)).mono ?_
  rintro e u' w'' ⟨rfl, rfl, rfl⟩
  have h3 : StoAt Q (w2.drew.setCell ⟨Q, 1, none⟩ (.int .u32 1)) P 1 1 (some ⟨RB, 0, none⟩) := sch_set (w := w2.drew) H2.out 1 _
  refine leaves_cons (f := 107) (args := #[.pointer (some ⟨Q, 2, none⟩)]) (by simp [settle]) (by simp [go_sem]) ?_
  refine (unlock_deferred ⟨Q, 2, none⟩ _ _ (cell_of h3 2) (frozen_of h3 2)).mono ?_
  rintro e u' w'' ⟨rfl, rfl, rfl⟩
  have h4 : StoAt Q ((w2.drew.setCell ⟨Q, 1, none⟩ (.int .u32 1)).setCell ⟨Q, 2, none⟩ (.int .i32 0)) P 1 0 (some ⟨RB, 0, none⟩) := sch_set h3 2 _
  have B24 : Bt [Q] w2 ((w2.drew.setCell ⟨Q, 1, none⟩ (.int .u32 1)).setCell ⟨Q, 2, none⟩ (.int .i32 0)) := ((Bt.refl [Q] w2).drew.set ⟨Q, 1, none⟩ (.int .u32 1) (by simp)).set ⟨Q, 2, none⟩ (.int .i32 0) (by simp)
  have B4 := (B1.trans B2).trans B24
  have R4 := B24.get (by simp; exact hRB) HR2.out.1
  have G4 := HR2.out.2.bt B24 (by simp; exact hG)
  simp [Leaves, settle, results, Tryz.results76]
  exact ⟨B4, RB, G, h4, R4, G4⟩
end Go.Proofs.YtjiiokhjajfhjaaGreat
namespace Go.Proofs.YtjiiokhjajfhjaaGreat
open Go Go.RowKit Go.Shelf
attribute [local go_sem] Oper.semAt_some

def allT (bs : List Nat) (Ts : List Tr) : List Nat := Ts.foldl addT bs
theorem allT_cons (bs : List Nat) (T : Tr) (Ts : List Tr) : allT bs (T :: Ts) = allT (addT bs T) Ts := rfl
theorem allT_append (bs : List Nat) (A B : List Tr) : allT bs (A ++ B) = allT (allT bs A) B := by simp [allT]
/-- how many of a tree's nodes are in none of others. -/
def freshN (Ts : List Tr) (T : Tr) : Nat := (addT (allT [] Ts) T).length - (allT [] Ts).length
def putAll (Ds : List Nat) (W : World) : World := Ds.foldl (fun W D => W.putObj D (.deferred none)) W
def dcol (D : Nat) : Deferred := { target := .collected D, args := #[] }
theorem leaves_put {F : Fence} {n : Nat} {P : Program} {fn : Func} {tmps : Array Value} {R : Ending → World → Prop} : ∀ (Ds : List Nat) (W : World), (∀ D ∈ Ds, W.heap[D]? = some (.deferred (some []))) → Ds.Nodup →
    LeavesInM F n P fn tmps R [] .returning (putAll Ds W) → LeavesInM F n P fn tmps R (Ds.map dcol) .returning W
  | [], _, _, _, h => h
  | D :: Ds, W, hD, hnd, h => by
    rw [List.nodup_cons] at hnd
    refine ⟨by simp, .inl ⟨_, _, rfl, run_takeDeferred (hD D (List.mem_cons_self ..)), leaves_put Ds _ (fun E hE => ?_) hnd.2 h⟩⟩
    rw [World.putObj_heap_other (fun e => hnd.1 (by subst e; exact hE))]
    exact hD E (List.mem_cons_of_mem _ hE)
theorem putAll_keeps {w : World} {R : Nat} {bs : List Nat} : ∀ (Ds : List Nat) (W : World), (∀ D ∈ Ds, W.heap[D]? = some (.deferred (some []))) → Ds.Nodup → (∀ D ∈ Ds, w.heap.size ≤ D) → Ext w W → SetM W R bs →
    Ext w (putAll Ds W) ∧ SetM (putAll Ds W) R bs
  | [], _, _, _, _, hE, hS => ⟨hE, hS⟩
  | D :: Ds, W, hD, hnd, hw, hE, hS => by
    rw [List.nodup_cons] at hnd
    have hK := hD D (List.mem_cons_self ..)
    have h1 : Ext w (W.putObj D (.deferred none)) := below_put hE hE.size (hw D (List.mem_cons_self ..)) _
    have h2 := hS.put hK rfl (by have := hS.map; intro e; rw [← e, this] at hK; cases hK) (.deferred none)
    refine putAll_keeps Ds _ (fun E hE' => ?_) hnd.2 (fun E hE' => hw E (List.mem_cons_of_mem _ hE')) h1 h2
    show (W.putObj D (.deferred none)).heap[E]? = _
    rw [World.putObj_heap_other (fun e => hnd.1 (by subst e; exact hE'))]
    exact hD E (List.mem_cons_of_mem _ hE')
set_option maxRecDepth 100000 in
set_option maxHeartbeats 4000000 in
theorem shareAllN_in (n : Nat) (hn : Hid (1 ≤ n)) (Ts : List Tr) (a : Option Addr) (b o cap : Nat) (w : World) (ha : Hid (Ts ≠ [] → a = some ⟨b, o, none⟩)) (hc : Hid (∀ i T, Ts[i]? = some T → w.cell? ⟨b, o + i, none⟩ = some (.pointer T.ptr))) (hA : Hid (∀ T ∈ Ts, InH w T)) (_hcap : Ts.length ≤ cap) (hl : Ts.length ≤ 5000) :
    CallsIn Fence.wide n Tryz.prog 61 #[.slice a Ts.length cap] w fun e w' =>
      ∃ R, e = .returned (.map (some R)) ∧ w.heap.size ≤ R ∧ SetM w' R (allT [] Ts) ∧ Ext w w' := by
  have hfn : ∀ f, Fence.wide.fn f := fun _ => trivial
  have hmm := @run_makeMap Tryz.prog
  refine callsIn_of_wp_marks Tryz.func61 rfl trivial ?_ rfl
  simp only [Tryz.ntmps61, List.size_toArray, List.length_cons, List.length_nil, Nat.reduceAdd, Nat.reduceSub, Array.replicate_succ, Array.replicate_zero, List.push_toArray, List.append_toArray, List.nil_append, List.cons_append]
  gi_wp2_with fail
  have hE1 : Ext w (w.alloc (.map #[] 0)) := (Ext.refl w).alloc _
  have hS1 : SetM (w.alloc (.map #[] 0)) w.heap.size [] := ⟨by simpa [setFrom] using alloc_at w (.map #[] 0) _ rfl, fun b hb => by cases hb⟩
  generalize w.alloc (.map #[] 0) = W1 at *
  refine wpIn_loop_rounds (Ts.length + 1) ?_
  generalize hB : Code.roundsIn Fence.wide n Tryz.prog _ _ = RI
  have key : ∀ (Rest : List Tr) (i : Nat) (bs : List Nat) (W : World) (x5 x10 x11 x12 x13 x14 x15 x17 : Value) (Ds : List Nat),
      (∀ j T, Rest[j]? = some T → Ts[i + j]? = some T) → i + Rest.length = Ts.length → Ext w W → SetM W w.heap.size bs → (∀ D ∈ Ds, W.heap[D]? = some (.deferred (some []))) → Ds.Nodup → (∀ D ∈ Ds, w.heap.size ≤ D) → allT bs Rest = allT [] Ts →
      RI (Rest.length + 1) { tmps := #[.slice a Ts.length cap, undef, .map none, .map (some w.heap.size), undef, x5, .map (some w.heap.size), .slice a Ts.length cap, .int .i64 Ts.length, .int .i64 i, x10, x11, x12, x13, x14, x15, undef, x17, undef], defers := Ds.map dcol } W := by
    intro Rest
    induction Rest with
    | nil =>
      intro i bs W x5 x10 x11 x12 x13 x14 x15 x17 Ds hT hi hE hS hD hnd hDw hbs
      rw [← hB, List.length_nil, Nat.zero_add, roundsIn_succ]
      have hi' : i = Ts.length := by simpa using hi
      clear hB hT
      have HX := Lib.hid (And.intro (putAll_keeps Ds W hD hnd hDw hE hS) hbs)
      have HL := Lib.hid (And.intro hD hnd)
      have HI := Lib.hid hi'
      clear hi hi' hE hS hD hnd hDw hbs hmm hE1 hS1
      have hlt : ¬ ((i : Int) < (Ts.length : Int)) := by have := HI.out; omega
      gi_wp2_with fail
      refine leaves_put Ds W HL.out.1 HL.out.2 ?_
      refine ⟨_, by simp [results, Tryz.results61, go_sem], _, rfl, Nat.le_refl _, by rw [← HX.out.2]; exact HX.out.1.2, HX.out.1.1⟩
    | cons T Rest ih =>
      intro i bs W x5 x10 x11 x12 x13 x14 x15 x17 Ds hT hi hE hS hD hnd hDw hbs
      have hT0 : Ts[i]? = some T := by have := hT 0 T rfl; simpa using this
      have hmem : T ∈ Ts := List.mem_of_getElem? hT0
      have hcell : W.cell? ⟨b, o + i, none⟩ = some (.pointer T.ptr) := by
        have h := hc.out i T hT0
        rw [hE.cell (cell_lt h)]; exact h
      obtain rfl := ha.out (List.ne_nil_of_mem hmem)
      have hltT : i < Ts.length := (List.getElem?_eq_some_iff.1 hT0).1
      have hTW := (hA.out T hmem).ext hE
      have IH := Lib.hid ih
      have HB := Lib.hid hB
      have HR := Lib.hid (And.intro hT (And.intro hi (And.intro hbs (And.intro hD (And.intro hnd hDw)))))
      rw [← hB, List.length_cons, roundsIn_succ]
      clear ih hB hT hi hbs hD hnd hDw hT0 hmem hmm hE1 hS1
      gi_wp2_with fail
      refine ⟨wide_room _, (callsIn_wide.2 (shareFresh_any W w.heap.size T.ptr)).mono ?_⟩
      rintro e W2 ⟨rfl, e2⟩
      clear hcell
      have hE2 : Ext W W2 := by rw [e2]; exact ((Ext.refl W).alloc _).alloc _
      have hb2 : Boxed W2 W.heap.size 133 (.map (some w.heap.size)) := by rw [e2]; exact (Boxed.new W _ _).alloc _
      have hb3 : Boxed W2 (W.heap.size + 1) 27 (.pointer T.ptr) := by rw [e2]; exact (by have := Boxed.new (W.alloc (.cells #[.map (some w.heap.size)] 133)) 27 (.pointer T.ptr); simpa using this)
      clear e2
      gi_wp2_with fail
      refine range_fresh (T := T) (R := w.heap.size) (N := w.heap.size) (w0 := w) (bs := bs) hn.out rfl (hTW.ext hE2) (hS.ext hE2) hb2 hb3 (Nat.le_refl _) (hE.trans hE2) ?_
      intro D W3 hD hS3 hk3 hb3' hst3 hK3
      have hws := hE.size
      have hws2 := hE2.size
      have HD := Lib.hid (show ∀ E ∈ D :: Ds, W3.heap[E]? = some (.deferred (some [])) by
        intro E hEm
        rcases List.mem_cons.1 hEm with rfl | hEm
        · exact hK3
        · have h1 := HR.out.2.2.2.1 E hEm
          have h2 := hE2.get h1
          have h3 := (Array.getElem?_eq_some_iff.1 h2).1
          rw [hst3.2 E (fun e => by rw [e, hS.map] at h1; cases h1) h3]; exact h2)
      have HN := Lib.hid (show (D :: Ds).Nodup by
        rw [List.nodup_cons]
        refine ⟨fun hm => ?_, HR.out.2.2.2.2.1⟩
        have h2 := hE2.get (HR.out.2.2.2.1 D hm)
        have h3 := (Array.getElem?_eq_some_iff.1 h2).1
        omega)
      have HW := Lib.hid (show ∀ E ∈ D :: Ds, w.heap.size ≤ E by
        intro E hEm
        rcases List.mem_cons.1 hEm with rfl | hEm
        · omega
        · exact HR.out.2.2.2.2.2 E hEm)
      clear hb2 hb3 hst3 hk3 hK3 hE2 hTW hS hE
      gi_wp2_with fail
      rw [HB.out]
      refine IH.out (i + 1) (addT bs T) W3 _ _ _ _ _ _ _ _ (D :: Ds) (fun j U hj => ?_) (by have := HR.out.2.1; simp at this; omega) hb3' hS3 HD.out HN.out HW.out HR.out.2.2.1
      have := HR.out.1 (j + 1) U (by simpa using hj)
      rw [show i + 1 + j = i + (j + 1) by omega]; exact this
  refine key Ts 0 [] W1 _ _ _ _ _ _ _ _ [] (fun j T hj => by simpa using hj) (by simp) hE1 hS1 (fun D hD => by cases hD) List.nodup_nil (fun D hD => by cases hD) rfl
set_option maxRecDepth 100000 in
set_option maxHeartbeats 2000000 in
theorem shareNewN_in (n : Nat) (hn : Hid (1 ≤ n)) (T : Tr) (Ts : List Tr) (a : Option Addr) (b o cap : Nat) (w : World) (ha : Hid (Ts ≠ [] → a = some ⟨b, o, none⟩)) (hc : Hid (∀ i T, Ts[i]? = some T → w.cell? ⟨b, o + i, none⟩ = some (.pointer T.ptr))) (hA : Hid (∀ T ∈ Ts, InH w T)) (hT : InH w T) (hcap : Ts.length ≤ cap) (hl : Ts.length ≤ 5000) (hle : Hid ((addT (allT [] Ts) T).length ≤ 9999999)) :
    CallsIn Fence.wide n Tryz.prog 40 #[.pointer T.ptr, .slice a Ts.length cap] w (Ret (.int .i64 (freshN Ts T : Nat)) w) := by
  have hfn : ∀ f, Fence.wide.fn f := fun _ => trivial
  refine callsIn_of_wp_marks Tryz.func40 rfl trivial ?_ rfl
  simp only [Tryz.ntmps40, List.size_toArray, List.length_cons, List.length_nil, Nat.reduceAdd, Nat.reduceSub, Array.replicate_succ, Array.replicate_zero, List.push_toArray, List.append_toArray, List.nil_append, List.cons_append]
  gi_wp2_with fail
  refine ⟨wide_room _, (CallsIn.any (n - 1) (shareAllN_in 1 (Lib.hid (Nat.le_refl 1)) Ts a b o cap w ha hc hA hcap hl)).mono ?_⟩
  rintro e W1 ⟨R, rfl, hR, hS1, hE1⟩
  have hl1 := hS1.len
  clear hc hA ha
  have hT1 := hT.ext hE1
  gi_wp2_with fail
  refine ⟨wide_room _, (callsIn_wide.2 (shareFresh_any W1 R T.ptr)).mono ?_⟩
  rintro e W2 ⟨rfl, e2⟩
  have hE2 : Ext W1 W2 := by rw [e2]; exact ((Ext.refl W1).alloc _).alloc _
  have hb2 : Boxed W2 W1.heap.size 133 (.map (some R)) := by rw [e2]; exact (Boxed.new W1 _ _).alloc _
  have hb3 : Boxed W2 (W1.heap.size + 1) 27 (.pointer T.ptr) := by rw [e2]; exact (by have := Boxed.new (W1.alloc (.cells #[.map (some R)] 133)) 27 (.pointer T.ptr); simpa using this)
  clear e2 hl1
  gi_wp2_with fail
  refine range_fresh (T := T) (R := R) (N := w.heap.size) (w0 := w) (bs := allT [] Ts) hn.out rfl (hT1.ext hE2) (hS1.ext hE2) hb2 hb3 hR (hE1.trans hE2) ?_
  intro D W3 hD hS3 hk3 hb3' hst3 hK3
  have hl3 := hS3.len
  clear hb2 hb3
  gi_wp2_with fail
  have hE3 : Ext w (W3.putObj D (.deferred none)) := below_put hb3' (by have := hE1.size; have := hE2.size; have := hst3.1; omega) (by have := hE1.size; have := hE2.size; omega) _
  have e0 : wrap64 (((addT (allT [] Ts) T).length : Int) - ((allT [] Ts).length : Int)) = (freshN Ts T : Nat) := by
    have := hle.out
    have := addT_len (T := T) (bs := allT [] Ts)
    unfold freshN wrap64; omega
  rw [e0]
  refine ⟨by simp, .inl ⟨_, _, rfl, run_takeDeferred hK3, ?_⟩⟩
  exact ⟨_, by simp [results, Tryz.results40, go_sem], rfl, hE3⟩
theorem shareNewN_any (T : Tr) (Ts : List Tr) (a : Option Addr) (b o cap : Nat) (w : World) (ha : Ts ≠ [] → a = some ⟨b, o, none⟩) (hc : ∀ i T, Ts[i]? = some T → w.cell? ⟨b, o + i, none⟩ = some (.pointer T.ptr)) (hA : ∀ T ∈ Ts, InH w T) (hT : InH w T) (hcap : Ts.length ≤ cap) (hl : Ts.length ≤ 5000) (hle : (addT (allT [] Ts) T).length ≤ 9999999) :
    Calls Tryz.prog 40 #[.pointer T.ptr, .slice a Ts.length cap] w (Ret (.int .i64 (freshN Ts T : Nat)) w) :=
  callsIn_wide.1 (shareNewN_in 1 (Lib.hid (Nat.le_refl 1)) T Ts a b o cap w (Lib.hid ha) (Lib.hid hc) (Lib.hid hA) hT hcap hl (Lib.hid hle))
end Go.Proofs.YtjiiokhjajfhjaaGreat
