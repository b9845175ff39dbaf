/- share: all of any trees, New. The walk of SchemeWhole. -/
import Derived.Test.YtkkdobolloojjaaGreatM27
import Derived.Test.YtkkdobolloojjaaGreatM40
import Derived.Test.YtkkdobolloojjaaGreatM41
namespace Go.Proofs.YtkkdobolloojjaaGreat
open Go Go.RowKit Go.Shelf
attribute [local go_sem] Oper.semAt_some

def allT (bs : List Nat) (Ts : List Tr) : List Nat := Ts.foldl addT bs
theorem allT_cons (bs : List Nat) (T : Tr) (Ts : List Tr) : allT bs (T :: Ts) = allT (addT bs T) Ts := rfl
theorem allT_append (bs : List Nat) (A B : List Tr) : allT bs (A ++ B) = allT (allT bs A) B := by simp [allT]
/-- how many of a tree's nodes are in none of others. -/
def freshN (Ts : List Tr) (T : Tr) : Nat := (addT (allT [] Ts) T).length - (allT [] Ts).length
def putAll (Ds : List Nat) (W : World) : World := Ds.foldl (fun W D => W.putObj D (.deferred none)) W
def dcol (D : Nat) : Deferred := { target := .collected D, args := #[] }
theorem leaves_put {F : Fence} {n : Nat} {P : Program} {fn : Func} {tmps : Array Value} {R : Ending → World → Prop} : ∀ (Ds : List Nat) (W : World), (∀ D ∈ Ds, W.heap[D]? = some (.deferred (some []))) → Ds.Nodup →
    LeavesInM F n P fn tmps R [] .returning (putAll Ds W) → LeavesInM F n P fn tmps R (Ds.map dcol) .returning W
  | [], _, _, _, h => h
  | D :: Ds, W, hD, hnd, h => by
    rw [List.nodup_cons] at hnd
    refine ⟨by simp, .inl ⟨_, _, rfl, run_takeDeferred (hD D (List.mem_cons_self ..)), leaves_put Ds _ (fun E hE => ?_) hnd.2 h⟩⟩
    rw [World.putObj_heap_other (fun e => hnd.1 (by subst e; exact hE))]
    exact hD E (List.mem_cons_of_mem _ hE)
theorem putAll_keeps {w : World} {R : Nat} {bs : List Nat} : ∀ (Ds : List Nat) (W : World), (∀ D ∈ Ds, W.heap[D]? = some (.deferred (some []))) → Ds.Nodup → (∀ D ∈ Ds, w.heap.size ≤ D) → Ext w W → SetM W R bs →
    Ext w (putAll Ds W) ∧ SetM (putAll Ds W) R bs
  | [], _, _, _, _, hE, hS => ⟨hE, hS⟩
  | D :: Ds, W, hD, hnd, hw, hE, hS => by
    rw [List.nodup_cons] at hnd
    have hK := hD D (List.mem_cons_self ..)
    have h1 : Ext w (W.putObj D (.deferred none)) := below_put hE hE.size (hw D (List.mem_cons_self ..)) _
    have h2 := hS.put hK rfl (by have := hS.map; intro e; rw [← e, this] at hK; cases hK) (.deferred none)
    refine putAll_keeps Ds _ (fun E hE' => ?_) hnd.2 (fun E hE' => hw E (List.mem_cons_of_mem _ hE')) h1 h2
    show (W.putObj D (.deferred none)).heap[E]? = _
    rw [World.putObj_heap_other (fun e => hnd.1 (by subst e; exact hE'))]
    exact hD E (List.mem_cons_of_mem _ hE')
set_option maxRecDepth 100000 in
set_option maxHeartbeats 4000000 in
theorem shareAllN_in (n : Nat) (hn : Hid (1 ≤ n)) (Ts : List Tr) (a : Option Addr) (b o cap : Nat) (w : World) (ha : Hid (Ts ≠ [] → a = some ⟨b, o, none⟩)) (hc : Hid (∀ i T, Ts[i]? = some T → w.cell? ⟨b, o + i, none⟩ = some (.pointer T.ptr))) (hA : Hid (∀ T ∈ Ts, InH w T)) (_hcap : Ts.length ≤ cap) (hl : Ts.length ≤ 5000) :
    CallsIn Fence.wide n Tryz.prog 67 #[.slice a Ts.length cap] w fun e w' =>
      ∃ R, e = .returned (.map (some R)) ∧ w.heap.size ≤ R ∧ SetM w' R (allT [] Ts) ∧ Ext w w' := by
  have hfn : ∀ f, Fence.wide.fn f := fun _ => trivial
  have hmm := @run_makeMap Tryz.prog
  refine callsIn_of_wp_marks Tryz.func67 rfl trivial ?_ rfl
  simp only [Tryz.ntmps67, List.size_toArray, List.length_cons, List.length_nil, Nat.reduceAdd, Nat.reduceSub, Array.replicate_succ, Array.replicate_zero, List.push_toArray, List.append_toArray, List.nil_append, List.cons_append]
  gi_wp2_with fail
  have hE1 : Ext w (w.alloc (.map #[] 0)) := (Ext.refl w).alloc _
  have hS1 : SetM (w.alloc (.map #[] 0)) w.heap.size [] := ⟨by simpa [setFrom] using alloc_at w (.map #[] 0) _ rfl, fun b hb => by cases hb⟩
  generalize w.alloc (.map #[] 0) = W1 at *
  refine wpIn_loop_rounds (Ts.length + 1) ?_
  generalize hB : Code.roundsIn Fence.wide n Tryz.prog _ _ = RI
  have key : ∀ (Rest : List Tr) (i : Nat) (bs : List Nat) (W : World) (x5 x10 x11 x12 x13 x14 x15 x17 : Value) (Ds : List Nat),
      (∀ j T, Rest[j]? = some T → Ts[i + j]? = some T) → i + Rest.length = Ts.length → Ext w W → SetM W w.heap.size bs → (∀ D ∈ Ds, W.heap[D]? = some (.deferred (some []))) → Ds.Nodup → (∀ D ∈ Ds, w.heap.size ≤ D) → allT bs Rest = allT [] Ts →
      RI (Rest.length + 1) { tmps := #[.slice a Ts.length cap, undef, .map none, .map (some w.heap.size), undef, x5, .map (some w.heap.size), .slice a Ts.length cap, .int .i64 Ts.length, .int .i64 i, x10, x11, x12, x13, x14, x15, undef, x17, undef], defers := Ds.map dcol } W := by
    intro Rest
    induction Rest with
    | nil =>
      intro i bs W x5 x10 x11 x12 x13 x14 x15 x17 Ds hT hi hE hS hD hnd hDw hbs
      rw [← hB, List.length_nil, Nat.zero_add, roundsIn_succ]
      have hi' : i = Ts.length := by simpa using hi
      clear hB hT
      have HX := Lib.hid (And.intro (putAll_keeps Ds W hD hnd hDw hE hS) hbs)
      have HL := Lib.hid (And.intro hD hnd)
      have HI := Lib.hid hi'
      clear hi hi' hE hS hD hnd hDw hbs hmm hE1 hS1
      have hlt : ¬ ((i : Int) < (Ts.length : Int)) := by have := HI.out; omega
      gi_wp2_with fail
      refine leaves_put Ds W HL.out.1 HL.out.2 ?_
      refine ⟨_, by simp [results, Tryz.results67, go_sem], _, rfl, Nat.le_refl _, by rw [← HX.out.2]; exact HX.out.1.2, HX.out.1.1⟩
    | cons T Rest ih =>
      intro i bs W x5 x10 x11 x12 x13 x14 x15 x17 Ds hT hi hE hS hD hnd hDw hbs
      have hT0 : Ts[i]? = some T := by have := hT 0 T rfl; simpa using this
      have hmem : T ∈ Ts := List.mem_of_getElem? hT0
      have hcell : W.cell? ⟨b, o + i, none⟩ = some (.pointer T.ptr) := by
        have h := hc.out i T hT0
        rw [hE.cell (cell_lt h)]; exact h
      obtain rfl := ha.out (List.ne_nil_of_mem hmem)
      have hltT : i < Ts.length := (List.getElem?_eq_some_iff.1 hT0).1
      have hTW := (hA.out T hmem).ext hE
      have IH := Lib.hid ih
      have HB := Lib.hid hB
      have HR := Lib.hid (And.intro hT (And.intro hi (And.intro hbs (And.intro hD (And.intro hnd hDw)))))
      rw [← hB, List.length_cons, roundsIn_succ]
      clear ih hB hT hi hbs hD hnd hDw hT0 hmem hmm hE1 hS1
      gi_wp2_with fail
      refine ⟨wide_room _, (callsIn_wide.2 (shareFresh_any W w.heap.size T.ptr)).mono ?_⟩
      rintro e W2 ⟨rfl, e2⟩
      clear hcell
      have hE2 : Ext W W2 := by rw [e2]; exact ((Ext.refl W).alloc _).alloc _
      have hb2 : Boxed W2 W.heap.size 112 (.map (some w.heap.size)) := by rw [e2]; exact (Boxed.new W _ _).alloc _
      have hb3 : Boxed W2 (W.heap.size + 1) 28 (.pointer T.ptr) := by rw [e2]; exact (by have := Boxed.new (W.alloc (.cells #[.map (some w.heap.size)] 112)) 28 (.pointer T.ptr); simpa using this)
      clear e2
      gi_wp2_with fail
      refine range_fresh (T := T) (R := w.heap.size) (N := w.heap.size) (w0 := w) (bs := bs) hn.out rfl (hTW.ext hE2) (hS.ext hE2) hb2 hb3 (Nat.le_refl _) (hE.trans hE2) ?_
      intro D W3 hD hS3 hk3 hb3' hst3 hK3
      have hws := hE.size
      have hws2 := hE2.size
      have HD := Lib.hid (show ∀ E ∈ D :: Ds, W3.heap[E]? = some (.deferred (some [])) by
        intro E hEm
        rcases List.mem_cons.1 hEm with rfl | hEm
        · exact hK3
        · have h1 := HR.out.2.2.2.1 E hEm
          have h2 := hE2.get h1
          have h3 := (Array.getElem?_eq_some_iff.1 h2).1
          rw [hst3.2 E (fun e => by rw [e, hS.map] at h1; cases h1) h3]; exact h2)
      have HN := Lib.hid (show (D :: Ds).Nodup by
        rw [List.nodup_cons]
        refine ⟨fun hm => ?_, HR.out.2.2.2.2.1⟩
        have h2 := hE2.get (HR.out.2.2.2.1 D hm)
        have h3 := (Array.getElem?_eq_some_iff.1 h2).1
        omega)
      have HW := Lib.hid (show ∀ E ∈ D :: Ds, w.heap.size ≤ E by
        intro E hEm
        rcases List.mem_cons.1 hEm with rfl | hEm
        · omega
        · exact HR.out.2.2.2.2.2 E hEm)
      clear hb2 hb3 hst3 hk3 hK3 hE2 hTW hS hE
      gi_wp2_with fail
      rw [HB.out]
      refine IH.out (i + 1) (addT bs T) W3 _ _ _ _ _ _ _ _ (D :: Ds) (fun j U hj => ?_) (by have := HR.out.2.1; simp at this; omega) hb3' hS3 HD.out HN.out HW.out HR.out.2.2.1
      have := HR.out.1 (j + 1) U (by simpa using hj)
      rw [show i + 1 + j = i + (j + 1) by omega]; exact this
  refine key Ts 0 [] W1 _ _ _ _ _ _ _ _ [] (fun j T hj => by simpa using hj) (by simp) hE1 hS1 (fun D hD => by cases hD) List.nodup_nil (fun D hD => by cases hD) rfl
set_option maxRecDepth 100000 in
set_option maxHeartbeats 2000000 in
theorem shareNewN_in (n : Nat) (hn : Hid (1 ≤ n)) (T : Tr) (Ts : List Tr) (a : Option Addr) (b o cap : Nat) (w : World) (ha : Hid (Ts ≠ [] → a = some ⟨b, o, none⟩)) (hc : Hid (∀ i T, Ts[i]? = some T → w.cell? ⟨b, o + i, none⟩ = some (.pointer T.ptr))) (hA : Hid (∀ T ∈ Ts, InH w T)) (hT : InH w T) (hcap : Ts.length ≤ cap) (hl : Ts.length ≤ 5000) (hle : Hid ((addT (allT [] Ts) T).length ≤ 9999999)) :
    CallsIn Fence.wide n Tryz.prog 39 #[.pointer T.ptr, .slice a Ts.length cap] w (Ret (.int .i64 (freshN Ts T : Nat)) w) := by
  have hfn : ∀ f, Fence.wide.fn f := fun _ => trivial
  refine callsIn_of_wp_marks Tryz.func39 rfl trivial ?_ rfl
  simp only [Tryz.ntmps39, List.size_toArray, List.length_cons, List.length_nil, Nat.reduceAdd, Nat.reduceSub, Array.replicate_succ, Array.replicate_zero, List.push_toArray, List.append_toArray, List.nil_append, List.cons_append]
  gi_wp2_with fail
  refine ⟨wide_room _, (CallsIn.any (n - 1) (shareAllN_in 1 (Lib.hid (Nat.le_refl 1)) Ts a b o cap w ha hc hA hcap hl)).mono ?_⟩
  rintro e W1 ⟨R, rfl, hR, hS1, hE1⟩
  have hl1 := hS1.len
  clear hc hA ha
  have hT1 := hT.ext hE1
  gi_wp2_with fail
  refine ⟨wide_room _, (callsIn_wide.2 (shareFresh_any W1 R T.ptr)).mono ?_⟩
  rintro e W2 ⟨rfl, e2⟩
  have hE2 : Ext W1 W2 := by rw [e2]; exact ((Ext.refl W1).alloc _).alloc _
  have hb2 : Boxed W2 W1.heap.size 112 (.map (some R)) := by rw [e2]; exact (Boxed.new W1 _ _).alloc _
  have hb3 : Boxed W2 (W1.heap.size + 1) 28 (.pointer T.ptr) := by rw [e2]; exact (by have := Boxed.new (W1.alloc (.cells #[.map (some R)] 112)) 28 (.pointer T.ptr); simpa using this)
  clear e2 hl1
  gi_wp2_with fail
  refine range_fresh (T := T) (R := R) (N := w.heap.size) (w0 := w) (bs := allT [] Ts) hn.out rfl (hT1.ext hE2) (hS1.ext hE2) hb2 hb3 hR (hE1.trans hE2) ?_
  intro D W3 hD hS3 hk3 hb3' hst3 hK3
  have hl3 := hS3.len
  clear hb2 hb3
  gi_wp2_with fail
  have hE3 : Ext w (W3.putObj D (.deferred none)) := below_put hb3' (by have := hE1.size; have := hE2.size; have := hst3.1; omega) (by have := hE1.size; have := hE2.size; omega) _
  have e0 : wrap64 (((addT (allT [] Ts) T).length : Int) - ((allT [] Ts).length : Int)) = (freshN Ts T : Nat) := by
    have := hle.out
    have := addT_len (T := T) (bs := allT [] Ts)
    unfold freshN wrap64; omega
  rw [e0]
  refine ⟨by simp, .inl ⟨_, _, rfl, run_takeDeferred hK3, ?_⟩⟩
  exact ⟨_, by simp [results, Tryz.results39, go_sem], rfl, hE3⟩
theorem shareNewN_any (T : Tr) (Ts : List Tr) (a : Option Addr) (b o cap : Nat) (w : World) (ha : Ts ≠ [] → a = some ⟨b, o, none⟩) (hc : ∀ i T, Ts[i]? = some T → w.cell? ⟨b, o + i, none⟩ = some (.pointer T.ptr)) (hA : ∀ T ∈ Ts, InH w T) (hT : InH w T) (hcap : Ts.length ≤ cap) (hl : Ts.length ≤ 5000) (hle : (addT (allT [] Ts) T).length ≤ 9999999) :
    Calls Tryz.prog 39 #[.pointer T.ptr, .slice a Ts.length cap] w (Ret (.int .i64 (freshN Ts T : Nat)) w) :=
  callsIn_wide.1 (shareNewN_in 1 (Lib.hid (Nat.le_refl 1)) T Ts a b o cap w (Lib.hid ha) (Lib.hid hc) (Lib.hid hA) hT hcap hl (Lib.hid hle))
end Go.Proofs.YtkkdobolloojjaaGreat
namespace Go.Proofs.YtkkdobolloojjaaGreat
open Go Go.RowKit

theorem whole_fresh {n c : Nat} {w : World} {A u : Tr} (hA : InH w A) (hn : n = w.heap.size) (h : WholeC n c A u) : freshN [A] u ≤ 1 := by
  have hz := news_zero (n := n) (by omega) hA
  have f : Full (allT [] [A]) A := addT_full hA (fun x _ h => by cases h)
  have h1 := addT_more (n := n) (T := u) (bs := allT [] [A]) (fun x hx hlt => f x (h.old x hx hlt))
  have h2 := h.news
  unfold freshN
  omega
set_option maxRecDepth 100000 in
set_option maxHeartbeats 8000000 in
theorem schemeWhole_walk (c : Nat) (a0 : Option Addr) (len0 cap0 : Nat) (z0 : List BeadL) (w : World) (w0 : IsBeads w (.slice a0 len0 cap0) z0) :
    Calls Tryz.prog 6 #[.int .u8 c, .slice a0 len0 cap0] w (Ret (.bool true) w) := by
  have hund : undef = Value.tuple #[] := rfl
  have HB0 := Lib.hid w0.1
  have W0 := Lib.hid w0.2
  have HP := Lib.hid (parted22_any c w _ (.slice none 0 0) z0 [] w0.1 (.inl ⟨rfl, none, 0, rfl⟩) w0.2 (fun z hz => by cases hz))
  clear w0
  go_enter Tryz.func6, Tryz.ntmps6
  go_wp2_with fail
  refine HP.out.mono ?_
  rintro e w1 ⟨b, rfl, hS0, hx⟩
  cases b with
  | true =>
    clear hS0
    go_wp2_with fail
    refine (alive22_any _).mono ?_
    rintro e w2 ⟨rfl, hS⟩
    replace hx := hx.trans hS
    clear hS
    go_wp2
    go_ret
    exact Ret.mk hx
  | false =>
    obtain ⟨h4, ⟨t0, g0⟩, -⟩ := hS0 rfl
    have G0 := Lib.hid g0
    obtain ⟨rfl, l0, -⟩ := g0
    have L0 := Lib.hid l0
    clear hS0 l0
    go_wp2_with fail
    refine (of22_yes c h4 w1).mono ?_
    rintro e w2 ⟨P, rfl, st0⟩
    have st : St w P c 0 w2 := ⟨hx.trans st0.ext, Nat.le_trans hx.size st0.new, st0.sch⟩
    clear st0 hx
    go_wp2_with fail
    refine (beadsMake_any t0 w2 _ (HB0.out.ext st.ext) L0.out).mono ?_
    rintro e w3 ⟨A, rfl, hA, fA, hS⟩
    replace st := st.more hS
    clear hS
    have HA := Lib.hid (And.intro fA (goodC_tree h4 G0.out fA W0.out))
    clear fA
    have HA3 := Lib.hid hA
    obtain ⟨n3, hn3⟩ : ∃ n3, n3 = w3.heap.size := ⟨_, rfl⟩
    have HN3 := Lib.hid hn3
    go_wp2_with fail
    refine (schWhole_any st.sch hA HA.out.2.1 (by have := HA.out.2.2.1; omega) n3 (by omega)).mono ?_
    rintro e w4 ⟨x, rfl, BB, SS, u, rfl, hU, oku⟩
    have OK := Lib.hid oku
    have HF := Lib.hid (whole_fresh HA3.out HN3.out oku)
    have hcu : u.count = A.count := by rw [← itsC_len c, oku.its, itsC_len]
    have HU := Lib.hid (show u.count ≤ 400 ∧ TagsOk u from ⟨by have := HA.out.2.2.1; omega, oku.tags HA.out.2.2.2.1 (by have := HA.out.2.2.1; omega)⟩)
    replace hA := st.sch.inh BB hA
    replace st := st.does BB SS
    clear BB SS oku hcu hn3
    go_wp2_with fail
    refine (see09_any w4 u hU (by have := HU.out.1; unfold Tr.count at this; omega)).mono ?_
    rintro e w5 ⟨v5, rfl, o5, hS⟩
    have O5 := Lib.hid o5.beads
    obtain ⟨a5, k5, rfl⟩ := beads_slice o5.beads
    replace hA := hA.ext hS
    replace hU := hU.ext hS
    replace st := st.more hS
    clear hS o5
    go_wp2_with fail
    refine (items22_any c h4 t0 w5 _ (HB0.out.ext st.ext) (by have := L0.out; omega)).mono ?_
    rintro e w6 ⟨v6, rfl, o6, hS⟩
    have O5' := Lib.hid (O5.out.ext hS)
    have O6 := Lib.hid o6.row
    replace hA := hA.ext hS
    replace hU := hU.ext hS
    replace st := st.more hS
    clear hS o6 O5
    go_wp2_with fail
    refine (has22_any c h4 u w6 _ _ (t0.itsC c) O5'.out O6.out ?hits OK.out.may (fun _ => HU.out.2) (by have := HU.out.1; omega)).mono ?_
    case hits =>
      rw [OK.out.its, fits_itsC c HA.out.1, BT.itsC, List.map_map]
      exact List.map_congr_left fun z _ => itC_idem c z
    rintro e w7 ⟨rfl, hS⟩
    replace hA := hA.ext hS
    replace hU := hU.ext hS
    replace st := st.more hS
    clear hS O5' O6
    go_wp2_with fail
    have hs1 := alloc_at w7 (.cells #[.pointer A.ptr] 28) _ rfl
    have hS := (Ext.refl w7).alloc (.cells #[.pointer A.ptr] 28)
    generalize hww : w7.alloc (.cells #[.pointer A.ptr] 28) = w8 at *
    replace hA := hA.ext hS
    replace hU := hU.ext hS
    replace st := st.more hS
    clear hS hww
    refine (shareNewN_any u [A] _ w7.heap.size 0 1 w8 (fun _ => rfl) (fun i T hi => ?hrow) (fun T hT => by rw [List.mem_singleton.1 hT]; exact hA) hU (by simp) (by simp) ?hsz).mono ?_
    case hrow =>
      cases i with
      | zero => obtain rfl : A = T := by simpa using hi
                simpa using cell_of hs1 0
      | succ i => simp at hi
    case hsz =>
      have h1 := addT_most (T := u) (bs := allT [] [A])
      have h2 := addT_most (T := A) (bs := [])
      have h3 := HU.out.1
      have h4 := HA.out.2.2.1
      have h5 : (allT [] [A]).length ≤ 0 + A.count := h2
      omega
    have hf1 := HF.out
    generalize freshN [A] u = ff at *
    have hd1 : decide ((1 : Int) < (ff : Int)) = false := by simp; omega
    rintro e w9 ⟨rfl, hS⟩
    replace hA := hA.ext hS
    replace hU := hU.ext hS
    replace st := st.more hS
    clear hS hs1
    have hsame := fun h => (OK.out.same h : u = A)
    have hmay := MayC_iff h4 (T := A) (by have := HA.out.2.2.1; omega) HA.out.2.2.2.1
    have HSM := Lib.hid (show ((ckV c A).2 == 0) = true → u = A from fun h => hsame (hmay.1 (by simpa using h)))
    clear hsame hmay
    go_wp2_with fail
    refine (may22_any c h4 t0 A w9 _ HA.out.1 (fun _ => HA.out.2.2.2.1) (HB0.out.ext st.ext) (by have := L0.out; omega)).mono ?_
    cases hm : ((ckV c A).2 == 0) with
    | true =>
      rintro e w10 ⟨rfl, hS⟩
      replace hA := hA.ext hS
      replace hU := hU.ext hS
      replace st := st.more hS
      clear hS
      have hu := HSM.out hm
      clear hm HSM
      subst hu
      have hp := ptr_same u.ptr
      go_wp2_with fail
      refine (schWhole_any st.sch hU OK.out.may.part (by have := HU.out.1; omega) 0 (Nat.zero_le _)).mono ?_
      rintro e w11 ⟨x, rfl, BB, SS, u2, rfl, hU2, ok2⟩
      obtain rfl := ok2.same OK.out.may
      replace hA := st.sch.inh BB hA
      replace st := st.does BB SS
      clear BB SS ok2 hU hU2
      go_wp2_with fail
      refine (of_any t0 w11 _ (HB0.out.ext st.ext) (by have := L0.out; omega)).mono ?_
      rintro e w12 ⟨v12, rfl, o12, hS⟩
      have O12 := Lib.hid o12.beads
      obtain ⟨a12, k12, rfl⟩ := beads_slice o12.beads
      replace hA := hA.ext hS
      replace st := st.more hS
      clear hS o12
      go_wp2_with fail
      refine (is_any w12 _ _ hA (by rw [fits_beads HA.out.1 (by have := L0.out; omega)]; exact O12.out) (by have := HA.out.2.2.1; unfold Tr.count at this; omega)).mono ?_
      rintro e w13 ⟨rfl, hS⟩
      replace st := st.more hS
      clear hS hA O12
      go_wp2_with fail
      refine (alive22_any w13).mono ?_
      rintro e w14 ⟨rfl, hS⟩
      replace st := st.more hS
      clear hS
      go_wp2
      go_ret
      exact Ret.mk st.ext
    | false =>
      rintro e w10 ⟨rfl, hS⟩
      replace hA := hA.ext hS
      replace hU := hU.ext hS
      replace st := st.more hS
      clear hS hm
      have hp := ptr_same u.ptr
      go_wp2_with fail
      refine (schWhole_any st.sch hU OK.out.may.part (by have := HU.out.1; omega) 0 (Nat.zero_le _)).mono ?_
      rintro e w11 ⟨x, rfl, BB, SS, u2, rfl, hU2, ok2⟩
      obtain rfl := ok2.same OK.out.may
      replace hA := st.sch.inh BB hA
      replace st := st.does BB SS
      clear BB SS ok2 hU hU2
      go_wp2_with fail
      refine (of_any t0 w11 _ (HB0.out.ext st.ext) (by have := L0.out; omega)).mono ?_
      rintro e w12 ⟨v12, rfl, o12, hS⟩
      have O12 := Lib.hid o12.beads
      obtain ⟨a12, k12, rfl⟩ := beads_slice o12.beads
      replace hA := hA.ext hS
      replace st := st.more hS
      clear hS o12
      go_wp2_with fail
      refine (is_any w12 _ _ hA (by rw [fits_beads HA.out.1 (by have := L0.out; omega)]; exact O12.out) (by have := HA.out.2.2.1; unfold Tr.count at this; omega)).mono ?_
      rintro e w13 ⟨rfl, hS⟩
      replace st := st.more hS
      clear hS hA O12
      go_wp2_with fail
      refine (alive22_any w13).mono ?_
      rintro e w14 ⟨rfl, hS⟩
      replace st := st.more hS
      clear hS
      go_wp2
      go_ret
      exact Ret.mk st.ext
theorem schemeWhole_row (c : Int) (a0 : Option Addr) (len0 cap0 : Nat) (z0 : List BeadL) (w : World) (hc : (Lit.int .u8 c).wf = true) (w0 : IsBeads w (.slice a0 len0 cap0) z0) :
    Calls Tryz.prog 6 #[.int .u8 c, .slice a0 len0 cap0] w (Ret (.bool true) w) := by
  obtain ⟨m, rfl, -⟩ := u8_nat hc
  exact schemeWhole_walk m a0 len0 cap0 z0 w w0
end Go.Proofs.YtkkdobolloojjaaGreat
