/- share: fresh, the statement that goes over what it hands back, all, New. share: how many nodes of a tree are new (plain). -/
import Derived.Test.YtjiiokhjajfhjaaGreatM27
namespace Go.Proofs.YtjiiokhjajfhjaaGreat
open Go Go.RowKit Go.Shelf
attribute [local go_sem] Oper.semAt_some

set_option maxHeartbeats 1000000 in
theorem shareFresh1_in (l R bs_ bt : Nat) (J : World → Prop)
    (hY : ∀ m x W bs, J W → SetM W R bs → YieldAt Fence.wide m Tryz.prog l #[.pointer x] W fun e W' => e = .returned (.bool true) ∧ J W' ∧ SetM W' R bs ∧ K0 W W')
    (hJE : ∀ W W', J W → Ext W W' → J W') (hJS : ∀ W bs o, J W → SetM W R bs → J (W.putObj R o)) (T : Tr) (n : Nat) (bs : List Nat) (W : World) (ht : InH W T) (hJ : J W) (hS : SetM W R bs)
    (hbs : Boxed W bs_ 133 (.map (some R))) (hbt : Boxed W bt 27 (.pointer T.ptr)) :
    CallsIn Fence.wide n Tryz.prog 77 #[.func (.yield l) #[] #[], .pointer (some ⟨bs_, 0, none⟩), .pointer (some ⟨bt, 0, none⟩)] W fun e W' =>
      (∃ v, e = .returned v) ∧ J W' ∧ SetM W' R (addT bs T) ∧ K0 W W' := by
  have hW2 : Ext W ((W.alloc (.cells #[.func (.yield l) #[] #[]] 108)).alloc (.cells #[.func (.func 78) #[] #[.pointer (some ⟨bs_, 0, none⟩), .pointer (some ⟨W.heap.size + 1, 0, none⟩), .pointer (some ⟨W.heap.size, 0, none⟩)]] 108)) := ((Ext.refl W).alloc _).alloc _
  have hon := shareOn_in l R bs_ W.heap.size (W.heap.size + 1) J hY hJE hJS T (n - 1) bs _ (ht.ext hW2) (hJE _ _ hJ hW2) (hS.ext hW2) (hW2.get hbs)
    ((Boxed.new W _ _).alloc _) (by have := Boxed.new (W.alloc (.cells #[.func (.yield l) #[] #[]] 108)) 108 (.func (.func 78) #[] #[.pointer (some ⟨bs_, 0, none⟩), .pointer (some ⟨W.heap.size + 1, 0, none⟩), .pointer (some ⟨W.heap.size, 0, none⟩)]); simpa using this)
  have Hon := Lib.hid hon
  clear hon hY hJE hJS
  have hcb := hbt.cell
  have hlb := hbt.lt
  have hfn : ∀ f, Fence.wide.fn f := fun _ => trivial
  refine callsIn_of_wp Tryz.func77 rfl trivial ?_ rfl
  simp only [Tryz.ntmps77, List.size_toArray, List.length_cons, List.length_nil, Nat.reduceAdd, Nat.reduceSub, Array.replicate_succ, Array.replicate_zero, List.push_toArray, List.append_toArray, List.nil_append, List.cons_append]
  gi_wp2_with fail
  refine ⟨wide_room _, Hon.out.mono ?_⟩
  rintro e W1 ⟨rfl, hJ1, hS1, hk1⟩
  gi_wp2
  go_end0
  exact ⟨⟨_, rfl⟩, hJ1, hS1, (Keep.ext hW2).trans hk1⟩
theorem shareFresh_any (w : World) (R : Nat) (p : Option Addr) : Calls Tryz.prog 62 #[.map (some R), .pointer p] w fun e w' => e = .returned (.func (.func 77) #[] #[.pointer (some ⟨w.heap.size, 0, none⟩), .pointer (some ⟨w.heap.size + 1, 0, none⟩)]) ∧ w' = (w.alloc (.cells #[.map (some R)] 133)).alloc (.cells #[.pointer p] 27) := by
  go_enter Tryz.func62, Tryz.ntmps62
  go_wp2
  go_ret
  exact ⟨by simp, rfl⟩
theorem SetM.len {W : World} {R : Nat} {bs : List Nat} (h : SetM W R bs) : (Builtin.len_ #[133] 3 #[.map (some R)]).run Tryz.prog W = .ok (.int .i64 bs.length) W := by
  simp [Builtin.len_, run_underlying Tryz.underlying133, MapKept.run_getObj_map h.map, Result.andThen, setFrom_len, goInt]
theorem below_put {N : Nat} {a W : World} (h : Below N a W) (hs : N ≤ W.heap.size) {l : Nat} (hl : N ≤ l) (o : Obj) : Below N a (W.putObj l o) :=
  h.grown (grownBy_putObj' W l o) hs (fun k e => by cases e; exact hl)
theorem SetM.put {W : World} {R l : Nat} {bs : List Nat} {o : Obj} (h : SetM W R bs) (hl : W.heap[l]? = some o) (ho : o.isCells = false) (hne : R ≠ l) (o' : Obj) : SetM (W.putObj l o') R bs :=
  ⟨by rw [World.putObj_heap_other hne]; exact h.map, fun b hb => by
    obtain ⟨c, t, hc⟩ := h.nodes b hb
    exact ⟨c, t, by rw [World.putObj_heap_other (fun e => by subst e; rw [hl] at hc; cases hc; cases ho)]; exact hc⟩⟩
/-- all blocks that there were stay, but R. -/
def Stay (R : Nat) (w W : World) : Prop := w.heap.size ≤ W.heap.size ∧ ∀ i, i ≠ R → i < w.heap.size → W.heap[i]? = w.heap[i]?
theorem Stay.ext {R : Nat} {w W W' : World} (h : Stay R w W) (hE : Ext W W') : Stay R w W' :=
  ⟨Nat.le_trans h.1 hE.size, fun i hi hl => (Below.block hE i (by have := h.1; omega)).trans (h.2 i hi hl)⟩
theorem Stay.put {R : Nat} {w W : World} (h : Stay R w W) {l : Nat} (hl : l = R ∨ w.heap.size ≤ l) (o : Obj) : Stay R w (W.putObj l o) :=
  ⟨by simpa using h.1, fun i hi hl' => by rw [World.putObj_heap_other (by omega)]; exact h.2 i hi hl'⟩
/-- **for range s.fresh(t) { }**: the set holds the tree's nodes, too; nothing else that was there has turned. -/
theorem range_fresh {T : Tr} {g : Operand} {p : Tmp} {id R bs_ bt N n : Nat} {bs : List Nat} {Q : Exit → Act → World → Prop} {a : Act} {w0 w : World} (h1 : 1 ≤ n)
    (hg : a.eval g = .func (.func 77) #[] #[.pointer (some ⟨bs_, 0, none⟩), .pointer (some ⟨bt, 0, none⟩)]) (ht : InH w T) (hS : SetM w R bs)
    (hbs : Boxed w bs_ 133 (.map (some R))) (hbt : Boxed w bt 27 (.pointer T.ptr)) (hN : N ≤ R) (hb : Below N w0 w)
    (hdone : ∀ (D : Nat) (W : World), w.heap.size ≤ D → SetM W R (addT bs T) → K0 w W → Below N w0 W → Stay R w W → W.heap[D]? = some (.deferred (some [])) → Q .normal { a with defers := { target := .collected D, args := #[] } :: a.defers } W) :
    (Code.rangeFunc g #[p] Code.skip (Code.block id Code.skip)).wpIn Fence.wide n Tryz.prog Q a w := by
  have hlR : R < w.heap.size := (Array.getElem?_eq_some_iff.1 hS.map).1
  refine wpIn_rangeFunc ?_
  intro fn hfn
  rw [show Fence.wide.round = none from rfl]
  obtain ⟨rec, hrec⟩ : ∃ rec : LoopState → Loop, rec = fun st => { state := st, pending := none, fn, tmps := a.tmps, params := #[p], assign := Code.skip, body := Code.block id Code.skip, defers := w.heap.size } := ⟨_, rfl⟩
  obtain ⟨W1, hW1⟩ : ∃ W1, (w.alloc (.deferred (some []))).alloc (.loop (rec .ready)) = W1 := ⟨_, rfl⟩
  have hE1 : Ext w W1 := by rw [← hW1]; exact ((Ext.refl w).alloc _).alloc _
  have hL1 : W1.heap[w.heap.size + 1]? = some (.loop (rec .ready)) := by rw [← hW1]; exact alloc_at _ _ _ (by simp)
  have hK1 : W1.heap[w.heap.size]? = some (.deferred (some [])) := by rw [← hW1, alloc_lt _ _ _ (by simp)]; exact alloc_at _ _ _ rfl
  have hlw : N ≤ w.heap.size := by omega
  have hb1 : Below N w0 W1 := hb.trans (Below.mono hE1 hlw)
  refine ⟨w.heap.size + 1, [{ target := .collected w.heap.size, args := #[] }], W1, { target := .fn (.func 77) #[.pointer (some ⟨bs_, 0, none⟩), .pointer (some ⟨bt, 0, none⟩)], args := #[.func (.yield (w.heap.size + 1)) #[] #[]] }, W1, 77,
    #[.func (.yield (w.heap.size + 1)) #[] #[], .pointer (some ⟨bs_, 0, none⟩), .pointer (some ⟨bt, 0, none⟩)], W1, ?_, ?_, ?_, ?_, fun _ => h1, ?_⟩
  · rw [← hW1, hrec]; exact run_enterLoop_outer _ _ _ _ _
  · simp only [resolve, hg]
    simp [go_sem]
  · intro f' _; trivial
  · kernel_rfl
  · have hput : ∀ {W : World} {o : Obj}, W.heap[w.heap.size + 1]? = some (.loop (rec .ready)) → ∀ o', (W.putObj (w.heap.size + 1) o').heap[w.heap.size + 1]? = some o' := fun h o' => World.putObj_heap_same (Array.getElem?_eq_some_iff.1 h).1
    refine (shareFresh1_in (w.heap.size + 1) R bs_ bt (fun W => (Below N w0 W ∧ Stay R w W) ∧ W.heap[w.heap.size + 1]? = some (.loop (rec .ready)) ∧ W.heap[w.heap.size]? = some (.deferred (some []))) ?_ ?_ ?_ T (n - 1) bs W1 (ht.ext hE1) ⟨⟨hb1, Stay.ext (R := R) (w := w) (W := w) ⟨Nat.le_refl _, fun _ _ _ => rfl⟩ hE1⟩, hL1, hK1⟩ (hS.ext hE1) (hE1.get hbs) (hE1.get hbt)).mono ?_
    · rintro m x W bs' ⟨⟨hbW, hst⟩, hl, hk⟩ hSW
      have hlt : w.heap.size + 1 < W.heap.size := (Array.getElem?_eq_some_iff.1 hl).1
      have hy := run_yield (P := Tryz.prog) (args := #[.pointer x]) hl (by rw [hrec]; rfl)
      rw [hrec] at hy
      refine ⟨fn, _, _, _, hy, roundIn_of_wpIn hfn (wpIn_skip ⟨_, run_beginRound hl (by rw [hrec]), wpIn_block (wpIn_skip ?_)⟩)⟩
      have hl2 : (W.putObj (w.heap.size + 1) (.loop { rec .ready with state := .busy })).heap[w.heap.size + 1]? = some (.loop { rec .ready with state := .busy }) := World.putObj_heap_same hlt
      have hend := run_endRound (P := Tryz.prog) none hl2
      have hs1 : N ≤ W.heap.size := by omega
      have hb2 := below_put (below_put hbW hs1 (l := w.heap.size + 1) (by omega) (.loop { rec .ready with state := .busy })) (by simpa using hs1) (l := w.heap.size + 1) (by omega) (.loop { { rec .ready with state := .busy } with state := if (none : Option Code).isNone then .ready else .done, pending := none })
      have hS2 := (hSW.put hl rfl (by omega) (.loop { rec .ready with state := .busy })).put hl2 rfl (by omega) (.loop { { rec .ready with state := .busy } with state := if (none : Option Code).isNone then .ready else .done, pending := none })
      have hk2 : K0 W _ := (Keep.putObj (M := fun _ => False) W _ _ (.loop { rec .ready with state := .busy }) hl rfl).trans (Keep.putObj _ _ _ (.loop { { rec .ready with state := .busy } with state := if (none : Option Code).isNone then .ready else .done, pending := none }) hl2 rfl)
      refine ⟨_, _, hend, rfl, ⟨⟨hb2, (hst.put (.inr (by omega)) _).put (.inr (by omega)) _⟩, ?_, ?_⟩, hS2, hk2⟩
      · rw [World.putObj_heap_same (Array.getElem?_eq_some_iff.1 hl2).1, hrec]; rfl
      · rw [World.putObj_heap_other (by omega), World.putObj_heap_other (by omega)]; exact hk
    · rintro W W' ⟨⟨h1, h1'⟩, h2, h3⟩ hE
      have hs1 := (Array.getElem?_eq_some_iff.1 h3).1
      exact ⟨⟨h1.trans (Below.mono hE (by omega)), h1'.ext hE⟩, hE.get h2, hE.get h3⟩
    · rintro W bs' o ⟨⟨h1, h1'⟩, h2, h3⟩ hSW
      have hs1 := (Array.getElem?_eq_some_iff.1 h3).1
      exact ⟨⟨below_put h1 (by omega) hN o, h1'.put (.inl rfl) o⟩, by rw [World.putObj_heap_other (by omega)]; exact h2, by rw [World.putObj_heap_other (by omega)]; exact h3⟩
    · rintro e W2 ⟨⟨v, rfl⟩, ⟨⟨hbW, hst⟩, hl, hk⟩, hS2, hk2⟩
      refine ⟨none, _, by have := run_endLoop (P := Tryz.prog) hl (by rw [hrec]; simp); rw [hrec] at this; exact this, hdone _ _ (Nat.le_refl _) (hS2.put hl rfl (by omega) _) (((Keep.ext hE1).trans hk2).trans (Keep.putObj _ _ _ _ hl rfl)) (below_put hbW (by have := (Array.getElem?_eq_some_iff.1 hk).1; omega) (by omega) _) (hst.put (.inr (by omega)) _) ((World.putObj_heap_other (by omega)).trans hk)⟩
end Go.Proofs.YtjiiokhjajfhjaaGreat
namespace Go.Proofs.YtjiiokhjajfhjaaGreat
open Go Go.RowKit Go.Shelf

/-- no node lies on its own right side. -/
theorem InH.off_right {w : World} {b : Nat} {l r : Tr} {k v g : Int} (h : InH w (.node b l k v g r)) : b ∉ r.blks := fun hm => by
  obtain ⟨x, hx, e⟩ := List.mem_map.1 hm
  have h1 := InH.one (inH_pre' h.2.2 x hx) h (by rw [pre_ptr hx, e]; rfl)
  have h2 := pre_le hx
  rw [h1] at h2
  simp only [Tr.pre, List.length_cons, List.length_append] at h2
  omega
theorem blk_one {w : World} {A B x y : Tr} (hA : InH w A) (hB : InH w B) (hx : x ∈ A.pre) (hy : y ∈ B.pre) (e : x.blk = y.blk) : x = y :=
  InH.one (inH_pre' hA x hx) (inH_pre' hB y hy) (by rw [pre_ptr hx, pre_ptr hy, e])
/-- all nodes of a tree are in a set. -/
def Full (bs : List Nat) (T : Tr) : Prop := ∀ x ∈ T.pre, x.blk ∈ bs
theorem pre_sub : ∀ {T x : Tr}, x ∈ T.pre → ∀ y ∈ x.pre, y ∈ T.pre
  | .nil, _, h, _, _ => by simp [Tr.pre] at h
  | .node b l k v g r, x, h, y, hy => by
    simp only [Tr.pre, List.mem_cons, List.mem_append] at h
    rcases h with rfl | h | h
    · exact hy
    · simp only [Tr.pre, List.mem_cons, List.mem_append]; exact .inr (.inl (pre_sub h y hy))
    · simp only [Tr.pre, List.mem_cons, List.mem_append]; exact .inr (.inr (pre_sub h y hy))
theorem addT_sub : ∀ {T : Tr} {bs : List Nat} {x : Nat}, x ∈ bs → x ∈ addT bs T
  | .nil, _, _, h => h
  | .node b l k v g r, bs, x, h => by
    rw [addT]
    split
    · exact h
    · exact addT_sub (List.mem_append_left _ (addT_sub h))
/-- what is put in comes with all that is under it. -/
theorem addT_full {w : World} : ∀ {T : Tr} {bs : List Nat}, InH w T → (∀ x ∈ T.pre, x.blk ∈ bs → Full bs x) → Full (addT bs T) T
  | .nil, _, _, _ => fun x hx => by simp [Tr.pre] at hx
  | .node b l k v g r, bs, hT, H => by
    have hself : Tr.node b l k v g r ∈ (Tr.node b l k v g r).pre := by simp [Tr.pre]
    have hl' : ∀ x ∈ l.pre, x ∈ (Tr.node b l k v g r).pre := fun x hx => by simp [Tr.pre, hx]
    have hr' : ∀ x ∈ r.pre, x ∈ (Tr.node b l k v g r).pre := fun x hx => by simp [Tr.pre, hx]
    rw [addT]
    split
    · exact H _ hself (by assumption)
    · have fl := addT_full (bs := bs) hT.2.1 (fun x hx => H x (hl' x hx))
      have fr := addT_full (bs := addT bs l ++ [b]) hT.2.2 (fun x hx hm => by
        rcases List.mem_append.1 hm with hm | hm
        · rcases addT_mem hm with hm | hm
          · exact fun y hy => List.mem_append_left _ (addT_sub (H x (hr' x hx) hm y hy))
          · obtain ⟨y, hy, e⟩ := List.mem_map.1 hm
            have := blk_one hT.2.1 hT.2.2 hy hx e
            subst this
            exact fun z hz => List.mem_append_left _ (fl z (pre_sub hy z hz))
        · rw [List.mem_singleton] at hm
          exact absurd (List.mem_map.2 ⟨x, hx, hm⟩) hT.off_right)
      intro x hx
      simp only [Tr.pre, List.mem_cons, List.mem_append] at hx
      rcases hx with rfl | hx | hx
      · exact addT_sub (List.mem_append_right _ (by simp [Tr.blk]))
      · exact addT_sub (List.mem_append_left _ (fl x hx))
      · exact fr x hx
theorem addT_len : ∀ {T : Tr} {bs : List Nat}, bs.length ≤ (addT bs T).length
  | .nil, _ => Nat.le_refl _
  | .node b l k v g r, bs => by
    rw [addT]
    split
    · exact Nat.le_refl _
    · have h1 := addT_len (T := l) (bs := bs)
      have h2 := addT_len (T := r) (bs := addT bs l ++ [b])
      simp at h2
      omega
theorem addT_more {n : Nat} : ∀ {T : Tr} {bs : List Nat}, (∀ x ∈ T.pre, x.blk < n → x.blk ∈ bs) → (addT bs T).length ≤ bs.length + T.news n
  | .nil, _, _ => Nat.le_add_right _ _
  | .node b l k v g r, bs, H => by
    rw [addT]
    split
    · exact Nat.le_add_right _ _
    · rename_i hb
      have hn : n ≤ b := by
        rcases Nat.lt_or_ge b n with h | h
        · exact absurd (H (.node b l k v g r) (by simp [Tr.pre]) h) hb
        · exact h
      have h1 := addT_more (T := l) (bs := bs) (fun x hx => H x (by simp [Tr.pre, hx]))
      have h2 := addT_more (T := r) (bs := addT bs l ++ [b]) (fun x hx hlt => List.mem_append_left _ (addT_sub (H x (by simp [Tr.pre, hx]) hlt)))
      simp only [List.length_append, List.length_singleton] at h2
      rw [Tr.news, if_pos hn]
      omega
theorem addT_one : ∀ {T : Tr} {bs : List Nat}, T ≠ .nil → T.blk ∉ bs → bs.length + 1 ≤ (addT bs T).length
  | .nil, _, h, _ => absurd rfl h
  | .node b l k v g r, bs, _, hb => by
    rw [addT, if_neg (show b ∉ bs from hb)]
    have h1 := addT_len (T := l) (bs := bs)
    have h2 := addT_len (T := r) (bs := addT bs l ++ [b])
    simp at h2
    omega
/-- the nodes of two trees. -/
def two (A B : Tr) : List Nat := addT (addT [] A) B
theorem two_full {w : World} {A B : Tr} (hA : InH w A) (hB : InH w B) : Full (two A B) A ∧ Full (two A B) B := by
  have fa : Full (addT [] A) A := addT_full hA (fun x _ h => by cases h)
  refine ⟨fun x hx => addT_sub (fa x hx), addT_full hB (fun x hx hm => ?_)⟩
  rcases addT_mem hm with hm | hm
  · cases hm
  · obtain ⟨y, hy, e⟩ := List.mem_map.1 hm
    have := blk_one hA hB hy hx e
    subst this
    exact fun z hz => fa z (pre_sub hy z hz)
theorem two_mem {A B : Tr} {x : Nat} (h : x ∈ two A B) : x ∈ A.blks ∨ x ∈ B.blks := by
  rcases addT_mem h with h | h
  · rcases addT_mem h with h | h
    · cases h
    · exact .inl h
  · exact .inr h
/-- how many of a tree's nodes are in neither of two others. -/
def fresh2 (A B T : Tr) : Nat := (addT (two A B) T).length - (two A B).length
theorem blks_lt {w : World} {T : Tr} (h : InH w T) {x : Nat} (hx : x ∈ T.blks) : x < w.heap.size := by
  obtain ⟨y, hy, rfl⟩ := List.mem_map.1 hx
  have := inH_pre' h y hy
  cases y with
  | nil => have := pre_ptr hy; cases this
  | node b l k v g r => exact (Array.getElem?_eq_some_iff.1 this.1).1
theorem fresh2_bounds {w : World} {A B T : Tr} (hA : InH w A) (hB : InH w B) (old : ∀ x ∈ T.pre, x.blk < w.heap.size → x ∈ A.pre ∨ x ∈ B.pre) (top : w.heap.size ≤ T.blk) (nn : T ≠ .nil) :
    1 ≤ fresh2 A B T ∧ fresh2 A B T ≤ T.news w.heap.size ∧ (two A B).length ≤ (addT (two A B) T).length := by
  obtain ⟨fa, fb⟩ := two_full hA hB
  have h1 := addT_more (n := w.heap.size) (T := T) (bs := two A B) (fun x hx hlt => (old x hx hlt).elim (fa x) (fb x))
  have h2 := addT_one (T := T) (bs := two A B) nn (fun hm => by
    rcases two_mem hm with hm | hm
    · have := blks_lt hA hm; omega
    · have := blks_lt hB hm; omega)
  have h3 := addT_len (T := T) (bs := two A B)
  unfold fresh2
  omega
end Go.Proofs.YtjiiokhjajfhjaaGreat
