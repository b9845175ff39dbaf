/- share: the going over a tree that puts its nodes into a set. share: fresh, the statement that goes over what it hands back, all, New. share: how many nodes of a tree are new (plain). share: all of two, New. joineryref19.Most, and the walk of WbjoinShares. All four schemes as one (plain): what a part is, what may be, a tree's items, how many new nodes a join has at most. What stays as it was but some blocks. A region that draws its order, inside a wide fence: an operation that does not look into memory may be taken first, whatever the others do. treap: item, above, Above, Check, May. treap: Check, May. treapjoin: is, way, Most. -/
import Derived.Test.YtkkdobolloojjaaGreatM5
import Derived.BigQuiet
namespace Go.Proofs.YtkkdobolloojjaaGreat
open Go Go.RowKit Go.Shelf
attribute [local go_sem] Oper.semAt_some

/-- the blocks of a tree. -/
def Tr.blks (T : Tr) : List Nat := T.pre.map (·.blk)
theorem Tr.blks_nil : Tr.blks .nil = [] := rfl
theorem Tr.blks_node (b : Nat) (l : Tr) (k v g : Int) (r : Tr) : Tr.blks (.node b l k v g r) = b :: (l.blks ++ r.blks) := by simp [Tr.blks, Tr.pre, Tr.blk]
/-- one tree lies at an address. -/
theorem InH.one {w : World} : ∀ {A B : Tr}, InH w A → InH w B → A.ptr = B.ptr → A = B
  | .nil, .nil, _, _, _ => rfl
  | .nil, .node .., _, _, h => by simp [Tr.ptr] at h
  | .node .., .nil, _, _, h => by simp [Tr.ptr] at h
  | .node b l k v g r, .node b' l' k' v' g' r', ⟨h0, h1, h2⟩, ⟨h0', h1', h2'⟩, h => by
    have eb : b = b' := by simpa [Tr.ptr] using h
    subst eb
    rw [h0] at h0'
    have hc : (#[.int .i64 k, .int .i64 v, .int .i64 (Tr.node b l k v g r).sum, .int .u64 g, .int .i64 (Tr.node b l k v g r).size, .pointer l.ptr, .pointer r.ptr] : Array Value) = #[.int .i64 k', .int .i64 v', .int .i64 (Tr.node b l' k' v' g' r').sum, .int .u64 g', .int .i64 (Tr.node b l' k' v' g' r').size, .pointer l'.ptr, .pointer r'.ptr] := by
      injection h0' with h0'
      injection h0' 
    have e1 : k = k' := by have := congrArg (fun a => a[0]?) hc; simpa using this
    have e2 : v = v' := by have := congrArg (fun a => a[1]?) hc; simpa using this
    have e4 : g = g' := by have := congrArg (fun a => a[3]?) hc; simpa using this
    have e6 : l.ptr = l'.ptr := by have := congrArg (fun a => a[5]?) hc; simpa using this
    have e7 : r.ptr = r'.ptr := by have := congrArg (fun a => a[6]?) hc; simpa using this
    rw [e1, e2, e4, InH.one h1 h1' e6, InH.one h2 h2' e7]
theorem inH_pre' {w : World} : ∀ {t : Tr}, InH w t → ∀ x ∈ t.pre, InH w x
  | .nil, _, _, hx => by simp [Tr.pre] at hx
  | .node b l k v g r, h, x, hx => by
    simp only [Tr.pre, List.mem_cons, List.mem_append] at hx
    rcases hx with rfl | hx | hx
    · exact h
    · exact inH_pre' h.2.1 x hx
    · exact inH_pre' h.2.2 x hx
theorem pre_le : ∀ {t x : Tr}, x ∈ t.pre → x.pre.length ≤ t.pre.length
  | .nil, _, hx => by simp [Tr.pre] at hx
  | .node b l k v g r, x, hx => by
    simp only [Tr.pre, List.mem_cons, List.mem_append] at hx
    rcases hx with rfl | hx | hx
    · exact Nat.le_refl _
    · have := pre_le hx; simp only [Tr.pre, List.length_cons, List.length_append]; omega
    · have := pre_le hx; simp only [Tr.pre, List.length_cons, List.length_append]; omega
theorem pre_ptr {t x : Tr} (h : x ∈ t.pre) : x.ptr = some ⟨x.blk, 0, none⟩ := by
  cases x with
  | nil => induction t with
    | nil => simp [Tr.pre] at h
    | node b l k v g r ihl ihr =>
      simp only [Tr.pre, List.mem_cons, List.mem_append] at h
      rcases h with h | h | h
      · cases h
      · exact ihl h
      · exact ihr h
  | node b l k v g r => rfl
/-- no node lies on its own left side. -/
theorem InH.off_left {w : World} {b : Nat} {l r : Tr} {k v g : Int} (h : InH w (.node b l k v g r)) : b ∉ l.blks := fun hm => by
  obtain ⟨x, hx, e⟩ := List.mem_map.1 hm
  have h1 := InH.one (inH_pre' h.2.1 x hx) h (by rw [pre_ptr hx, e]; rfl)
  have h2 := pre_le hx
  rw [h1] at h2
  simp only [Tr.pre, List.length_cons, List.length_append] at h2
  omega
/-- what a set holds, if a tree's nodes are put into it. -/
def addT : List Nat → Tr → List Nat
  | bs, .nil => bs
  | bs, .node b l _ _ _ r => if b ∈ bs then bs else addT (addT bs l ++ [b]) r
theorem addT_in : ∀ {T : Tr} {bs : List Nat} {b : Nat} {l r : Tr} {k v g : Int}, T = .node b l k v g r → b ∈ bs → addT bs T = bs := by
  intro T bs b l r k v g e h; subst e; rw [addT, if_pos h]
theorem addT_mem : ∀ {T : Tr} {bs : List Nat} {x : Nat}, x ∈ addT bs T → x ∈ bs ∨ x ∈ T.blks
  | .nil, _, _, h => .inl h
  | .node b l k v g r, bs, x, h => by
    rw [Tr.blks_node]
    rw [addT] at h
    split at h
    · exact .inl h
    · rcases addT_mem h with h | h
      · rcases List.mem_append.1 h with h | h
        · rcases addT_mem h with h | h
          · exact .inl h
          · exact .inr (List.mem_cons_of_mem _ (List.mem_append_left _ h))
        · rw [List.mem_singleton] at h; subst h; exact .inr (List.mem_cons_self ..)
      · exact .inr (List.mem_cons_of_mem _ (List.mem_append_right _ h))
theorem SetM.ext {W W' : World} {R : Nat} {bs : List Nat} (h : SetM W R bs) (hE : Ext W W') : SetM W' R bs :=
  ⟨hE.get h.map, fun b hb => by obtain ⟨c, t, hc⟩ := h.nodes b hb; exact ⟨c, t, hE.get hc⟩⟩
theorem InH.cells {w : World} {b : Nat} {l r : Tr} {k v g : Int} (h : InH w (.node b l k v g r)) : IsCells w b := ⟨_, _, h.1⟩
/-- no cells turn. -/
abbrev K0 (a b : World) : Prop := Keep (fun _ => False) a b
theorem off0 : ∀ (t : Tr), Off (fun _ => False) t
  | .nil => trivial
  | .node _ l _ _ _ r => ⟨id, off0 l, off0 r⟩
theorem InH.k0 {a b : World} (h : K0 a b) {t : Tr} (ht : InH a t) : InH b t := InH.keep h (off0 t) ht
theorem SetM.look {W : World} {R : Nat} {bs : List Nat} (h : SetM W R bs) {b : Nat} (hb : IsCells W b) (f : Bool) (hf : f = decide (b ∈ bs)) :
    (Instr.lookup 112 (.map (some R)) (.pointer (some ⟨b, 0, none⟩)) true).run Tryz.prog W = .ok (.tuple #[.agg #[], .bool f]) W := by
  refine set_lookup W R bs _ f h ?_
  subst hf
  by_cases hm : b ∈ bs
  · obtain ⟨k, hk⟩ := ask_some W b bs 0 0 h.nodes hm
    exact ⟨k, by simp [hm, hk]⟩
  · exact ⟨0, by simp [hm, ask_none W b hb bs 0 0 h.nodes hm]⟩
theorem SetM.look_nil {W : World} {R : Nat} {bs : List Nat} (h : SetM W R bs) : (Instr.lookup 112 (.map (some R)) (.pointer none) true).run Tryz.prog W = .ok (.tuple #[.agg #[], .bool false]) W :=
  set_lookup W R bs _ false h ⟨0, by simp [ask_nil W bs 0 0]⟩
set_option maxRecDepth 100000 in
set_option maxHeartbeats 2000000 in
theorem shareOn_in (l R bs_ by_ bo : Nat) (J : World → Prop)
    (hY : ∀ m x W bs, J W → SetM W R bs → YieldAt Fence.wide m Tryz.prog l #[.pointer x] W fun e W' => e = .returned (.bool true) ∧ J W' ∧ SetM W' R bs ∧ K0 W W')
    (hJE : ∀ W W', J W → Ext W W' → J W') (hJS : ∀ W bs o, J W → SetM W R bs → J (W.putObj R o)) (T : Tr) :
    ∀ (n : Nat) (bs : List Nat) (W : World), InH W T → J W → SetM W R bs →
      Boxed W bs_ 112 (.map (some R)) → Boxed W by_ 45 (.func (.yield l) #[] #[]) → Boxed W bo 45 (.func (.func 87) #[] #[.pointer (some ⟨bs_, 0, none⟩), .pointer (some ⟨bo, 0, none⟩), .pointer (some ⟨by_, 0, none⟩)]) →
      CallsIn Fence.wide n Tryz.prog 87 #[.pointer T.ptr, .pointer (some ⟨bs_, 0, none⟩), .pointer (some ⟨bo, 0, none⟩), .pointer (some ⟨by_, 0, none⟩)] W fun e W' =>
        e = .returned (.bool true) ∧ J W' ∧ SetM W' R (addT bs T) ∧ K0 W W' := by
  have hfn : ∀ f, Fence.wide.fn f := fun _ => trivial
  induction T with
  | nil =>
    intro n bs W _ hJ hS hbs _ _
    rw [Tr.ptr_nil]
    have hcs := hbs.cell
    have hlk := hS.look_nil
    clear hY
    refine callsIn_of_wp Tryz.func87 rfl trivial ?_ rfl
    simp only [Tryz.ntmps87, List.size_toArray, List.length_cons, List.length_nil, Nat.reduceAdd, Nat.reduceSub, Array.replicate_succ, Array.replicate_zero, List.push_toArray, List.append_toArray, List.nil_append, List.cons_append]
    gi_wp2
    go_ret
    exact ⟨rfl, hJE _ _ hJ ((Ext.refl W).alloc _), hS.ext ((Ext.refl W).alloc _), Keep.alloc W _⟩
  | node b tl k v g tr ihl ihr =>
    intro n bs W ht hJ hS hbs hy hbo
    have hcs := hbs.cell
    have hE1 := (Ext.refl W).alloc (.cells #[] 78)
    by_cases hm : b ∈ bs
    · have hlk := hS.look ht.cells true (by simp [hm])
      rw [addT_in rfl hm, Tr.ptr_node]
      have hund : undef = Value.tuple #[] := rfl
      clear hY ihl ihr hm
      refine callsIn_of_wp Tryz.func87 rfl trivial ?_ rfl
      simp only [Tryz.ntmps87, List.size_toArray, List.length_cons, List.length_nil, Nat.reduceAdd, Nat.reduceSub, Array.replicate_succ, Array.replicate_zero, List.push_toArray, List.append_toArray, List.nil_append, List.cons_append]
      gi_wp2
      go_ret
      exact ⟨rfl, hJE _ _ hJ hE1, hS.ext hE1, Keep.alloc W _⟩
    · have hlk := hS.look ht.cells false (by simp [hm])
      have Hl := Lib.hid ihl
      have Hr := Lib.hid ihr
      have HY := Lib.hid hY
      have HM := Lib.hid hm
      clear hY ihl ihr hm
      rw [Tr.ptr_node]
      refine callsIn_of_wp Tryz.func87 rfl trivial ?_ rfl
      simp only [Tryz.ntmps87, List.size_toArray, List.length_cons, List.length_nil, Nat.reduceAdd, Nat.reduceSub, Array.replicate_succ, Array.replicate_zero, List.push_toArray, List.append_toArray, List.nil_append, List.cons_append]
      gi_wp2_with fail
      clear hcs hlk
      generalize W.alloc (.cells #[] 78) = W0 at *
      have hx0 := Ext.drew W0
      have hb0 : Boxed W0 bo _ _ := hE1.get hbo
      have hco := cell_all hb0.cell
      refine wpIn_region_G (fun j => !(List.contains (α := Nat) [3] j)) (by kernel_rfl) ?_
      refine batchG hfn (fuel := 3) [0, 1] (by kernel_rfl) rfl ?_
      repeat (go_big_quiet_step ((fail)))
      refine wpQuiet_nil ?_
      refine wpAnyG_one (j := 2) (by kernel_rfl) rfl ?_
      gi_wp2_with fail
      rw [← Tr.ptr_node b tl k v g tr]
      have hE2 := hE1.trans hx0
      refine ⟨wide_room _, (callsIn_wide.2 (left_any _ _ (ht.ext hE2))).mono ?_⟩
      rintro e W2 ⟨rfl, h2⟩
      clear hco
      gi_wp2_with fail
      refine onePost_ext (h2) ?_
      refine wpAnyG_one (j := 3) (by kernel_rfl) rfl ?_
      gi_wp2_with fail
      simp only [Tr.left_node]
      have hE3 := hE2.trans h2
      have ht2 := ht.ext hE3
      clear hx0 hb0 hE1
      refine ⟨wide_room _, (Hl.out (n - 1) bs W2 ht2.2.1 (hJE _ _ hJ hE3) (hS.ext hE3) (hE3.get hbs) (hE3.get hy) (hE3.get hbo)).mono ?_⟩
      rintro e W3 ⟨rfl, hJ3, hS3, hk3⟩
      have ht3 := InH.k0 hk3 ht2
      have hbs3 : Boxed W3 bs_ _ _ := hk3.boxed id (hE3.get hbs)
      have hy3 : Boxed W3 by_ _ _ := hk3.boxed id (hE3.get hy)
      have hbo3 : Boxed W3 bo _ _ := hk3.boxed id (hE3.get hbo)
      have hk03 := (Keep.ext (M := fun _ => False) hE3).trans hk3
      clear ht2 hbs hy hbo hJ hS hk3 hE2 hE3 h2
      gi_wp2_with fail
      refine onePost_any (by kernel_rfl) ?_
      refine batchG hfn (fuel := 0) [4] (by kernel_rfl) rfl ?_
      repeat (go_big_quiet_step ((fail)))
      refine wpQuiet_nil ?_
      refine wpAnyG_done (by kernel_rfl) ?_
      refine calmQ_normal ?_
      have hcs := hbs3.cell
      have hadd := set_add W3 R _ b hS3 ht3.cells (fun h => (addT_mem h).elim HM.out ht.off_left)
      rw [Tr.ptr_node]
      gi_wp2_with fail
      have hS4 := hS3.add ht3.cells
      have hJ4 := hJS W3 _ (.map (setFrom 0 (addT bs tl ++ [b])).toArray ((addT bs tl).length + 1)) hJ3 hS3
      have hk34 : K0 W3 (W3.putObj R (.map (setFrom 0 (addT bs tl ++ [b])).toArray ((addT bs tl).length + 1))) := Keep.putObj W3 R _ _ hS3.map rfl
      clear hcs hadd hS3 hJ3
      generalize W3.putObj R _ = W4 at *
      have hx4 := Ext.drew W4
      have hk4 : K0 W3 W4.drew := hk34.trans (Keep.ext hx4)
      have ht4 := InH.k0 hk4 ht3
      have hbs4 : Boxed W4.drew bs_ _ _ := hk4.boxed id hbs3
      have hbo4 : Boxed W4.drew bo _ _ := hk4.boxed id hbo3
      have hyb4 : Boxed W4.drew by_ _ _ := hk4.boxed id hy3
      have hcy := cell_all (hk34.boxed id hy3).cell
      obtain ⟨fn, tmps, assign, body, hy1, hR⟩ := HY.out n (some ⟨b, 0, none⟩) W4.drew _ (hJE _ _ hJ4 hx4) (hS4.ext hx4)
      have HR := Lib.hid hR
      have hk04 := hk03.trans hk4
      clear hR hS4 hJ4 hk34 ht3 hbs3 hy3 hbo3 hk4 hk03
      refine wpIn_region_G (fun j => !(List.contains (α := Nat) [2, 7] j)) (by kernel_rfl) ?_
      refine batchG hfn (fuel := 8) [0, 1] (by kernel_rfl) rfl ?_
      repeat (go_big_quiet_step ((fail)))
      refine wpQuiet_nil ?_
      refine wpAnyG_one (j := 2) (by kernel_rfl) rfl ?_
      gi_wp2_with fail
      refine ⟨wide_room _, (RoundIn.any HR.out).mono ?_⟩
      rintro e W5 ⟨rfl, hJ5, hS5, hk5⟩
      clear hcy hx4 hy1 HR
      have ht5 := InH.k0 hk5 ht4
      have hbs5 : Boxed W5 bs_ _ _ := hk5.boxed id hbs4
      have hbo5 : Boxed W5 bo _ _ := hk5.boxed id hbo4
      have hyb5 : Boxed W5 by_ _ _ := hk5.boxed id hyb4
      have hk05 := hk04.trans hk5
      clear ht4 hbs4 hbo4 hyb4 hk5 hk04
      have hco := cell_all hbo5.cell
      have hx5 := Ext.refl W5
      gi_wp2_with fail
      refine onePost_any (by kernel_rfl) ?_
      refine batchG hfn (fuel := 4) [3, 4, 5] (by kernel_rfl) rfl ?_
      repeat (go_big_quiet_step ((fail)))
      refine wpQuiet_nil ?_
      refine wpAnyG_one (j := 6) (by kernel_rfl) rfl ?_
      gi_wp2_with fail
      rw [← Tr.ptr_node b tl k v g tr]
      clear hco hx5
      refine ⟨wide_room _, (callsIn_wide.2 (right_any _ _ ht5)).mono ?_⟩
      rintro e W6 ⟨rfl, h6⟩
      gi_wp2_with fail
      refine onePost_ext (h6) ?_
      refine wpAnyG_one (j := 7) (by kernel_rfl) rfl ?_
      gi_wp2_with fail
      simp only [Tr.right_node]
      refine ⟨wide_room _, (Hr.out (n - 1) _ W6 (ht5.ext h6).2.2 (hJE _ _ hJ5 h6) (hS5.ext h6) (h6.get hbs5) (h6.get hyb5) (h6.get hbo5)).mono ?_⟩
      rintro e W7 ⟨rfl, hJ7, hS7, hk7⟩
      gi_wp2_with fail
      refine onePost_any (by kernel_rfl) ?_
      refine batchG hfn (fuel := 0) [8, 9] (by kernel_rfl) rfl ?_
      repeat (go_big_quiet_step ((fail)))
      refine wpQuiet_nil ?_
      refine wpAnyG_done (by kernel_rfl) ?_
      refine calmQ_normal ?_
      gi_wp2
      go_ret
      refine ⟨rfl, hJ7, ?_, (hk05.trans (Keep.ext h6)).trans hk7⟩
      rw [addT, if_neg HM.out]
      exact hS7
end Go.Proofs.YtkkdobolloojjaaGreat
namespace Go.Proofs.YtkkdobolloojjaaGreat
open Go Go.RowKit Go.Shelf
attribute [local go_sem] Oper.semAt_some

set_option maxHeartbeats 1000000 in
theorem shareFresh1_in (l R bs_ bt : Nat) (J : World → Prop)
    (hY : ∀ m x W bs, J W → SetM W R bs → YieldAt Fence.wide m Tryz.prog l #[.pointer x] W fun e W' => e = .returned (.bool true) ∧ J W' ∧ SetM W' R bs ∧ K0 W W')
    (hJE : ∀ W W', J W → Ext W W' → J W') (hJS : ∀ W bs o, J W → SetM W R bs → J (W.putObj R o)) (T : Tr) (n : Nat) (bs : List Nat) (W : World) (ht : InH W T) (hJ : J W) (hS : SetM W R bs)
    (hbs : Boxed W bs_ 112 (.map (some R))) (hbt : Boxed W bt 28 (.pointer T.ptr)) :
    CallsIn Fence.wide n Tryz.prog 86 #[.func (.yield l) #[] #[], .pointer (some ⟨bs_, 0, none⟩), .pointer (some ⟨bt, 0, none⟩)] W fun e W' =>
      (∃ v, e = .returned v) ∧ J W' ∧ SetM W' R (addT bs T) ∧ K0 W W' := by
  have hW2 : Ext W ((W.alloc (.cells #[.func (.yield l) #[] #[]] 45)).alloc (.cells #[.func (.func 87) #[] #[.pointer (some ⟨bs_, 0, none⟩), .pointer (some ⟨W.heap.size + 1, 0, none⟩), .pointer (some ⟨W.heap.size, 0, none⟩)]] 45)) := ((Ext.refl W).alloc _).alloc _
  have hon := shareOn_in l R bs_ W.heap.size (W.heap.size + 1) J hY hJE hJS T (n - 1) bs _ (ht.ext hW2) (hJE _ _ hJ hW2) (hS.ext hW2) (hW2.get hbs)
    ((Boxed.new W _ _).alloc _) (by have := Boxed.new (W.alloc (.cells #[.func (.yield l) #[] #[]] 45)) 45 (.func (.func 87) #[] #[.pointer (some ⟨bs_, 0, none⟩), .pointer (some ⟨W.heap.size + 1, 0, none⟩), .pointer (some ⟨W.heap.size, 0, none⟩)]); simpa using this)
  have Hon := Lib.hid hon
  clear hon hY hJE hJS
  have hcb := hbt.cell
  have hlb := hbt.lt
  have hfn : ∀ f, Fence.wide.fn f := fun _ => trivial
  refine callsIn_of_wp Tryz.func86 rfl trivial ?_ rfl
  simp only [Tryz.ntmps86, List.size_toArray, List.length_cons, List.length_nil, Nat.reduceAdd, Nat.reduceSub, Array.replicate_succ, Array.replicate_zero, List.push_toArray, List.append_toArray, List.nil_append, List.cons_append]
  gi_wp2_with fail
  refine ⟨wide_room _, Hon.out.mono ?_⟩
  rintro e W1 ⟨rfl, hJ1, hS1, hk1⟩
  gi_wp2
  go_end0
  exact ⟨⟨_, rfl⟩, hJ1, hS1, (Keep.ext hW2).trans hk1⟩
theorem shareFresh_any (w : World) (R : Nat) (p : Option Addr) : Calls Tryz.prog 68 #[.map (some R), .pointer p] w fun e w' => e = .returned (.func (.func 86) #[] #[.pointer (some ⟨w.heap.size, 0, none⟩), .pointer (some ⟨w.heap.size + 1, 0, none⟩)]) ∧ w' = (w.alloc (.cells #[.map (some R)] 112)).alloc (.cells #[.pointer p] 28) := by
  go_enter Tryz.func68, Tryz.ntmps68
  go_wp2
  go_ret
  exact ⟨by simp, rfl⟩
theorem SetM.len {W : World} {R : Nat} {bs : List Nat} (h : SetM W R bs) : (Builtin.len_ #[112] 3 #[.map (some R)]).run Tryz.prog W = .ok (.int .i64 bs.length) W := by
  simp [Builtin.len_, run_underlying Tryz.underlying112, MapKept.run_getObj_map h.map, Result.andThen, setFrom_len, goInt]
theorem below_put {N : Nat} {a W : World} (h : Below N a W) (hs : N ≤ W.heap.size) {l : Nat} (hl : N ≤ l) (o : Obj) : Below N a (W.putObj l o) :=
  h.grown (grownBy_putObj' W l o) hs (fun k e => by cases e; exact hl)
theorem SetM.put {W : World} {R l : Nat} {bs : List Nat} {o : Obj} (h : SetM W R bs) (hl : W.heap[l]? = some o) (ho : o.isCells = false) (hne : R ≠ l) (o' : Obj) : SetM (W.putObj l o') R bs :=
  ⟨by rw [World.putObj_heap_other hne]; exact h.map, fun b hb => by
    obtain ⟨c, t, hc⟩ := h.nodes b hb
    exact ⟨c, t, by rw [World.putObj_heap_other (fun e => by subst e; rw [hl] at hc; cases hc; cases ho)]; exact hc⟩⟩
/-- all blocks that there were stay, but R. -/
def Stay (R : Nat) (w W : World) : Prop := w.heap.size ≤ W.heap.size ∧ ∀ i, i ≠ R → i < w.heap.size → W.heap[i]? = w.heap[i]?
theorem Stay.ext {R : Nat} {w W W' : World} (h : Stay R w W) (hE : Ext W W') : Stay R w W' :=
  ⟨Nat.le_trans h.1 hE.size, fun i hi hl => (Below.block hE i (by have := h.1; omega)).trans (h.2 i hi hl)⟩
theorem Stay.put {R : Nat} {w W : World} (h : Stay R w W) {l : Nat} (hl : l = R ∨ w.heap.size ≤ l) (o : Obj) : Stay R w (W.putObj l o) :=
  ⟨by simpa using h.1, fun i hi hl' => by rw [World.putObj_heap_other (by omega)]; exact h.2 i hi hl'⟩
/-- **for range s.fresh(t) { }**: the set holds the tree's nodes, too; nothing else that was there has turned. -/
theorem range_fresh {T : Tr} {g : Operand} {p : Tmp} {id R bs_ bt N n : Nat} {bs : List Nat} {Q : Exit → Act → World → Prop} {a : Act} {w0 w : World} (h1 : 1 ≤ n)
    (hg : a.eval g = .func (.func 86) #[] #[.pointer (some ⟨bs_, 0, none⟩), .pointer (some ⟨bt, 0, none⟩)]) (ht : InH w T) (hS : SetM w R bs)
    (hbs : Boxed w bs_ 112 (.map (some R))) (hbt : Boxed w bt 28 (.pointer T.ptr)) (hN : N ≤ R) (hb : Below N w0 w)
    (hdone : ∀ (D : Nat) (W : World), w.heap.size ≤ D → SetM W R (addT bs T) → K0 w W → Below N w0 W → Stay R w W → W.heap[D]? = some (.deferred (some [])) → Q .normal { a with defers := { target := .collected D, args := #[] } :: a.defers } W) :
    (Code.rangeFunc g #[p] Code.skip (Code.block id Code.skip)).wpIn Fence.wide n Tryz.prog Q a w := by
  have hlR : R < w.heap.size := (Array.getElem?_eq_some_iff.1 hS.map).1
  refine wpIn_rangeFunc ?_
  intro fn hfn
  rw [show Fence.wide.round = none from rfl]
  obtain ⟨rec, hrec⟩ : ∃ rec : LoopState → Loop, rec = fun st => { state := st, pending := none, fn, tmps := a.tmps, params := #[p], assign := Code.skip, body := Code.block id Code.skip, defers := w.heap.size } := ⟨_, rfl⟩
  obtain ⟨W1, hW1⟩ : ∃ W1, (w.alloc (.deferred (some []))).alloc (.loop (rec .ready)) = W1 := ⟨_, rfl⟩
  have hE1 : Ext w W1 := by rw [← hW1]; exact ((Ext.refl w).alloc _).alloc _
  have hL1 : W1.heap[w.heap.size + 1]? = some (.loop (rec .ready)) := by rw [← hW1]; exact alloc_at _ _ _ (by simp)
  have hK1 : W1.heap[w.heap.size]? = some (.deferred (some [])) := by rw [← hW1, alloc_lt _ _ _ (by simp)]; exact alloc_at _ _ _ rfl
  have hlw : N ≤ w.heap.size := by omega
  have hb1 : Below N w0 W1 := hb.trans (Below.mono hE1 hlw)
  refine ⟨w.heap.size + 1, [{ target := .collected w.heap.size, args := #[] }], W1, { target := .fn (.func 86) #[.pointer (some ⟨bs_, 0, none⟩), .pointer (some ⟨bt, 0, none⟩)], args := #[.func (.yield (w.heap.size + 1)) #[] #[]] }, W1, 86,
    #[.func (.yield (w.heap.size + 1)) #[] #[], .pointer (some ⟨bs_, 0, none⟩), .pointer (some ⟨bt, 0, none⟩)], W1, ?_, ?_, ?_, ?_, fun _ => h1, ?_⟩
  · rw [← hW1, hrec]; exact run_enterLoop_outer _ _ _ _ _
  · simp only [resolve, hg]
    simp [go_sem]
  · intro f' _; trivial
  · kernel_rfl
  · have hput : ∀ {W : World} {o : Obj}, W.heap[w.heap.size + 1]? = some (.loop (rec .ready)) → ∀ o', (W.putObj (w.heap.size + 1) o').heap[w.heap.size + 1]? = some o' := fun h o' => World.putObj_heap_same (Array.getElem?_eq_some_iff.1 h).1
    refine (shareFresh1_in (w.heap.size + 1) R bs_ bt (fun W => (Below N w0 W ∧ Stay R w W) ∧ W.heap[w.heap.size + 1]? = some (.loop (rec .ready)) ∧ W.heap[w.heap.size]? = some (.deferred (some []))) ?_ ?_ ?_ T (n - 1) bs W1 (ht.ext hE1) ⟨⟨hb1, Stay.ext (R := R) (w := w) (W := w) ⟨Nat.le_refl _, fun _ _ _ => rfl⟩ hE1⟩, hL1, hK1⟩ (hS.ext hE1) (hE1.get hbs) (hE1.get hbt)).mono ?_
    · rintro m x W bs' ⟨⟨hbW, hst⟩, hl, hk⟩ hSW
      have hlt : w.heap.size + 1 < W.heap.size := (Array.getElem?_eq_some_iff.1 hl).1
      have hy := run_yield (P := Tryz.prog) (args := #[.pointer x]) hl (by rw [hrec]; rfl)
      rw [hrec] at hy
      refine ⟨fn, _, _, _, hy, roundIn_of_wpIn hfn (wpIn_skip ⟨_, run_beginRound hl (by rw [hrec]), wpIn_block (wpIn_skip ?_)⟩)⟩
      have hl2 : (W.putObj (w.heap.size + 1) (.loop { rec .ready with state := .busy })).heap[w.heap.size + 1]? = some (.loop { rec .ready with state := .busy }) := World.putObj_heap_same hlt
      have hend := run_endRound (P := Tryz.prog) none hl2
      have hs1 : N ≤ W.heap.size := by omega
      have hb2 := below_put (below_put hbW hs1 (l := w.heap.size + 1) (by omega) (.loop { rec .ready with state := .busy })) (by simpa using hs1) (l := w.heap.size + 1) (by omega) (.loop { { rec .ready with state := .busy } with state := if (none : Option Code).isNone then .ready else .done, pending := none })
      have hS2 := (hSW.put hl rfl (by omega) (.loop { rec .ready with state := .busy })).put hl2 rfl (by omega) (.loop { { rec .ready with state := .busy } with state := if (none : Option Code).isNone then .ready else .done, pending := none })
      have hk2 : K0 W _ := (Keep.putObj (M := fun _ => False) W _ _ (.loop { rec .ready with state := .busy }) hl rfl).trans (Keep.putObj _ _ _ (.loop { { rec .ready with state := .busy } with state := if (none : Option Code).isNone then .ready else .done, pending := none }) hl2 rfl)
      refine ⟨_, _, hend, rfl, ⟨⟨hb2, (hst.put (.inr (by omega)) _).put (.inr (by omega)) _⟩, ?_, ?_⟩, hS2, hk2⟩
      · rw [World.putObj_heap_same (Array.getElem?_eq_some_iff.1 hl2).1, hrec]; rfl
      · rw [World.putObj_heap_other (by omega), World.putObj_heap_other (by omega)]; exact hk
    · rintro W W' ⟨⟨h1, h1'⟩, h2, h3⟩ hE
      have hs1 := (Array.getElem?_eq_some_iff.1 h3).1
      exact ⟨⟨h1.trans (Below.mono hE (by omega)), h1'.ext hE⟩, hE.get h2, hE.get h3⟩
    · rintro W bs' o ⟨⟨h1, h1'⟩, h2, h3⟩ hSW
      have hs1 := (Array.getElem?_eq_some_iff.1 h3).1
      exact ⟨⟨below_put h1 (by omega) hN o, h1'.put (.inl rfl) o⟩, by rw [World.putObj_heap_other (by omega)]; exact h2, by rw [World.putObj_heap_other (by omega)]; exact h3⟩
    · rintro e W2 ⟨⟨v, rfl⟩, ⟨⟨hbW, hst⟩, hl, hk⟩, hS2, hk2⟩
      refine ⟨none, _, by have := run_endLoop (P := Tryz.prog) hl (by rw [hrec]; simp); rw [hrec] at this; exact this, hdone _ _ (Nat.le_refl _) (hS2.put hl rfl (by omega) _) (((Keep.ext hE1).trans hk2).trans (Keep.putObj _ _ _ _ hl rfl)) (below_put hbW (by have := (Array.getElem?_eq_some_iff.1 hk).1; omega) (by omega) _) (hst.put (.inr (by omega)) _) ((World.putObj_heap_other (by omega)).trans hk)⟩
end Go.Proofs.YtkkdobolloojjaaGreat
namespace Go.Proofs.YtkkdobolloojjaaGreat
open Go Go.RowKit Go.Shelf

/-- no node lies on its own right side. -/
theorem InH.off_right {w : World} {b : Nat} {l r : Tr} {k v g : Int} (h : InH w (.node b l k v g r)) : b ∉ r.blks := fun hm => by
  obtain ⟨x, hx, e⟩ := List.mem_map.1 hm
  have h1 := InH.one (inH_pre' h.2.2 x hx) h (by rw [pre_ptr hx, e]; rfl)
  have h2 := pre_le hx
  rw [h1] at h2
  simp only [Tr.pre, List.length_cons, List.length_append] at h2
  omega
theorem blk_one {w : World} {A B x y : Tr} (hA : InH w A) (hB : InH w B) (hx : x ∈ A.pre) (hy : y ∈ B.pre) (e : x.blk = y.blk) : x = y :=
  InH.one (inH_pre' hA x hx) (inH_pre' hB y hy) (by rw [pre_ptr hx, pre_ptr hy, e])
/-- all nodes of a tree are in a set. -/
def Full (bs : List Nat) (T : Tr) : Prop := ∀ x ∈ T.pre, x.blk ∈ bs
theorem pre_sub : ∀ {T x : Tr}, x ∈ T.pre → ∀ y ∈ x.pre, y ∈ T.pre
  | .nil, _, h, _, _ => by simp [Tr.pre] at h
  | .node b l k v g r, x, h, y, hy => by
    simp only [Tr.pre, List.mem_cons, List.mem_append] at h
    rcases h with rfl | h | h
    · exact hy
    · simp only [Tr.pre, List.mem_cons, List.mem_append]; exact .inr (.inl (pre_sub h y hy))
    · simp only [Tr.pre, List.mem_cons, List.mem_append]; exact .inr (.inr (pre_sub h y hy))
theorem addT_sub : ∀ {T : Tr} {bs : List Nat} {x : Nat}, x ∈ bs → x ∈ addT bs T
  | .nil, _, _, h => h
  | .node b l k v g r, bs, x, h => by
    rw [addT]
    split
    · exact h
    · exact addT_sub (List.mem_append_left _ (addT_sub h))
/-- what is put in comes with all that is under it. -/
theorem addT_full {w : World} : ∀ {T : Tr} {bs : List Nat}, InH w T → (∀ x ∈ T.pre, x.blk ∈ bs → Full bs x) → Full (addT bs T) T
  | .nil, _, _, _ => fun x hx => by simp [Tr.pre] at hx
  | .node b l k v g r, bs, hT, H => by
    have hself : Tr.node b l k v g r ∈ (Tr.node b l k v g r).pre := by simp [Tr.pre]
    have hl' : ∀ x ∈ l.pre, x ∈ (Tr.node b l k v g r).pre := fun x hx => by simp [Tr.pre, hx]
    have hr' : ∀ x ∈ r.pre, x ∈ (Tr.node b l k v g r).pre := fun x hx => by simp [Tr.pre, hx]
    rw [addT]
    split
    · exact H _ hself (by assumption)
    · have fl := addT_full (bs := bs) hT.2.1 (fun x hx => H x (hl' x hx))
      have fr := addT_full (bs := addT bs l ++ [b]) hT.2.2 (fun x hx hm => by
        rcases List.mem_append.1 hm with hm | hm
        · rcases addT_mem hm with hm | hm
          · exact fun y hy => List.mem_append_left _ (addT_sub (H x (hr' x hx) hm y hy))
          · obtain ⟨y, hy, e⟩ := List.mem_map.1 hm
            have := blk_one hT.2.1 hT.2.2 hy hx e
            subst this
            exact fun z hz => List.mem_append_left _ (fl z (pre_sub hy z hz))
        · rw [List.mem_singleton] at hm
          exact absurd (List.mem_map.2 ⟨x, hx, hm⟩) hT.off_right)
      intro x hx
      simp only [Tr.pre, List.mem_cons, List.mem_append] at hx
      rcases hx with rfl | hx | hx
      · exact addT_sub (List.mem_append_right _ (by simp [Tr.blk]))
      · exact addT_sub (List.mem_append_left _ (fl x hx))
      · exact fr x hx
theorem addT_len : ∀ {T : Tr} {bs : List Nat}, bs.length ≤ (addT bs T).length
  | .nil, _ => Nat.le_refl _
  | .node b l k v g r, bs => by
    rw [addT]
    split
    · exact Nat.le_refl _
    · have h1 := addT_len (T := l) (bs := bs)
      have h2 := addT_len (T := r) (bs := addT bs l ++ [b])
      simp at h2
      omega
theorem addT_more {n : Nat} : ∀ {T : Tr} {bs : List Nat}, (∀ x ∈ T.pre, x.blk < n → x.blk ∈ bs) → (addT bs T).length ≤ bs.length + T.news n
  | .nil, _, _ => Nat.le_add_right _ _
  | .node b l k v g r, bs, H => by
    rw [addT]
    split
    · exact Nat.le_add_right _ _
    · rename_i hb
      have hn : n ≤ b := by
        rcases Nat.lt_or_ge b n with h | h
        · exact absurd (H (.node b l k v g r) (by simp [Tr.pre]) h) hb
        · exact h
      have h1 := addT_more (T := l) (bs := bs) (fun x hx => H x (by simp [Tr.pre, hx]))
      have h2 := addT_more (T := r) (bs := addT bs l ++ [b]) (fun x hx hlt => List.mem_append_left _ (addT_sub (H x (by simp [Tr.pre, hx]) hlt)))
      simp only [List.length_append, List.length_singleton] at h2
      rw [Tr.news, if_pos hn]
      omega
theorem addT_one : ∀ {T : Tr} {bs : List Nat}, T ≠ .nil → T.blk ∉ bs → bs.length + 1 ≤ (addT bs T).length
  | .nil, _, h, _ => absurd rfl h
  | .node b l k v g r, bs, _, hb => by
    rw [addT, if_neg (show b ∉ bs from hb)]
    have h1 := addT_len (T := l) (bs := bs)
    have h2 := addT_len (T := r) (bs := addT bs l ++ [b])
    simp at h2
    omega
/-- the nodes of two trees. -/
def two (A B : Tr) : List Nat := addT (addT [] A) B
theorem two_full {w : World} {A B : Tr} (hA : InH w A) (hB : InH w B) : Full (two A B) A ∧ Full (two A B) B := by
  have fa : Full (addT [] A) A := addT_full hA (fun x _ h => by cases h)
  refine ⟨fun x hx => addT_sub (fa x hx), addT_full hB (fun x hx hm => ?_)⟩
  rcases addT_mem hm with hm | hm
  · cases hm
  · obtain ⟨y, hy, e⟩ := List.mem_map.1 hm
    have := blk_one hA hB hy hx e
    subst this
    exact fun z hz => fa z (pre_sub hy z hz)
theorem two_mem {A B : Tr} {x : Nat} (h : x ∈ two A B) : x ∈ A.blks ∨ x ∈ B.blks := by
  rcases addT_mem h with h | h
  · rcases addT_mem h with h | h
    · cases h
    · exact .inl h
  · exact .inr h
/-- how many of a tree's nodes are in neither of two others. -/
def fresh2 (A B T : Tr) : Nat := (addT (two A B) T).length - (two A B).length
theorem blks_lt {w : World} {T : Tr} (h : InH w T) {x : Nat} (hx : x ∈ T.blks) : x < w.heap.size := by
  obtain ⟨y, hy, rfl⟩ := List.mem_map.1 hx
  have := inH_pre' h y hy
  cases y with
  | nil => have := pre_ptr hy; cases this
  | node b l k v g r => exact (Array.getElem?_eq_some_iff.1 this.1).1
theorem fresh2_bounds {w : World} {A B T : Tr} (hA : InH w A) (hB : InH w B) (old : ∀ x ∈ T.pre, x.blk < w.heap.size → x ∈ A.pre ∨ x ∈ B.pre) (top : w.heap.size ≤ T.blk) (nn : T ≠ .nil) :
    1 ≤ fresh2 A B T ∧ fresh2 A B T ≤ T.news w.heap.size ∧ (two A B).length ≤ (addT (two A B) T).length := by
  obtain ⟨fa, fb⟩ := two_full hA hB
  have h1 := addT_more (n := w.heap.size) (T := T) (bs := two A B) (fun x hx hlt => (old x hx hlt).elim (fa x) (fb x))
  have h2 := addT_one (T := T) (bs := two A B) nn (fun hm => by
    rcases two_mem hm with hm | hm
    · have := blks_lt hA hm; omega
    · have := blks_lt hB hm; omega)
  have h3 := addT_len (T := T) (bs := two A B)
  unfold fresh2
  omega
end Go.Proofs.YtkkdobolloojjaaGreat
namespace Go.Proofs.YtkkdobolloojjaaGreat
open Go Go.RowKit Go.Shelf
attribute [local go_sem] Oper.semAt_some

set_option maxRecDepth 100000 in
set_option maxHeartbeats 2000000 in
theorem shareAll_in (n : Nat) (hn : Hid (1 ≤ n)) (A B : Tr) (c : Nat) (ty : TypeId) (w : World) (hc : w.heap[c]? = some (.cells #[.pointer A.ptr, .pointer B.ptr] ty (0, 0))) (hA : InH w A) (hB : InH w B) :
    CallsIn Fence.wide n Tryz.prog 67 #[.slice (some ⟨c, 0, none⟩) 2 2] w fun e w' =>
      ∃ R, e = .returned (.map (some R)) ∧ w.heap.size ≤ R ∧ SetM w' R (two A B) ∧ Ext w w' := by
  have hfn : ∀ f, Fence.wide.fn f := fun _ => trivial
  have hmm := @run_makeMap Tryz.prog
  refine callsIn_of_wp_marks Tryz.func67 rfl trivial ?_ rfl
  simp only [Tryz.ntmps67, List.size_toArray, List.length_cons, List.length_nil, Nat.reduceAdd, Nat.reduceSub, Array.replicate_succ, Array.replicate_zero, List.push_toArray, List.append_toArray, List.nil_append, List.cons_append]
  gi_wp2_with fail
  have hE1 : Ext w (w.alloc (.map #[] 0)) := (Ext.refl w).alloc _
  have hS1 : SetM (w.alloc (.map #[] 0)) w.heap.size [] := ⟨by simpa [setFrom] using alloc_at w (.map #[] 0) _ rfl, fun b hb => by cases hb⟩
  generalize w.alloc (.map #[] 0) = W1 at *
  refine wpIn_loop_rounds 3 ?_
  rw [roundsIn_succ]
  have hc1 := cell_of (hE1.get hc) 0
  simp at hc1
  gi_wp2_with fail
  refine ⟨wide_room _, (callsIn_wide.2 (shareFresh_any W1 w.heap.size A.ptr)).mono ?_⟩
  rintro e W2 ⟨rfl, e2⟩
  clear hc1
  have hE2 : Ext W1 W2 := by rw [e2]; exact ((Ext.refl W1).alloc _).alloc _
  have hb2 : Boxed W2 W1.heap.size 112 (.map (some w.heap.size)) := by rw [e2]; exact (Boxed.new W1 _ _).alloc _
  have hb3 : Boxed W2 (W1.heap.size + 1) 28 (.pointer A.ptr) := by rw [e2]; exact (by have := Boxed.new (W1.alloc (.cells #[.map (some w.heap.size)] 112)) 28 (.pointer A.ptr); simpa using this)
  clear e2
  gi_wp2_with fail
  refine range_fresh (T := A) (R := w.heap.size) (N := w.heap.size) (w0 := w) (bs := []) hn.out rfl (hA.ext (hE1.trans hE2)) (hS1.ext hE2) hb2 hb3 (Nat.le_refl _) (hE1.trans hE2) ?_
  intro D W3 hD hS3 hk3 hb3' hst3 hK3
  clear hb2 hb3
  have hk1 : K0 w W3 := (Keep.ext (hE1.trans hE2)).trans hk3
  have hB3 := InH.k0 hk1 hB
  have hc2 := cell_of (hk1.cells _ _ _ _ id hc) 1
  simp at hc2
  have hDw : w.heap.size ≤ D := Nat.le_trans (hE1.trans hE2).size hD
  clear hE1 hE2 hS1 hst3 hk3 hmm hA hB
  gi_wp2_with fail
  rw [roundsIn_succ]
  gi_wp2_with fail
  refine ⟨wide_room _, (callsIn_wide.2 (shareFresh_any W3 w.heap.size B.ptr)).mono ?_⟩
  rintro e W4 ⟨rfl, e2⟩
  clear hc2
  have hE4 : Ext W3 W4 := by rw [e2]; exact ((Ext.refl W3).alloc _).alloc _
  have hb2 : Boxed W4 W3.heap.size 112 (.map (some w.heap.size)) := by rw [e2]; exact (Boxed.new W3 _ _).alloc _
  have hb3 : Boxed W4 (W3.heap.size + 1) 28 (.pointer B.ptr) := by rw [e2]; exact (by have := Boxed.new (W3.alloc (.cells #[.map (some w.heap.size)] 112)) 28 (.pointer B.ptr); simpa using this)
  clear e2
  have hlt : w.heap.size ≤ W3.heap.size := hk1.size
  gi_wp2_with fail
  refine range_fresh (T := B) (R := w.heap.size) (N := w.heap.size) (w0 := w) (bs := addT [] A) hn.out rfl (hB3.ext hE4) (hS3.ext hE4) hb2 hb3 (Nat.le_refl _) (hb3'.trans (Below.mono hE4 hlt)) ?_
  intro D2 W5 hD2 hS5 hk5 hb5 hst5 hK5
  have hlw : w.heap.size ≤ W4.heap.size := Nat.le_trans hlt hE4.size
  have hDlt : D < W4.heap.size := Nat.lt_of_lt_of_le (Array.getElem?_eq_some_iff.1 hK3).1 hE4.size
  have hK5' : W5.heap[D]? = some (.deferred (some [])) := by
    have hD4 := hE4.get hK3
    have hlD := (Array.getElem?_eq_some_iff.1 hK3).1
    have hne : D ≠ w.heap.size := fun e => by rw [e, hS3.map] at hK3; cases hK3
    rw [hst5.2 D hne (Nat.lt_of_lt_of_le hlD hE4.size)]; exact hD4
  clear hb2 hb3 hst5 hb3' hE4 hS3 hB3 hk1 hK3 hk5
  gi_wp2_with fail
  rw [roundsIn_succ]
  gi_wp2_with fail
  have g1 : (W5.putObj D2 (.deferred none)).heap[D]? = some (.deferred (some [])) := by rw [World.putObj_heap_other (by omega)]; exact hK5'
  have hS6 : SetM ((W5.putObj D2 (.deferred none)).putObj D (.deferred none)) w.heap.size (two A B) := (hS5.put hK5 rfl (by have := hS5.map; intro e; rw [← e, this] at hK5; cases hK5) _).put g1 rfl (by intro e; rw [← e, hS5.map] at hK5'; cases hK5') _
  refine ⟨by simp, .inl ⟨_, _, rfl, run_takeDeferred hK5, ⟨by simp, .inl ⟨_, _, rfl, run_takeDeferred g1, ?_⟩⟩⟩⟩
  refine ⟨_, by simp [results, Tryz.results67, go_sem], _, rfl, Nat.le_refl _, hS6, ?_⟩
  exact below_put (below_put hb5 (by have := (Array.getElem?_eq_some_iff.1 hS5.map).1; omega) (by omega) _) (by have := (Array.getElem?_eq_some_iff.1 hS5.map).1; simp; omega) (by omega) _
set_option maxRecDepth 100000 in
set_option maxHeartbeats 2000000 in
theorem shareNew_in (n : Nat) (hn : Hid (1 ≤ n)) (T A B : Tr) (c : Nat) (ty : TypeId) (w : World) (hc : w.heap[c]? = some (.cells #[.pointer A.ptr, .pointer B.ptr] ty (0, 0))) (hT : InH w T) (hA : InH w A) (hB : InH w B) (hle : Hid (((two A B).length ≤ (addT (two A B) T).length) ∧ (addT (two A B) T).length ≤ 99999)) :
    CallsIn Fence.wide n Tryz.prog 39 #[.pointer T.ptr, .slice (some ⟨c, 0, none⟩) 2 2] w (Ret (.int .i64 (fresh2 A B T : Nat)) w) := by
  have hfn : ∀ f, Fence.wide.fn f := fun _ => trivial
  refine callsIn_of_wp_marks Tryz.func39 rfl trivial ?_ rfl
  simp only [Tryz.ntmps39, List.size_toArray, List.length_cons, List.length_nil, Nat.reduceAdd, Nat.reduceSub, Array.replicate_succ, Array.replicate_zero, List.push_toArray, List.append_toArray, List.nil_append, List.cons_append]
  gi_wp2_with fail
  refine ⟨wide_room _, (CallsIn.any (n - 1) (shareAll_in 1 (Lib.hid (Nat.le_refl 1)) A B c ty w hc hA hB)).mono ?_⟩
  rintro e W1 ⟨R, rfl, hR, hS1, hE1⟩
  have hl1 := hS1.len
  clear hc hA hB
  have hT1 := hT.ext hE1
  gi_wp2_with fail
  refine ⟨wide_room _, (callsIn_wide.2 (shareFresh_any W1 R T.ptr)).mono ?_⟩
  rintro e W2 ⟨rfl, e2⟩
  have hE2 : Ext W1 W2 := by rw [e2]; exact ((Ext.refl W1).alloc _).alloc _
  have hb2 : Boxed W2 W1.heap.size 112 (.map (some R)) := by rw [e2]; exact (Boxed.new W1 _ _).alloc _
  have hb3 : Boxed W2 (W1.heap.size + 1) 28 (.pointer T.ptr) := by rw [e2]; exact (by have := Boxed.new (W1.alloc (.cells #[.map (some R)] 112)) 28 (.pointer T.ptr); simpa using this)
  clear e2 hl1
  gi_wp2_with fail
  refine range_fresh (T := T) (R := R) (N := w.heap.size) (w0 := w) (bs := two A B) hn.out rfl (hT1.ext hE2) (hS1.ext hE2) hb2 hb3 hR (hE1.trans hE2) ?_
  intro D W3 hD hS3 hk3 hb3' hst3 hK3
  have hl3 := hS3.len
  clear hb2 hb3
  gi_wp2_with fail
  have hE3 : Ext w (W3.putObj D (.deferred none)) := below_put hb3' (by have := hE1.size; have := hE2.size; have := hst3.1; omega) (by have := hE1.size; have := hE2.size; omega) _
  have e0 : wrap64 (((addT (two A B) T).length : Int) - ((two A B).length : Int)) = (fresh2 A B T : Nat) := by
    have := hle.out.1; have := hle.out.2
    unfold fresh2 wrap64; omega
  rw [e0]
  refine ⟨by simp, .inl ⟨_, _, rfl, run_takeDeferred hK3, ?_⟩⟩
  exact ⟨_, by simp [results, Tryz.results39, go_sem], rfl, hE3⟩
theorem shareNew_any (T A B : Tr) (c : Nat) (ty : TypeId) (w : World) (hc : w.heap[c]? = some (.cells #[.pointer A.ptr, .pointer B.ptr] ty (0, 0))) (hT : InH w T) (hA : InH w A) (hB : InH w B) (h1 : (two A B).length ≤ (addT (two A B) T).length) (h2 : (addT (two A B) T).length ≤ 99999) :
    Calls Tryz.prog 39 #[.pointer T.ptr, .slice (some ⟨c, 0, none⟩) 2 2] w (Ret (.int .i64 (fresh2 A B T : Nat)) w) :=
  callsIn_wide.1 (shareNew_in 1 (Lib.hid (Nat.le_refl 1)) T A B c ty w hc hT hA hB (Lib.hid ⟨h1, h2⟩))
/-- how many nodes two trees have. -/
theorem addT_most : ∀ {T : Tr} {bs : List Nat}, (addT bs T).length ≤ bs.length + T.count
  | .nil, _ => Nat.le_add_right _ _
  | .node b l k v g r, bs => by
    rw [addT, Tr.count_node]
    split
    · exact Nat.le_add_right _ _
    · have h1 := addT_most (T := l) (bs := bs)
      have h2 := addT_most (T := r) (bs := addT bs l ++ [b])
      simp at h2
      omega
end Go.Proofs.YtkkdobolloojjaaGreat
namespace Go.Proofs.YtkkdobolloojjaaGreat
open Go Go.RowKit

/-- how many turns there are at most, by the ranks. -/
theorem lev_le {d L W : Nat} (h : Lev d L W) (hL : 0 < L) (hLW : L ≤ W) : d ≤ 3 * (Nat.log2 W - Nat.log2 L) := by
  rcases Nat.lt_or_ge (3 * (Nat.log2 W - Nat.log2 L)) d with hd | hd
  · exfalso
    rcases h with h | h
    · omega
    · have hl := Nat.log2_self_le (n := L) (by omega)
      have hw := Nat.lt_log2_self (n := W)
      have hm : Nat.log2 L ≤ Nat.log2 W := by
        rw [Nat.le_log2 (by omega)]; omega
      generalize Nat.log2 W = p at *
      generalize Nat.log2 L = q at *
      obtain ⟨D, rfl⟩ : ∃ D, p = q + D := ⟨p - q, by omega⟩
      rw [Nat.add_sub_cancel_left] at hd
      obtain ⟨j, hj⟩ : ∃ j, d - 1 = 3 * D + j := ⟨d - 1 - 3 * D, by omega⟩
      rw [hj] at h
      have h1 : (2 * 71 ^ 3) ^ D ≤ (100 ^ 3) ^ D := Nat.pow_le_pow_left (by decide) D
      rw [Nat.mul_pow, ← Nat.pow_mul, ← Nat.pow_mul] at h1
      have h2 : 71 ^ j ≤ 100 ^ j := Nat.pow_le_pow_left (by decide) j
      have h3 := Nat.mul_le_mul h1 h2
      rw [Nat.mul_assoc, ← Nat.pow_add, ← Nat.pow_add] at h3
      have h4 : 71 * (L * (2 ^ D * 71 ^ (3 * D + j))) < 29 * (W * 71 ^ (3 * D + j)) := Nat.lt_of_le_of_lt (Nat.mul_le_mul_left _ (Nat.mul_le_mul_left _ h3)) h
      have h5 : (71 * (L * 2 ^ D)) * 71 ^ (3 * D + j) < (29 * W) * 71 ^ (3 * D + j) := by
        rw [Nat.mul_assoc 29, Nat.mul_assoc 71, Nat.mul_assoc L]; exact h4
      have h6 := Nat.lt_of_mul_lt_mul_right h5
      have h7 : 2 ^ q * 2 ^ D ≤ L * 2 ^ D := Nat.mul_le_mul_right _ hl
      rw [← Nat.pow_add] at h7
      rw [Nat.pow_succ] at hw
      omega
  · exact hd
theorem log2_le {a b : Nat} (h : a ≤ b) : Nat.log2 a ≤ Nat.log2 b := by
  rcases Nat.eq_zero_or_pos a with rfl | ha
  · simp
  · rw [Nat.le_log2 (by omega)]
    exact Nat.le_trans (Nat.log2_self_le (by omega)) h
theorem log2_max (a b : Nat) : Nat.log2 (max a b) = max (Nat.log2 a) (Nat.log2 b) := by
  rcases Nat.le_total a b with h | h
  · rw [Nat.max_eq_right h, Nat.max_eq_right (log2_le h)]
  · rw [Nat.max_eq_left h, Nat.max_eq_left (log2_le h)]
theorem log2_min (a b : Nat) : Nat.log2 (min a b) = min (Nat.log2 a) (Nat.log2 b) := by
  rcases Nat.le_total a b with h | h
  · rw [Nat.min_eq_left h, Nat.min_eq_left (log2_le h)]
  · rw [Nat.min_eq_right h, Nat.min_eq_right (log2_le h)]
set_option maxHeartbeats 1000000 in
theorem ref19Most_any (w : World) (pl pr : Value) (zl zr : List BeadL) (p q : Nat) (hl : Beads w pl zl) (hr : Beads w pr zr) (bl : zl.length ≤ 400) (br : zr.length ≤ 400) (ep : p = Nat.log2 (zl.length + 1)) (eq : q = Nat.log2 (zr.length + 1)) :
    Calls Tryz.prog 65 #[pl, pr] w (Ret (.int .i64 (6 * ((max p q : Nat) - (min p q : Nat)) + 1)) w) := by
  have b1 : p < 100 := by rw [ep]; exact Nat.lt_of_lt_of_le ((Nat.log2_lt (by omega)).2 (show zl.length + 1 < 2 ^ 20 by omega)) (by omega)
  have b2 : q < 100 := by rw [eq]; exact Nat.lt_of_lt_of_le ((Nat.log2_lt (by omega)).2 (show zr.length + 1 < 2 ^ 20 by omega)) (by omega)
  have c1 := Lib.hid (fun W => rank18_any zl.length W (by omega))
  have c2 := Lib.hid (fun W => rank18_any zr.length W (by omega))
  rw [← ep] at c1
  rw [← eq] at c2
  obtain ⟨a1, k1, rfl⟩ := beads_slice hl
  obtain ⟨a2, k2, rfl⟩ := beads_slice hr
  have hx := Ext.refl w
  obtain ⟨M, hM⟩ : ∃ M : Int, M = (6 * ((max p q : Nat) - (min p q : Nat)) + 1 : Int) := ⟨_, rfl⟩
  rw [← hM]
  have HM := Lib.hid hM
  generalize zl.length = n1 at *
  generalize zr.length = n2 at *
  clear hl hr bl br ep eq hM
  go_enter Tryz.func65, Tryz.ntmps65
  go_wp2_with fail
  refine (c1.out _).mono ?_
  rintro e w1 ⟨rfl, hS⟩
  replace hx := hx.trans hS
  clear hS
  go_wp2_with fail
  refine (c2.out _).mono ?_
  rintro e w2 ⟨rfl, hS⟩
  replace hx := hx.trans hS
  clear hS
  rcases Nat.lt_or_ge p q with h | h
  all_goals
    go_wp2
    all_goals
      go_ret
      exact ⟨ret_int (by rw [HM.out]; omega), hx⟩
end Go.Proofs.YtkkdobolloojjaaGreat
namespace Go.Proofs.YtkkdobolloojjaaGreat
open Go Go.RowKit

/-- is a tree a part; may it be? -/
def PartC (c : Nat) (T : Tr) : Prop := if c = 1 then AvlH T T.ht else if c = 2 then ∃ b d, RbH T b d else if c = 3 then WbH T else TpH T
def MayC (c : Nat) (T : Tr) : Prop := if c = 1 then AvlH T T.ht else if c = 2 then ∃ b, RbH T b false else if c = 3 then WbH T else TpH T
theorem part_1 {T : Tr} : PartC 1 T = AvlH T T.ht := rfl
theorem part_2 {T : Tr} : PartC 2 T = ∃ b d, RbH T b d := rfl
theorem part_3 {T : Tr} : PartC 3 T = WbH T := rfl
theorem part_4 {T : Tr} : PartC 4 T = TpH T := rfl
theorem mayC_1 {T : Tr} : MayC 1 T = AvlH T T.ht := rfl
theorem mayC_2 {T : Tr} : MayC 2 T = ∃ b, RbH T b false := rfl
theorem mayC_3 {T : Tr} : MayC 3 T = WbH T := rfl
theorem mayC_4 {T : Tr} : MayC 4 T = TpH T := rfl
theorem MayC.part {c : Nat} {T : Tr} (h : MayC c T) : PartC c T := by
  unfold MayC at h
  unfold PartC
  split
  · rename_i h1; rw [if_pos h1] at h; exact h
  · rename_i h1; rw [if_neg h1] at h
    split
    · rename_i h2; rw [if_pos h2] at h; obtain ⟨b, h⟩ := h; exact ⟨b, false, h⟩
    · rename_i h2; rw [if_neg h2] at h; exact h
theorem MayC.nil (c : Nat) : MayC c .nil := by
  unfold MayC
  split
  · rfl
  · split
    · exact ⟨0, rfl, rfl⟩
    · split <;> trivial
theorem RbH.le : ∀ {T : Tr} {b : Nat} {c : Bool}, RbH T b c → b ≤ T.count
  | .nil, b, c, ⟨h1, h2⟩ => by omega
  | .node _ l _ _ g r, b, true, h => by have := RbH.le h.1; rw [Tr.count_node]; omega
  | .node _ l _ _ g r, b, false, ⟨d, cl, cr, h0, h1, h2, h3⟩ => by have := RbH.le h1; rw [Tr.count_node]; omega
theorem rbH_un : ∀ {T : Tr} {b b' : Nat} {c c' : Bool}, RbH T b c → RbH T b' c' → b < 1000000 → b' < 1000000 → b = b' ∧ c = c' := by
  intro T b b' c c' h h' hb hb'
  have e := h.hi
  have e' := h'.hi
  have r := h.red
  have r' := h'.red
  rw [e] at e'
  rw [r] at r'
  exact ⟨by omega, r'⟩
theorem wbH_tags : ∀ {T : Tr}, WbH T → TagsOk T
  | .nil, _ => trivial
  | .node _ l _ _ g r, ⟨h1, h2, h3, _⟩ => ⟨by omega, by omega, wbH_tags h2, wbH_tags h3⟩
theorem PartC.tags {c : Nat} {T : Tr} (h : PartC c T) (hc : c ≠ 4) (h4 : 1 ≤ c ∧ c ≤ 4) (hn : T.count < 100000) : TagsOk T := by
  obtain rfl | rfl | rfl : c = 1 ∨ c = 2 ∨ c = 3 := by omega
  · exact (AvlH.may h (by have := T.ht_count; omega)).2
  · obtain ⟨b, d, h⟩ := h
    exact h.tags (by have := h.le; omega)
  · exact wbH_tags h
/-- what is told of the first node that is wrong. -/
def ckV (c : Nat) (T : Tr) : Nat × Int := if c = 1 then avlFirst T.pre else if c = 2 then rbChk T else if c = 3 then firstOf wbOne T.pre else firstOf tpOne T.pre
def ptV (c : Nat) (T : Tr) : Bool := if c = 1 then avlMay T else if c = 2 then rbPart T else if c = 3 then wbMay T else tpMay T
theorem MayC.ck {c : Nat} {T : Tr} (h4 : 1 ≤ c ∧ c ≤ 4) (hn : T.count < 100000) (h : MayC c T) : (ckV c T).2 = 0 := by
  obtain rfl | rfl | rfl | rfl : c = 1 ∨ c = 2 ∨ c = 3 ∨ c = 4 := by omega
  · have := (AvlH.may h (by have := T.ht_count; omega)).1
    show (avlFirst T.pre).2 = 0
    simpa [avlMay] using this
  · obtain ⟨b, h⟩ := h
    have := h.may (by have := h.le; omega)
    simp [rbMay, rbPart, mayOf] at this
    show (rbChk T).2 = 0
    unfold rbChk
    rw [if_neg (by simp [this.2])]
    exact this.1
  · have := WbH.may h (by omega)
    show (firstOf wbOne T.pre).2 = 0
    simpa [wbMay, mayOf] using this
  · have := (tpMay_iff T).2 h
    show (firstOf tpOne T.pre).2 = 0
    simpa [tpMay, mayOf] using this
theorem mayC_of {c : Nat} {T : Tr} (h4 : 1 ≤ c ∧ c ≤ 4) (hn : T.count < 100000) (ht : TagsOk T) (h : (ckV c T).2 = 0) : MayC c T := by
  obtain rfl | rfl | rfl | rfl : c = 1 ∨ c = 2 ∨ c = 3 ∨ c = 4 := by omega
  · exact AvlH.of_may (by have h' : (avlFirst T.pre).2 = 0 := h; simpa [avlMay] using h') ht (by omega)
  · have h' : (rbChk T).2 = 0 := h
    unfold rbChk at h'
    split at h'
    · cases h'
    · rename_i hh
      have hr : rbRed T = false := by
        cases hr : rbRed T with
        | false => rfl
        | true => exact (hh ⟨h', hr⟩).elim
      have := RbH.of_part (by simpa [rbPart, mayOf] using h') ht (by omega)
      rw [hr] at this
      exact ⟨_, this⟩
  · exact WbH.of_may (by have h' : (firstOf wbOne T.pre).2 = 0 := h; simpa [wbMay, mayOf] using h') (by omega)
  · exact (tpMay_iff T).1 (by have h' : (firstOf tpOne T.pre).2 = 0 := h; simpa [tpMay, mayOf] using h')
theorem MayC_iff {c : Nat} {T : Tr} (h4 : 1 ≤ c ∧ c ≤ 4) (hn : T.count < 100000) (ht : TagsOk T) : (ckV c T).2 = 0 ↔ MayC c T := ⟨mayC_of h4 hn ht, MayC.ck h4 hn⟩
theorem PartC.pt {c : Nat} {T : Tr} (h4 : 1 ≤ c ∧ c ≤ 4) (hn : T.count < 100000) (h : PartC c T) : ptV c T = true := by
  obtain rfl | rfl | rfl | rfl : c = 1 ∨ c = 2 ∨ c = 3 ∨ c = 4 := by omega
  · exact (AvlH.may h (by have := T.ht_count; omega)).1
  · obtain ⟨b, d, h⟩ := h
    exact h.part (by have := h.le; omega)
  · exact WbH.may h (by omega)
  · exact (tpMay_iff T).2 h
theorem partC_of {c : Nat} {T : Tr} (h4 : 1 ≤ c ∧ c ≤ 4) (hn : T.count < 100000) (ht : TagsOk T) (h : ptV c T = true) : PartC c T := by
  obtain rfl | rfl | rfl | rfl : c = 1 ∨ c = 2 ∨ c = 3 ∨ c = 4 := by omega
  · exact AvlH.of_may h ht (by omega)
  · exact ⟨_, _, RbH.of_part h ht (by omega)⟩
  · exact WbH.of_may h (by omega)
  · exact (tpMay_iff T).1 h
/-- an item, as a scheme has it; a tree's items. -/
def itC (c : Nat) (z : Int × Int × Int) : Int × Int × Int := (z.1, z.2.1, if c = 4 then z.2.2 else 0)
def itsC (c : Nat) (T : Tr) : List (Int × Int × Int) := T.its.map (itC c)
theorem itsC_nil (c : Nat) : itsC c .nil = [] := rfl
theorem itsC_node (c b : Nat) (l : Tr) (k v g : Int) (r : Tr) : itsC c (.node b l k v g r) = itsC c l ++ itC c (k, v, g) :: itsC c r := by simp [itsC, Tr.its]
theorem itsC_len (c : Nat) (T : Tr) : (itsC c T).length = T.count := by rw [itsC, List.length_map, Tr.its_len]
theorem itsC_kvs {c : Nat} (hc : c ≠ 4) (T : Tr) : itsC c T = T.kvs.map (fun z => (z.1, z.2, 0)) := by
  rw [← Tr.its_kvs, itsC, List.map_map]
  refine List.map_congr_left fun z _ => ?_
  simp [itC, hc]
theorem itC_idem (c : Nat) (z : Int × Int × Int) : itC c (itC c z) = itC c z := by
  unfold itC
  split <;> rfl
/-- how many new nodes a join has at most. -/
def mostC (c : Nat) (L R : Tr) : Nat :=
  if c = 1 then max L.ht R.ht - min L.ht R.ht + 1
  else if c = 2 then 2 * max (hiB L).toNat (hiB R).toNat - 2 * min (hiB L).toNat (hiB R).toNat + 3
  else if c = 3 then 6 * (max (Nat.log2 (L.count + 1)) (Nat.log2 (R.count + 1)) - min (Nat.log2 (L.count + 1)) (Nat.log2 (R.count + 1))) + 1
  else L.rway + R.lway + 1
/-- what a join is. -/
structure JoinC (n c : Nat) (L R : Tr) (k v g : Int) (T : Tr) : Prop where
  may : MayC c T
  its : itsC c T = itsC c L ++ itC c (k, v, g) :: itsC c R
  news : L.news n = 0 → R.news n = 0 → T.news n ≤ mostC c L R
  tags : 0 ≤ g → g < 18446744073709551616 → TagsOk L → TagsOk R → T.count < 100000 → TagsOk T
theorem JoinC.count {n c : Nat} {L R : Tr} {k v g : Int} {T : Tr} (h : JoinC n c L R k v g T) : T.count = L.count + 1 + R.count := by
  have := congrArg List.length h.its
  rw [List.length_append, List.length_cons, itsC_len, itsC_len, itsC_len] at this
  omega
theorem JoinC.nn {n c : Nat} {L R : Tr} {k v g : Int} {T : Tr} (h : JoinC n c L R k v g T) : T ≠ .nil := fun e => by
  have := h.count
  rw [e] at this
  simp only [Tr.count, Tr.pre, List.length_nil] at this
  omega
theorem its_of_kvs {c : Nat} (hc : c ≠ 4) {L R T : Tr} {k v : Int} (g : Int) (h : T.kvs = L.kvs ++ (k, v) :: R.kvs) : itsC c T = itsC c L ++ itC c (k, v, g) :: itsC c R := by
  rw [itsC_kvs hc, itsC_kvs hc, itsC_kvs hc, h, List.map_append, List.map_cons]
  simp [itC, hc]
theorem JoinOk.toC {n : Nat} {L R T : Tr} {k v : Int} (g : Int) (h : JoinOk n L R k v T) : JoinC n 1 L R k v g T := by
  have hm : AvlH T T.ht := (join_facts h).2.2
  refine ⟨hm, its_of_kvs (by decide) g h.kvs, fun _ _ => ?_, fun _ _ _ _ hc => (PartC.tags (c := 1) hm (by decide) (by decide) hc)⟩
  obtain ⟨x, -, -, h3⟩ := h.ex
  show T.news n ≤ max L.ht R.ht - min L.ht R.ht + 1
  omega
theorem RJoinOk.toC {n p q : Nat} {cl cr : Bool} {L R T : Tr} {k v : Int} (g : Int) (hL : RbH L p cl) (hR : RbH R q cr) (hp : p < 90000) (hq : q < 90000) (h : RJoinOk n L R (p + if cl then 1 else 0) (q + if cr then 1 else 0) k v T) : JoinC n 2 L R k v g T := by
  obtain ⟨⟨b, h1, -, h3⟩, h4, -⟩ := h
  refine ⟨⟨b, h1⟩, its_of_kvs (by decide) g h4, fun _ _ => ?_, fun _ _ _ _ hc => (PartC.tags (c := 2) ⟨b, false, h1⟩ (by decide) (by decide) hc)⟩
  show T.news n ≤ 2 * max (hiB L).toNat (hiB R).toNat - 2 * min (hiB L).toNat (hiB R).toNat + 3
  rw [hL.hiB (by omega), hR.hiB (by omega), Int.toNat_natCast, Int.toNat_natCast]
  omega
theorem log2_mono {a b : Nat} (h : a ≤ b) (ha : 0 < a) : Nat.log2 a ≤ Nat.log2 b := by
  have h1 := Nat.log2_self_le (n := a) (by omega)
  exact (Nat.le_log2 (by omega)).2 (Nat.le_trans h1 h)
theorem WJoinOk.toC {n : Nat} {L R T : Tr} {k v : Int} (g : Int) (h : WJoinOk n L R k v T) : JoinC n 3 L R k v g T := by
  refine ⟨h.wb, its_of_kvs (by decide) g h.kvs, fun _ _ => ?_, fun _ _ _ _ hc => wbH_tags h.wb⟩
  obtain ⟨d, h1, h2⟩ := h.news
  have h3 := lev_le h2 (by omega) (by omega)
  show T.news n ≤ 6 * (max (Nat.log2 (L.count + 1)) (Nat.log2 (R.count + 1)) - min (Nat.log2 (L.count + 1)) (Nat.log2 (R.count + 1))) + 1
  rcases Nat.le_total L.count R.count with hh | hh
  · have := log2_mono (show L.count + 1 ≤ R.count + 1 by omega) (by omega)
    rw [Nat.max_eq_right hh, Nat.min_eq_left hh] at h3
    omega
  · have := log2_mono (show R.count + 1 ≤ L.count + 1 by omega) (by omega)
    rw [Nat.max_eq_left hh, Nat.min_eq_right hh] at h3
    omega
theorem TJoinOk.toC {n : Nat} {L R T : Tr} {k v g : Int} (hL : TpH L) (hR : TpH R) (h : TJoinOk n L R k v g T) : JoinC n 4 L R k v g T := by
  refine ⟨h.tp hL hR, ?_, h.news, fun a b c d _ => h.tags a b c d⟩
  rw [itsC, h.its, List.map_append, List.map_cons]
  rfl
end Go.Proofs.YtkkdobolloojjaaGreat
namespace Go.Proofs.YtkkdobolloojjaaGreat
open Go Go.RowKit

/-- nothing that was there has turned, but some blocks. -/
structure Bt (L : List Nat) (w w' : World) : Prop where
  os : w'.os = w.os
  tape : w'.tape = w.tape
  output : w'.output = w.output
  size : w.heap.size ≤ w'.heap.size
  block : ∀ k, k < w.heap.size → k ∉ L → w'.heap[k]? = w.heap[k]?
theorem Bt.refl (L : List Nat) (w : World) : Bt L w w := ⟨rfl, rfl, rfl, Nat.le_refl _, fun _ _ _ => rfl⟩
theorem Bt.trans {L : List Nat} {a b c : World} (h : Bt L a b) (k : Bt L b c) : Bt L a c :=
  ⟨k.os.trans h.os, k.tape.trans h.tape, k.output.trans h.output, Nat.le_trans h.size k.size, fun i hi hp => (k.block i (Nat.lt_of_lt_of_le hi h.size) hp).trans (h.block i hi hp)⟩
theorem Bt.ext {L : List Nat} {a b : World} (h : Ext a b) : Bt L a b := ⟨h.os, h.tape, h.output, Below.size h, fun i hi _ => Below.block h i hi⟩
theorem Bt.mono {L M : List Nat} {a b : World} (h : Bt L a b) (k : ∀ i, i ∈ L → i ∈ M) : Bt M a b := ⟨h.os, h.tape, h.output, h.size, fun i hi hM => h.block i hi (fun hL => hM (k i hL))⟩
theorem Bt.alloc {L : List Nat} {a b : World} (h : Bt L a b) (o : Obj) : Bt L a (b.alloc o) := h.trans (Bt.ext ((Ext.refl b).alloc o))
theorem Bt.drew {L : List Nat} {a b : World} (h : Bt L a b) : Bt L a b.drew := h.trans (Bt.ext (RowKit.Below.drew (RowKit.Below.refl _ _)))
theorem Bt.set {L : List Nat} {a b : World} (h : Bt L a b) (p : Addr) (v : Value) (hp : p.block ∈ L) : Bt L a (b.setCell p v) :=
  h.trans ⟨rfl, rfl, rfl, (KeepsWalks.setCell b _ v).size, fun _ _ hi => Below.heap_setCell _ _ _ _ (fun e => hi (e ▸ hp))⟩
theorem Bt.out {L : List Nat} {a b c : World} (h : Ext a b) (hL : ∀ P ∈ L, a.heap.size ≤ P) (k : Bt L b c) : Ext a c :=
  ⟨k.os.trans h.os, k.tape.trans h.tape, k.output.trans h.output, Nat.le_trans h.size k.size, fun i hi => (k.block i (Nat.lt_of_lt_of_le hi h.size) (fun hP => absurd (hL i hP) (Nat.not_le.2 hi))).trans (Below.block h i hi)⟩
theorem Bt.get {L : List Nat} {a b : World} (h : Bt L a b) {i : Nat} {o : Obj} (hi : i ∉ L) (k : a.heap[i]? = some o) : b.heap[i]? = some o :=
  (h.block i (lt_of k) hi).trans k
/-- blocks that hold no nodes. -/
def NoNode (w : World) (P : Nat) : Prop := ∃ c t, w.heap[P]? = some (.cells c t (0, 0)) ∧ t ≠ 104
theorem InH.bt {L : List Nat} {a b : World} (e : Bt L a b) (hL : ∀ P ∈ L, NoNode a P) : ∀ {t : Tr}, InH a t → InH b t
  | .nil, _ => trivial
  | .node x _ _ _ _ _, ⟨h0, h1, h2⟩ => ⟨e.get (fun hx => by obtain ⟨c, t, h, ht⟩ := hL x hx; rw [h0] at h; injection h with h; injection h with _ h2 _; exact ht h2.symm) h0, InH.bt e hL h1, InH.bt e hL h2⟩
theorem Own.bt {B : Nat} {L : List Nat} {w w' : World} {v : Value} {zs : List BeadL} (h : Own B w v zs) (e : Bt L w w') (hL : ∀ P ∈ L, P < B) : Own B w' v zs := by
  obtain ⟨h1, h | ⟨g, cap, cur, hv, hb, hg, hc⟩⟩ := h
  · exact ⟨h1, .inl h⟩
  · exact ⟨h1, .inr ⟨g, cap, cur, hv, hb, e.get (fun hx => by have := hL g hx; omega) hg, hc⟩⟩
end Go.Proofs.YtkkdobolloojjaaGreat
namespace Go.Proofs.YtkkdobolloojjaaGreat
open Go

section
variable {F : Fence} {n : Nat} {P : Program} {ops : Array Oper} {Q : Exit → Act → World → Prop} {md : Region.Mode} {X : Nat → Bool}

theorem wpAnyG_first0 {B : Array Nat} (hB : maskOk md ops B = true) {i : Nat} {oi : Oper} {v : Value} (hf : ∀ f, F.fn f) (hnd : noDefer ops = true) (hi : ops[i]? = some oi) (hsel : ∀ (j : Nat) (o : Oper) cs b, ops[j]? = some o → o.op ≠ .select cs b)
    (hQ : ∀ c a w, ¬ Q (.panic c) a w) :
    ∀ (fuel : Nat) (listed : Array Bool) (a : Act) (w : World), Closed md ops listed →
      (∀ j oj, ops[j]? = some oj → j ≠ i → listed.getD j true = false → (B.getD j 0).testBit i = false → oi.apart ops oj = true) →
      i ∈ Region.ready md ops listed → YieldsIf P ops (fun _ => True) oi v a →
      wpAnyG F n P md ops Q X fuel (listed.setIfInBounds i true) (a.put oi.dst v) w → wpAnyG F n P md ops Q X (fuel + 1) listed a w := by
  intro fuel
  induction fuel with
  | zero =>
    intro listed a w _ _ hr hy H
    refine ⟨fun h => (by rw [h] at hr; cases hr), fun j hj => ?_⟩
    by_cases hji : j = i
    · subst hji; exact YieldsIf.wpOpIn' hf (noDefer_spec hnd hi) hi hy trivial ⟨fun _ => Ext.refl w, H⟩
    · have := ready_mono hj hji
      rw [H.1] at this
      cases this
  | succ fuel ih =>
    intro listed a w hcl hfree hr hy H
    refine ⟨fun h => (by rw [h] at hr; cases hr), fun j hj => ?_⟩
    by_cases hji : j = i
    · subst hji; exact YieldsIf.wpOpIn' hf (noDefer_spec hnd hi) hi hy trivial ⟨fun _ => Ext.refl w, H⟩
    · have h1 := H.2 j (ready_mono hj hji)
      obtain ⟨hjun, oj, hoj, hall⟩ := mem_ready.1 hj
      have hnot : (B.getD j 0).testBit i = false := by
        cases hb : (B.getD j 0).testBit i with
        | false => rfl
        | true =>
          have hl := mask_listed hB hcl (Array.getElem?_eq_some_iff.1 hi).1 j oj hoj hall hb
          have h0 := (mem_ready.1 hr).1
          rcases Nat.lt_or_ge i listed.size with h' | h'
          · simp [h'] at h0 hl; rw [h0] at hl; cases hl
          · simp [Array.getElem?_eq_none h'] at hl
      have hfj := hfree j oj hoj hji hjun hnot
      have h2 := wpOpIn_putD (noDefer_spec hnd hoj) hoj hfj (fun cs b => hsel i oi cs b hi) (fun cs b => hsel j oj cs b hoj) hQ hy h1
      have hfree' : ∀ k ok, ops[k]? = some ok → k ≠ i → (listed.setIfInBounds j true).getD k true = false →
          (B.getD k 0).testBit i = false → oi.apart ops ok = true := fun k ok hk hki hun hno => by
        refine hfree k ok hk hki ?_ hno
        by_cases hjk : j = k
        · subst hjk; exact hjun
        · rw [getD_set_ne true hjk] at hun; exact hun
      refine wpOpIn_mono (fun a' w' h3 => ⟨h3.2.1, ih (listed.setIfInBounds j true) a' w' (hcl.set hj) hfree' (ready_mono hr (Ne.symm hji)) h3.1 ?_⟩) h2
      rw [Array.setIfInBounds_comm _ _ hji]
      exact h3.2.2
def takeOk0 (md : Region.Mode) (ops : Array Oper) (B : Array Nat) (listed : Array Bool) (i : Nat) : Bool :=
  (Region.ready md ops listed).contains i && (match ops[i]? with
    | none => false
    | some oi => Op.yields oi.op && (List.range ops.size).all fun j => j == i || listed.getD j true || match ops[j]? with
      | some oj => (B.getD j 0).testBit i || oi.apart ops oj
      | none => true)
def stepOk0 (md : Region.Mode) (ops : Array Oper) (listed : Array Bool) (i : Nat) : Bool :=
  noDefer ops && (Region.noSelect ops && (maskOk md ops (Region.before ops) && (closedOk md ops listed && takeOk0 md ops (Region.before ops) listed i)))
/-- one that does not look into memory. -/
theorem takeG0 (hf : ∀ f, F.fn f) {fuel : Nat} {w : World} (i : Nat) {listed : Array Bool} {o : Oper} {a : Act} (h : stepOk0 md ops listed i = true) (hl : ops.toList[i]? = some o)
    (hk : wpQuiet P ops (fun _ => True) (fun a' => wpAnyG F n P md ops (calmQ Q) X fuel (listed.setIfInBounds i true) a' w) [o] a) : wpAnyG F n P md ops (calmQ Q) X (fuel + 1) listed a w := by
  simp only [stepOk0, Bool.and_eq_true, takeOk0] at h
  obtain ⟨hnd, hs, hB, hcl, hr, ht⟩ := h
  have hi : ops[i]? = some o := by simpa using hl
  simp only [hi, Bool.and_eq_true, List.all_eq_true, List.mem_range] at ht
  obtain ⟨hyo, ht⟩ := ht
  have hfree : ∀ j oj, ops[j]? = some oj → j ≠ i → listed.getD j true = false → ((Region.before ops).getD j 0).testBit i = false → o.apart ops oj = true := fun j oj hj hne hun hno => by
    have h1 := ht j (Array.getElem?_eq_some_iff.1 hj).1
    simpa only [hj, Bool.or_eq_true, beq_iff_eq, hne, false_or, hun, Bool.false_eq_true, hno] using h1
  have hr' : i ∈ Region.ready md ops listed := by simpa using hr
  have step : ∀ v, YieldsIf P ops (fun _ => True) o v a → wpAnyG F n P md ops (calmQ Q) X fuel (listed.setIfInBounds i true) (a.put o.dst v) w → wpAnyG F n P md ops (calmQ Q) X (fuel + 1) listed a w := fun v hy hk =>
    wpAnyG_first0 hB hf hnd hi (Region.noSelect_spec hs) (fun _ _ _ h => h.elim) fuel listed a w (closed_of_ok hcl) hfree hr' hy hk
  unfold wpQuiet at hk
  by_cases hw : Region.wanted o (yielded ops a.tmps) = true
  · simp only [hw, if_true] at hk
    obtain ⟨v, h1, h2⟩ := hk
    exact step v (yieldsIf_of_quiet hyo hw h1) (by unfold wpQuiet at h2; exact h2)
  · simp only [hw] at hk
    exact step undef (.inr ⟨by simpa using hw, rfl⟩) (by unfold wpQuiet at hk; exact hk)
end
end Go.Proofs.YtkkdobolloojjaaGreat
namespace Go.Proofs.YtkkdobolloojjaaGreat
open Go Go.RowKit

/-- three cells of one block, put. -/
def put3 (w : World) (N : Nat) (a b c : Value) : World := ((w.setCell ⟨N, 0, none⟩ a).setCell ⟨N, 1, none⟩ b).setCell ⟨N, 2, none⟩ c
theorem put3_spec {w0 w : World} {N : Nat} {x y z : Value} {t : TypeId} (hE : Ext w0 w) (hN : w0.heap.size ≤ N) (h : w.heap[N]? = some (.cells #[x, y, z] t (0, 0))) (a b c : Value) :
    (put3 w N a b c).heap[N]? = some (.cells #[a, b, c] t (0, 0)) ∧ Ext w0 (put3 w N a b c) := by
  refine ⟨?_, ?_⟩
  · unfold put3
    simp [World.setCell, Array.getElem?_modify, h]
  · unfold put3
    exact Below.setCell (Below.setCell (Below.setCell hE hN _) hN _) hN _
/-- three cells' facts. -/
theorem cells3 {w : World} {N : Nat} {x y z : Value} {t : TypeId} (h : w.heap[N]? = some (.cells #[x, y, z] t (0, 0))) : w.cell? ⟨N, 0, none⟩ = some x ∧ w.cell? ⟨N, 1, none⟩ = some y ∧ w.cell? ⟨N, 2, none⟩ = some z ∧ ∀ i, w.frozen? ⟨N, i, none⟩ = false :=
  ⟨cell_of h 0, cell_of h 1, cell_of h 2, frozen_of h⟩
def itV (k v g : Int) : Value := .agg #[.int .i64 k, .int .i64 v, .int .u64 g]
set_option maxHeartbeats 400000 in
theorem tpItem_any (w : World) (t : Tr) (ht : InH w t) : Calls Tryz.prog 200 #[.pointer t.ptr] w (Ret (itV t.key t.val t.tag) w) := by
  have HK := Lib.hid (fun W (e : InH W t) => key_any W t e)
  have HV := Lib.hid (fun W (e : InH W t) => val_any W t e)
  have HG := Lib.hid (fun W (e : InH W t) => tag_any W t e)
  have HT := Lib.hid ht
  clear ht
  generalize t.ptr = p at *
  generalize hk : t.key = k at *
  generalize hv : t.val = v at *
  generalize hg : t.tag = g at *
  clear hk hv hg
  go_enter Tryz.func200, Tryz.ntmps200
  go_wp2_with fail
  have hbox := alloc_at w (.cells #[.int .i64 0, .int .i64 0, .int .u64 0] 51) _ rfl
  have hE := (Ext.refl w).alloc (.cells #[.int .i64 0, .int .i64 0, .int .u64 0] 51)
  generalize w.alloc (.cells #[.int .i64 0, .int .i64 0, .int .u64 0] 51) = w1 at *
  refine (HK.out w1 (HT.out.ext hE)).mono ?_
  rintro e w2 ⟨rfl, h2⟩
  have hE2 := hE.trans h2
  go_wp2_with fail
  refine (HV.out w2 (HT.out.ext hE2)).mono ?_
  rintro e w3 ⟨rfl, h3⟩
  have hE3 := hE2.trans h3
  go_wp2_with fail
  refine (HG.out w3 (HT.out.ext hE3)).mono ?_
  rintro e w4 ⟨rfl, h4⟩
  have hE4 := hE3.trans h4
  have hb := h4.get (h3.get (h2.get hbox))
  obtain ⟨c0, c1, c2, cf⟩ := cells3 hb
  have HB := Lib.hid hb
  clear hE hE2 hE3 h2 h3 h4 hbox hb
  have HE := Lib.hid hE4
  clear hE4
  generalize hN : w.heap.size = N at *
  go_wp2
  change bodyPost _ _ _ _ _ (put3 w4 N (.int .i64 k) (.int .i64 v) (.int .u64 g))
  obtain ⟨hW, hX⟩ := put3_spec HE.out (by omega) HB.out (.int .i64 k) (.int .i64 v) (.int .u64 g)
  generalize put3 w4 N (.int .i64 k) (.int .i64 v) (.int .u64 g) = W at *
  clear c0 c1 c2 cf
  obtain ⟨d0, d1, d2, -⟩ := cells3 hW
  refine bodyPost_ret (v := itV k v g) ?_ rfl (Ret.mk hX)
  simp [results, Tryz.results200, go_sem, d0, d1, d2, itV]
set_option maxHeartbeats 1000000 in
theorem tpAbove0_any (w : World) (k v g k' v' g' : Int) : Calls Tryz.prog 199 #[itV k v g, itV k' v' g'] w (Ret (.bool (aboveB g k g' k')) w) := by
  unfold itV
  by_cases h1 : g' < g
  · have HX := Lib.hid (show aboveB g k g' k' = true by simp [aboveB, h1])
    obtain ⟨X, hX⟩ : ∃ X, aboveB g k g' k' = X := ⟨_, rfl⟩
    rw [hX] at HX ⊢
    clear hX
    go_enter Tryz.func199, Tryz.ntmps199
    go_wp2
    go_ret
    exact ⟨ret_bool (by rw [HX.out]), ((Ext.refl w).alloc _).alloc _⟩
  · by_cases h2 : g = g'
    · by_cases h3 : k' < k
      · have HX := Lib.hid (show aboveB g k g' k' = true by simp [aboveB, h2, h3])
        obtain ⟨X, hX⟩ : ∃ X, aboveB g k g' k' = X := ⟨_, rfl⟩
        rw [hX] at HX ⊢
        clear hX
        subst h2
        go_enter Tryz.func199, Tryz.ntmps199
        go_wp2
        go_ret
        exact ⟨ret_bool (by rw [HX.out]), ((Ext.refl w).alloc _).alloc _⟩
      · have HX := Lib.hid (show aboveB g k g' k' = false by simp [aboveB, h2]; omega)
        obtain ⟨X, hX⟩ : ∃ X, aboveB g k g' k' = X := ⟨_, rfl⟩
        rw [hX] at HX ⊢
        clear hX
        subst h2
        go_enter Tryz.func199, Tryz.ntmps199
        go_wp2
        go_ret
        exact ⟨ret_bool (by rw [HX.out]), ((Ext.refl w).alloc _).alloc _⟩
    · have HX := Lib.hid (show aboveB g k g' k' = false by simp [aboveB, h2]; omega)
      obtain ⟨X, hX⟩ : ∃ X, aboveB g k g' k' = X := ⟨_, rfl⟩
      rw [hX] at HX ⊢
      clear hX
      go_enter Tryz.func199, Tryz.ntmps199
      go_wp2
      go_ret
      exact ⟨ret_bool (by rw [HX.out]), ((Ext.refl w).alloc _).alloc _⟩
set_option maxHeartbeats 1000000 in
theorem tpAbove_any (w : World) (a b : Tr) (ha : InH w a) (hb : InH w b) : Calls Tryz.prog 195 #[.pointer a.ptr, .pointer b.ptr] w (Ret (.bool (tAbove a b)) w) := by
  have hund : undef = Value.tuple #[] := rfl
  cases a with
  | nil =>
    have p2 := ptr_same b.ptr
    rw [show tAbove .nil b = false from rfl, Tr.ptr_nil]
    clear ha hb
    generalize b.ptr = q at *
    go_enter Tryz.func195, Tryz.ntmps195
    go_wp2
    go_ret
    exact Ret.mk (Ext.refl _)
  | node ab al ak av ag ar =>
    cases b with
    | nil =>
      rw [show tAbove (.node ab al ak av ag ar) .nil = false from rfl, Tr.ptr_nil, Tr.ptr_node]
      clear ha hb
      go_enter Tryz.func195, Tryz.ntmps195
      go_wp2
      go_ret
      exact Ret.mk (Ext.refl _)
    | node bb bl bk bv bg br =>
      have HA := Lib.hid (fun W (e : Ext w W) => tpItem_any W _ (ha.ext e))
      have HB := Lib.hid (fun W (e : Ext w W) => tpItem_any W _ (hb.ext e))
      rw [show tAbove (.node ab al ak av ag ar) (.node bb bl bk bv bg br) = aboveB ag ak bg bk from rfl]
      rw [Tr.ptr_node, Tr.key_node, Tr.val_node, Tr.tag_node] at HA HB
      rw [Tr.ptr_node, Tr.ptr_node]
      have HC := Lib.hid (fun W => tpAbove0_any W ak av ag bk bv bg)
      clear ha hb
      generalize itV ak av ag = x at *
      generalize itV bk bv bg = y at *
      generalize aboveB ag ak bg bk = z at *
      go_enter Tryz.func195, Tryz.ntmps195
      go_wp2_with fail
      refine (HA.out _ (Ext.refl _)).mono ?_
      rintro e w1 ⟨rfl, h1⟩
      go_wp2_with fail
      refine (HB.out _ h1).mono ?_
      rintro e w2 ⟨rfl, h2⟩
      go_wp2_with fail
      refine (HC.out w2).mono ?_
      rintro e w3 ⟨rfl, h3⟩
      go_wp2
      go_ret
      exact Ret.mk (h1.trans (h2.trans h3))
end Go.Proofs.YtkkdobolloojjaaGreat
namespace Go.Proofs.YtkkdobolloojjaaGreat
open Go Go.RowKit
attribute [local go_sem] Oper.semAt_some

theorem boxed_noNode {w : World} {B : Nat} {t : TypeId} {v : Value} (h : Boxed w B t v) (ht : t ≠ 104) : NoNode w B := ⟨_, _, h, ht⟩
theorem InH.bt1 {A : Nat} {a b : World} {t : Tr} {ty : TypeId} {v : Value} (k : InH a t) (e : Bt [A] a b) (h : Boxed a A ty v) (ht : ty ≠ 104) : InH b t :=
  k.bt e fun P hP => by rw [List.mem_singleton.1 hP]; exact boxed_noNode h ht
theorem Boxed.get7 {L : List Nat} {a b : World} (h : Bt L a b) {B : Nat} {t : TypeId} {v : Value} (hB : B ∉ L) (k : Boxed a B t v) : Boxed b B t v := h.get hB k
theorem Bt.boxed {L : List Nat} {a b : World} (h : Bt L a b) {B : Nat} {t : TypeId} {v : Value} (hB : B ∉ L) (k : Boxed a B t v) : Boxed b B t v := h.get hB k
def TpOn (A x : Nat) (F : Nat × Int) (W : World) (e : Ending) (W' : World) : Prop := e = .returned (.bool (F.2 == 0)) ∧ Bt [A] W W' ∧ Boxed W' A 3 (.int .i64 ((x + F.1 : Nat) : Int))
theorem tp_first (b : Nat) (l : Tr) (k v g : Int) (r : Tr) : firstOf tpOne (Tr.node b l k v g r).pre = if tAbove l (.node b l k v g r) || tAbove r (.node b l k v g r) then (0, 8) else if (firstOf tpOne l.pre).2 = 0 then (l.pre.length + (firstOf tpOne r.pre).1 + 1, (firstOf tpOne r.pre).2) else ((firstOf tpOne l.pre).1 + 1, (firstOf tpOne l.pre).2) := by
  rw [Tr.pre, firstOf_cons, firstOf_append]
  unfold tpOne
  simp only [Tr.left_node, Tr.right_node]
  by_cases h : (tAbove l (.node b l k v g r) || tAbove r (.node b l k v g r)) = true
  · simp only [h]; simp
  · simp only [h]
    split <;> simp
    split <;> simp_all
set_option maxRecDepth 100000 in
set_option maxHeartbeats 2000000 in
theorem tpOn_in (A O : Nat) (hAO : O ≠ A) (T : Tr) : ∀ (n x : Nat) (W : World), InH W T → x + T.pre.length ≤ 100000 → Boxed W A 3 (.int .i64 x) →
    Boxed W O 45 (.func (.func 197) #[] #[.pointer (some ⟨A, 0, none⟩), .pointer (some ⟨O, 0, none⟩)]) →
    CallsIn Fence.wide n Tryz.prog 197 #[.pointer T.ptr, .pointer (some ⟨A, 0, none⟩), .pointer (some ⟨O, 0, none⟩)] W (TpOn A x (firstOf tpOne T.pre) W) := by
  have hfn : ∀ f, Fence.wide.fn f := fun _ => trivial
  have hO : O ∉ [A] := by simp [hAO]
  induction T with
  | nil =>
    intro n x W _ _ hA hB
    have H := Lib.hid hA
    rw [Tr.ptr_nil]
    clear hA hB
    refine callsIn_of_wp Tryz.func197 rfl trivial ?_ rfl
    simp only [Tryz.ntmps197, List.size_toArray, List.length_cons, List.length_nil, Nat.reduceAdd, Nat.reduceSub, Array.replicate_succ, Array.replicate_zero, List.push_toArray, List.append_toArray, List.nil_append, List.cons_append]
    gi_wp2_with fail
    go_ret
    exact ⟨rfl, Bt.refl _ _, H.out⟩
  | node b tl k v g tr ihl ihr =>
    intro n x W ht hx hA hB
    simp only [Tr.pre, List.length_cons, List.length_append] at hx
    have Hl := Lib.hid ihl
    have Hr := Lib.hid ihr
    have hF := tp_first b tl k v g tr
    obtain ⟨F, eF⟩ : ∃ F, F = firstOf tpOne (Tr.node b tl k v g tr).pre := ⟨_, rfl⟩
    rw [← eF] at hF ⊢
    have hLn := firstOf_le (one := tpOne) tl.pre
    have hRn := firstOf_le (one := tpOne) tr.pre
    have hnone : (firstOf tpOne tl.pre).2 = 0 → (firstOf tpOne tl.pre).1 = tl.pre.length := fun h => (firstOf_none h).1
    obtain ⟨T, eT⟩ : ∃ T, T = Tr.node b tl k v g tr := ⟨_, rfl⟩
    have HL := Lib.hid (fun W (e : InH W T) => left_any W T e)
    have HR := Lib.hid (fun W (e : InH W T) => right_any W T e)
    have HAB := Lib.hid (fun W (s : Tr) (hs : InH W s) (e : InH W T) => tpAbove_any W s T hs e)
    have hpt : T.ptr = some ⟨b, 0, none⟩ := by rw [eT]; rfl
    have hl : T.left = tl := by rw [eT]; rfl
    have hr : T.right = tr := by rw [eT]; rfl
    have HS := Lib.hid (fun W (e : InH W T) => (show InH W tl ∧ InH W tr by rw [eT] at e; exact e.2))
    rw [← eT] at ht hF ⊢
    rw [hpt] at HL HR HAB ⊢
    rw [hl] at HL
    rw [hr] at HR
    clear eF eT ihl ihr hpt hl hr
    generalize hxl : tAbove tl T = xl at *
    generalize hxr : tAbove tr T = xr at *
    generalize firstOf tpOne tl.pre = L at *
    generalize firstOf tpOne tr.pre = R at *
    obtain ⟨Ln, Le⟩ := L
    obtain ⟨Rn, Re⟩ := R
    simp only at hF hLn hRn hnone
    have HT := Lib.hid ht
    have HF := Lib.hid hF
    have HN := Lib.hid hnone
    have HX := Lib.hid (And.intro hxl hxr)
    have hAc := cell_all hA.cell
    have hAf := hA.frozen
    have HA := Lib.hid hA
    have HB := Lib.hid hB
    clear ht hF hnone hxl hxr hA hB
    cases xl with
    | true =>
      refine callsIn_of_wp Tryz.func197 rfl trivial ?_ rfl
      simp only [Tryz.ntmps197, List.size_toArray, List.length_cons, List.length_nil, Nat.reduceAdd, Nat.reduceSub, Array.replicate_succ, Array.replicate_zero, List.push_toArray, List.append_toArray, List.nil_append, List.cons_append]
      gi_wp2_with fail
      refine ⟨wide_room _, (callsIn_wide.2 (HL.out W HT.out)).mono ?_⟩
      rintro e w1 ⟨rfl, h1⟩
      gi_wp2_with fail
      refine ⟨wide_room _, (callsIn_wide.2 (HAB.out w1 _ ((HS.out W HT.out).1.ext h1) (HT.out.ext h1))).mono ?_⟩
      rw [HX.out.1]
      rintro e w2 ⟨rfl, h2⟩
      gi_wp2_with fail
      go_ret
      rw [HF.out]
      exact ⟨rfl, Bt.ext (h1.trans h2), (h1.trans h2).get HA.out⟩
    | false =>
      refine callsIn_of_wp Tryz.func197 rfl trivial ?_ rfl
      simp only [Tryz.ntmps197, List.size_toArray, List.length_cons, List.length_nil, Nat.reduceAdd, Nat.reduceSub, Array.replicate_succ, Array.replicate_zero, List.push_toArray, List.append_toArray, List.nil_append, List.cons_append]
      gi_wp2_with fail
      refine ⟨wide_room _, (callsIn_wide.2 (HL.out W HT.out)).mono ?_⟩
      rintro e w1 ⟨rfl, h1⟩
      gi_wp2_with fail
      refine ⟨wide_room _, (callsIn_wide.2 (HAB.out w1 _ ((HS.out W HT.out).1.ext h1) (HT.out.ext h1))).mono ?_⟩
      rw [HX.out.1]
      rintro e w2 ⟨rfl, h2⟩
      gi_wp2_with fail
      refine ⟨wide_room _, (callsIn_wide.2 (HR.out w2 (HT.out.ext (h1.trans h2)))).mono ?_⟩
      rintro e w3 ⟨rfl, h3⟩
      gi_wp2_with fail
      have h13 := h1.trans (h2.trans h3)
      refine ⟨wide_room _, (callsIn_wide.2 (HAB.out w3 _ ((HS.out W HT.out).2.ext h13) (HT.out.ext h13))).mono ?_⟩
      rw [HX.out.2]
      rintro e w4 ⟨rfl, h4⟩
      have h14 := h13.trans h4
      clear h1 h2 h3 h13 h4
      cases xr with
      | true =>
        gi_wp2_with fail
        go_ret
        rw [HF.out]
        exact ⟨rfl, Bt.ext h14, h14.get HA.out⟩
      | false =>
        have hA4 := h14.get HA.out
        have hB4 := h14.get HB.out
        have hc4 := cell_of hA4 0
        have hf4 := frozen_of hA4 0
        gi_wp2_with fail
        have hA5 : Boxed (w4.setCell ⟨A, 0, none⟩ (.int .i64 ((x : Int) + 1))) A 3 (.int .i64 ((x + 1 : Nat) : Int)) := Boxed.set (.int .i64 ((x : Int) + 1)) hA4
        have hB5 : Boxed (w4.setCell ⟨A, 0, none⟩ (.int .i64 ((x : Int) + 1))) O _ _ := Boxed.other hB4 hAO _
        have b5 : Bt [A] W (w4.setCell ⟨A, 0, none⟩ (.int .i64 ((x : Int) + 1))) := (Bt.ext h14).set _ _ (by simp)
        generalize w4.setCell ⟨A, 0, none⟩ (.int .i64 ((x : Int) + 1)) = w5 at *
        have t5 := HT.out.bt1 b5 HA.out (by decide)
        clear hA4 hB4 hc4 hf4 h14 hAc hAf
        have hco := cell_all hB5.cell
        have hx0 := Ext.drew w5
        refine wpIn_region_G (fun j => !(List.contains (α := Nat) [3, 8] j)) (by kernel_rfl) ?_
        refine batchG hfn (fuel := 9) [0, 1] (by kernel_rfl) rfl ?_
        repeat (go_big_quiet_step ((fail)))
        refine wpQuiet_nil ?_
        refine wpAnyG_one (j := 2) (by kernel_rfl) rfl ?_
        gi_wp2_with fail
        clear hco
        refine ⟨wide_room _, (callsIn_wide.2 (HL.out _ (t5.ext hx0))).mono ?_⟩
        rintro e w6 ⟨rfl, h6⟩
        gi_wp2_with fail
        refine onePost_ext (h6) ?_
        refine wpAnyG_one (j := 3) (by kernel_rfl) rfl ?_
        gi_wp2_with fail
        have h56 := hx0.trans h6
        have b6 := b5.trans (Bt.ext h56)
        have t6 := t5.ext h56
        refine ⟨wide_room _, (Hl.out (n - 1) (x + 1) w6 (HS.out w6 t6).1 (by omega) (h56.get hA5) (h56.get hB5)).mono ?_⟩
        rintro e w7 ⟨rfl, b7, hA7⟩
        have hB7 := Boxed.get7 b7 hO (h56.get hB5)
        have t7 := t6.bt1 b7 (h56.get hA5) (by decide)
        have b07 := b6.trans b7
        clear hA5 hB5 b5 t5 h6 h56 b6 t6 b7 hx0
        simp only at hA7
        have hco := cell_all hB7.cell
        have hx1 := Ext.refl w7
        by_cases hq : Le = 0
        · have hq' : (Le == 0) = true := by simp [hq]
          simp only [hq']
          gi_wp2_with fail
          refine onePost_any (by kernel_rfl) ?_
          refine batchG hfn (fuel := 4) [4, 5, 6] (by kernel_rfl) rfl ?_
          repeat (go_big_quiet_step ((fail)))
          refine wpQuiet_nil ?_
          refine wpAnyG_one (j := 7) (by kernel_rfl) rfl ?_
          gi_wp2_with fail
          clear hco
          refine ⟨wide_room _, (callsIn_wide.2 (HR.out _ t7)).mono ?_⟩
          rintro e w8 ⟨rfl, h8⟩
          gi_wp2_with fail
          refine onePost_ext (h8) ?_
          refine wpAnyG_one (j := 8) (by kernel_rfl) rfl ?_
          gi_wp2_with fail
          have t8 := t7.ext h8
          refine ⟨wide_room _, (Hr.out (n - 1) (x + 1 + Ln) w8 (HS.out w8 t8).2 (by omega) (h8.get hA7) (h8.get hB7)).mono ?_⟩
          rintro e w9 ⟨rfl, b9, hA9⟩
          gi_wp2_with fail
          refine onePost_any (by kernel_rfl) ?_
          refine batchG hfn (fuel := 0) [9, 10] (by kernel_rfl) rfl ?_
          repeat (go_big_quiet_step ((fail)))
          refine wpQuiet_nil ?_
          refine wpAnyG_done (by kernel_rfl) ?_
          refine calmQ_normal ?_
          gi_wp2
          go_ret
          rw [HF.out]
          have := HN.out hq
          (try simp only at hA9)
          refine ⟨by simp [hq], b07.trans ((Bt.ext h8).trans b9), ?_⟩
          have e9 : x + (tl.pre.length + Rn + 1) = x + 1 + Ln + Rn := by omega
          simp [hq, e9]
          exact hA9
        · have hq' : (Le == 0) = false := by simp [hq]
          simp only [hq']
          gi_wp2_with fail
          refine onePost_any (by kernel_rfl) ?_
          refine batchG hfn (fuel := 4) [4, 5, 6] (by kernel_rfl) rfl ?_
          repeat (go_big_quiet_step ((fail)))
          refine wpQuiet_nil ?_
          refine wpAnyG_skip hfn (j := 7) (by kernel_rfl) rfl rfl ?_
          simp only [Act.put, List.setIfInBounds_toArray, List.set_cons_zero, List.set_cons_succ]
          refine wpAnyG_skip hfn (j := 8) (by kernel_rfl) rfl rfl ?_
          simp only [Act.put, List.setIfInBounds_toArray, List.set_cons_zero, List.set_cons_succ]
          refine batchG hfn (fuel := 0) [9, 10] (by kernel_rfl) rfl ?_
          repeat (go_big_quiet_step ((fail)))
          refine wpQuiet_nil ?_
          refine wpAnyG_done (by kernel_rfl) ?_
          refine calmQ_normal ?_
          gi_wp2
          go_ret
          rw [HF.out]
          refine ⟨by simp [hq], b07, ?_⟩
          have e9 : x + (Ln + 1) = x + 1 + Ln := by omega
          simp [hq, e9]
          exact hA7
theorem tpErr : ∀ l : List Tr, (firstOf tpOne l).2 = 0 ∨ (firstOf tpOne l).2 = 8
  | [] => .inl rfl
  | t :: l => by
    rw [firstOf_cons]
    split
    · exact tpErr l
    · rename_i h
      right
      show tpOne t = 8
      unfold tpOne at h ⊢
      split
      · rfl
      · rename_i h2
        exact (h (if_neg h2)).elim
set_option maxHeartbeats 1000000 in
theorem tpCheck_any (w : World) (T : Tr) (hT : InH w T) (hc : T.pre.length ≤ 100000) : Calls Tryz.prog 190 #[.pointer T.ptr] w (Ret (.tuple #[.int .i64 (firstOf tpOne T.pre).1, .int .i64 (firstOf tpOne T.pre).2]) w) := by
  have hmf : ∀ (fn : Fn) (first cap : Array Value) (w : World), (Instr.makeFunc fn first cap).run Tryz.prog w = .ok (.func fn first cap) w := fun _ _ _ _ => rfl
  have HT := Lib.hid hT
  have HO := Lib.hid (fun A O (hAO : O ≠ A) W h hA hB => callsIn_wide.1 (tpOn_in A O hAO T 0 0 W h (by omega) hA hB))
  have he := tpErr T.pre
  clear hT hc
  generalize firstOf tpOne T.pre = F at *
  obtain ⟨Fn, Fe⟩ := F
  simp only at he
  generalize T.ptr = p at *
  go_enter Tryz.func190, Tryz.ntmps190
  go_wp2_with fail
  have hE := ((Ext.refl w).alloc (.cells #[.int .i64 0] 3)).alloc (.cells #[.func (.func 197) #[] #[.pointer (some ⟨w.heap.size, 0, none⟩), .pointer (some ⟨w.heap.size + 1, 0, none⟩)]] 45)
  have hb1 := alloc_at w (.cells #[.int .i64 0] 3) _ rfl
  have hb2 := alloc_at (w.alloc (.cells #[.int .i64 0] 3)) (.cells #[.func (.func 197) #[] #[.pointer (some ⟨w.heap.size, 0, none⟩), .pointer (some ⟨w.heap.size + 1, 0, none⟩)]] 45) (w.heap.size + 1) (by simp)
  have hb1' := ((Ext.refl _).alloc (.cells #[.func (.func 197) #[] #[.pointer (some ⟨w.heap.size, 0, none⟩), .pointer (some ⟨w.heap.size + 1, 0, none⟩)]] 45)).get hb1
  generalize (w.alloc (.cells #[.int .i64 0] 3)).alloc _ = w1 at *
  refine (HO.out w.heap.size (w.heap.size + 1) (by omega) w1 (HT.out.ext hE) hb1' hb2).mono ?_
  rintro e w2 ⟨rfl, b2, a2⟩
  have hE2 : Ext w w2 := Bt.out hE (by simp) b2
  rw [Nat.zero_add] at a2
  have hc2 := Boxed.cell a2
  have hf2 := Boxed.frozen a2
  have A2 := Lib.hid a2
  have hX : Ext w (w2.setCell ⟨w.heap.size, 0, none⟩ (.int .i64 (Fn : Nat))) := Below.setCell hE2 (Nat.le_refl _) _
  have HX := Lib.hid hX
  clear hb1 hb1' hb2 hE b2 a2 hE2 hX
  rcases he with rfl | rfl
  · go_wp2
    refine bodyPost_ret (v := .tuple #[.int .i64 (Fn : Nat), .int .i64 0]) ?_ rfl (Ret.mk HX.out)
    have := (Boxed.set (.int .i64 (Fn : Nat)) A2.out).cell
    simp [results, Tryz.results190, go_sem, this]
  · go_wp2
    refine bodyPost_ret (v := .tuple #[.int .i64 (Fn : Nat), .int .i64 8]) ?_ rfl (Ret.mk HX.out)
    have := (Boxed.set (.int .i64 (Fn : Nat)) A2.out).cell
    simp [results, Tryz.results190, go_sem, this]
theorem tpMay_any (w : World) (T : Tr) (hT : InH w T) (hc : T.pre.length ≤ 100000) : Calls Tryz.prog 191 #[.pointer T.ptr] w (Ret (.bool (tpMay T)) w) := by
  have H := Lib.hid (tpCheck_any w T hT hc)
  clear hT hc
  go_enter Tryz.func191, Tryz.ntmps191
  go_wp2_with fail
  refine (H.out).mono ?_
  rintro e w1 ⟨rfl, hS⟩
  go_wp2
  go_ret
  exact ⟨ret_bool rfl, hS⟩
end Go.Proofs.YtkkdobolloojjaaGreat
namespace Go.Proofs.YtkkdobolloojjaaGreat
open Go Go.RowKit

def tAboveN (A : Tr) : Tr → Bool
  | .nil => true
  | .node b l k v g r => tAbove A (.node b l k v g r)
theorem isB_def (A M B : Tr) : isB A M B = (tAbove A M && tAboveN A B) := by cases B <;> rfl
set_option maxHeartbeats 1000000 in
theorem tpIs_any (w : World) (A M B : Tr) (c mb : Nat) (hMp : M.ptr = some ⟨mb, 0, none⟩) (hA : InH w A) (hM : InH w M) (hB : InH w B) (c0 : w.cell? ⟨c, 0, none⟩ = some (.pointer M.ptr)) (c1 : w.cell? ⟨c, 1, none⟩ = some (.pointer B.ptr)) :
    Calls Tryz.prog 194 #[.pointer A.ptr, .slice (some ⟨c, 0, none⟩) 2 2] w (Ret (.bool (isB A M B)) w) := by
  have hund : undef = Value.tuple #[] := rfl
  have H1 := Lib.hid (tpAbove_any w A M hA hM)
  have HA := Lib.hid (fun W (e : Ext w W) => tpAbove_any W A B (hA.ext e) (hB.ext e))
  have hD := isB_def A M B
  rw [hMp] at c0 H1
  have hc0 := Lib.hid c0
  have hc1 := Lib.hid c1
  generalize isB A M B = X at *
  cases x1 : tAbove A M with
  | false =>
    rw [x1] at H1 hD
    have HX := Lib.hid (show X = false by rw [hD]; rfl)
    clear hA hM hB HA hD x1
    generalize A.ptr = pa at *
    go_enter Tryz.func194, Tryz.ntmps194
    go_wp2
    refine wp_loop_rounds 3 ?_
    rw [rounds_succ]
    go_wp2_with fail
    refine H1.out.mono ?_
    rintro e w1 ⟨rfl, h1⟩
    go_wp2
    go_ret
    exact ⟨ret_bool HX.out.symm, h1⟩
  | true =>
    cases A with
    | nil => rw [show tAbove .nil M = false from rfl] at x1; cases x1
    | node ab al ak av ag ar =>
      rw [x1] at H1 hD
      rw [Tr.ptr_node] at H1 HA ⊢
      cases B with
      | nil =>
        have HX := Lib.hid (show X = true by rw [hD]; rfl)
        rw [Tr.ptr_nil] at c1 hc1
        clear hA hM hB HA hD x1
        go_enter Tryz.func194, Tryz.ntmps194
        go_wp2
        refine wp_loop_rounds 3 ?_
        rw [rounds_succ]
        go_wp2_with fail
        refine H1.out.mono ?_
        rintro e w1 ⟨rfl, h1⟩
        have d1 : w1.cell? ⟨c, 1, none⟩ = some (.pointer none) := by rw [h1.cell (cell_lt hc1.out)]; exact hc1.out
        go_wp2_with fail
        rw [rounds_succ]
        go_wp2_with fail
        rw [rounds_succ]
        go_wp2
        go_ret
        exact ⟨ret_bool HX.out.symm, h1⟩
      | node bb bl bk bv bg br =>
        rw [Tr.ptr_node] at c1 hc1 HA
        obtain ⟨z, hz⟩ : ∃ z, tAbove (.node ab al ak av ag ar) (.node bb bl bk bv bg br) = z := ⟨_, rfl⟩
        rw [hz] at HA
        have HX := Lib.hid (show X = z by rw [hD, ← hz]; rfl)
        clear hA hM hB hD x1 hz
        go_enter Tryz.func194, Tryz.ntmps194
        go_wp2
        refine wp_loop_rounds 3 ?_
        rw [rounds_succ]
        go_wp2_with fail
        refine H1.out.mono ?_
        rintro e w1 ⟨rfl, h1⟩
        have d1 : w1.cell? ⟨c, 1, none⟩ = some (.pointer (some ⟨bb, 0, none⟩)) := by rw [h1.cell (cell_lt hc1.out)]; exact hc1.out
        go_wp2_with fail
        rw [rounds_succ]
        go_wp2_with fail
        refine (HA.out w1 h1).mono ?_
        rintro e w2 ⟨rfl, h2⟩
        cases z with
        | false =>
          go_wp2
          go_ret
          exact ⟨ret_bool HX.out.symm, h1.trans h2⟩
        | true =>
          go_wp2_with fail
          rw [rounds_succ]
          go_wp2
          go_ret
          exact ⟨ret_bool HX.out.symm, h1.trans h2⟩
theorem right_run (a : Array Value) (w : World) : (callFunc 20 a).run Tryz.prog w = .ok (.enter 20 a) w := by kernel_rfl
theorem left_run (a : Array Value) (w : World) : (callFunc 19 a).run Tryz.prog w = .ok (.enter 19 a) w := by kernel_rfl
theorem rway_right (t : Tr) (h : t ≠ .nil) : t.rway = 1 + t.right.rway := by cases t with | nil => exact (h rfl).elim | node => rfl
theorem lway_left (t : Tr) (h : t ≠ .nil) : t.lway = 1 + t.left.lway := by cases t with | nil => exact (h rfl).elim | node => rfl
theorem ptr_nn {t : Tr} (h : t ≠ .nil) : ∃ b, t.ptr = some ⟨b, 0, none⟩ := by cases t with | nil => exact (h rfl).elim | node b => exact ⟨b, rfl⟩
set_option maxHeartbeats 1000000 in
theorem tpWayR_any (w : World) (T : Tr) (hT : InH w T) (hc : T.count ≤ 100000) : Calls Tryz.prog 198 #[.pointer T.ptr, .func (.func 20) #[] #[]] w (Ret (.int .i64 (T.rway : Nat)) w) := by
  have HT := Lib.hid hT
  have hle := Nat.le_trans T.rway_le hc
  have hrun := right_run
  obtain ⟨p, hp⟩ : ∃ p, p = T.ptr := ⟨_, rfl⟩
  rw [← hp]
  have HP := Lib.hid hp
  clear hp hT
  go_enter Tryz.func198, Tryz.ntmps198
  go_wp2
  go_loopw [0, 4] (fun p n W => Ext w W ∧ ∃ (S : Tr) (k : Nat), p = .pointer S.ptr ∧ InH W S ∧ n = .int .i64 k ∧ k + S.rway = T.rway) (fun _ n _ => T.rway - (intOf n).toNat)
  case atStart => exact ⟨Ext.refl _, T, 0, by rw [HP.out], HT.out, rfl, Nat.zero_add _⟩
  case round =>
    obtain ⟨hX, S, k, rfl, hS, rfl, hk⟩ := hrel
    by_cases hn : S = .nil
    · subst hn
      rw [Tr.ptr_nil]
      have HK := Lib.hid (show k = T.rway from hk)
      clear hS hk
      go_wp2
      go_ret
      exact ⟨ret_int (by rw [HK.out]), hX⟩
    · obtain ⟨b, hb⟩ := ptr_nn hn
      have hS1 := rway_right S hn
      have HS := Lib.hid hS
      have HL := Lib.hid (right_any wr S hS)
      have HR := Lib.hid (show InH wr S.right by cases S with | nil => exact (hn rfl).elim | node => exact hS.2.2)
      rw [hb] at HL ⊢
      clear hS hb hn
      go_wp2_with fail
      refine HL.out.mono ?_
      rintro e w1 ⟨rfl, h1⟩
      go_wp2
      go_roundw
      case rel => exact ⟨hX.trans h1, S.right, k + 1, rfl, HR.out.ext h1, by go_num, by omega⟩
      case measure => simp [intOf]; omega
set_option maxHeartbeats 1000000 in
theorem tpWayL_any (w : World) (T : Tr) (hT : InH w T) (hc : T.count ≤ 100000) : Calls Tryz.prog 198 #[.pointer T.ptr, .func (.func 19) #[] #[]] w (Ret (.int .i64 (T.lway : Nat)) w) := by
  have HT := Lib.hid hT
  have hle := Nat.le_trans T.lway_le hc
  have hrun := left_run
  obtain ⟨p, hp⟩ : ∃ p, p = T.ptr := ⟨_, rfl⟩
  rw [← hp]
  have HP := Lib.hid hp
  clear hp hT
  go_enter Tryz.func198, Tryz.ntmps198
  go_wp2
  go_loopw [0, 4] (fun p n W => Ext w W ∧ ∃ (S : Tr) (k : Nat), p = .pointer S.ptr ∧ InH W S ∧ n = .int .i64 k ∧ k + S.lway = T.lway) (fun _ n _ => T.lway - (intOf n).toNat)
  case atStart => exact ⟨Ext.refl _, T, 0, by rw [HP.out], HT.out, rfl, Nat.zero_add _⟩
  case round =>
    obtain ⟨hX, S, k, rfl, hS, rfl, hk⟩ := hrel
    by_cases hn : S = .nil
    · subst hn
      rw [Tr.ptr_nil]
      have HK := Lib.hid (show k = T.lway from hk)
      clear hS hk
      go_wp2
      go_ret
      exact ⟨ret_int (by rw [HK.out]), hX⟩
    · obtain ⟨b, hb⟩ := ptr_nn hn
      have hS1 := lway_left S hn
      have HS := Lib.hid hS
      have HL := Lib.hid (left_any wr S hS)
      have HR := Lib.hid (show InH wr S.left by cases S with | nil => exact (hn rfl).elim | node => exact hS.2.1)
      rw [hb] at HL ⊢
      clear hS hb hn
      go_wp2_with fail
      refine HL.out.mono ?_
      rintro e w1 ⟨rfl, h1⟩
      go_wp2
      go_roundw
      case rel => exact ⟨hX.trans h1, S.left, k + 1, rfl, HR.out.ext h1, by go_num, by omega⟩
      case measure => simp [intOf]; omega
theorem tpMost_any (w : World) (l r : Tr) (hl : InH w l) (hr : InH w r) (cl : l.count ≤ 100000) (cr : r.count ≤ 100000) : Calls Tryz.prog 193 #[.pointer l.ptr, .pointer r.ptr] w (Ret (.int .i64 ((l.rway + r.lway + 1 : Nat) : Int)) w) := by
  have HL := Lib.hid (tpWayR_any w l hl cl)
  have HR := Lib.hid (fun W (e : Ext w W) => tpWayL_any W r (hr.ext e) cr)
  have h1 := Nat.le_trans l.rway_le cl
  have h2 := Nat.le_trans r.lway_le cr
  clear hl hr cl cr
  generalize l.ptr = p at *
  generalize r.ptr = q at *
  generalize l.rway = a at *
  generalize r.lway = b at *
  go_enter Tryz.func193, Tryz.ntmps193
  go_wp2_with fail
  refine HL.out.mono ?_
  rintro e w1 ⟨rfl, e1⟩
  go_wp2_with fail
  refine (HR.out w1 e1).mono ?_
  rintro e w2 ⟨rfl, e2⟩
  go_wp2
  go_ret
  exact ⟨ret_int (by omega), e1.trans e2⟩
end Go.Proofs.YtkkdobolloojjaaGreat
