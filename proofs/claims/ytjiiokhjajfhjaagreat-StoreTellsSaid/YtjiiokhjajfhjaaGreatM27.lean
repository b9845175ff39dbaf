/- share: the going over a tree that puts its nodes into a set. -/
import Derived.BigQuiet
import Derived.Test.YtjiiokhjajfhjaaGreatM9
import Derived.Test.YtjiiokhjajfhjaaGreatM26
namespace Go.Proofs.YtjiiokhjajfhjaaGreat
open Go Go.RowKit Go.Shelf
attribute [local go_sem] Oper.semAt_some

/-- the blocks of a tree. -/
def Tr.blks (T : Tr) : List Nat := T.pre.map (·.blk)
theorem Tr.blks_nil : Tr.blks .nil = [] := rfl
theorem Tr.blks_node (b : Nat) (l : Tr) (k v g : Int) (r : Tr) : Tr.blks (.node b l k v g r) = b :: (l.blks ++ r.blks) := by simp [Tr.blks, Tr.pre, Tr.blk]
/-- one tree lies at an address. -/
theorem InH.one {w : World} : ∀ {A B : Tr}, InH w A → InH w B → A.ptr = B.ptr → A = B
  | .nil, .nil, _, _, _ => rfl
  | .nil, .node .., _, _, h => by simp [Tr.ptr] at h
  | .node .., .nil, _, _, h => by simp [Tr.ptr] at h
  | .node b l k v g r, .node b' l' k' v' g' r', ⟨h0, h1, h2⟩, ⟨h0', h1', h2'⟩, h => by
    have eb : b = b' := by simpa [Tr.ptr] using h
    subst eb
    rw [h0] at h0'
    have hc : (#[.int .i64 k, .int .i64 v, .int .i64 (Tr.node b l k v g r).sum, .int .u64 g, .int .i64 (Tr.node b l k v g r).size, .pointer l.ptr, .pointer r.ptr] : Array Value) = #[.int .i64 k', .int .i64 v', .int .i64 (Tr.node b l' k' v' g' r').sum, .int .u64 g', .int .i64 (Tr.node b l' k' v' g' r').size, .pointer l'.ptr, .pointer r'.ptr] := by
      injection h0' with h0'
      injection h0' 
    have e1 : k = k' := by have := congrArg (fun a => a[0]?) hc; simpa using this
    have e2 : v = v' := by have := congrArg (fun a => a[1]?) hc; simpa using this
    have e4 : g = g' := by have := congrArg (fun a => a[3]?) hc; simpa using this
    have e6 : l.ptr = l'.ptr := by have := congrArg (fun a => a[5]?) hc; simpa using this
    have e7 : r.ptr = r'.ptr := by have := congrArg (fun a => a[6]?) hc; simpa using this
    rw [e1, e2, e4, InH.one h1 h1' e6, InH.one h2 h2' e7]
theorem inH_pre' {w : World} : ∀ {t : Tr}, InH w t → ∀ x ∈ t.pre, InH w x
  | .nil, _, _, hx => by simp [Tr.pre] at hx
  | .node b l k v g r, h, x, hx => by
    simp only [Tr.pre, List.mem_cons, List.mem_append] at hx
    rcases hx with rfl | hx | hx
    · exact h
    · exact inH_pre' h.2.1 x hx
    · exact inH_pre' h.2.2 x hx
theorem pre_le : ∀ {t x : Tr}, x ∈ t.pre → x.pre.length ≤ t.pre.length
  | .nil, _, hx => by simp [Tr.pre] at hx
  | .node b l k v g r, x, hx => by
    simp only [Tr.pre, List.mem_cons, List.mem_append] at hx
    rcases hx with rfl | hx | hx
    · exact Nat.le_refl _
    · have := pre_le hx; simp only [Tr.pre, List.length_cons, List.length_append]; omega
    · have := pre_le hx; simp only [Tr.pre, List.length_cons, List.length_append]; omega
theorem pre_ptr {t x : Tr} (h : x ∈ t.pre) : x.ptr = some ⟨x.blk, 0, none⟩ := by
  cases x with
  | nil => induction t with
    | nil => simp [Tr.pre] at h
    | node b l k v g r ihl ihr =>
      simp only [Tr.pre, List.mem_cons, List.mem_append] at h
      rcases h with h | h | h
      · cases h
      · exact ihl h
      · exact ihr h
  | node b l k v g r => rfl
/-- no node lies on its own left side. -/
theorem InH.off_left {w : World} {b : Nat} {l r : Tr} {k v g : Int} (h : InH w (.node b l k v g r)) : b ∉ l.blks := fun hm => by
  obtain ⟨x, hx, e⟩ := List.mem_map.1 hm
  have h1 := InH.one (inH_pre' h.2.1 x hx) h (by rw [pre_ptr hx, e]; rfl)
  have h2 := pre_le hx
  rw [h1] at h2
  simp only [Tr.pre, List.length_cons, List.length_append] at h2
  omega
/-- what a set holds, if a tree's nodes are put into it. -/
def addT : List Nat → Tr → List Nat
  | bs, .nil => bs
  | bs, .node b l _ _ _ r => if b ∈ bs then bs else addT (addT bs l ++ [b]) r
theorem addT_in : ∀ {T : Tr} {bs : List Nat} {b : Nat} {l r : Tr} {k v g : Int}, T = .node b l k v g r → b ∈ bs → addT bs T = bs := by
  intro T bs b l r k v g e h; subst e; rw [addT, if_pos h]
theorem addT_mem : ∀ {T : Tr} {bs : List Nat} {x : Nat}, x ∈ addT bs T → x ∈ bs ∨ x ∈ T.blks
  | .nil, _, _, h => .inl h
  | .node b l k v g r, bs, x, h => by
    rw [Tr.blks_node]
    rw [addT] at h
    split at h
    · exact .inl h
    · rcases addT_mem h with h | h
      · rcases List.mem_append.1 h with h | h
        · rcases addT_mem h with h | h
          · exact .inl h
          · exact .inr (List.mem_cons_of_mem _ (List.mem_append_left _ h))
        · rw [List.mem_singleton] at h; subst h; exact .inr (List.mem_cons_self ..)
      · exact .inr (List.mem_cons_of_mem _ (List.mem_append_right _ h))
theorem SetM.ext {W W' : World} {R : Nat} {bs : List Nat} (h : SetM W R bs) (hE : Ext W W') : SetM W' R bs :=
  ⟨hE.get h.map, fun b hb => by obtain ⟨c, t, hc⟩ := h.nodes b hb; exact ⟨c, t, hE.get hc⟩⟩
theorem InH.cells {w : World} {b : Nat} {l r : Tr} {k v g : Int} (h : InH w (.node b l k v g r)) : IsCells w b := ⟨_, _, h.1⟩
/-- no cells turn. -/
abbrev K0 (a b : World) : Prop := Keep (fun _ => False) a b
theorem off0 : ∀ (t : Tr), Off (fun _ => False) t
  | .nil => trivial
  | .node _ l _ _ _ r => ⟨id, off0 l, off0 r⟩
theorem InH.k0 {a b : World} (h : K0 a b) {t : Tr} (ht : InH a t) : InH b t := InH.keep h (off0 t) ht
theorem SetM.look {W : World} {R : Nat} {bs : List Nat} (h : SetM W R bs) {b : Nat} (hb : IsCells W b) (f : Bool) (hf : f = decide (b ∈ bs)) :
    (Instr.lookup 133 (.map (some R)) (.pointer (some ⟨b, 0, none⟩)) true).run Tryz.prog W = .ok (.tuple #[.agg #[], .bool f]) W := by
  refine set_lookup W R bs _ f h ?_
  subst hf
  by_cases hm : b ∈ bs
  · obtain ⟨k, hk⟩ := ask_some W b bs 0 0 h.nodes hm
    exact ⟨k, by simp [hm, hk]⟩
  · exact ⟨0, by simp [hm, ask_none W b hb bs 0 0 h.nodes hm]⟩
theorem SetM.look_nil {W : World} {R : Nat} {bs : List Nat} (h : SetM W R bs) : (Instr.lookup 133 (.map (some R)) (.pointer none) true).run Tryz.prog W = .ok (.tuple #[.agg #[], .bool false]) W :=
  set_lookup W R bs _ false h ⟨0, by simp [ask_nil W bs 0 0]⟩
set_option maxRecDepth 100000 in
set_option maxHeartbeats 2000000 in
theorem shareOn_in (l R bs_ by_ bo : Nat) (J : World → Prop)
    (hY : ∀ m x W bs, J W → SetM W R bs → YieldAt Fence.wide m Tryz.prog l #[.pointer x] W fun e W' => e = .returned (.bool true) ∧ J W' ∧ SetM W' R bs ∧ K0 W W')
    (hJE : ∀ W W', J W → Ext W W' → J W') (hJS : ∀ W bs o, J W → SetM W R bs → J (W.putObj R o)) (T : Tr) :
    ∀ (n : Nat) (bs : List Nat) (W : World), InH W T → J W → SetM W R bs →
      Boxed W bs_ 133 (.map (some R)) → Boxed W by_ 108 (.func (.yield l) #[] #[]) → Boxed W bo 108 (.func (.func 78) #[] #[.pointer (some ⟨bs_, 0, none⟩), .pointer (some ⟨bo, 0, none⟩), .pointer (some ⟨by_, 0, none⟩)]) →
      CallsIn Fence.wide n Tryz.prog 78 #[.pointer T.ptr, .pointer (some ⟨bs_, 0, none⟩), .pointer (some ⟨bo, 0, none⟩), .pointer (some ⟨by_, 0, none⟩)] W fun e W' =>
        e = .returned (.bool true) ∧ J W' ∧ SetM W' R (addT bs T) ∧ K0 W W' := by
  have hfn : ∀ f, Fence.wide.fn f := fun _ => trivial
  induction T with
  | nil =>
    intro n bs W _ hJ hS hbs _ _
    rw [Tr.ptr_nil]
    have hcs := hbs.cell
    have hlk := hS.look_nil
    clear hY
    refine callsIn_of_wp Tryz.func78 rfl trivial ?_ rfl
    simp only [Tryz.ntmps78, List.size_toArray, List.length_cons, List.length_nil, Nat.reduceAdd, Nat.reduceSub, Array.replicate_succ, Array.replicate_zero, List.push_toArray, List.append_toArray, List.nil_append, List.cons_append]
    gi_wp2
    go_ret
    exact ⟨rfl, hJE _ _ hJ ((Ext.refl W).alloc _), hS.ext ((Ext.refl W).alloc _), Keep.alloc W _⟩
  | node b tl k v g tr ihl ihr =>
    intro n bs W ht hJ hS hbs hy hbo
    have hcs := hbs.cell
    have hE1 := (Ext.refl W).alloc (.cells #[] 76)
    by_cases hm : b ∈ bs
    · have hlk := hS.look ht.cells true (by simp [hm])
      rw [addT_in rfl hm, Tr.ptr_node]
      have hund : undef = Value.tuple #[] := rfl
      clear hY ihl ihr hm
      refine callsIn_of_wp Tryz.func78 rfl trivial ?_ rfl
      simp only [Tryz.ntmps78, List.size_toArray, List.length_cons, List.length_nil, Nat.reduceAdd, Nat.reduceSub, Array.replicate_succ, Array.replicate_zero, List.push_toArray, List.append_toArray, List.nil_append, List.cons_append]
      gi_wp2
      go_ret
      exact ⟨rfl, hJE _ _ hJ hE1, hS.ext hE1, Keep.alloc W _⟩
    · have hlk := hS.look ht.cells false (by simp [hm])
      have Hl := Lib.hid ihl
      have Hr := Lib.hid ihr
      have HY := Lib.hid hY
      have HM := Lib.hid hm
      clear hY ihl ihr hm
      rw [Tr.ptr_node]
      refine callsIn_of_wp Tryz.func78 rfl trivial ?_ rfl
      simp only [Tryz.ntmps78, List.size_toArray, List.length_cons, List.length_nil, Nat.reduceAdd, Nat.reduceSub, Array.replicate_succ, Array.replicate_zero, List.push_toArray, List.append_toArray, List.nil_append, List.cons_append]
      gi_wp2_with fail
      clear hcs hlk
      generalize W.alloc (.cells #[] 76) = W0 at *
      have hx0 := Ext.drew W0
      have hb0 : Boxed W0 bo _ _ := hE1.get hbo
      have hco := cell_all hb0.cell
      refine wpIn_region_G (fun j => !(List.contains (α := Nat) [3] j)) (by kernel_rfl) ?_
      refine batchG hfn (fuel := 3) [0, 1] (by kernel_rfl) rfl ?_
      repeat (go_big_quiet_step ((fail)))
      refine wpQuiet_nil ?_
      refine wpAnyG_one (j := 2) (by kernel_rfl) rfl ?_
      gi_wp2_with fail
      rw [← Tr.ptr_node b tl k v g tr]
      have hE2 := hE1.trans hx0
      refine ⟨wide_room _, (callsIn_wide.2 (left_any _ _ (ht.ext hE2))).mono ?_⟩
      rintro e W2 ⟨rfl, h2⟩
      clear hco
      gi_wp2_with fail
      refine onePost_ext (h2) ?_
      refine wpAnyG_one (j := 3) (by kernel_rfl) rfl ?_
      gi_wp2_with fail
      simp only [Tr.left_node]
      have hE3 := hE2.trans h2
      have ht2 := ht.ext hE3
      clear hx0 hb0 hE1
      refine ⟨wide_room _, (Hl.out (n - 1) bs W2 ht2.2.1 (hJE _ _ hJ hE3) (hS.ext hE3) (hE3.get hbs) (hE3.get hy) (hE3.get hbo)).mono ?_⟩
      rintro e W3 ⟨rfl, hJ3, hS3, hk3⟩
      have ht3 := InH.k0 hk3 ht2
      have hbs3 : Boxed W3 bs_ _ _ := hk3.boxed id (hE3.get hbs)
      have hy3 : Boxed W3 by_ _ _ := hk3.boxed id (hE3.get hy)
      have hbo3 : Boxed W3 bo _ _ := hk3.boxed id (hE3.get hbo)
      have hk03 := (Keep.ext (M := fun _ => False) hE3).trans hk3
      clear ht2 hbs hy hbo hJ hS hk3 hE2 hE3 h2
      gi_wp2_with fail
      refine onePost_any (by kernel_rfl) ?_
      refine batchG hfn (fuel := 0) [4] (by kernel_rfl) rfl ?_
      repeat (go_big_quiet_step ((fail)))
      refine wpQuiet_nil ?_
      refine wpAnyG_done (by kernel_rfl) ?_
      refine calmQ_normal ?_
      have hcs := hbs3.cell
      have hadd := set_add W3 R _ b hS3 ht3.cells (fun h => (addT_mem h).elim HM.out ht.off_left)
      rw [Tr.ptr_node]
      gi_wp2_with fail
      have hS4 := hS3.add ht3.cells
      have hJ4 := hJS W3 _ (.map (setFrom 0 (addT bs tl ++ [b])).toArray ((addT bs tl).length + 1)) hJ3 hS3
      have hk34 : K0 W3 (W3.putObj R (.map (setFrom 0 (addT bs tl ++ [b])).toArray ((addT bs tl).length + 1))) := Keep.putObj W3 R _ _ hS3.map rfl
      clear hcs hadd hS3 hJ3
      generalize W3.putObj R _ = W4 at *
      have hx4 := Ext.drew W4
      have hk4 : K0 W3 W4.drew := hk34.trans (Keep.ext hx4)
      have ht4 := InH.k0 hk4 ht3
      have hbs4 : Boxed W4.drew bs_ _ _ := hk4.boxed id hbs3
      have hbo4 : Boxed W4.drew bo _ _ := hk4.boxed id hbo3
      have hyb4 : Boxed W4.drew by_ _ _ := hk4.boxed id hy3
      have hcy := cell_all (hk34.boxed id hy3).cell
      obtain ⟨fn, tmps, assign, body, hy1, hR⟩ := HY.out n (some ⟨b, 0, none⟩) W4.drew _ (hJE _ _ hJ4 hx4) (hS4.ext hx4)
      have HR := Lib.hid hR
      have hk04 := hk03.trans hk4
      clear hR hS4 hJ4 hk34 ht3 hbs3 hy3 hbo3 hk4 hk03
      refine wpIn_region_G (fun j => !(List.contains (α := Nat) [2, 7] j)) (by kernel_rfl) ?_
      refine batchG hfn (fuel := 8) [0, 1] (by kernel_rfl) rfl ?_
      repeat (go_big_quiet_step ((fail)))
      refine wpQuiet_nil ?_
      refine wpAnyG_one (j := 2) (by kernel_rfl) rfl ?_
      gi_wp2_with fail
      refine ⟨wide_room _, (RoundIn.any HR.out).mono ?_⟩
      rintro e W5 ⟨rfl, hJ5, hS5, hk5⟩
      clear hcy hx4 hy1 HR
      have ht5 := InH.k0 hk5 ht4
      have hbs5 : Boxed W5 bs_ _ _ := hk5.boxed id hbs4
      have hbo5 : Boxed W5 bo _ _ := hk5.boxed id hbo4
      have hyb5 : Boxed W5 by_ _ _ := hk5.boxed id hyb4
      have hk05 := hk04.trans hk5
      clear ht4 hbs4 hbo4 hyb4 hk5 hk04
      have hco := cell_all hbo5.cell
      have hx5 := Ext.refl W5
      gi_wp2_with fail
      refine onePost_any (by kernel_rfl) ?_
      refine batchG hfn (fuel := 4) [3, 4, 5] (by kernel_rfl) rfl ?_
      repeat (go_big_quiet_step ((fail)))
      refine wpQuiet_nil ?_
      refine wpAnyG_one (j := 6) (by kernel_rfl) rfl ?_
      gi_wp2_with fail
      rw [← Tr.ptr_node b tl k v g tr]
      clear hco hx5
      refine ⟨wide_room _, (callsIn_wide.2 (right_any _ _ ht5)).mono ?_⟩
      rintro e W6 ⟨rfl, h6⟩
      gi_wp2_with fail
      refine onePost_ext (h6) ?_
      refine wpAnyG_one (j := 7) (by kernel_rfl) rfl ?_
      gi_wp2_with fail
      simp only [Tr.right_node]
      refine ⟨wide_room _, (Hr.out (n - 1) _ W6 (ht5.ext h6).2.2 (hJE _ _ hJ5 h6) (hS5.ext h6) (h6.get hbs5) (h6.get hyb5) (h6.get hbo5)).mono ?_⟩
      rintro e W7 ⟨rfl, hJ7, hS7, hk7⟩
      gi_wp2_with fail
      refine onePost_any (by kernel_rfl) ?_
      refine batchG hfn (fuel := 0) [8, 9] (by kernel_rfl) rfl ?_
      repeat (go_big_quiet_step ((fail)))
      refine wpQuiet_nil ?_
      refine wpAnyG_done (by kernel_rfl) ?_
      refine calmQ_normal ?_
      gi_wp2
      go_ret
      refine ⟨rfl, hJ7, ?_, (hk05.trans (Keep.ext h6)).trans hk7⟩
      rw [addT, if_neg HM.out]
      exact hS7
end Go.Proofs.YtjiiokhjajfhjaaGreat
