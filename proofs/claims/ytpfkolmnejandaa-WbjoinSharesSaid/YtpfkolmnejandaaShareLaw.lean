/- share: how many nodes of a tree are new (plain). -/
import Derived.Test.YtpfkolmnejandaaShare
namespace Go.Proofs.Ytpfkolmnejandaa
open Go Go.RowKit Go.Shelf

/-- no node lies on its own right side. -/
theorem InH.off_right {w : World} {b : Nat} {l r : Tr} {k v g : Int} (h : InH w (.node b l k v g r)) : b ∉ r.blks := fun hm => by
  obtain ⟨x, hx, e⟩ := List.mem_map.1 hm
  have h1 := InH.one (inH_pre' h.2.2 x hx) h (by rw [pre_ptr hx, e]; rfl)
  have h2 := pre_le hx
  rw [h1] at h2
  simp only [Tr.pre, List.length_cons, List.length_append] at h2
  omega
theorem blk_one {w : World} {A B x y : Tr} (hA : InH w A) (hB : InH w B) (hx : x ∈ A.pre) (hy : y ∈ B.pre) (e : x.blk = y.blk) : x = y :=
  InH.one (inH_pre' hA x hx) (inH_pre' hB y hy) (by rw [pre_ptr hx, pre_ptr hy, e])
/-- all nodes of a tree are in a set. -/
def Full (bs : List Nat) (T : Tr) : Prop := ∀ x ∈ T.pre, x.blk ∈ bs
theorem pre_sub : ∀ {T x : Tr}, x ∈ T.pre → ∀ y ∈ x.pre, y ∈ T.pre
  | .nil, _, h, _, _ => by simp [Tr.pre] at h
  | .node b l k v g r, x, h, y, hy => by
    simp only [Tr.pre, List.mem_cons, List.mem_append] at h
    rcases h with rfl | h | h
    · exact hy
    · simp only [Tr.pre, List.mem_cons, List.mem_append]; exact .inr (.inl (pre_sub h y hy))
    · simp only [Tr.pre, List.mem_cons, List.mem_append]; exact .inr (.inr (pre_sub h y hy))
theorem addT_sub : ∀ {T : Tr} {bs : List Nat} {x : Nat}, x ∈ bs → x ∈ addT bs T
  | .nil, _, _, h => h
  | .node b l k v g r, bs, x, h => by
    rw [addT]
    split
    · exact h
    · exact addT_sub (List.mem_append_left _ (addT_sub h))
/-- what is put in comes with all that is under it. -/
theorem addT_full {w : World} : ∀ {T : Tr} {bs : List Nat}, InH w T → (∀ x ∈ T.pre, x.blk ∈ bs → Full bs x) → Full (addT bs T) T
  | .nil, _, _, _ => fun x hx => by simp [Tr.pre] at hx
  | .node b l k v g r, bs, hT, H => by
    have hself : Tr.node b l k v g r ∈ (Tr.node b l k v g r).pre := by simp [Tr.pre]
    have hl' : ∀ x ∈ l.pre, x ∈ (Tr.node b l k v g r).pre := fun x hx => by simp [Tr.pre, hx]
    have hr' : ∀ x ∈ r.pre, x ∈ (Tr.node b l k v g r).pre := fun x hx => by simp [Tr.pre, hx]
    rw [addT]
    split
    · exact H _ hself (by assumption)
    · have fl := addT_full (bs := bs) hT.2.1 (fun x hx => H x (hl' x hx))
      have fr := addT_full (bs := addT bs l ++ [b]) hT.2.2 (fun x hx hm => by
        rcases List.mem_append.1 hm with hm | hm
        · rcases addT_mem hm with hm | hm
          · exact fun y hy => List.mem_append_left _ (addT_sub (H x (hr' x hx) hm y hy))
          · obtain ⟨y, hy, e⟩ := List.mem_map.1 hm
            have := blk_one hT.2.1 hT.2.2 hy hx e
            subst this
            exact fun z hz => List.mem_append_left _ (fl z (pre_sub hy z hz))
        · rw [List.mem_singleton] at hm
          exact absurd (List.mem_map.2 ⟨x, hx, hm⟩) hT.off_right)
      intro x hx
      simp only [Tr.pre, List.mem_cons, List.mem_append] at hx
      rcases hx with rfl | hx | hx
      · exact addT_sub (List.mem_append_right _ (by simp [Tr.blk]))
      · exact addT_sub (List.mem_append_left _ (fl x hx))
      · exact fr x hx
theorem addT_len : ∀ {T : Tr} {bs : List Nat}, bs.length ≤ (addT bs T).length
  | .nil, _ => Nat.le_refl _
  | .node b l k v g r, bs => by
    rw [addT]
    split
    · exact Nat.le_refl _
    · have h1 := addT_len (T := l) (bs := bs)
      have h2 := addT_len (T := r) (bs := addT bs l ++ [b])
      simp at h2
      omega
theorem addT_more {n : Nat} : ∀ {T : Tr} {bs : List Nat}, (∀ x ∈ T.pre, x.blk < n → x.blk ∈ bs) → (addT bs T).length ≤ bs.length + T.news n
  | .nil, _, _ => Nat.le_add_right _ _
  | .node b l k v g r, bs, H => by
    rw [addT]
    split
    · exact Nat.le_add_right _ _
    · rename_i hb
      have hn : n ≤ b := by
        rcases Nat.lt_or_ge b n with h | h
        · exact absurd (H (.node b l k v g r) (by simp [Tr.pre]) h) hb
        · exact h
      have h1 := addT_more (T := l) (bs := bs) (fun x hx => H x (by simp [Tr.pre, hx]))
      have h2 := addT_more (T := r) (bs := addT bs l ++ [b]) (fun x hx hlt => List.mem_append_left _ (addT_sub (H x (by simp [Tr.pre, hx]) hlt)))
      simp only [List.length_append, List.length_singleton] at h2
      rw [Tr.news, if_pos hn]
      omega
theorem addT_one : ∀ {T : Tr} {bs : List Nat}, T ≠ .nil → T.blk ∉ bs → bs.length + 1 ≤ (addT bs T).length
  | .nil, _, h, _ => absurd rfl h
  | .node b l k v g r, bs, _, hb => by
    rw [addT, if_neg (show b ∉ bs from hb)]
    have h1 := addT_len (T := l) (bs := bs)
    have h2 := addT_len (T := r) (bs := addT bs l ++ [b])
    simp at h2
    omega
/-- the nodes of two trees. -/
def two (A B : Tr) : List Nat := addT (addT [] A) B
theorem two_full {w : World} {A B : Tr} (hA : InH w A) (hB : InH w B) : Full (two A B) A ∧ Full (two A B) B := by
  have fa : Full (addT [] A) A := addT_full hA (fun x _ h => by cases h)
  refine ⟨fun x hx => addT_sub (fa x hx), addT_full hB (fun x hx hm => ?_)⟩
  rcases addT_mem hm with hm | hm
  · cases hm
  · obtain ⟨y, hy, e⟩ := List.mem_map.1 hm
    have := blk_one hA hB hy hx e
    subst this
    exact fun z hz => fa z (pre_sub hy z hz)
theorem two_mem {A B : Tr} {x : Nat} (h : x ∈ two A B) : x ∈ A.blks ∨ x ∈ B.blks := by
  rcases addT_mem h with h | h
  · rcases addT_mem h with h | h
    · cases h
    · exact .inl h
  · exact .inr h
/-- how many of a tree's nodes are in neither of two others. -/
def fresh2 (A B T : Tr) : Nat := (addT (two A B) T).length - (two A B).length
theorem blks_lt {w : World} {T : Tr} (h : InH w T) {x : Nat} (hx : x ∈ T.blks) : x < w.heap.size := by
  obtain ⟨y, hy, rfl⟩ := List.mem_map.1 hx
  have := inH_pre' h y hy
  cases y with
  | nil => have := pre_ptr hy; cases this
  | node b l k v g r => exact (Array.getElem?_eq_some_iff.1 this.1).1
theorem fresh2_bounds {w : World} {A B T : Tr} (hA : InH w A) (hB : InH w B) (old : ∀ x ∈ T.pre, x.blk < w.heap.size → x ∈ A.pre ∨ x ∈ B.pre) (top : w.heap.size ≤ T.blk) (nn : T ≠ .nil) :
    1 ≤ fresh2 A B T ∧ fresh2 A B T ≤ T.news w.heap.size ∧ (two A B).length ≤ (addT (two A B) T).length := by
  obtain ⟨fa, fb⟩ := two_full hA hB
  have h1 := addT_more (n := w.heap.size) (T := T) (bs := two A B) (fun x hx hlt => (old x hx hlt).elim (fa x) (fb x))
  have h2 := addT_one (T := T) (bs := two A B) nn (fun hm => by
    rcases two_mem hm with hm | hm
    · have := blks_lt hA hm; omega
    · have := blks_lt hB hm; omega)
  have h3 := addT_len (T := T) (bs := two A B)
  unfold fresh2
  omega
end Go.Proofs.Ytpfkolmnejandaa
