/- share: how many nodes of a tree are new (plain). share: all of two, New. joineryref19.Most, and the walk of WbjoinShares. All four schemes as one (plain): what a part is, what may be, a tree's items, how many new nodes a join has at most. What stays as it was but some blocks. -/
import Derived.Test.YtoiohjifjmejkaaGreatM1
import Derived.Test.YtoiohjifjmejkaaGreatM5
import Derived.Test.YtoiohjifjmejkaaGreatM9
import Derived.Test.YtoiohjifjmejkaaGreatM14
import Derived.Test.YtoiohjifjmejkaaGreatM20
import Derived.Test.YtoiohjifjmejkaaGreatM26
namespace Go.Proofs.YtoiohjifjmejkaaGreat
open Go Go.RowKit Go.Shelf

/-- no node lies on its own right side. -/
theorem InH.off_right {w : World} {b : Nat} {l r : Tr} {k v g : Int} (h : InH w (.node b l k v g r)) : b ∉ r.blks := fun hm => by
  obtain ⟨x, hx, e⟩ := List.mem_map.1 hm
  have h1 := InH.one (inH_pre' h.2.2 x hx) h (by rw [pre_ptr hx, e]; rfl)
  have h2 := pre_le hx
  rw [h1] at h2
  simp only [Tr.pre, List.length_cons, List.length_append] at h2
  omega
theorem blk_one {w : World} {A B x y : Tr} (hA : InH w A) (hB : InH w B) (hx : x ∈ A.pre) (hy : y ∈ B.pre) (e : x.blk = y.blk) : x = y :=
  InH.one (inH_pre' hA x hx) (inH_pre' hB y hy) (by rw [pre_ptr hx, pre_ptr hy, e])
/-- all nodes of a tree are in a set. -/
def Full (bs : List Nat) (T : Tr) : Prop := ∀ x ∈ T.pre, x.blk ∈ bs
theorem pre_sub : ∀ {T x : Tr}, x ∈ T.pre → ∀ y ∈ x.pre, y ∈ T.pre
  | .nil, _, h, _, _ => by simp [Tr.pre] at h
  | .node b l k v g r, x, h, y, hy => by
    simp only [Tr.pre, List.mem_cons, List.mem_append] at h
    rcases h with rfl | h | h
    · exact hy
    · simp only [Tr.pre, List.mem_cons, List.mem_append]; exact .inr (.inl (pre_sub h y hy))
    · simp only [Tr.pre, List.mem_cons, List.mem_append]; exact .inr (.inr (pre_sub h y hy))
theorem addT_sub : ∀ {T : Tr} {bs : List Nat} {x : Nat}, x ∈ bs → x ∈ addT bs T
  | .nil, _, _, h => h
  | .node b l k v g r, bs, x, h => by
    rw [addT]
    split
    · exact h
    · exact addT_sub (List.mem_append_left _ (addT_sub h))
/-- what is put in comes with all that is under it. -/
theorem addT_full {w : World} : ∀ {T : Tr} {bs : List Nat}, InH w T → (∀ x ∈ T.pre, x.blk ∈ bs → Full bs x) → Full (addT bs T) T
  | .nil, _, _, _ => fun x hx => by simp [Tr.pre] at hx
  | .node b l k v g r, bs, hT, H => by
    have hself : Tr.node b l k v g r ∈ (Tr.node b l k v g r).pre := by simp [Tr.pre]
    have hl' : ∀ x ∈ l.pre, x ∈ (Tr.node b l k v g r).pre := fun x hx => by simp [Tr.pre, hx]
    have hr' : ∀ x ∈ r.pre, x ∈ (Tr.node b l k v g r).pre := fun x hx => by simp [Tr.pre, hx]
    rw [addT]
    split
    · exact H _ hself (by assumption)
    · have fl := addT_full (bs := bs) hT.2.1 (fun x hx => H x (hl' x hx))
      have fr := addT_full (bs := addT bs l ++ [b]) hT.2.2 (fun x hx hm => by
        rcases List.mem_append.1 hm with hm | hm
        · rcases addT_mem hm with hm | hm
          · exact fun y hy => List.mem_append_left _ (addT_sub (H x (hr' x hx) hm y hy))
          · obtain ⟨y, hy, e⟩ := List.mem_map.1 hm
            have := blk_one hT.2.1 hT.2.2 hy hx e
            subst this
            exact fun z hz => List.mem_append_left _ (fl z (pre_sub hy z hz))
        · rw [List.mem_singleton] at hm
          exact absurd (List.mem_map.2 ⟨x, hx, hm⟩) hT.off_right)
      intro x hx
      simp only [Tr.pre, List.mem_cons, List.mem_append] at hx
      rcases hx with rfl | hx | hx
      · exact addT_sub (List.mem_append_right _ (by simp [Tr.blk]))
      · exact addT_sub (List.mem_append_left _ (fl x hx))
      · exact fr x hx
theorem addT_len : ∀ {T : Tr} {bs : List Nat}, bs.length ≤ (addT bs T).length
  | .nil, _ => Nat.le_refl _
  | .node b l k v g r, bs => by
    rw [addT]
    split
    · exact Nat.le_refl _
    · have h1 := addT_len (T := l) (bs := bs)
      have h2 := addT_len (T := r) (bs := addT bs l ++ [b])
      simp at h2
      omega
theorem addT_more {n : Nat} : ∀ {T : Tr} {bs : List Nat}, (∀ x ∈ T.pre, x.blk < n → x.blk ∈ bs) → (addT bs T).length ≤ bs.length + T.news n
  | .nil, _, _ => Nat.le_add_right _ _
  | .node b l k v g r, bs, H => by
    rw [addT]
    split
    · exact Nat.le_add_right _ _
    · rename_i hb
      have hn : n ≤ b := by
        rcases Nat.lt_or_ge b n with h | h
        · exact absurd (H (.node b l k v g r) (by simp [Tr.pre]) h) hb
        · exact h
      have h1 := addT_more (T := l) (bs := bs) (fun x hx => H x (by simp [Tr.pre, hx]))
      have h2 := addT_more (T := r) (bs := addT bs l ++ [b]) (fun x hx hlt => List.mem_append_left _ (addT_sub (H x (by simp [Tr.pre, hx]) hlt)))
      simp only [List.length_append, List.length_singleton] at h2
      rw [Tr.news, if_pos hn]
      omega
theorem addT_one : ∀ {T : Tr} {bs : List Nat}, T ≠ .nil → T.blk ∉ bs → bs.length + 1 ≤ (addT bs T).length
  | .nil, _, h, _ => absurd rfl h
  | .node b l k v g r, bs, _, hb => by
    rw [addT, if_neg (show b ∉ bs from hb)]
    have h1 := addT_len (T := l) (bs := bs)
    have h2 := addT_len (T := r) (bs := addT bs l ++ [b])
    simp at h2
    omega
/-- the nodes of two trees. -/
def two (A B : Tr) : List Nat := addT (addT [] A) B
theorem two_full {w : World} {A B : Tr} (hA : InH w A) (hB : InH w B) : Full (two A B) A ∧ Full (two A B) B := by
  have fa : Full (addT [] A) A := addT_full hA (fun x _ h => by cases h)
  refine ⟨fun x hx => addT_sub (fa x hx), addT_full hB (fun x hx hm => ?_)⟩
  rcases addT_mem hm with hm | hm
  · cases hm
  · obtain ⟨y, hy, e⟩ := List.mem_map.1 hm
    have := blk_one hA hB hy hx e
    subst this
    exact fun z hz => fa z (pre_sub hy z hz)
theorem two_mem {A B : Tr} {x : Nat} (h : x ∈ two A B) : x ∈ A.blks ∨ x ∈ B.blks := by
  rcases addT_mem h with h | h
  · rcases addT_mem h with h | h
    · cases h
    · exact .inl h
  · exact .inr h
/-- how many of a tree's nodes are in neither of two others. -/
def fresh2 (A B T : Tr) : Nat := (addT (two A B) T).length - (two A B).length
theorem blks_lt {w : World} {T : Tr} (h : InH w T) {x : Nat} (hx : x ∈ T.blks) : x < w.heap.size := by
  obtain ⟨y, hy, rfl⟩ := List.mem_map.1 hx
  have := inH_pre' h y hy
  cases y with
  | nil => have := pre_ptr hy; cases this
  | node b l k v g r => exact (Array.getElem?_eq_some_iff.1 this.1).1
theorem fresh2_bounds {w : World} {A B T : Tr} (hA : InH w A) (hB : InH w B) (old : ∀ x ∈ T.pre, x.blk < w.heap.size → x ∈ A.pre ∨ x ∈ B.pre) (top : w.heap.size ≤ T.blk) (nn : T ≠ .nil) :
    1 ≤ fresh2 A B T ∧ fresh2 A B T ≤ T.news w.heap.size ∧ (two A B).length ≤ (addT (two A B) T).length := by
  obtain ⟨fa, fb⟩ := two_full hA hB
  have h1 := addT_more (n := w.heap.size) (T := T) (bs := two A B) (fun x hx hlt => (old x hx hlt).elim (fa x) (fb x))
  have h2 := addT_one (T := T) (bs := two A B) nn (fun hm => by
    rcases two_mem hm with hm | hm
    · have := blks_lt hA hm; omega
    · have := blks_lt hB hm; omega)
  have h3 := addT_len (T := T) (bs := two A B)
  unfold fresh2
  omega
end Go.Proofs.YtoiohjifjmejkaaGreat
namespace Go.Proofs.YtoiohjifjmejkaaGreat
open Go Go.RowKit Go.Shelf
attribute [local go_sem] Oper.semAt_some

/-- how many nodes two trees have. -/
theorem addT_most : ∀ {T : Tr} {bs : List Nat}, (addT bs T).length ≤ bs.length + T.count
  | .nil, _ => Nat.le_add_right _ _
  | .node b l k v g r, bs => by
    rw [addT, Tr.count_node]
    split
    · exact Nat.le_add_right _ _
    · have h1 := addT_most (T := l) (bs := bs)
      have h2 := addT_most (T := r) (bs := addT bs l ++ [b])
      simp at h2
      omega
end Go.Proofs.YtoiohjifjmejkaaGreat
namespace Go.Proofs.YtoiohjifjmejkaaGreat
open Go Go.RowKit

/-- how many turns there are at most, by the ranks. -/
theorem lev_le {d L W : Nat} (h : Lev d L W) (hL : 0 < L) (hLW : L ≤ W) : d ≤ 3 * (Nat.log2 W - Nat.log2 L) := by
  rcases Nat.lt_or_ge (3 * (Nat.log2 W - Nat.log2 L)) d with hd | hd
  · exfalso
    rcases h with h | h
    · omega
    · have hl := Nat.log2_self_le (n := L) (by omega)
      have hw := Nat.lt_log2_self (n := W)
      have hm : Nat.log2 L ≤ Nat.log2 W := by
        rw [Nat.le_log2 (by omega)]; omega
      generalize Nat.log2 W = p at *
      generalize Nat.log2 L = q at *
      obtain ⟨D, rfl⟩ : ∃ D, p = q + D := ⟨p - q, by omega⟩
      rw [Nat.add_sub_cancel_left] at hd
      obtain ⟨j, hj⟩ : ∃ j, d - 1 = 3 * D + j := ⟨d - 1 - 3 * D, by omega⟩
      rw [hj] at h
      have h1 : (2 * 71 ^ 3) ^ D ≤ (100 ^ 3) ^ D := Nat.pow_le_pow_left (by decide) D
      rw [Nat.mul_pow, ← Nat.pow_mul, ← Nat.pow_mul] at h1
      have h2 : 71 ^ j ≤ 100 ^ j := Nat.pow_le_pow_left (by decide) j
      have h3 := Nat.mul_le_mul h1 h2
      rw [Nat.mul_assoc, ← Nat.pow_add, ← Nat.pow_add] at h3
      have h4 : 71 * (L * (2 ^ D * 71 ^ (3 * D + j))) < 29 * (W * 71 ^ (3 * D + j)) := Nat.lt_of_le_of_lt (Nat.mul_le_mul_left _ (Nat.mul_le_mul_left _ h3)) h
      have h5 : (71 * (L * 2 ^ D)) * 71 ^ (3 * D + j) < (29 * W) * 71 ^ (3 * D + j) := by
        rw [Nat.mul_assoc 29, Nat.mul_assoc 71, Nat.mul_assoc L]; exact h4
      have h6 := Nat.lt_of_mul_lt_mul_right h5
      have h7 : 2 ^ q * 2 ^ D ≤ L * 2 ^ D := Nat.mul_le_mul_right _ hl
      rw [← Nat.pow_add] at h7
      rw [Nat.pow_succ] at hw
      omega
  · exact hd
theorem log2_le {a b : Nat} (h : a ≤ b) : Nat.log2 a ≤ Nat.log2 b := by
  rcases Nat.eq_zero_or_pos a with rfl | ha
  · simp
  · rw [Nat.le_log2 (by omega)]
    exact Nat.le_trans (Nat.log2_self_le (by omega)) h
theorem log2_max (a b : Nat) : Nat.log2 (max a b) = max (Nat.log2 a) (Nat.log2 b) := by
  rcases Nat.le_total a b with h | h
  · rw [Nat.max_eq_right h, Nat.max_eq_right (log2_le h)]
  · rw [Nat.max_eq_left h, Nat.max_eq_left (log2_le h)]
theorem log2_min (a b : Nat) : Nat.log2 (min a b) = min (Nat.log2 a) (Nat.log2 b) := by
  rcases Nat.le_total a b with h | h
  · rw [Nat.min_eq_left h, Nat.min_eq_left (log2_le h)]
  · rw [Nat.min_eq_right h, Nat.min_eq_right (log2_le h)]
end Go.Proofs.YtoiohjifjmejkaaGreat
namespace Go.Proofs.YtoiohjifjmejkaaGreat
open Go Go.RowKit

/-- is a tree a part; may it be? -/
def PartC (c : Nat) (T : Tr) : Prop := if c = 1 then AvlH T T.ht else if c = 2 then ∃ b d, RbH T b d else if c = 3 then WbH T else TpH T
def MayC (c : Nat) (T : Tr) : Prop := if c = 1 then AvlH T T.ht else if c = 2 then ∃ b, RbH T b false else if c = 3 then WbH T else TpH T
theorem part_1 {T : Tr} : PartC 1 T = AvlH T T.ht := rfl
theorem part_2 {T : Tr} : PartC 2 T = ∃ b d, RbH T b d := rfl
theorem part_3 {T : Tr} : PartC 3 T = WbH T := rfl
theorem part_4 {T : Tr} : PartC 4 T = TpH T := rfl
theorem mayC_1 {T : Tr} : MayC 1 T = AvlH T T.ht := rfl
theorem mayC_2 {T : Tr} : MayC 2 T = ∃ b, RbH T b false := rfl
theorem mayC_3 {T : Tr} : MayC 3 T = WbH T := rfl
theorem mayC_4 {T : Tr} : MayC 4 T = TpH T := rfl
theorem MayC.part {c : Nat} {T : Tr} (h : MayC c T) : PartC c T := by
  unfold MayC at h
  unfold PartC
  split
  · rename_i h1; rw [if_pos h1] at h; exact h
  · rename_i h1; rw [if_neg h1] at h
    split
    · rename_i h2; rw [if_pos h2] at h; obtain ⟨b, h⟩ := h; exact ⟨b, false, h⟩
    · rename_i h2; rw [if_neg h2] at h; exact h
theorem MayC.nil (c : Nat) : MayC c .nil := by
  unfold MayC
  split
  · rfl
  · split
    · exact ⟨0, rfl, rfl⟩
    · split <;> trivial
theorem RbH.le : ∀ {T : Tr} {b : Nat} {c : Bool}, RbH T b c → b ≤ T.count
  | .nil, b, c, ⟨h1, h2⟩ => by omega
  | .node _ l _ _ g r, b, true, h => by have := RbH.le h.1; rw [Tr.count_node]; omega
  | .node _ l _ _ g r, b, false, ⟨d, cl, cr, h0, h1, h2, h3⟩ => by have := RbH.le h1; rw [Tr.count_node]; omega
theorem rbH_un : ∀ {T : Tr} {b b' : Nat} {c c' : Bool}, RbH T b c → RbH T b' c' → b < 1000000 → b' < 1000000 → b = b' ∧ c = c' := by
  intro T b b' c c' h h' hb hb'
  have e := h.hi
  have e' := h'.hi
  have r := h.red
  have r' := h'.red
  rw [e] at e'
  rw [r] at r'
  exact ⟨by omega, r'⟩
theorem wbH_tags : ∀ {T : Tr}, WbH T → TagsOk T
  | .nil, _ => trivial
  | .node _ l _ _ g r, ⟨h1, h2, h3, _⟩ => ⟨by omega, by omega, wbH_tags h2, wbH_tags h3⟩
theorem PartC.tags {c : Nat} {T : Tr} (h : PartC c T) (hc : c ≠ 4) (h4 : 1 ≤ c ∧ c ≤ 4) (hn : T.count < 100000) : TagsOk T := by
  obtain rfl | rfl | rfl : c = 1 ∨ c = 2 ∨ c = 3 := by omega
  · exact (AvlH.may h (by have := T.ht_count; omega)).2
  · obtain ⟨b, d, h⟩ := h
    exact h.tags (by have := h.le; omega)
  · exact wbH_tags h
/-- what is told of the first node that is wrong. -/
def ckV (c : Nat) (T : Tr) : Nat × Int := if c = 1 then avlFirst T.pre else if c = 2 then rbChk T else if c = 3 then firstOf wbOne T.pre else firstOf tpOne T.pre
def ptV (c : Nat) (T : Tr) : Bool := if c = 1 then avlMay T else if c = 2 then rbPart T else if c = 3 then wbMay T else tpMay T
theorem MayC.ck {c : Nat} {T : Tr} (h4 : 1 ≤ c ∧ c ≤ 4) (hn : T.count < 100000) (h : MayC c T) : (ckV c T).2 = 0 := by
  obtain rfl | rfl | rfl | rfl : c = 1 ∨ c = 2 ∨ c = 3 ∨ c = 4 := by omega
  · have := (AvlH.may h (by have := T.ht_count; omega)).1
    show (avlFirst T.pre).2 = 0
    simpa [avlMay] using this
  · obtain ⟨b, h⟩ := h
    have := h.may (by have := h.le; omega)
    simp [rbMay, rbPart, mayOf] at this
    show (rbChk T).2 = 0
    unfold rbChk
    rw [if_neg (by simp [this.2])]
    exact this.1
  · have := WbH.may h (by omega)
    show (firstOf wbOne T.pre).2 = 0
    simpa [wbMay, mayOf] using this
  · have := (tpMay_iff T).2 h
    show (firstOf tpOne T.pre).2 = 0
    simpa [tpMay, mayOf] using this
theorem mayC_of {c : Nat} {T : Tr} (h4 : 1 ≤ c ∧ c ≤ 4) (hn : T.count < 100000) (ht : TagsOk T) (h : (ckV c T).2 = 0) : MayC c T := by
  obtain rfl | rfl | rfl | rfl : c = 1 ∨ c = 2 ∨ c = 3 ∨ c = 4 := by omega
  · exact AvlH.of_may (by have h' : (avlFirst T.pre).2 = 0 := h; simpa [avlMay] using h') ht (by omega)
  · have h' : (rbChk T).2 = 0 := h
    unfold rbChk at h'
    split at h'
    · cases h'
    · rename_i hh
      have hr : rbRed T = false := by
        cases hr : rbRed T with
        | false => rfl
        | true => exact (hh ⟨h', hr⟩).elim
      have := RbH.of_part (by simpa [rbPart, mayOf] using h') ht (by omega)
      rw [hr] at this
      exact ⟨_, this⟩
  · exact WbH.of_may (by have h' : (firstOf wbOne T.pre).2 = 0 := h; simpa [wbMay, mayOf] using h') (by omega)
  · exact (tpMay_iff T).1 (by have h' : (firstOf tpOne T.pre).2 = 0 := h; simpa [tpMay, mayOf] using h')
theorem MayC_iff {c : Nat} {T : Tr} (h4 : 1 ≤ c ∧ c ≤ 4) (hn : T.count < 100000) (ht : TagsOk T) : (ckV c T).2 = 0 ↔ MayC c T := ⟨mayC_of h4 hn ht, MayC.ck h4 hn⟩
theorem PartC.pt {c : Nat} {T : Tr} (h4 : 1 ≤ c ∧ c ≤ 4) (hn : T.count < 100000) (h : PartC c T) : ptV c T = true := by
  obtain rfl | rfl | rfl | rfl : c = 1 ∨ c = 2 ∨ c = 3 ∨ c = 4 := by omega
  · exact (AvlH.may h (by have := T.ht_count; omega)).1
  · obtain ⟨b, d, h⟩ := h
    exact h.part (by have := h.le; omega)
  · exact WbH.may h (by omega)
  · exact (tpMay_iff T).2 h
theorem partC_of {c : Nat} {T : Tr} (h4 : 1 ≤ c ∧ c ≤ 4) (hn : T.count < 100000) (ht : TagsOk T) (h : ptV c T = true) : PartC c T := by
  obtain rfl | rfl | rfl | rfl : c = 1 ∨ c = 2 ∨ c = 3 ∨ c = 4 := by omega
  · exact AvlH.of_may h ht (by omega)
  · exact ⟨_, _, RbH.of_part h ht (by omega)⟩
  · exact WbH.of_may h (by omega)
  · exact (tpMay_iff T).1 h
/-- an item, as a scheme has it; a tree's items. -/
def itC (c : Nat) (z : Int × Int × Int) : Int × Int × Int := (z.1, z.2.1, if c = 4 then z.2.2 else 0)
def itsC (c : Nat) (T : Tr) : List (Int × Int × Int) := T.its.map (itC c)
theorem itsC_nil (c : Nat) : itsC c .nil = [] := rfl
theorem itsC_node (c b : Nat) (l : Tr) (k v g : Int) (r : Tr) : itsC c (.node b l k v g r) = itsC c l ++ itC c (k, v, g) :: itsC c r := by simp [itsC, Tr.its]
theorem itsC_len (c : Nat) (T : Tr) : (itsC c T).length = T.count := by rw [itsC, List.length_map, Tr.its_len]
theorem itsC_kvs {c : Nat} (hc : c ≠ 4) (T : Tr) : itsC c T = T.kvs.map (fun z => (z.1, z.2, 0)) := by
  rw [← Tr.its_kvs, itsC, List.map_map]
  refine List.map_congr_left fun z _ => ?_
  simp [itC, hc]
theorem itC_idem (c : Nat) (z : Int × Int × Int) : itC c (itC c z) = itC c z := by
  unfold itC
  split <;> rfl
/-- how many new nodes a join has at most. -/
def mostC (c : Nat) (L R : Tr) : Nat :=
  if c = 1 then max L.ht R.ht - min L.ht R.ht + 1
  else if c = 2 then 2 * max (hiB L).toNat (hiB R).toNat - 2 * min (hiB L).toNat (hiB R).toNat + 3
  else if c = 3 then 6 * (max (Nat.log2 (L.count + 1)) (Nat.log2 (R.count + 1)) - min (Nat.log2 (L.count + 1)) (Nat.log2 (R.count + 1))) + 1
  else L.rway + R.lway + 1
/-- what a join is. -/
structure JoinC (n c : Nat) (L R : Tr) (k v g : Int) (T : Tr) : Prop where
  may : MayC c T
  its : itsC c T = itsC c L ++ itC c (k, v, g) :: itsC c R
  news : L.news n = 0 → R.news n = 0 → T.news n ≤ mostC c L R
  tags : 0 ≤ g → g < 18446744073709551616 → TagsOk L → TagsOk R → T.count < 100000 → TagsOk T
  old : ∀ x ∈ T.pre, x.blk < n → x ∈ L.pre ∨ x ∈ R.pre
  new : n ≤ T.blk
theorem JoinC.count {n c : Nat} {L R : Tr} {k v g : Int} {T : Tr} (h : JoinC n c L R k v g T) : T.count = L.count + 1 + R.count := by
  have := congrArg List.length h.its
  rw [List.length_append, List.length_cons, itsC_len, itsC_len, itsC_len] at this
  omega
theorem JoinC.nn {n c : Nat} {L R : Tr} {k v g : Int} {T : Tr} (h : JoinC n c L R k v g T) : T ≠ .nil := fun e => by
  have := h.count
  rw [e] at this
  simp only [Tr.count, Tr.pre, List.length_nil] at this
  omega
theorem its_of_kvs {c : Nat} (hc : c ≠ 4) {L R T : Tr} {k v : Int} (g : Int) (h : T.kvs = L.kvs ++ (k, v) :: R.kvs) : itsC c T = itsC c L ++ itC c (k, v, g) :: itsC c R := by
  rw [itsC_kvs hc, itsC_kvs hc, itsC_kvs hc, h, List.map_append, List.map_cons]
  simp [itC, hc]
theorem JoinOk.toC {n : Nat} {L R T : Tr} {k v : Int} (g : Int) (h : JoinOk n L R k v T) : JoinC n 1 L R k v g T := by
  have hm : AvlH T T.ht := (join_facts h).2.2
  refine ⟨hm, its_of_kvs (by decide) g h.kvs, fun _ _ => ?_, fun _ _ _ _ hc => (PartC.tags (c := 1) hm (by decide) (by decide) hc), h.old, h.top⟩
  obtain ⟨x, -, -, h3⟩ := h.ex
  show T.news n ≤ max L.ht R.ht - min L.ht R.ht + 1
  omega
theorem RJoinOk.toC {n p q : Nat} {cl cr : Bool} {L R T : Tr} {k v : Int} (g : Int) (hL : RbH L p cl) (hR : RbH R q cr) (hp : p < 90000) (hq : q < 90000) (h : RJoinOk n L R (p + if cl then 1 else 0) (q + if cr then 1 else 0) k v T) : JoinC n 2 L R k v g T := by
  obtain ⟨⟨b, h1, -, h3⟩, h4, h5, h6, -⟩ := h
  refine ⟨⟨b, h1⟩, its_of_kvs (by decide) g h4, fun _ _ => ?_, fun _ _ _ _ hc => (PartC.tags (c := 2) ⟨b, false, h1⟩ (by decide) (by decide) hc), h5, h6⟩
  show T.news n ≤ 2 * max (hiB L).toNat (hiB R).toNat - 2 * min (hiB L).toNat (hiB R).toNat + 3
  rw [hL.hiB (by omega), hR.hiB (by omega), Int.toNat_natCast, Int.toNat_natCast]
  omega
theorem log2_mono {a b : Nat} (h : a ≤ b) (ha : 0 < a) : Nat.log2 a ≤ Nat.log2 b := by
  have h1 := Nat.log2_self_le (n := a) (by omega)
  exact (Nat.le_log2 (by omega)).2 (Nat.le_trans h1 h)
theorem WJoinOk.toC {n : Nat} {L R T : Tr} {k v : Int} (g : Int) (h : WJoinOk n L R k v T) : JoinC n 3 L R k v g T := by
  refine ⟨h.wb, its_of_kvs (by decide) g h.kvs, fun _ _ => ?_, fun _ _ _ _ hc => wbH_tags h.wb, h.old, h.top⟩
  obtain ⟨d, h1, h2⟩ := h.news
  have h3 := lev_le h2 (by omega) (by omega)
  show T.news n ≤ 6 * (max (Nat.log2 (L.count + 1)) (Nat.log2 (R.count + 1)) - min (Nat.log2 (L.count + 1)) (Nat.log2 (R.count + 1))) + 1
  rcases Nat.le_total L.count R.count with hh | hh
  · have := log2_mono (show L.count + 1 ≤ R.count + 1 by omega) (by omega)
    rw [Nat.max_eq_right hh, Nat.min_eq_left hh] at h3
    omega
  · have := log2_mono (show R.count + 1 ≤ L.count + 1 by omega) (by omega)
    rw [Nat.max_eq_left hh, Nat.min_eq_right hh] at h3
    omega
theorem TJoinOk.toC {n : Nat} {L R T : Tr} {k v g : Int} (hL : TpH L) (hR : TpH R) (h : TJoinOk n L R k v g T) : JoinC n 4 L R k v g T := by
  refine ⟨h.tp hL hR, ?_, h.news, fun a b c d _ => h.tags a b c d, h.old, h.new⟩
  rw [itsC, h.its, List.map_append, List.map_cons]
  rfl
end Go.Proofs.YtoiohjifjmejkaaGreat
namespace Go.Proofs.YtoiohjifjmejkaaGreat
open Go Go.RowKit

/-- nothing that was there has turned, but some blocks. -/
structure Bt (L : List Nat) (w w' : World) : Prop where
  os : w'.os = w.os
  tape : w'.tape = w.tape
  output : w'.output = w.output
  size : w.heap.size ≤ w'.heap.size
  block : ∀ k, k < w.heap.size → k ∉ L → w'.heap[k]? = w.heap[k]?
theorem Bt.refl (L : List Nat) (w : World) : Bt L w w := ⟨rfl, rfl, rfl, Nat.le_refl _, fun _ _ _ => rfl⟩
theorem Bt.trans {L : List Nat} {a b c : World} (h : Bt L a b) (k : Bt L b c) : Bt L a c :=
  ⟨k.os.trans h.os, k.tape.trans h.tape, k.output.trans h.output, Nat.le_trans h.size k.size, fun i hi hp => (k.block i (Nat.lt_of_lt_of_le hi h.size) hp).trans (h.block i hi hp)⟩
theorem Bt.ext {L : List Nat} {a b : World} (h : Ext a b) : Bt L a b := ⟨h.os, h.tape, h.output, Below.size h, fun i hi _ => Below.block h i hi⟩
theorem Bt.mono {L M : List Nat} {a b : World} (h : Bt L a b) (k : ∀ i, i ∈ L → i ∈ M) : Bt M a b := ⟨h.os, h.tape, h.output, h.size, fun i hi hM => h.block i hi (fun hL => hM (k i hL))⟩
theorem Bt.alloc {L : List Nat} {a b : World} (h : Bt L a b) (o : Obj) : Bt L a (b.alloc o) := h.trans (Bt.ext ((Ext.refl b).alloc o))
theorem Bt.drew {L : List Nat} {a b : World} (h : Bt L a b) : Bt L a b.drew := h.trans (Bt.ext (RowKit.Below.drew (RowKit.Below.refl _ _)))
theorem Bt.set {L : List Nat} {a b : World} (h : Bt L a b) (p : Addr) (v : Value) (hp : p.block ∈ L) : Bt L a (b.setCell p v) :=
  h.trans ⟨rfl, rfl, rfl, (KeepsWalks.setCell b _ v).size, fun _ _ hi => Below.heap_setCell _ _ _ _ (fun e => hi (e ▸ hp))⟩
theorem Bt.out {L : List Nat} {a b c : World} (h : Ext a b) (hL : ∀ P ∈ L, a.heap.size ≤ P) (k : Bt L b c) : Ext a c :=
  ⟨k.os.trans h.os, k.tape.trans h.tape, k.output.trans h.output, Nat.le_trans h.size k.size, fun i hi => (k.block i (Nat.lt_of_lt_of_le hi h.size) (fun hP => absurd (hL i hP) (Nat.not_le.2 hi))).trans (Below.block h i hi)⟩
theorem Bt.get {L : List Nat} {a b : World} (h : Bt L a b) {i : Nat} {o : Obj} (hi : i ∉ L) (k : a.heap[i]? = some o) : b.heap[i]? = some o :=
  (h.block i (lt_of k) hi).trans k
/-- blocks that hold no nodes. -/
def NoNode (w : World) (P : Nat) : Prop := ∃ c t, w.heap[P]? = some (.cells c t (0, 0)) ∧ t ≠ 122
theorem InH.bt {L : List Nat} {a b : World} (e : Bt L a b) (hL : ∀ P ∈ L, NoNode a P) : ∀ {t : Tr}, InH a t → InH b t
  | .nil, _ => trivial
  | .node x _ _ _ _ _, ⟨h0, h1, h2⟩ => ⟨e.get (fun hx => by obtain ⟨c, t, h, ht⟩ := hL x hx; rw [h0] at h; injection h with h; injection h with _ h2 _; exact ht h2.symm) h0, InH.bt e hL h1, InH.bt e hL h2⟩
theorem Own.bt {B : Nat} {L : List Nat} {w w' : World} {v : Value} {zs : List BeadL} (h : Own B w v zs) (e : Bt L w w') (hL : ∀ P ∈ L, P < B) : Own B w' v zs := by
  obtain ⟨h1, h | ⟨g, cap, cur, hv, hb, hg, hc⟩⟩ := h
  · exact ⟨h1, .inl h⟩
  · exact ⟨h1, .inr ⟨g, cap, cur, hv, hb, e.get (fun hx => by have := hL g hx; omega) hg, hc⟩⟩
end Go.Proofs.YtoiohjifjmejkaaGreat
