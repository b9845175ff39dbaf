/- store, told by numbers: what is fresh in a tree, of trees made of one another (plain). -/
import Derived.Test.YtjiiokhjajfhjaaGreatM36
import Derived.Test.YtjiiokhjajfhjaaGreatM39
namespace Go.Proofs.YtjiiokhjajfhjaaGreat
open Go Go.RowKit Go.Shelf

/-- with a node all that is under it is in a set. -/
def Shut (w : World) (bs : List Nat) : Prop := ∀ T, InH w T → T ≠ .nil → T.blk ∈ bs → Full bs T
theorem Shut.nil (w : World) : Shut w [] := fun _ _ _ h => by cases h
theorem pre_ne {T x : Tr} (h : x ∈ T.pre) : x ≠ .nil := by
  rintro rfl
  induction T with
  | nil => simp [Tr.pre] at h
  | node b l k v g r ihl ihr =>
    simp only [Tr.pre, List.mem_cons, List.mem_append] at h
    rcases h with h | h | h
    · cases h
    · exact ihl h
    · exact ihr h
theorem pre_self {T : Tr} (h : T ≠ .nil) : T ∈ T.pre := by
  cases T with
  | nil => exact (h rfl).elim
  | node b l k v g r => simp [Tr.pre]
theorem Shut.add {w : World} {bs : List Nat} {T : Tr} (h : Shut w bs) (hT : InH w T) : Shut w (addT bs T) := by
  have hf := addT_full hT (fun x hx hm => h x (inH_pre' hT x hx) (pre_ne hx) hm)
  intro U hU hne hm
  rcases addT_mem hm with hm | hm
  · exact fun y hy => addT_sub (h U hU hne hm y hy)
  · obtain ⟨y, hy, e⟩ := List.mem_map.1 hm
    have := blk_one hT hU hy (pre_self hne) e
    subst this
    exact fun z hz => hf z (pre_sub hy z hz)
theorem Shut.all {w : World} : ∀ {Ts : List Tr} {bs : List Nat}, Shut w bs → (∀ T ∈ Ts, InH w T) → Shut w (allT bs Ts)
  | [], _, h, _ => h
  | T :: Ts, _, h, hI => Shut.all (Ts := Ts) (h.add (hI T (List.mem_cons_self ..))) (fun U hU => hI U (List.mem_cons_of_mem _ hU))
theorem addT_pre : ∀ (T : Tr) (bs : List Nat), ∃ D, addT bs T = bs ++ D ∧ ∀ x ∈ D, x ∈ T.blks
  | .nil, bs => ⟨[], by simp [addT], fun x h => by cases h⟩
  | .node b l k v g r, bs => by
    rw [addT]
    split
    · exact ⟨[], by simp, fun x h => by cases h⟩
    · obtain ⟨D, h1, h2⟩ := addT_pre l bs
      obtain ⟨E, h3, h4⟩ := addT_pre r (addT bs l ++ [b])
      refine ⟨D ++ [b] ++ E, by rw [h3, h1]; simp [List.append_assoc], fun x hx => ?_⟩
      rw [Tr.blks_node]
      rcases List.mem_append.1 hx with hx | hx
      · rcases List.mem_append.1 hx with hx | hx
        · exact List.mem_cons_of_mem _ (List.mem_append_left _ (h2 x hx))
        · rw [List.mem_singleton.1 hx]; exact List.mem_cons_self ..
      · exact List.mem_cons_of_mem _ (List.mem_append_right _ (h4 x hx))
/-- the numbers that are in none of others. -/
def outOf' (B R : List Nat) : List Nat := R.filter (fun x => decide (x ∉ B))
/-- what is put in behind others, and by itself. -/
theorem add_both {w : World} {B : List Nat} (hB : Shut w B) : ∀ {T : Tr} {P R : List Nat}, InH w T → (∀ x, x ∈ P ↔ x ∈ B ∨ x ∈ R) → P.length = B.length + (outOf' B R).length →
    (∀ x, x ∈ addT P T ↔ x ∈ B ∨ x ∈ addT R T) ∧ (addT P T).length = B.length + (outOf' B (addT R T)).length
  | .nil, P, R, _, h1, h2 => ⟨h1, h2⟩
  | .node b l k v g r, P, R, hT, h1, h2 => by
    by_cases hr : b ∈ R
    · rw [addT, addT, if_pos hr, if_pos ((h1 b).2 (.inr hr))]
      exact ⟨h1, h2⟩
    · by_cases hb : b ∈ B
      · have hp : b ∈ P := (h1 b).2 (.inl hb)
        have hf := hB _ hT (by intro h; cases h) hb
        obtain ⟨D, e, hD⟩ := addT_pre (.node b l k v g r) R
        have hDB : ∀ x ∈ D, x ∈ B := fun x hx => by
          obtain ⟨y, hy, e⟩ := List.mem_map.1 (hD x hx)
          rw [← e]; exact hf y hy
        rw [e, show addT P (.node b l k v g r) = P from addT_in rfl hp]
        refine ⟨fun x => ?_, ?_⟩
        · rw [h1 x, List.mem_append]
          exact ⟨fun h => h.imp id .inl, fun h => by
            rcases h with h | h | h
            · exact .inl h
            · exact .inr h
            · exact .inl (hDB x h)⟩
        · rw [h2]
          unfold outOf'
          rw [List.filter_append, List.length_append, show D.filter (fun x => decide (x ∉ B)) = [] from List.filter_eq_nil_iff.2 (fun x hx => by simp [hDB x hx])]
          simp
      · have hp : b ∉ P := fun h => ((h1 b).1 h).elim hb hr
        rw [addT, addT, if_neg hr, if_neg hp]
        obtain ⟨k1, k2⟩ := add_both hB (T := l) hT.2.1 h1 h2
        refine add_both hB (T := r) hT.2.2 (fun x => ?_) ?_
        · rw [List.mem_append, List.mem_append, k1 x]
          exact ⟨fun h => by
            rcases h with (h | h) | h
            · exact .inl h
            · exact .inr (.inl h)
            · exact .inr (.inr h), fun h => by
            rcases h with h | h | h
            · exact .inl (.inl h)
            · exact .inl (.inr h)
            · exact .inr h⟩
        · rw [List.length_append, k2]
          unfold outOf'
          rw [List.filter_append, List.length_append, show [b].filter (fun x => decide (x ∉ B)) = [b] by simp [hb]]
          simp
          omega
theorem freshN_count {w : World} {Ts : List Tr} {T : Tr} (hI : ∀ U ∈ Ts, InH w U) (hT : InH w T) : freshN Ts T = (outOf' (allT [] Ts) (addT [] T)).length := by
  have := (add_both (Shut.all (Shut.nil w) hI) (T := T) (P := allT [] Ts) (R := []) hT (fun x => by simp) (by simp [outOf'])).2
  unfold freshN
  omega
/-- the nodes of a tree, by their numbers, behind others. -/
def addK : List Nat → Tr → List Nat
  | os, .nil => os
  | os, .node _ l k _ _ r => if k.toNat ∈ os then os else addK (addK os l ++ [k.toNat]) r
/-- a number's tree: its nodes stand in a row; β: where each lies. -/
def Rep (ls : List (Int × Int)) (β : Nat → Nat) : Int → Tr → Prop
  | at', .nil => at' < 0
  | at', .node b l k _ _ r => at' = k ∧ 0 ≤ k ∧ k.toNat < ls.length ∧ b = β k.toNat ∧ ∃ lt rt, ls[k.toNat]? = some (lt, rt) ∧ Rep ls β lt l ∧ Rep ls β rt r ∧ lt < k ∧ rt < k
theorem addK_blocks {ls : List (Int × Int)} {β : Nat → Nat} (hβ : ∀ i j, β i = β j → i = j) : ∀ {T : Tr} {at' : Int} {os : List Nat}, Rep ls β at' T → (addK os T).map β = addT (os.map β) T
  | .nil, _, _, _ => rfl
  | .node b l k v g r, _, os, ⟨_, _, _, hb, lt, rt, _, h1, h2, _⟩ => by
    rw [addK, addT]
    have hm : b ∈ os.map β ↔ k.toNat ∈ os := by
      rw [hb, List.mem_map]
      exact ⟨fun ⟨x, hx, e⟩ => hβ _ _ e ▸ hx, fun h => ⟨_, h, rfl⟩⟩
    by_cases h : k.toNat ∈ os
    · rw [if_pos h, if_pos (hm.2 h)]
    · rw [if_neg h, if_neg (fun hh => h (hm.1 hh)), addK_blocks hβ h2, List.map_append, addK_blocks hβ h1, hb]
      rfl
def allK (os : List Nat) (Ts : List Tr) : List Nat := Ts.foldl addK os
theorem allK_append (os : List Nat) (A B : List Tr) : allK os (A ++ B) = allK (allK os A) B := by simp [allK]
theorem allK_blocks {ls : List (Int × Int)} {β : Nat → Nat} (hβ : ∀ i j, β i = β j → i = j) : ∀ {Ts : List Tr} {os : List Nat}, (∀ T ∈ Ts, ∃ a, Rep ls β a T) → (allK os Ts).map β = allT (os.map β) Ts
  | [], _, _ => rfl
  | T :: Ts, os, h => by
    obtain ⟨a, ha⟩ := h T (List.mem_cons_self ..)
    show (allK (addK os T) Ts).map β = allT (addT (os.map β) T) Ts
    rw [← addK_blocks hβ ha]
    exact allK_blocks hβ (fun U hU => h U (List.mem_cons_of_mem _ hU))
/-- how many numbers of a row are in none of another one's. -/
def newK (b a : List Nat) : Nat := (outOf' b a).length
theorem newK_blocks {β : Nat → Nat} (hβ : ∀ i j, β i = β j → i = j) (b a : List Nat) : (outOf' (b.map β) (a.map β)).length = newK b a := by
  unfold newK outOf'
  rw [List.filter_map, List.length_map]
  congr 1
  apply List.filter_congr
  intro x _
  simp only [Function.comp, decide_eq_decide]
  rw [List.mem_map]
  exact not_congr ⟨fun ⟨y, hy, e⟩ => hβ _ _ e ▸ hy, fun h => ⟨x, h, rfl⟩⟩
theorem fresh_told {w : World} {ls : List (Int × Int)} {β : Nat → Nat} (hβ : ∀ i j, β i = β j → i = j) {Ts : List Tr} {T : Tr} {a : Int} (hI : ∀ U ∈ Ts, InH w U) (hT : InH w T) (hR : ∀ U ∈ Ts, ∃ a, Rep ls β a U) (hr : Rep ls β a T) :
    freshN Ts T = newK (allK [] Ts) (addK [] T) := by
  rw [freshN_count hI hT, ← newK_blocks hβ, allK_blocks hβ hR, addK_blocks hβ hr]
  rfl
theorem nodes_told {ls : List (Int × Int)} {β : Nat → Nat} (hβ : ∀ i j, β i = β j → i = j) {Ts : List Tr} (hR : ∀ U ∈ Ts, ∃ a, Rep ls β a U) : (allT [] Ts).length = (allK [] Ts).length := by
  have := congrArg List.length (allK_blocks (os := []) hβ hR)
  rw [List.length_map] at this
  exact this.symm
theorem addK_lt {ls : List (Int × Int)} {β : Nat → Nat} : ∀ {T : Tr} {a : Int} {os : List Nat}, Rep ls β a T → (∀ x ∈ os, x < ls.length) → ∀ x ∈ addK os T, x < ls.length
  | .nil, _, _, _, h => h
  | .node b l k v g r, _, os, ⟨_, _, hk, _, lt, rt, _, h1, h2, _⟩, h => by
    rw [addK]
    split
    · exact h
    · refine addK_lt h2 (fun x hx => ?_)
      rcases List.mem_append.1 hx with hx | hx
      · exact addK_lt h1 h x hx
      · rw [List.mem_singleton.1 hx]; exact hk
theorem addK_mem {ls : List (Int × Int)} {β : Nat → Nat} : ∀ {T : Tr} {a : Int} {os : List Nat}, Rep ls β a T → ∀ x ∈ addK os T, x ∈ os ∨ (x : Int) ≤ a
  | .nil, _, _, _, _, h => .inl h
  | .node b l k v g r, _, os, ⟨rfl, h0, _, _, lt, rt, _, h1, h2, e1, e2⟩, x, h => by
    rw [addK] at h
    split at h
    · exact .inl h
    · rcases addK_mem h2 x h with h | h
      · rcases List.mem_append.1 h with h | h
        · rcases addK_mem h1 x h with h | h
          · exact .inl h
          · exact .inr (by omega)
        · rw [List.mem_singleton.1 h]
          exact .inr (by omega)
      · exact .inr (by omega)
theorem addK_nodup {ls : List (Int × Int)} {β : Nat → Nat} : ∀ {T : Tr} {a : Int} {os : List Nat}, Rep ls β a T → os.Nodup → (addK os T).Nodup
  | .nil, _, _, _, h => h
  | .node b l k v g r, _, os, ⟨rfl, h0, _, _, lt, rt, _, h1, h2, e1, _⟩, h => by
    rw [addK]
    split
    · exact h
    · rename_i hk
      refine addK_nodup h2 (List.nodup_append.2 ⟨addK_nodup h1 h, by simp, fun x hx y hy => ?_⟩)
      rw [List.mem_singleton.1 hy]
      rintro rfl
      rcases addK_mem h1 _ hx with h | h
      · exact hk h
      · omega
theorem nodup_len : ∀ {n : Nat} {os : List Nat}, os.Nodup → (∀ x ∈ os, x < n) → os.length ≤ n
  | 0, os, _, hl => by
    cases os with
    | nil => exact Nat.le_refl _
    | cons x os => exact absurd (hl x (List.mem_cons_self ..)) (by omega)
  | n + 1, os, h, hl => by
    have h1 := nodup_len (n := n) (os := os.erase n) (h.erase n) (fun x hx => by
      have h2 := hl x (List.mem_of_mem_erase hx)
      have h3 : x ≠ n := ((List.Nodup.mem_erase_iff h).1 hx).1
      omega)
    rw [List.length_erase] at h1
    split at h1 <;> omega
theorem le_sum_nat : ∀ {bs : List Nat} {x : Nat}, x ∈ bs → x ≤ bs.sum
  | b :: bs, x, h => by
    rw [List.sum_cons]
    rcases List.mem_cons.1 h with rfl | h
    · omega
    · have := le_sum_nat h; omega
/-- a function that tells the numbers of a row apart, and all others. -/
theorem tell_apart (bs : List Nat) (hn : bs.Nodup) : ∃ β : Nat → Nat, (∀ i j, β i = β j → i = j) ∧ ∀ i b, bs[i]? = some b → β i = b := by
  have hle : ∀ x ∈ bs, x ≤ bs.sum := fun x hx => le_sum_nat hx
  refine ⟨fun i => if h : i < bs.length then bs[i] else bs.sum + 1 + i, fun i j e => ?_, fun i b hb => ?_⟩
  · simp only at e
    by_cases hi : i < bs.length
    · by_cases hj : j < bs.length
      · rw [dif_pos hi, dif_pos hj] at e
        exact (List.getElem_inj hn).1 e
      · rw [dif_pos hi, dif_neg hj] at e
        have := hle _ (List.getElem_mem hi)
        omega
    · by_cases hj : j < bs.length
      · rw [dif_neg hi, dif_pos hj] at e
        have := hle _ (List.getElem_mem hj)
        omega
      · rw [dif_neg hi, dif_neg hj] at e
        omega
  · obtain ⟨h1, h2⟩ := List.getElem?_eq_some_iff.1 hb
    simp only [dif_pos h1]
    exact h2
/-- the tree of a number; none, if there is none. -/
def pickT (Ts : List Tr) (n : Int) : Tr := if 0 ≤ n then (Ts[n.toNat]?).getD .nil else .nil
/-- trees, each made of those ahead of it. -/
def Dag (ls : List (Int × Int)) (Ts : List Tr) : Prop :=
  ∀ (i : Nat) (T : Tr), Ts[i]? = some T → ∃ lt rt, ls[i]? = some (lt, rt) ∧ lt < i ∧ rt < i ∧ T = .node T.blk (pickT Ts lt) i 0 0 (pickT Ts rt)
theorem pickT_snoc {Ts : List Tr} {U : Tr} {n : Int} (h : n < Ts.length) : pickT (Ts ++ [U]) n = pickT Ts n := by
  unfold pickT
  split
  · rw [List.getElem?_append_left (by omega)]
  · rfl
theorem Dag.snoc {ls : List (Int × Int)} {Ts : List Tr} (h : Dag ls Ts) {b : Nat} {lt rt : Int} (hl : ls[Ts.length]? = some (lt, rt)) (h1 : lt < Ts.length) (h2 : rt < Ts.length) :
    Dag ls (Ts ++ [.node b (pickT Ts lt) Ts.length 0 0 (pickT Ts rt)]) := by
  intro i T hi
  by_cases hlt : i < Ts.length
  · rw [List.getElem?_append_left hlt] at hi
    obtain ⟨l', r', e1, e2, e3, e4⟩ := h i T hi
    exact ⟨l', r', e1, e2, e3, by rw [pickT_snoc (by omega), pickT_snoc (by omega)]; exact e4⟩
  · rw [List.getElem?_append_right (by omega)] at hi
    have hz : i - Ts.length = 0 := by
      rcases hq : i - Ts.length with _ | q
      · rfl
      · rw [hq] at hi; simp at hi
    rw [hz] at hi
    have hii : i = Ts.length := by omega
    subst hii
    have := Option.some.inj hi
    subst this
    exact ⟨lt, rt, hl, h1, h2, by rw [pickT_snoc h1, pickT_snoc h2]; rfl⟩
theorem Dag.rep {ls : List (Int × Int)} {Ts : List Tr} {β : Nat → Nat} (h : Dag ls Ts) (hl : Ts.length = ls.length) (hβ : ∀ i T, Ts[i]? = some T → β i = T.blk) : ∀ (m : Nat) (n : Int), n < m → n < Ts.length → Rep ls β n (pickT Ts n)
  | m, n, hm, hn => by
    by_cases h0 : 0 ≤ n
    · obtain ⟨i, rfl⟩ := Int.eq_ofNat_of_zero_le h0
      have hi : i < Ts.length := by omega
      obtain ⟨T, hT⟩ : ∃ T, Ts[i]? = some T := ⟨_, List.getElem?_eq_getElem hi⟩
      have hp : pickT Ts ((i : Nat) : Int) = T := by
        unfold pickT
        rw [if_pos h0, Int.toNat_natCast, hT]; rfl
      obtain ⟨lt, rt, e1, e2, e3, e4⟩ := h i T hT
      rw [hp, e4]
      match m, hm with
      | m + 1, hm => exact ⟨rfl, h0, by rw [Int.toNat_natCast]; omega, by rw [Int.toNat_natCast]; exact (hβ i T hT).symm, lt, rt, by rw [Int.toNat_natCast]; exact e1,
          Dag.rep h hl hβ m lt (by omega) (by omega), Dag.rep h hl hβ m rt (by omega) (by omega), e2, e3⟩
      | 0, hm => exact absurd hm (by omega)
    · unfold pickT
      rw [if_neg h0]
      show n < 0
      omega
end Go.Proofs.YtjiiokhjajfhjaaGreat
