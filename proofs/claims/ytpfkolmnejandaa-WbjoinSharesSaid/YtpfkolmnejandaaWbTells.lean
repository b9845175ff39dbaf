/- joinerylaw18.alive, light; the walks of WbTells, WbLikes, WbHigh, WbMakes. -/
import Derived.Test.YtpfkolmnejandaaRef18
namespace Go.Proofs.Ytpfkolmnejandaa
open Go Go.RowKit

theorem like_sym (a b : Int) : likeB a b = likeB b a := by
  unfold likeB withinB
  rw [Int.add_comm b a, Int.min_comm b a]
  congr 1
  rw [Bool.eq_iff_iff]
  simp only [Bool.and_eq_true, decide_eq_true_eq]
  constructor <;> rintro ⟨⟨⟨h1, h2⟩, h3⟩, h4⟩ <;> exact ⟨⟨⟨h3, h4⟩, h1⟩, h2⟩
theorem like_self (a : Int) : likeB a a = (decide (1 ≤ a) && decide (a ≤ 1099511627776)) := by
  unfold likeB withinB
  rw [Bool.eq_iff_iff]
  simp only [Bool.and_eq_true, decide_eq_true_eq]
  omega
/-- the arithmetic of what may be by weights. -/
theorem wbMay_node (b : Nat) (l : Tr) (k v g : Int) (r : Tr) : wbMay (.node b l k v g r) = (wbOne (.node b l k v g r) == 0 && wbMay l && wbMay r) := mayOf_node b l k v g r
theorem wt_count (T : Tr) (h : T.count ≤ 100000) : wt T = ((T.count + 1 : Nat) : Int) := by
  unfold wt
  rw [Tr.size_count]
  unfold wrap64
  omega
theorem wb_sides {b : Nat} {l r : Tr} {k v g : Int} (h : wbMay (.node b l k v g r) = true) : g = 0 ∧ likeB (wt l) (wt r) = true ∧ wbMay l = true ∧ wbMay r = true := by
  rw [wbMay_node] at h
  simp only [Bool.and_eq_true, beq_iff_eq] at h
  obtain ⟨⟨h1, h2⟩, h3⟩ := h
  have e : wbOne (.node b l k v g r) = if g = 0 then (if likeB (wt l) (wt r) then 0 else 8) else 140 := rfl
  rw [e] at h1
  split at h1
  · rename_i hg
    split at h1
    · rename_i hl; exact ⟨hg, hl, h2, h3⟩
    · cases h1
  · cases h1
theorem like_arith {a b : Nat} (h : likeB (a : Int) (b : Int) = true) : 29 * (a + b) ≤ 100 * a ∧ 29 * (a + b) ≤ 100 * b := by
  unfold likeB at h
  simp only [Bool.and_eq_true, decide_eq_true_eq] at h
  omega
theorem wb_least : ∀ T : Tr, wbMay T = true → T.count ≤ 100000 → wLeast T.ht ≤ T.count + 1
  | .nil, _, _ => by simp [Tr.ht, wLeast]
  | .node b l k v g r, h, hc => by
    obtain ⟨-, h1, h2, h3⟩ := wb_sides h
    rw [Tr.count_node] at hc ⊢
    rw [wt_count l (by omega), wt_count r (by omega)] at h1
    have h4 := like_arith h1
    have l1 := wb_least l h2 (by omega)
    have r1 := wb_least r h3 (by omega)
    rw [Tr.ht, Nat.add_comm 1, wLeast]
    rcases Nat.le_total l.ht r.ht with hh | hh
    · rw [Nat.max_eq_right hh]; omega
    · rw [Nat.max_eq_left hh]; omega
theorem ret_ib {a c : Int} {b : Bool} (h : a = c) : Ending.returned (.tuple #[.int .i64 a, .bool b]) = .returned (.tuple #[.int .i64 c, .bool b]) := by rw [h]
end Go.Proofs.Ytpfkolmnejandaa
