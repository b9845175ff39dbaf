/- The walk of joinerylaw15.AvljoinChain. -/
import Derived.Test.YtpfkolmnejandaaAvlJoins
namespace Go.Proofs.Ytpfkolmnejandaa
open Go Go.RowKit

theorem join_nil_right {n : Nat} {l T : Tr} {k v : Int} {h : Nat} (hok : JoinOk n l .nil k v T) (hl : AvlH l h) : ∃ h', AvlH T h' ∧ (h' = h ∨ h' = h + 1) ∧ T.count = l.count + 1 ∧ T.sum = wrap64 (l.sum + v) := by
  obtain ⟨x, x1, x2, -⟩ := hok.ex
  rw [hl.ht, show Tr.nil.ht = 0 from rfl] at x2
  refine ⟨x, x1, by omega, (join_facts hok).1, ?_⟩
  rw [Tr.sum_kvs, hok.kvs, Tr.sum_kvs, wrap_add]
  congr 1
  simp [kvSum, Tr.kvs]
theorem join_nil_left {n : Nat} {l T : Tr} {k v : Int} {h : Nat} (hok : JoinOk n .nil l k v T) (hl : AvlH l h) : ∃ h', AvlH T h' ∧ (h' = h ∨ h' = h + 1) ∧ T.count = l.count + 1 ∧ T.sum = wrap64 (l.sum + v) := by
  obtain ⟨x, x1, x2, -⟩ := hok.ex
  rw [hl.ht, show Tr.nil.ht = 0 from rfl] at x2
  refine ⟨x, x1, by omega, by rw [(join_facts hok).1]; simp [Tr.count, Tr.pre]; omega, ?_⟩
  rw [Tr.sum_kvs, hok.kvs, Tr.sum_kvs, wrap_add]
  congr 1
  simp [kvSum, Tr.kvs]; omega
theorem size_step {U T : Tr} (h : U.count = T.count + 1) : U.size = wrap64 (T.size + 1) := by
  rw [U.size_count, T.size_count, h, wrap_add]
  rfl
end Go.Proofs.Ytpfkolmnejandaa
