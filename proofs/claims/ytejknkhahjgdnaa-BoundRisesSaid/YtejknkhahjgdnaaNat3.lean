/- nat.mul, Mul. -/
import Derived.Test.YtejknkhahjgdnaaNat2
namespace Go.Proofs.Ytejknkhahjgdnaa
open Go Go.RowKit

theorem meas_s {k n : Nat} (h : k < n) : n - (intOf (.int .i64 ((k + 1 : Nat) : Int))).toNat < n - (intOf (.int .i64 (k : Int))).toNat := by
  show n - (k + 1) < n - k
  omega
/-- the state of the product's outer loop. -/
def MulSt (w : World) (g size : Nat) (xs ys : List Nat) (i : Value) (W : World) : Prop :=
  ∃ (ds : List Nat) (ii : Nat), i = .int .i64 (ii : Nat) ∧ UBlk W g ds ∧ Ext w W ∧ Hid (ii ≤ xs.length ∧ ds.length = size ∧ Words ds ∧ nval ds = nval (xs.take ii) * nval ys)
/-- the state of its inner loop. -/
def MulIn (w : World) (g size : Nat) (ii V x : Nat) (ys : List Nat) (c k : Value) (W : World) : Prop :=
  ∃ (ds : List Nat) (kk cc : Nat), c = .int .u64 (cc : Nat) ∧ k = .int .i64 (kk : Nat) ∧ UBlk W g ds ∧ Ext w W ∧
    Hid (kk ≤ ys.length + 1 ∧ ds.length = size ∧ cc < beta ∧ Words ds ∧ nval ds + beta ^ (ii + kk) * cc = V + x * nval (ys.take kk) * beta ^ ii)
theorem mul_rel {w W : World} {g size ii V x kk cc s : Nat} {ds ys : List Nat} (hU : UBlk W g ds) (hE : Ext w W) (hg : w.heap.size ≤ g)
    (HH : Hid (kk ≤ ys.length + 1 ∧ ds.length = size ∧ cc < beta ∧ Words ds ∧ nval ds + beta ^ (ii + kk) * cc = V + x * nval (ys.take kk) * beta ^ ii))
    (hy : Words ys) (hx : x < beta) (hk : kk < ys.length + 1) (hi : ii + kk < size) (hs : s = cc + ds.getD (ii + kk) 0 + x * ys.getD kk 0) :
    MulIn w g size ii V x ys (.int .u64 ((s / beta : Nat) : Int)) (.int .i64 ((kk + 1 : Nat) : Int)) (W.setCell ⟨g, ii + kk, none⟩ (.int .u32 ((s % beta : Nat) : Int))) ∧
      ys.length + 1 - (intOf (.int .i64 ((kk + 1 : Nat) : Int))).toNat < ys.length + 1 - (intOf (.int .i64 (kk : Int))).toNat := by
  obtain ⟨h1, h2, h3, h4, h5⟩ := HH.out
  obtain ⟨a1, a2, a3⟩ := mul_step (ds := ds) (ys := ys) (i := ii) (k := kk) (c := cc) (x := x) (V := V) (by rw [h2]; exact hi) h4 hy hx h3 h5
  rw [← hs] at a1 a2 a3
  refine ⟨⟨ds.set (ii + kk) (s % beta), kk + 1, s / beta, rfl, rfl, hU.set _ _, Below.setCell (B := w.heap.size) hE hg _, Lib.hid ⟨hk, by rw [List.length_set, h2], a2, words_set h4 (Nat.mod_lt _ beta_pos), ?_⟩⟩, ?_⟩
  · rw [← Nat.add_assoc]; exact a3
  · show ys.length + 1 - (kk + 1) < ys.length + 1 - kk
    omega
theorem mul_bound {x y : Nat} (h3 : x < beta) (h4 : y < beta) : (x : Int) * (y : Int) ≤ 18446744065119617025 ∧ 0 ≤ (x : Int) * (y : Int) := by
  have h : x * y ≤ (beta - 1) * (beta - 1) := Nat.mul_le_mul (by omega) (by omega)
  have e : (beta - 1) * (beta - 1) = 18446744065119617025 := by decide
  rw [e] at h
  constructor
  · have := Int.ofNat_le.2 h
    rw [Int.natCast_mul] at this
    exact this
  · have := Int.natCast_nonneg (x * y)
    rw [Int.natCast_mul] at this
    exact this
end Go.Proofs.Ytejknkhahjgdnaa
