/- joineryref07.Text walked. -/
import Derived.Test.YtejknkhahjgdnaaByte7
import Derived.Laws.BytesArg
namespace Go.Proofs.Ytejknkhahjgdnaa
open Go Go.RowKit

/-- the state of the outer loop. -/
def TxtSt (w2 : World) (bs : List Nat) (v i : Value) (W : World) : Prop :=
  ∃ (ds : List Nat) (m : Nat), i = .int .i64 ((m : Int) - 1) ∧ IOwn w2.heap.size W v ds ∧ Ext w2 W ∧ Hid (m ≤ bs.length ∧ Dec ds ∧ tval ds = bval (bs.drop m) ∧ ds.length + 3 * m ≤ 1 + 3 * bs.length)
/-- the state of the inner loop. -/
def TxtIn (w2 : World) (T L0 : Nat) (v c k : Value) (W : World) : Prop :=
  ∃ (es : List Nat) (kk cc : Nat), c = .int .i64 (cc : Nat) ∧ k = .int .i64 (kk : Nat) ∧ IOwn w2.heap.size W v es ∧ Ext w2 W ∧ Hid (TxIn T L0 es kk cc)
def txm (L0 : Nat) (c k : Value) : Nat := (L0 - (intOf k).toNat) * 1000 + (intOf c).toNat
theorem txm_a {L0 kk cc c' : Nat} (h : kk < L0) (hc' : c' ≤ 255) : txm L0 (.int .i64 (c' : Nat)) (.int .i64 ((kk + 1 : Nat) : Int)) < txm L0 (.int .i64 (cc : Nat)) (.int .i64 (kk : Nat)) := by
  show (L0 - (kk + 1)) * 1000 + c' < (L0 - kk) * 1000 + cc
  omega
theorem txm_b {L0 kk cc c' : Nat} (h : L0 ≤ kk) (hc' : c' < cc) : txm L0 (.int .i64 (c' : Nat)) (.int .i64 ((kk + 1 : Nat) : Int)) < txm L0 (.int .i64 (cc : Nat)) (.int .i64 (kk : Nat)) := by
  show (L0 - (kk + 1)) * 1000 + c' < (L0 - kk) * 1000 + cc
  omega
/-- digits, the highest one first, as a text. -/
def strD (ds : List Nat) : ByteArray := strOfNums (ds.reverse.map (fun d => ((48 + d : Nat) : Int)))
theorem strD_snoc {ds : List Nat} {j : Nat} (h : j < ds.length) : strD (ds.drop (j + 1)) ++ strOfNums [((48 + ds.getD j 0 : Nat) : Int)] = strD (ds.drop j) := by
  rw [drop_cons_getD h]
  unfold strD strOfNums
  apply ByteArray.ext
  simp
end Go.Proofs.Ytejknkhahjgdnaa
