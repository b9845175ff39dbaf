/- Arguments that are predicates, or pairs, by value: opened, and shut. -/
import Derived.Lib.SmallJoins
import Derived.ChangeArms
import Derived.ChangeShapes
import Derived.Test.YtoiohjifjmejkaaGreatM45
namespace Go.Proofs.YtoiohjifjmejkaaGreat
open Go Go.ChangeShapes Go.WideShapes Go.ChangeAt Go.RowKit Go.Joins

theorem aggCells23 : Tryz.prog.cellsOf 23 = 4 := by kernel_rfl
theorem aggCells25 : Tryz.prog.cellsOf 52 = 2 := by kernel_rfl
set_option maxRecDepth 100000 in
theorem open_pred {H : Type} {enc : TypeId × Value → H} {w : World} {base b0 : Nat} {spare : Nat → Bool} {held : Bool} {r : Reach} {v : Value} {d : DataW H} {p : List MemPlace}
    (hv : Value.okWide Tryz.prog w r b0 23 v) (h : DataW.Trod enc Tryz.prog w base spare held 23 v d p) :
    ∃ (kd : Nat) (a b : Int) (nt : Bool), v = .agg #[.int .u8 kd, .int .i64 a, .int .i64 b, .bool nt] ∧ p = [] ∧ kd < 256 ∧ I64 a ∧ I64 b ∧
      ∀ (W : World) (sp : Nat → Bool), DataW.Trod enc Tryz.prog W base sp held 23 v d [] := by
  obtain ⟨v0, v1, v2, v3, y0, y1, y2, y3, n, rfl, rfl, rfl, h0, h1, h2, h3⟩ := open_agg4 Tryz.underlying23 (by kernel_rfl) aggCells23 hv h
  obtain ⟨n0, e0, rfl, f0⟩ := DataW.trod_int (k := .u8) Tryz.underlying5 h0
  obtain ⟨n1, e1, rfl, f1⟩ := DataW.trod_int (k := .i64) Tryz.underlying2 h1
  obtain ⟨n2, e2, rfl, f2⟩ := DataW.trod_int (k := .i64) Tryz.underlying2 h2
  obtain ⟨bb, e3, rfl⟩ := DataW.trod_bool Tryz.underlying4 h3
  simp only [List.cons.injEq, and_true] at e0 e1 e2 e3
  subst e0 e1 e2 e3
  have g0 : 0 ≤ n0 ∧ n0 < 256 := by simp [Lit.wf, show IntKind.u8.min = 0 from rfl, show IntKind.u8.max = 255 from rfl] at f0; omega
  have g1 : I64 n1 := by simp [Lit.wf, show IntKind.i64.min = -9223372036854775808 from rfl, show IntKind.i64.max = 9223372036854775807 from rfl] at f1; unfold I64; omega
  have g2 : I64 n2 := by simp [Lit.wf, show IntKind.i64.min = -9223372036854775808 from rfl, show IntKind.i64.max = 9223372036854775807 from rfl] at f2; unfold I64; omega
  obtain ⟨m, rfl⟩ := Int.eq_ofNat_of_zero_le g0.1
  refine ⟨m, n1, n2, bb, rfl, rfl, by omega, g1, g2, fun W sp => ?_⟩
  exact shut_agg4 (y0 := (.lit (.int .u8 m), [])) (y1 := (.lit (.int .i64 n1), [])) (y2 := (.lit (.int .i64 n2), [])) (y3 := (.lit (.bool bb), [])) Tryz.underlying23 (by kernel_rfl) aggCells23
    ⟨1, by simp [DataW.trod, Tryz.underlying5, f0]⟩ ⟨1, by simp [DataW.trod, Tryz.underlying2, f1]⟩ ⟨1, by simp [DataW.trod, Tryz.underlying2, f2]⟩ ⟨1, by simp [DataW.trod, Tryz.underlying4]⟩
set_option maxRecDepth 100000 in
theorem open_pair {H : Type} {enc : TypeId × Value → H} {w : World} {base b0 : Nat} {spare : Nat → Bool} {held : Bool} {r : Reach} {v : Value} {d : DataW H} {p : List MemPlace}
    (hv : Value.okWide Tryz.prog w r b0 52 v) (h : DataW.Trod enc Tryz.prog w base spare held 52 v d p) :
    ∃ (a b : Int), v = .agg #[.int .i64 a, .int .i64 b] ∧ p = [] ∧ ∀ (W : World) (sp : Nat → Bool), DataW.Trod enc Tryz.prog W base sp held 52 v d [] := by
  obtain ⟨v1, v2, y1, y2, n, rfl, rfl, rfl, h1, h2⟩ := open_agg2 Tryz.underlying52 (by kernel_rfl) aggCells25 hv h
  obtain ⟨n1, e1, rfl, f1⟩ := DataW.trod_int (k := .i64) Tryz.underlying2 h1
  obtain ⟨n2, e2, rfl, f2⟩ := DataW.trod_int (k := .i64) Tryz.underlying2 h2
  simp only [List.cons.injEq, and_true] at e1 e2
  subst e1 e2
  refine ⟨n1, n2, rfl, rfl, fun W sp => ?_⟩
  exact shut_agg2 (y0 := (.lit (.int .i64 n1), [])) (y1 := (.lit (.int .i64 n2), [])) Tryz.underlying52 (by kernel_rfl) aggCells25
    ⟨1, by simp [DataW.trod, Tryz.underlying2, f1]⟩ ⟨1, by simp [DataW.trod, Tryz.underlying2, f2]⟩
end Go.Proofs.YtoiohjifjmejkaaGreat
