/- A pointer to a node is itself. -/
import Derived.Test.YtpfkolmnejandaaNode
import Derived.LaidEqlPtr
namespace Go.Proofs.Ytpfkolmnejandaa
open Go Go.RowKit
theorem ptr_same (p : Option Addr) (w : World) : (binOp .eql 25 (.pointer p) (.pointer p)).run Try.prog w = .ok (.bool true) w := by
  obtain ⟨j, hj⟩ : ∃ j, Try.prog.info? 76 = some j := by
    have h : (Try.prog.info? 76).isSome = true := by kernel_rfl
    exact Option.isSome_iff_exists.1 h
  cases p with
  | none =>
    have := run_eql_pointer_nil (P := Try.prog) w 25 none (by kernel_rfl)
    simpa using this
  | some a => exact run_eql_ptr_same w a Try.underlying25 hj
end Go.Proofs.Ytpfkolmnejandaa
