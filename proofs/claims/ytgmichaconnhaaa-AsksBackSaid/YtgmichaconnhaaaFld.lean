/- Rows of fields. -/
import Derived.Test.YtgmichaconnhaaaMem
namespace Go.Proofs.Ytgmichaconnhaaa
open Go.ChangeShapes Go.WideShapes Go.ChangeAt Go.RowKit
set_option linter.unusedVariables false

def flds (fs : List (Int × Int)) : List Value := fs.flatMap fun p => [.int .i64 p.1, .int .i64 p.2]
@[simp] theorem flds_length (fs : List (Int × Int)) : (flds fs).length = fs.length * 2 := by induction fs <;> simp_all [flds]; omega
theorem flds_snoc (fs : List (Int × Int)) (p : Int × Int) : flds fs ++ [.int .i64 p.1, .int .i64 p.2] = flds (fs ++ [p]) := by simp [flds]
theorem elField : Elem Try.prog 90 2 16 (.agg #[.int .i64 0, .int .i64 0]) := .of (by kernel_rfl) rfl (by decide)
end Go.Proofs.Ytgmichaconnhaaa
