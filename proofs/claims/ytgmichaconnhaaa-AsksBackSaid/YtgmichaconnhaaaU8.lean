/- Cells of bytes. No statement of its own. -/
import Derived.Test.YtgmichaconnhaaaMem
namespace Go.Proofs.Ytgmichaconnhaaa
open Go.ChangeShapes Go.WideShapes Go.ChangeAt Go.RowKit
set_option linter.unusedVariables false
def u8s (l : List Nat) : List Value := l.map fun (b : Nat) => Value.int .u8 (b : Int)
@[simp] theorem u8s_length (l : List Nat) : (u8s l).length = l.length := by simp [u8s]
theorem u8s_get (l : List Nat) (j : Nat) (h : j < l.length) : (u8s l)[j]? = some (.int .u8 l[j]) := by simp [u8s, h]
theorem u8s_all (l : List Nat) : (u8s l).all Value.oneCell' = true := by
  rw [List.all_eq_true]; intro v hv; obtain ⟨z, _, rfl⟩ := List.mem_map.1 hv; rfl
theorem elByte : Elem Try.prog 5 1 1 (.int .u8 0) := .of (by kernel_rfl) rfl (by decide)
end Go.Proofs.Ytgmichaconnhaaa
