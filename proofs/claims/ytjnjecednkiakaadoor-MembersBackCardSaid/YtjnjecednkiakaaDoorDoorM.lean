/- The door: what the listed tables of math/bits are when the call begins. -/
import Derived.Test.YtjnjecednkiakaaDoorMembW
import Derived.ProofKit
import Derived.OpenShut
import Derived.LaidMore
import Derived.LaidSub
import Derived.Lay
import Derived.Lib.LaidTab
import Derived.Stop.Joined
import Derived.Stop.LaidErr
namespace Go.Proofs.YtjnjecednkiakaaDoor
open Go.ChangeShapes Go.WideShapes Go.ChangeAt Go.RowKit
set_option linter.unusedVariables false

abbrev doorM : List (String × DataW Unit) := [("math/bits.deBruijn32tab", Rows.laid_math_bits_deBruijn32tab), ("math/bits.deBruijn64tab", Rows.laid_math_bits_deBruijn64tab)]
theorem door_met (os : Os) (args : Array Value) : laidMetH Tryd.prog doorM ((World.doorLaid Tryd.prog 400 os).forCall (fun _ _ => 0) ⟨#[], args, []⟩).memory :=
  laidMetH_of_parts3 (fuel := 8) (laidMet_of_run' 8 (by kernel_rfl) (by kernel_rfl)) (by kernel_rfl) (by kernel_rfl)
def tabI : List Int := Lib.deBruijn64tab.map fun x => ((x : Nat) : Int)
theorem tz_of_laid {W : World} (h : laidMetH Tryd.prog doorM W) : TzVar W := by
  rw [MakeChecks.laidMetH_plain _ _ _ (by kernel_rfl)] at h
  have gN : Tryd.prog.globalNamed "math/bits.deBruijn64tab" = some 2 := by kernel_rfl
  have hT : Lib.TabIs Tryd.prog W "math/bits.deBruijn64tab" .u8 tabI := Lib.tabIs_of_head gN (show (Tryd.prog.globals[2]?).map (·.type) = some 73 by kernel_rfl) Tryd.underlying73 Tryd.underlying5 (by kernel_rfl) (by kernel_rfl) h.tail
  intro j hj
  have := hT.cell gN j (by simpa [tabI, Lib.deBruijn64tab] using hj)
  rw [this]
  simp [tabI, List.getD_eq_getElem?_getD]
  have hl : j < Lib.deBruijn64tab.length := hj
  simp [hl]
end Go.Proofs.YtjnjecednkiakaaDoor
