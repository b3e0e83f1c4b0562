/- Labels: rows of numbers; who is in which. -/
import Derived.Test.YtgmichaconnhaaaOwn
import Derived.Test.YtgmichaconnhaaaBits
namespace Go.Proofs.Ytgmichaconnhaaa
open Go.ChangeShapes Go.WideShapes Go.ChangeAt Go.RowKit
set_option linter.unusedVariables false
set_option linter.unusedSimpArgs false

theorem andOne (x : Nat) (h : x < 9223372036854775808) : bits BinOp.and IntKind.i64 (x : Int) 1 = ((x % 2 : Nat) : Int) := by
  have := bits_mask .i64 63 (by decide) (fun n h0 h1 => IntWalk.i64_in n (by omega)) 1 (by decide) (x : Int) (by omega) (by omega)
  simpa using this
/-- Is a branch in a label? -/
def inL (label who : Nat) : Bool := label.testBit who
def labInts (labs : List Nat) : List Int := List.map (fun x : Nat => (x : Int)) labs
theorem labInts_length (l : List Nat) : (labInts l).length = l.length := by simp [labInts]
theorem labInts_length' (l : List Nat) : (labInts l).length = l.length := by simp [labInts]
theorem if_congr' {α : Type} {p q : Prop} [Decidable p] [Decidable q] (h : p ↔ q) (a b : α) : (if p then a else b) = if q then a else b := by
  by_cases hp : p
  · rw [if_pos hp, if_pos (h.1 hp)]
  · rw [if_neg hp, if_neg (fun hq => hp (h.2 hq))]
def lb (labs : List Nat) (j i : Nat) : Bool := inL (labs.getD j 0) i
theorem lb_none {labs : List Nat} {j i : Nat} (h : labs.length ≤ j) : lb labs j i = false := by
  unfold lb; rw [List.getD_eq_getElem?_getD, List.getElem?_eq_none h]; simp [inL]
theorem lb_at {labs : List Nat} {j i : Nat} (h : j < labs.length) : lb labs j i = inL labs[j] i := by
  unfold lb; rw [List.getD_eq_getElem?_getD, List.getElem?_eq_getElem h]; rfl
end Go.Proofs.Ytgmichaconnhaaa
