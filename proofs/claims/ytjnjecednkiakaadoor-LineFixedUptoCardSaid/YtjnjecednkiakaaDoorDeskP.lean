/- Lines: what Show and Read compute, plainly. -/
import Derived.Test.YtjnjecednkiakaaDoorDeskL
namespace Go.Proofs.YtjnjecednkiakaaDoor
open Go.Lib
set_option linter.unusedVariables false
set_option linter.unusedSimpArgs false

/-- The kinds' words, and the fields that each names. -/
def wordsP : List (List UInt8 × List Nat) :=
  [([97, 115, 107], [1, 2, 3]), ([115, 101, 108, 108], [1, 2, 3]), ([104, 111, 108, 100], [1, 2, 3, 4]), ([99, 111, 110, 102, 105, 114, 109], [1, 2, 5]), ([99, 97, 110, 99, 101, 108], [1, 2, 5]),
   ([114, 101, 102, 117, 110, 100], [1, 2, 3]), ([112, 117, 116], [1, 6, 7, 3]), ([103, 101, 116], [1, 6, 7]), ([116, 105, 99, 107], []), ([100, 101, 108, 105, 118, 101, 114], [5]), ([108, 111, 115, 101], [5])]
/-- Show's line of the step (none: the step is of no kind, or a field stands that its kind does not name). -/
def lineP (st : Nat → Int) (p : List UInt8 × List Nat) : List UInt8 := join (p.1 :: p.2.map fun o => itoa (st o)) [32]
/-- Behind the fields that have been read. -/
def setP (st : Nat → Int) (o : Nat) (n : Int) : Nat → Int := fun x => if x = o then n else st x
/-- Read's loop: the fields, the parts; none: a part is no number as Itoa writes it. -/
def readP : List Nat → List (List UInt8) → (Nat → Int) → Option (Nat → Int)
  | o :: os, p :: ps, st => match atoiAll p with
    | .ok n => if itoa n = p then readP os ps (setP st o n) else none
    | _ => none
  | _, _, st => some st
theorem readP_line (st0 : Nat → Int) : ∀ (os : List Nat) (st : Nat → Int), (∀ o ∈ os, -9223372036854775808 ≤ st0 o ∧ st0 o ≤ 9223372036854775807) →
    readP os (os.map fun o => itoa (st0 o)) st = some (os.foldl (fun s o => setP s o (st0 o)) st)
  | [], st, _ => rfl
  | o :: os, st, h => by
    have h1 := h o (by simp)
    simp only [List.map_cons, readP, atoi_itoa _ h1.1 h1.2, if_true, List.foldl_cons]
    exact readP_line st0 os _ (fun x hx => h x (by simp [hx]))
end Go.Proofs.YtjnjecednkiakaaDoor
