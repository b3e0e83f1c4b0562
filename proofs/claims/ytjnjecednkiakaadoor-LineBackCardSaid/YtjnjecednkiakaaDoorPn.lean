/- Picked, as a natural number. -/
import Derived.Test.YtjnjecednkiakaaDoorBase
namespace Go.Proofs.YtjnjecednkiakaaDoor
set_option linter.unusedVariables false

def pn (a n : Int) : Nat := (pick a n).toNat
theorem pn_eq (a n : Int) (hn : 0 < n) : ((pn a n : Nat) : Int) = pick a n ∧ (pn a n : Int) < n := by
  have := pick_bd a n hn
  unfold pn; omega
end Go.Proofs.YtjnjecednkiakaaDoor
