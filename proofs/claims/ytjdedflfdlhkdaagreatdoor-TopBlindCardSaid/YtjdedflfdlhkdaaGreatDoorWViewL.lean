/- What some see, plain. -/
import Derived.Test.YtjdedflfdlhkdaaGreatDoorKau
namespace Go.Proofs.YtjdedflfdlhkdaaGreatDoor
set_option linter.unusedVariables false

def mine (n x : Nat) (t : Tld) : Bool := decide (0 ≤ t.who ∧ t.who < (n : Int)) && x.testBit t.who.toNat
def seenT (n x : Nat) (t : Tld) : Tld := if mine n x t = true then t else { noT 0 with who := t.who, sent := t.sent, report := t.report }
def viewOf (n x : Nat) (l : List Tld) : List Tld := l.map (seenT n x)
theorem view_len (n x : Nat) (l : List Tld) : (viewOf n x l).length = l.length := by simp [viewOf]
end Go.Proofs.YtjdedflfdlhkdaaGreatDoor
