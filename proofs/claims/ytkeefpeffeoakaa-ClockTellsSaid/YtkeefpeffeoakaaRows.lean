/-
  No cell of these rows narrows 'for every input' (looked for: loops, veiled, ifaces, maps, wideKeys, modest, calm, conditions, laid).
  DERIVED. THE GIVEN ROWS OF THIS SEAT. 7 by the template 'for every input the law returns true; each argument reads behind the call as it read before'; 0 by the template 'total and deterministic' (their statements: YtkeefpeffeoakaaTotals.lean).
  GIVEN WITH THE SEED: the statements are not yours to turn. If you find one false, say at which input.
  Laid BY PROGRAM, IN A SANDBOX (cutbox-rows.mjs): the forced cells as the released guide's own fill.sh prints them over the translation a503673fae3ed5af… (all of the seat's roots in one cut). By AI agents, Wed Nov 11 2026. No macro, syntax, notation, axiom, sorry.
-/
import Derived.Test.YtkeefpeffeoakaaChecked
import GoSem.Claim
import GoSem.ClaimJoined
import GoSem.ClaimMapViews
import Derived.JoinedTies
import Derived.KernelRfl
namespace Go.Proofs.Ytkeefpeffeoakaa
/- THE CELL 'sum', in the pinned program and in every row, IS THE sha256 OF THE DUMP (.gsa) THAT YtkeefpeffeoakaaProg.lean LOADS. Nothing in Lean hashes anything: it is a label: what it is worth is what the hold of that sum in a sandbox is worth. -/
noncomputable def Try.pinned : Pinned := { name := "ytkeefpeffeoakaa", sum := "a503673fae3ed5af555b24c1682765678bdaaab4f0082639fb2fa65352068265", checked := Try.checked }
namespace Rows
def none {H : Type} : Left H := { results := [], args := [] }

/-- 'splittallykeep.ClockLeast': WHATEVER THE INPUT: true; the input reads as it did. -/
def clockLeastSpec : ChangeSpec := { name := "clockLeast", fn := fun _ => fun
  | [d1, d2, d3] => { results := [.lit (.bool true)], args := [d1, d2, d3] }
  | _ => none }
def clockLeastRow : OpenClaim := { program := "ytkeefpeffeoakaa", sum := "a503673fae3ed5af555b24c1682765678bdaaab4f0082639fb2fa65352068265", func := "splittally/splittallykeep.ClockLeast", spec := "clockLeast", unfollowed := true, recurses := true, apart := false }
def ClockLeastSaid : Prop := clockLeastRow.holds Try.pinned (OpenSpec.ofChange clockLeastSpec)

/-- ITS FALSE NEIGHBOUR: 'it returns false'. Refute it at one input. -/
def clockLeastWrong : ChangeSpec := { name := "clockLeast", fn := fun _ => fun
  | [d1, d2, d3] => { results := [.lit (.bool false)], args := [d1, d2, d3] }
  | _ => none }
def ClockLeastWrongFalsely : Prop := clockLeastRow.holds Try.pinned (OpenSpec.ofChange clockLeastWrong)

/-- 'splittallykeep.PackBack': WHATEVER THE INPUT: true; the input reads as it did. -/
def packBackSpec : ChangeSpec := { name := "packBack", fn := fun _ => fun
  | [d1, d2] => { results := [.lit (.bool true)], args := [d1, d2] }
  | _ => none }
def packBackRow : OpenClaim := { program := "ytkeefpeffeoakaa", sum := "a503673fae3ed5af555b24c1682765678bdaaab4f0082639fb2fa65352068265", func := "splittally/splittallykeep.PackBack", spec := "packBack", apart := false }
def PackBackSaid : Prop := packBackRow.holds Try.pinned (OpenSpec.ofChange packBackSpec)

/-- ITS FALSE NEIGHBOUR: 'it returns false'. Refute it at one input. -/
def packBackWrong : ChangeSpec := { name := "packBack", fn := fun _ => fun
  | [d1, d2] => { results := [.lit (.bool false)], args := [d1, d2] }
  | _ => none }
def PackBackWrongFalsely : Prop := packBackRow.holds Try.pinned (OpenSpec.ofChange packBackWrong)

/-- 'splittallykeep.PackFixed': WHATEVER THE INPUT: true; the input reads as it did. -/
def packFixedSpec : ChangeSpec := { name := "packFixed", fn := fun _ => fun
  | [d1, d2] => { results := [.lit (.bool true)], args := [d1, d2] }
  | _ => none }
def packFixedRow : OpenClaim := { program := "ytkeefpeffeoakaa", sum := "a503673fae3ed5af555b24c1682765678bdaaab4f0082639fb2fa65352068265", func := "splittally/splittallykeep.PackFixed", spec := "packFixed", apart := false }
def PackFixedSaid : Prop := packFixedRow.holds Try.pinned (OpenSpec.ofChange packFixedSpec)

/-- ITS FALSE NEIGHBOUR: 'it returns false'. Refute it at one input. -/
def packFixedWrong : ChangeSpec := { name := "packFixed", fn := fun _ => fun
  | [d1, d2] => { results := [.lit (.bool false)], args := [d1, d2] }
  | _ => none }
def PackFixedWrongFalsely : Prop := packFixedRow.holds Try.pinned (OpenSpec.ofChange packFixedWrong)

/-- 'splittallykeep.TallySafe': WHATEVER THE INPUT: true; the input reads as it did. -/
def tallySafeSpec : ChangeSpec := { name := "tallySafe", fn := fun _ => fun
  | [d1, d2] => { results := [.lit (.bool true)], args := [d1, d2] }
  | _ => none }
def tallySafeRow : OpenClaim := { program := "ytkeefpeffeoakaa", sum := "a503673fae3ed5af555b24c1682765678bdaaab4f0082639fb2fa65352068265", func := "splittally/splittallykeep.TallySafe", spec := "tallySafe", unfollowed := true, recurses := true, apart := false }
def TallySafeSaid : Prop := tallySafeRow.holds Try.pinned (OpenSpec.ofChange tallySafeSpec)

/-- ITS FALSE NEIGHBOUR: 'it returns false'. Refute it at one input. -/
def tallySafeWrong : ChangeSpec := { name := "tallySafe", fn := fun _ => fun
  | [d1, d2] => { results := [.lit (.bool false)], args := [d1, d2] }
  | _ => none }
def TallySafeWrongFalsely : Prop := tallySafeRow.holds Try.pinned (OpenSpec.ofChange tallySafeWrong)

/-- 'splittallykeep.TallyAny': WHATEVER THE INPUT: true; the input reads as it did. -/
def tallyAnySpec : ChangeSpec := { name := "tallyAny", fn := fun _ => fun
  | [d1, d2] => { results := [.lit (.bool true)], args := [d1, d2] }
  | _ => none }
def tallyAnyRow : OpenClaim := { program := "ytkeefpeffeoakaa", sum := "a503673fae3ed5af555b24c1682765678bdaaab4f0082639fb2fa65352068265", func := "splittally/splittallykeep.TallyAny", spec := "tallyAny", unfollowed := true, recurses := true, apart := false }
def TallyAnySaid : Prop := tallyAnyRow.holds Try.pinned (OpenSpec.ofChange tallyAnySpec)

/-- ITS FALSE NEIGHBOUR: 'it returns false'. Refute it at one input. -/
def tallyAnyWrong : ChangeSpec := { name := "tallyAny", fn := fun _ => fun
  | [d1, d2] => { results := [.lit (.bool false)], args := [d1, d2] }
  | _ => none }
def TallyAnyWrongFalsely : Prop := tallyAnyRow.holds Try.pinned (OpenSpec.ofChange tallyAnyWrong)

/-- 'splittallykeep.TallyMoves': WHATEVER THE INPUT: true; the input reads as it did. -/
def tallyMovesSpec : ChangeSpec := { name := "tallyMoves", fn := fun _ => fun
  | [d1, d2, d3, d4, d5] => { results := [.lit (.bool true)], args := [d1, d2, d3, d4, d5] }
  | _ => none }
def tallyMovesRow : OpenClaim := { program := "ytkeefpeffeoakaa", sum := "a503673fae3ed5af555b24c1682765678bdaaab4f0082639fb2fa65352068265", func := "splittally/splittallykeep.TallyMoves", spec := "tallyMoves", unfollowed := true, recurses := true, apart := false }
def TallyMovesSaid : Prop := tallyMovesRow.holds Try.pinned (OpenSpec.ofChange tallyMovesSpec)

/-- ITS FALSE NEIGHBOUR: 'it returns false'. Refute it at one input. -/
def tallyMovesWrong : ChangeSpec := { name := "tallyMoves", fn := fun _ => fun
  | [d1, d2, d3, d4, d5] => { results := [.lit (.bool false)], args := [d1, d2, d3, d4, d5] }
  | _ => none }
def TallyMovesWrongFalsely : Prop := tallyMovesRow.holds Try.pinned (OpenSpec.ofChange tallyMovesWrong)

/-- 'splittallykeep.ClockTells': WHATEVER THE INPUT: true; the input reads as it did. -/
def clockTellsSpec : ChangeSpec := { name := "clockTells", fn := fun _ => fun
  | [d] => { results := [.lit (.bool true)], args := [d] }
  | _ => none }
def clockTellsRow : OpenClaim := { program := "ytkeefpeffeoakaa", sum := "a503673fae3ed5af555b24c1682765678bdaaab4f0082639fb2fa65352068265", func := "splittally/splittallykeep.ClockTells", spec := "clockTells", unfollowed := true, recurses := true, apart := false }
def ClockTellsSaid : Prop := clockTellsRow.holds Try.pinned (OpenSpec.ofChange clockTellsSpec)

/-- ITS FALSE NEIGHBOUR: 'it returns false'. Refute it at one input. -/
def clockTellsWrong : ChangeSpec := { name := "clockTells", fn := fun _ => fun
  | [d] => { results := [.lit (.bool false)], args := [d] }
  | _ => none }
def ClockTellsWrongFalsely : Prop := clockTellsRow.holds Try.pinned (OpenSpec.ofChange clockTellsWrong)

/- THE SECOND FORM. 'bulk': how many values and letters a reading holds, each counted each time it is reached (what is shared counts as often as it is met; a slice's spare places count too). A statement '..UptoSaid' is the law's where the arguments, and the package variables that the reading takes, are together of bulk at most 1048576: NARROWER than '..Said'. Prove '..Said' where nothing that the law and all that it calls make is longer than what came in: it says more and counts as full. Else prove '..UptoSaid'. A law counts once. -/
mutual
def uptoBulk {H : Type} : DataW H → Nat
  | .lit (.string bytes) => bytes.length + 1
  | .lit _ => 1
  | .nil => 1
  | .ptr d => uptoBulk d + 1
  | .slice elems spare => uptoBulkAll elems + uptoBulkAll spare + 1
  | .agg parts => uptoBulkAll parts + 1
  | .iface _ d => uptoBulk d + 1
  | .map entries => uptoBulkEntries entries + 1
  | .held _ => 1
def uptoBulkAll {H : Type} : List (DataW H) → Nat
  | [] => 0
  | d :: r => uptoBulk d + uptoBulkAll r
def uptoBulkEntries {H : Type} : List (Lit × DataW H) → Nat
  | [] => 0
  | x :: r => uptoBulkEntry x + uptoBulkEntries r
def uptoBulkEntry {H : Type} : Lit × DataW H → Nat
  | (.string bytes, d) => bytes.length + uptoBulk d + 1
  | (_, d) => uptoBulk d + 1
 end
def uptoSmall : (H : Type) → List (DataW H) → Bool := fun _ ds => decide (uptoBulkAll ds ≤ 1048576)
def OpenSpec.upto (s : _root_.Go.ChangeSpec) : _root_.Go.OpenSpec := { _root_.Go.OpenSpec.ofChange s with cond := some uptoSmall }

/-- 'splittallykeep.ClockLeast', WHERE WHAT IT READS IS OF BULK AT MOST 1048576: true; the input reads as it did. -/
def clockLeastUptoRow : OpenClaim := { program := "ytkeefpeffeoakaa", sum := "a503673fae3ed5af555b24c1682765678bdaaab4f0082639fb2fa65352068265", func := "splittally/splittallykeep.ClockLeast", spec := "clockLeast", unfollowed := true, recurses := true, apart := false, narrowed := true }
def ClockLeastUptoSaid : Prop := clockLeastUptoRow.holds Try.pinned (OpenSpec.upto clockLeastSpec)

/-- 'splittallykeep.PackBack', WHERE WHAT IT READS IS OF BULK AT MOST 1048576: true; the input reads as it did. -/
def packBackUptoRow : OpenClaim := { program := "ytkeefpeffeoakaa", sum := "a503673fae3ed5af555b24c1682765678bdaaab4f0082639fb2fa65352068265", func := "splittally/splittallykeep.PackBack", spec := "packBack", apart := false, narrowed := true }
def PackBackUptoSaid : Prop := packBackUptoRow.holds Try.pinned (OpenSpec.upto packBackSpec)

/-- 'splittallykeep.PackFixed', WHERE WHAT IT READS IS OF BULK AT MOST 1048576: true; the input reads as it did. -/
def packFixedUptoRow : OpenClaim := { program := "ytkeefpeffeoakaa", sum := "a503673fae3ed5af555b24c1682765678bdaaab4f0082639fb2fa65352068265", func := "splittally/splittallykeep.PackFixed", spec := "packFixed", apart := false, narrowed := true }
def PackFixedUptoSaid : Prop := packFixedUptoRow.holds Try.pinned (OpenSpec.upto packFixedSpec)

/-- 'splittallykeep.TallySafe', WHERE WHAT IT READS IS OF BULK AT MOST 1048576: true; the input reads as it did. -/
def tallySafeUptoRow : OpenClaim := { program := "ytkeefpeffeoakaa", sum := "a503673fae3ed5af555b24c1682765678bdaaab4f0082639fb2fa65352068265", func := "splittally/splittallykeep.TallySafe", spec := "tallySafe", unfollowed := true, recurses := true, apart := false, narrowed := true }
def TallySafeUptoSaid : Prop := tallySafeUptoRow.holds Try.pinned (OpenSpec.upto tallySafeSpec)

/-- 'splittallykeep.TallyAny', WHERE WHAT IT READS IS OF BULK AT MOST 1048576: true; the input reads as it did. -/
def tallyAnyUptoRow : OpenClaim := { program := "ytkeefpeffeoakaa", sum := "a503673fae3ed5af555b24c1682765678bdaaab4f0082639fb2fa65352068265", func := "splittally/splittallykeep.TallyAny", spec := "tallyAny", unfollowed := true, recurses := true, apart := false, narrowed := true }
def TallyAnyUptoSaid : Prop := tallyAnyUptoRow.holds Try.pinned (OpenSpec.upto tallyAnySpec)

/-- 'splittallykeep.TallyMoves', WHERE WHAT IT READS IS OF BULK AT MOST 1048576: true; the input reads as it did. -/
def tallyMovesUptoRow : OpenClaim := { program := "ytkeefpeffeoakaa", sum := "a503673fae3ed5af555b24c1682765678bdaaab4f0082639fb2fa65352068265", func := "splittally/splittallykeep.TallyMoves", spec := "tallyMoves", unfollowed := true, recurses := true, apart := false, narrowed := true }
def TallyMovesUptoSaid : Prop := tallyMovesUptoRow.holds Try.pinned (OpenSpec.upto tallyMovesSpec)

/-- 'splittallykeep.ClockTells', WHERE WHAT IT READS IS OF BULK AT MOST 1048576: true; the input reads as it did. -/
def clockTellsUptoRow : OpenClaim := { program := "ytkeefpeffeoakaa", sum := "a503673fae3ed5af555b24c1682765678bdaaab4f0082639fb2fa65352068265", func := "splittally/splittallykeep.ClockTells", spec := "clockTells", unfollowed := true, recurses := true, apart := false, narrowed := true }
def ClockTellsUptoSaid : Prop := clockTellsUptoRow.holds Try.pinned (OpenSpec.upto clockTellsSpec)

end Rows
end Go.Proofs.Ytkeefpeffeoakaa
