/-
  No cell of these rows narrows 'for every input' (looked for: loops, veiled, ifaces, maps, wideKeys, modest, calm, conditions, laid).
  DERIVED. THE GIVEN ROWS OF THIS SEAT. 14 by the template 'for every input the law returns true; each argument reads behind the call as it read before'; 0 by the template 'total and deterministic' (their statements: YtjinbcbpaoophaaTotals.lean).
  GIVEN WITH THE SEED: the statements are not yours to turn. If you find one false, say at which input.
  Laid BY PROGRAM, IN A SANDBOX (cutbox-rows.mjs): the forced cells as the released guide's own fill.sh prints them over the translation a3780da2b15db45f… (all of the seat's roots in one cut). By AI agents, Wed Nov 11 2026. No macro, syntax, notation, axiom, sorry.
-/
import Derived.Test.YtjinbcbpaoophaaChecked
import GoSem.Claim
import GoSem.ClaimJoined
import GoSem.ClaimMapViews
import Derived.JoinedTies
import Derived.KernelRfl
namespace Go.Proofs.Ytjinbcbpaoophaa
/- THE CELL 'sum', in the pinned program and in every row, IS THE sha256 OF THE DUMP (.gsa) THAT YtjinbcbpaoophaaProg.lean LOADS. Nothing in Lean hashes anything: it is a label: what it is worth is what the hold of that sum in a sandbox is worth. -/
noncomputable def Try.pinned : Pinned := { name := "ytjinbcbpaoophaa", sum := "a3780da2b15db45f3b3880999df1575b8344ae38aeb097443da1d941857a7c92", checked := Try.checked }
namespace Rows
def none {H : Type} : Left H := { results := [], args := [] }

/-- 'splittallykeep.FlowsOrder': WHATEVER THE INPUT: true; the input reads as it did. -/
def flowsOrderSpec : ChangeSpec := { name := "flowsOrder", fn := fun _ => fun
  | [d1, d2, d3] => { results := [.lit (.bool true)], args := [d1, d2, d3] }
  | _ => none }
def flowsOrderRow : OpenClaim := { program := "ytjinbcbpaoophaa", sum := "a3780da2b15db45f3b3880999df1575b8344ae38aeb097443da1d941857a7c92", func := "splittally/splittallykeep.FlowsOrder", spec := "flowsOrder", unfollowed := true, recurses := true, apart := false }
def FlowsOrderSaid : Prop := flowsOrderRow.holds Try.pinned (OpenSpec.ofChange flowsOrderSpec)

/-- ITS FALSE NEIGHBOUR: 'it returns false'. Refute it at one input. -/
def flowsOrderWrong : ChangeSpec := { name := "flowsOrder", fn := fun _ => fun
  | [d1, d2, d3] => { results := [.lit (.bool false)], args := [d1, d2, d3] }
  | _ => none }
def FlowsOrderWrongFalsely : Prop := flowsOrderRow.holds Try.pinned (OpenSpec.ofChange flowsOrderWrong)

/-- 'splittallykeep.JoinSpreads': WHATEVER THE INPUT: true; the input reads as it did. -/
def joinSpreadsSpec : ChangeSpec := { name := "joinSpreads", fn := fun _ => fun
  | [d1, d2, d3] => { results := [.lit (.bool true)], args := [d1, d2, d3] }
  | _ => none }
def joinSpreadsRow : OpenClaim := { program := "ytjinbcbpaoophaa", sum := "a3780da2b15db45f3b3880999df1575b8344ae38aeb097443da1d941857a7c92", func := "splittally/splittallykeep.JoinSpreads", spec := "joinSpreads", unfollowed := true, recurses := true, apart := false }
def JoinSpreadsSaid : Prop := joinSpreadsRow.holds Try.pinned (OpenSpec.ofChange joinSpreadsSpec)

/-- ITS FALSE NEIGHBOUR: 'it returns false'. Refute it at one input. -/
def joinSpreadsWrong : ChangeSpec := { name := "joinSpreads", fn := fun _ => fun
  | [d1, d2, d3] => { results := [.lit (.bool false)], args := [d1, d2, d3] }
  | _ => none }
def JoinSpreadsWrongFalsely : Prop := joinSpreadsRow.holds Try.pinned (OpenSpec.ofChange joinSpreadsWrong)

/-- 'splittallykeep.JoinLeast': WHATEVER THE INPUT: true; the input reads as it did. -/
def joinLeastSpec : ChangeSpec := { name := "joinLeast", fn := fun _ => fun
  | [d1, d2, d3] => { results := [.lit (.bool true)], args := [d1, d2, d3] }
  | _ => none }
def joinLeastRow : OpenClaim := { program := "ytjinbcbpaoophaa", sum := "a3780da2b15db45f3b3880999df1575b8344ae38aeb097443da1d941857a7c92", func := "splittally/splittallykeep.JoinLeast", spec := "joinLeast", unfollowed := true, recurses := true, apart := false }
def JoinLeastSaid : Prop := joinLeastRow.holds Try.pinned (OpenSpec.ofChange joinLeastSpec)

/-- ITS FALSE NEIGHBOUR: 'it returns false'. Refute it at one input. -/
def joinLeastWrong : ChangeSpec := { name := "joinLeast", fn := fun _ => fun
  | [d1, d2, d3] => { results := [.lit (.bool false)], args := [d1, d2, d3] }
  | _ => none }
def JoinLeastWrongFalsely : Prop := joinLeastRow.holds Try.pinned (OpenSpec.ofChange joinLeastWrong)

/-- 'splittallykeep.PackShape': WHATEVER THE INPUT: true; the input reads as it did. -/
def packShapeSpec : ChangeSpec := { name := "packShape", fn := fun _ => fun
  | [d1, d2, d3] => { results := [.lit (.bool true)], args := [d1, d2, d3] }
  | _ => none }
def packShapeRow : OpenClaim := { program := "ytjinbcbpaoophaa", sum := "a3780da2b15db45f3b3880999df1575b8344ae38aeb097443da1d941857a7c92", func := "splittally/splittallykeep.PackShape", spec := "packShape", apart := false }
def PackShapeSaid : Prop := packShapeRow.holds Try.pinned (OpenSpec.ofChange packShapeSpec)

/-- ITS FALSE NEIGHBOUR: 'it returns false'. Refute it at one input. -/
def packShapeWrong : ChangeSpec := { name := "packShape", fn := fun _ => fun
  | [d1, d2, d3] => { results := [.lit (.bool false)], args := [d1, d2, d3] }
  | _ => none }
def PackShapeWrongFalsely : Prop := packShapeRow.holds Try.pinned (OpenSpec.ofChange packShapeWrong)

/-- 'splittallykeep.PackOrder': WHATEVER THE INPUT: true; the input reads as it did. -/
def packOrderSpec : ChangeSpec := { name := "packOrder", fn := fun _ => fun
  | [d1, d2, d3] => { results := [.lit (.bool true)], args := [d1, d2, d3] }
  | _ => none }
def packOrderRow : OpenClaim := { program := "ytjinbcbpaoophaa", sum := "a3780da2b15db45f3b3880999df1575b8344ae38aeb097443da1d941857a7c92", func := "splittally/splittallykeep.PackOrder", spec := "packOrder", apart := false }
def PackOrderSaid : Prop := packOrderRow.holds Try.pinned (OpenSpec.ofChange packOrderSpec)

/-- ITS FALSE NEIGHBOUR: 'it returns false'. Refute it at one input. -/
def packOrderWrong : ChangeSpec := { name := "packOrder", fn := fun _ => fun
  | [d1, d2, d3] => { results := [.lit (.bool false)], args := [d1, d2, d3] }
  | _ => none }
def PackOrderWrongFalsely : Prop := packOrderRow.holds Try.pinned (OpenSpec.ofChange packOrderWrong)

/-- 'splittallykeep.PackParts': WHATEVER THE INPUT: true; the input reads as it did. -/
def packPartsSpec : ChangeSpec := { name := "packParts", fn := fun _ => fun
  | [d1, d2, d3, d4] => { results := [.lit (.bool true)], args := [d1, d2, d3, d4] }
  | _ => none }
def packPartsRow : OpenClaim := { program := "ytjinbcbpaoophaa", sum := "a3780da2b15db45f3b3880999df1575b8344ae38aeb097443da1d941857a7c92", func := "splittally/splittallykeep.PackParts", spec := "packParts", apart := false }
def PackPartsSaid : Prop := packPartsRow.holds Try.pinned (OpenSpec.ofChange packPartsSpec)

/-- ITS FALSE NEIGHBOUR: 'it returns false'. Refute it at one input. -/
def packPartsWrong : ChangeSpec := { name := "packParts", fn := fun _ => fun
  | [d1, d2, d3, d4] => { results := [.lit (.bool false)], args := [d1, d2, d3, d4] }
  | _ => none }
def PackPartsWrongFalsely : Prop := packPartsRow.holds Try.pinned (OpenSpec.ofChange packPartsWrong)

/-- 'splittallykeep.NewerOrder': WHATEVER THE INPUT: true; the input reads as it did. -/
def newerOrderSpec : ChangeSpec := { name := "newerOrder", fn := fun _ => fun
  | [d1, d2, d3] => { results := [.lit (.bool true)], args := [d1, d2, d3] }
  | _ => none }
def newerOrderRow : OpenClaim := { program := "ytjinbcbpaoophaa", sum := "a3780da2b15db45f3b3880999df1575b8344ae38aeb097443da1d941857a7c92", func := "splittally/splittallykeep.NewerOrder", spec := "newerOrder", apart := false }
def NewerOrderSaid : Prop := newerOrderRow.holds Try.pinned (OpenSpec.ofChange newerOrderSpec)

/-- ITS FALSE NEIGHBOUR: 'it returns false'. Refute it at one input. -/
def newerOrderWrong : ChangeSpec := { name := "newerOrder", fn := fun _ => fun
  | [d1, d2, d3] => { results := [.lit (.bool false)], args := [d1, d2, d3] }
  | _ => none }
def NewerOrderWrongFalsely : Prop := newerOrderRow.holds Try.pinned (OpenSpec.ofChange newerOrderWrong)

/-- 'splittallykeep.ClockOrder': WHATEVER THE INPUT: true; the input reads as it did. -/
def clockOrderSpec : ChangeSpec := { name := "clockOrder", fn := fun _ => fun
  | [d1, d2, d3] => { results := [.lit (.bool true)], args := [d1, d2, d3] }
  | _ => none }
def clockOrderRow : OpenClaim := { program := "ytjinbcbpaoophaa", sum := "a3780da2b15db45f3b3880999df1575b8344ae38aeb097443da1d941857a7c92", func := "splittally/splittallykeep.ClockOrder", spec := "clockOrder", unfollowed := true, recurses := true, apart := false }
def ClockOrderSaid : Prop := clockOrderRow.holds Try.pinned (OpenSpec.ofChange clockOrderSpec)

/-- ITS FALSE NEIGHBOUR: 'it returns false'. Refute it at one input. -/
def clockOrderWrong : ChangeSpec := { name := "clockOrder", fn := fun _ => fun
  | [d1, d2, d3] => { results := [.lit (.bool false)], args := [d1, d2, d3] }
  | _ => none }
def ClockOrderWrongFalsely : Prop := clockOrderRow.holds Try.pinned (OpenSpec.ofChange clockOrderWrong)

/-- 'splittallykeep.ShareFair': WHATEVER THE INPUT: true; the input reads as it did. -/
def shareFairSpec : ChangeSpec := { name := "shareFair", fn := fun _ => fun
  | [d1, d2] => { results := [.lit (.bool true)], args := [d1, d2] }
  | _ => none }
def shareFairRow : OpenClaim := { program := "ytjinbcbpaoophaa", sum := "a3780da2b15db45f3b3880999df1575b8344ae38aeb097443da1d941857a7c92", func := "splittally/splittallykeep.ShareFair", spec := "shareFair", unfollowed := true, recurses := true, apart := false }
def ShareFairSaid : Prop := shareFairRow.holds Try.pinned (OpenSpec.ofChange shareFairSpec)

/-- ITS FALSE NEIGHBOUR: 'it returns false'. Refute it at one input. -/
def shareFairWrong : ChangeSpec := { name := "shareFair", fn := fun _ => fun
  | [d1, d2] => { results := [.lit (.bool false)], args := [d1, d2] }
  | _ => none }
def ShareFairWrongFalsely : Prop := shareFairRow.holds Try.pinned (OpenSpec.ofChange shareFairWrong)

/-- 'splittallykeep.ShareWants': WHATEVER THE INPUT: true; the input reads as it did. -/
def shareWantsSpec : ChangeSpec := { name := "shareWants", fn := fun _ => fun
  | [d1, d2, d3, d4] => { results := [.lit (.bool true)], args := [d1, d2, d3, d4] }
  | _ => none }
def shareWantsRow : OpenClaim := { program := "ytjinbcbpaoophaa", sum := "a3780da2b15db45f3b3880999df1575b8344ae38aeb097443da1d941857a7c92", func := "splittally/splittallykeep.ShareWants", spec := "shareWants", unfollowed := true, recurses := true, apart := false }
def ShareWantsSaid : Prop := shareWantsRow.holds Try.pinned (OpenSpec.ofChange shareWantsSpec)

/-- ITS FALSE NEIGHBOUR: 'it returns false'. Refute it at one input. -/
def shareWantsWrong : ChangeSpec := { name := "shareWants", fn := fun _ => fun
  | [d1, d2, d3, d4] => { results := [.lit (.bool false)], args := [d1, d2, d3, d4] }
  | _ => none }
def ShareWantsWrongFalsely : Prop := shareWantsRow.holds Try.pinned (OpenSpec.ofChange shareWantsWrong)

/-- 'splittallykeep.ShareGrows': WHATEVER THE INPUT: true; the input reads as it did. -/
def shareGrowsSpec : ChangeSpec := { name := "shareGrows", fn := fun _ => fun
  | [d1, d2, d3] => { results := [.lit (.bool true)], args := [d1, d2, d3] }
  | _ => none }
def shareGrowsRow : OpenClaim := { program := "ytjinbcbpaoophaa", sum := "a3780da2b15db45f3b3880999df1575b8344ae38aeb097443da1d941857a7c92", func := "splittally/splittallykeep.ShareGrows", spec := "shareGrows", unfollowed := true, recurses := true, apart := false }
def ShareGrowsSaid : Prop := shareGrowsRow.holds Try.pinned (OpenSpec.ofChange shareGrowsSpec)

/-- ITS FALSE NEIGHBOUR: 'it returns false'. Refute it at one input. -/
def shareGrowsWrong : ChangeSpec := { name := "shareGrows", fn := fun _ => fun
  | [d1, d2, d3] => { results := [.lit (.bool false)], args := [d1, d2, d3] }
  | _ => none }
def ShareGrowsWrongFalsely : Prop := shareGrowsRow.holds Try.pinned (OpenSpec.ofChange shareGrowsWrong)

/-- 'splittallykeep.ShareTurn': WHATEVER THE INPUT: true; the input reads as it did. -/
def shareTurnSpec : ChangeSpec := { name := "shareTurn", fn := fun _ => fun
  | [d1, d2, d3, d4] => { results := [.lit (.bool true)], args := [d1, d2, d3, d4] }
  | _ => none }
def shareTurnRow : OpenClaim := { program := "ytjinbcbpaoophaa", sum := "a3780da2b15db45f3b3880999df1575b8344ae38aeb097443da1d941857a7c92", func := "splittally/splittallykeep.ShareTurn", spec := "shareTurn", unfollowed := true, recurses := true, apart := false }
def ShareTurnSaid : Prop := shareTurnRow.holds Try.pinned (OpenSpec.ofChange shareTurnSpec)

/-- ITS FALSE NEIGHBOUR: 'it returns false'. Refute it at one input. -/
def shareTurnWrong : ChangeSpec := { name := "shareTurn", fn := fun _ => fun
  | [d1, d2, d3, d4] => { results := [.lit (.bool false)], args := [d1, d2, d3, d4] }
  | _ => none }
def ShareTurnWrongFalsely : Prop := shareTurnRow.holds Try.pinned (OpenSpec.ofChange shareTurnWrong)

/-- 'splittallykeep.ShareLeaves': WHATEVER THE INPUT: true; the input reads as it did. -/
def shareLeavesSpec : ChangeSpec := { name := "shareLeaves", fn := fun _ => fun
  | [d1, d2, d3] => { results := [.lit (.bool true)], args := [d1, d2, d3] }
  | _ => none }
def shareLeavesRow : OpenClaim := { program := "ytjinbcbpaoophaa", sum := "a3780da2b15db45f3b3880999df1575b8344ae38aeb097443da1d941857a7c92", func := "splittally/splittallykeep.ShareLeaves", spec := "shareLeaves", unfollowed := true, recurses := true, apart := false }
def ShareLeavesSaid : Prop := shareLeavesRow.holds Try.pinned (OpenSpec.ofChange shareLeavesSpec)

/-- ITS FALSE NEIGHBOUR: 'it returns false'. Refute it at one input. -/
def shareLeavesWrong : ChangeSpec := { name := "shareLeaves", fn := fun _ => fun
  | [d1, d2, d3] => { results := [.lit (.bool false)], args := [d1, d2, d3] }
  | _ => none }
def ShareLeavesWrongFalsely : Prop := shareLeavesRow.holds Try.pinned (OpenSpec.ofChange shareLeavesWrong)

/-- 'splittallykeep.ClockOwn': WHATEVER THE INPUT: true; the input reads as it did. -/
def clockOwnSpec : ChangeSpec := { name := "clockOwn", fn := fun _ => fun
  | [d] => { results := [.lit (.bool true)], args := [d] }
  | _ => none }
def clockOwnRow : OpenClaim := { program := "ytjinbcbpaoophaa", sum := "a3780da2b15db45f3b3880999df1575b8344ae38aeb097443da1d941857a7c92", func := "splittally/splittallykeep.ClockOwn", spec := "clockOwn", apart := false }
def ClockOwnSaid : Prop := clockOwnRow.holds Try.pinned (OpenSpec.ofChange clockOwnSpec)

/-- ITS FALSE NEIGHBOUR: 'it returns false'. Refute it at one input. -/
def clockOwnWrong : ChangeSpec := { name := "clockOwn", fn := fun _ => fun
  | [d] => { results := [.lit (.bool false)], args := [d] }
  | _ => none }
def ClockOwnWrongFalsely : Prop := clockOwnRow.holds Try.pinned (OpenSpec.ofChange clockOwnWrong)

/- THE SECOND FORM. 'bulk': how many values and letters a reading holds, each counted each time it is reached (what is shared counts as often as it is met; a slice's spare places count too). A statement '..UptoSaid' is the law's where the arguments, and the package variables that the reading takes, are together of bulk at most 1048576: NARROWER than '..Said'. Prove '..Said' where nothing that the law and all that it calls make is longer than what came in: it says more and counts as full. Else prove '..UptoSaid'. A law counts once. -/
mutual
def uptoBulk {H : Type} : DataW H → Nat
  | .lit (.string bytes) => bytes.length + 1
  | .lit _ => 1
  | .nil => 1
  | .ptr d => uptoBulk d + 1
  | .slice elems spare => uptoBulkAll elems + uptoBulkAll spare + 1
  | .agg parts => uptoBulkAll parts + 1
  | .iface _ d => uptoBulk d + 1
  | .map entries => uptoBulkEntries entries + 1
  | .held _ => 1
def uptoBulkAll {H : Type} : List (DataW H) → Nat
  | [] => 0
  | d :: r => uptoBulk d + uptoBulkAll r
def uptoBulkEntries {H : Type} : List (Lit × DataW H) → Nat
  | [] => 0
  | x :: r => uptoBulkEntry x + uptoBulkEntries r
def uptoBulkEntry {H : Type} : Lit × DataW H → Nat
  | (.string bytes, d) => bytes.length + uptoBulk d + 1
  | (_, d) => uptoBulk d + 1
 end
def uptoSmall : (H : Type) → List (DataW H) → Bool := fun _ ds => decide (uptoBulkAll ds ≤ 1048576)
def OpenSpec.upto (s : _root_.Go.ChangeSpec) : _root_.Go.OpenSpec := { _root_.Go.OpenSpec.ofChange s with cond := some uptoSmall }

/-- 'splittallykeep.FlowsOrder', WHERE WHAT IT READS IS OF BULK AT MOST 1048576: true; the input reads as it did. -/
def flowsOrderUptoRow : OpenClaim := { program := "ytjinbcbpaoophaa", sum := "a3780da2b15db45f3b3880999df1575b8344ae38aeb097443da1d941857a7c92", func := "splittally/splittallykeep.FlowsOrder", spec := "flowsOrder", unfollowed := true, recurses := true, apart := false, narrowed := true }
def FlowsOrderUptoSaid : Prop := flowsOrderUptoRow.holds Try.pinned (OpenSpec.upto flowsOrderSpec)

/-- 'splittallykeep.JoinSpreads', WHERE WHAT IT READS IS OF BULK AT MOST 1048576: true; the input reads as it did. -/
def joinSpreadsUptoRow : OpenClaim := { program := "ytjinbcbpaoophaa", sum := "a3780da2b15db45f3b3880999df1575b8344ae38aeb097443da1d941857a7c92", func := "splittally/splittallykeep.JoinSpreads", spec := "joinSpreads", unfollowed := true, recurses := true, apart := false, narrowed := true }
def JoinSpreadsUptoSaid : Prop := joinSpreadsUptoRow.holds Try.pinned (OpenSpec.upto joinSpreadsSpec)

/-- 'splittallykeep.JoinLeast', WHERE WHAT IT READS IS OF BULK AT MOST 1048576: true; the input reads as it did. -/
def joinLeastUptoRow : OpenClaim := { program := "ytjinbcbpaoophaa", sum := "a3780da2b15db45f3b3880999df1575b8344ae38aeb097443da1d941857a7c92", func := "splittally/splittallykeep.JoinLeast", spec := "joinLeast", unfollowed := true, recurses := true, apart := false, narrowed := true }
def JoinLeastUptoSaid : Prop := joinLeastUptoRow.holds Try.pinned (OpenSpec.upto joinLeastSpec)

/-- 'splittallykeep.PackShape', WHERE WHAT IT READS IS OF BULK AT MOST 1048576: true; the input reads as it did. -/
def packShapeUptoRow : OpenClaim := { program := "ytjinbcbpaoophaa", sum := "a3780da2b15db45f3b3880999df1575b8344ae38aeb097443da1d941857a7c92", func := "splittally/splittallykeep.PackShape", spec := "packShape", apart := false, narrowed := true }
def PackShapeUptoSaid : Prop := packShapeUptoRow.holds Try.pinned (OpenSpec.upto packShapeSpec)

/-- 'splittallykeep.PackOrder', WHERE WHAT IT READS IS OF BULK AT MOST 1048576: true; the input reads as it did. -/
def packOrderUptoRow : OpenClaim := { program := "ytjinbcbpaoophaa", sum := "a3780da2b15db45f3b3880999df1575b8344ae38aeb097443da1d941857a7c92", func := "splittally/splittallykeep.PackOrder", spec := "packOrder", apart := false, narrowed := true }
def PackOrderUptoSaid : Prop := packOrderUptoRow.holds Try.pinned (OpenSpec.upto packOrderSpec)

/-- 'splittallykeep.PackParts', WHERE WHAT IT READS IS OF BULK AT MOST 1048576: true; the input reads as it did. -/
def packPartsUptoRow : OpenClaim := { program := "ytjinbcbpaoophaa", sum := "a3780da2b15db45f3b3880999df1575b8344ae38aeb097443da1d941857a7c92", func := "splittally/splittallykeep.PackParts", spec := "packParts", apart := false, narrowed := true }
def PackPartsUptoSaid : Prop := packPartsUptoRow.holds Try.pinned (OpenSpec.upto packPartsSpec)

/-- 'splittallykeep.NewerOrder', WHERE WHAT IT READS IS OF BULK AT MOST 1048576: true; the input reads as it did. -/
def newerOrderUptoRow : OpenClaim := { program := "ytjinbcbpaoophaa", sum := "a3780da2b15db45f3b3880999df1575b8344ae38aeb097443da1d941857a7c92", func := "splittally/splittallykeep.NewerOrder", spec := "newerOrder", apart := false, narrowed := true }
def NewerOrderUptoSaid : Prop := newerOrderUptoRow.holds Try.pinned (OpenSpec.upto newerOrderSpec)

/-- 'splittallykeep.ClockOrder', WHERE WHAT IT READS IS OF BULK AT MOST 1048576: true; the input reads as it did. -/
def clockOrderUptoRow : OpenClaim := { program := "ytjinbcbpaoophaa", sum := "a3780da2b15db45f3b3880999df1575b8344ae38aeb097443da1d941857a7c92", func := "splittally/splittallykeep.ClockOrder", spec := "clockOrder", unfollowed := true, recurses := true, apart := false, narrowed := true }
def ClockOrderUptoSaid : Prop := clockOrderUptoRow.holds Try.pinned (OpenSpec.upto clockOrderSpec)

/-- 'splittallykeep.ShareFair', WHERE WHAT IT READS IS OF BULK AT MOST 1048576: true; the input reads as it did. -/
def shareFairUptoRow : OpenClaim := { program := "ytjinbcbpaoophaa", sum := "a3780da2b15db45f3b3880999df1575b8344ae38aeb097443da1d941857a7c92", func := "splittally/splittallykeep.ShareFair", spec := "shareFair", unfollowed := true, recurses := true, apart := false, narrowed := true }
def ShareFairUptoSaid : Prop := shareFairUptoRow.holds Try.pinned (OpenSpec.upto shareFairSpec)

/-- 'splittallykeep.ShareWants', WHERE WHAT IT READS IS OF BULK AT MOST 1048576: true; the input reads as it did. -/
def shareWantsUptoRow : OpenClaim := { program := "ytjinbcbpaoophaa", sum := "a3780da2b15db45f3b3880999df1575b8344ae38aeb097443da1d941857a7c92", func := "splittally/splittallykeep.ShareWants", spec := "shareWants", unfollowed := true, recurses := true, apart := false, narrowed := true }
def ShareWantsUptoSaid : Prop := shareWantsUptoRow.holds Try.pinned (OpenSpec.upto shareWantsSpec)

/-- 'splittallykeep.ShareGrows', WHERE WHAT IT READS IS OF BULK AT MOST 1048576: true; the input reads as it did. -/
def shareGrowsUptoRow : OpenClaim := { program := "ytjinbcbpaoophaa", sum := "a3780da2b15db45f3b3880999df1575b8344ae38aeb097443da1d941857a7c92", func := "splittally/splittallykeep.ShareGrows", spec := "shareGrows", unfollowed := true, recurses := true, apart := false, narrowed := true }
def ShareGrowsUptoSaid : Prop := shareGrowsUptoRow.holds Try.pinned (OpenSpec.upto shareGrowsSpec)

/-- 'splittallykeep.ShareTurn', WHERE WHAT IT READS IS OF BULK AT MOST 1048576: true; the input reads as it did. -/
def shareTurnUptoRow : OpenClaim := { program := "ytjinbcbpaoophaa", sum := "a3780da2b15db45f3b3880999df1575b8344ae38aeb097443da1d941857a7c92", func := "splittally/splittallykeep.ShareTurn", spec := "shareTurn", unfollowed := true, recurses := true, apart := false, narrowed := true }
def ShareTurnUptoSaid : Prop := shareTurnUptoRow.holds Try.pinned (OpenSpec.upto shareTurnSpec)

/-- 'splittallykeep.ShareLeaves', WHERE WHAT IT READS IS OF BULK AT MOST 1048576: true; the input reads as it did. -/
def shareLeavesUptoRow : OpenClaim := { program := "ytjinbcbpaoophaa", sum := "a3780da2b15db45f3b3880999df1575b8344ae38aeb097443da1d941857a7c92", func := "splittally/splittallykeep.ShareLeaves", spec := "shareLeaves", unfollowed := true, recurses := true, apart := false, narrowed := true }
def ShareLeavesUptoSaid : Prop := shareLeavesUptoRow.holds Try.pinned (OpenSpec.upto shareLeavesSpec)

/-- 'splittallykeep.ClockOwn', WHERE WHAT IT READS IS OF BULK AT MOST 1048576: true; the input reads as it did. -/
def clockOwnUptoRow : OpenClaim := { program := "ytjinbcbpaoophaa", sum := "a3780da2b15db45f3b3880999df1575b8344ae38aeb097443da1d941857a7c92", func := "splittally/splittallykeep.ClockOwn", spec := "clockOwn", apart := false, narrowed := true }
def ClockOwnUptoSaid : Prop := clockOwnUptoRow.holds Try.pinned (OpenSpec.upto clockOwnSpec)

end Rows
end Go.Proofs.Ytjinbcbpaoophaa
