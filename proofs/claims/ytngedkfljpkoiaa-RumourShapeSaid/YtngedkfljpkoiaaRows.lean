/-
  No cell of these rows narrows 'for every input' (looked for: loops, veiled, ifaces, maps, wideKeys, modest, calm, conditions, laid).
  DERIVED. THE GIVEN ROWS OF THIS SEAT. 7 by the template 'for every input the law returns true; each argument reads behind the call as it read before'; 0 by the template 'total and deterministic' (their statements: YtngedkfljpkoiaaTotals.lean).
  GIVEN WITH THE SEED: the statements are not yours to turn. If you find one false, say at which input.
  Laid BY PROGRAM, IN A SANDBOX (cutbox-rows.mjs): the forced cells as the released guide's own fill.sh prints them over the translation d65efa08a5d9b3a6… (all of the seat's roots in one cut). By AI agents, Wed Nov 11 2026. No macro, syntax, notation, axiom, sorry.
-/
import Derived.Test.YtngedkfljpkoiaaChecked
import GoSem.Claim
import GoSem.ClaimJoined
import GoSem.ClaimMapViews
import Derived.JoinedTies
import Derived.KernelRfl
namespace Go.Proofs.Ytngedkfljpkoiaa
/- THE CELL 'sum', in the pinned program and in every row, IS THE sha256 OF THE DUMP (.gsa) THAT YtngedkfljpkoiaaProg.lean LOADS. Nothing in Lean hashes anything: it is a label: what it is worth is what the hold of that sum in a sandbox is worth. -/
noncomputable def Try.pinned : Pinned := { name := "ytngedkfljpkoiaa", sum := "d65efa08a5d9b3a6df4da79f18eb094a2c7402f0123c21c2a3cebaba8d85c352", checked := Try.checked }
namespace Rows
def none {H : Type} : Left H := { results := [], args := [] }

/-- 'splittallykeep.GossipMeets': WHATEVER THE INPUT: true; the input reads as it did. -/
def gossipMeetsSpec : ChangeSpec := { name := "gossipMeets", fn := fun _ => fun
  | [d1, d2] => { results := [.lit (.bool true)], args := [d1, d2] }
  | _ => none }
def gossipMeetsRow : OpenClaim := { program := "ytngedkfljpkoiaa", sum := "d65efa08a5d9b3a6df4da79f18eb094a2c7402f0123c21c2a3cebaba8d85c352", func := "splittally/splittallykeep.GossipMeets", spec := "gossipMeets", inPlace := ["slices.overlaps[splittally/api.Entry]"], unfollowed := true, recurses := true, apart := false }
def GossipMeetsSaid : Prop := gossipMeetsRow.holds Try.pinned (OpenSpec.ofChange gossipMeetsSpec)

/-- ITS FALSE NEIGHBOUR: 'it returns false'. Refute it at one input. -/
def gossipMeetsWrong : ChangeSpec := { name := "gossipMeets", fn := fun _ => fun
  | [d1, d2] => { results := [.lit (.bool false)], args := [d1, d2] }
  | _ => none }
def GossipMeetsWrongFalsely : Prop := gossipMeetsRow.holds Try.pinned (OpenSpec.ofChange gossipMeetsWrong)

/-- 'splittallykeep.GossipKeeps': WHATEVER THE INPUT: true; the input reads as it did. -/
def gossipKeepsSpec : ChangeSpec := { name := "gossipKeeps", fn := fun _ => fun
  | [d1, d2] => { results := [.lit (.bool true)], args := [d1, d2] }
  | _ => none }
def gossipKeepsRow : OpenClaim := { program := "ytngedkfljpkoiaa", sum := "d65efa08a5d9b3a6df4da79f18eb094a2c7402f0123c21c2a3cebaba8d85c352", func := "splittally/splittallykeep.GossipKeeps", spec := "gossipKeeps", inPlace := ["slices.overlaps[splittally/api.Entry]"], unfollowed := true, recurses := true, apart := false }
def GossipKeepsSaid : Prop := gossipKeepsRow.holds Try.pinned (OpenSpec.ofChange gossipKeepsSpec)

/-- ITS FALSE NEIGHBOUR: 'it returns false'. Refute it at one input. -/
def gossipKeepsWrong : ChangeSpec := { name := "gossipKeeps", fn := fun _ => fun
  | [d1, d2] => { results := [.lit (.bool false)], args := [d1, d2] }
  | _ => none }
def GossipKeepsWrongFalsely : Prop := gossipKeepsRow.holds Try.pinned (OpenSpec.ofChange gossipKeepsWrong)

/-- 'splittallykeep.GossipBlind': WHATEVER THE INPUT: true; the input reads as it did. -/
def gossipBlindSpec : ChangeSpec := { name := "gossipBlind", fn := fun _ => fun
  | [d1, d2, d3, d4] => { results := [.lit (.bool true)], args := [d1, d2, d3, d4] }
  | _ => none }
def gossipBlindRow : OpenClaim := { program := "ytngedkfljpkoiaa", sum := "d65efa08a5d9b3a6df4da79f18eb094a2c7402f0123c21c2a3cebaba8d85c352", func := "splittally/splittallykeep.GossipBlind", spec := "gossipBlind", inPlace := ["slices.overlaps[splittally/api.Entry]"], unfollowed := true, recurses := true, apart := false }
def GossipBlindSaid : Prop := gossipBlindRow.holds Try.pinned (OpenSpec.ofChange gossipBlindSpec)

/-- ITS FALSE NEIGHBOUR: 'it returns false'. Refute it at one input. -/
def gossipBlindWrong : ChangeSpec := { name := "gossipBlind", fn := fun _ => fun
  | [d1, d2, d3, d4] => { results := [.lit (.bool false)], args := [d1, d2, d3, d4] }
  | _ => none }
def GossipBlindWrongFalsely : Prop := gossipBlindRow.holds Try.pinned (OpenSpec.ofChange gossipBlindWrong)

/-- 'splittallykeep.GossipLast': WHATEVER THE INPUT: true; the input reads as it did. -/
def gossipLastSpec : ChangeSpec := { name := "gossipLast", fn := fun _ => fun
  | [d1, d2, d3, d4, d5] => { results := [.lit (.bool true)], args := [d1, d2, d3, d4, d5] }
  | _ => none }
def gossipLastRow : OpenClaim := { program := "ytngedkfljpkoiaa", sum := "d65efa08a5d9b3a6df4da79f18eb094a2c7402f0123c21c2a3cebaba8d85c352", func := "splittally/splittallykeep.GossipLast", spec := "gossipLast", inPlace := ["slices.overlaps[splittally/api.Entry]"], unfollowed := true, recurses := true, apart := false }
def GossipLastSaid : Prop := gossipLastRow.holds Try.pinned (OpenSpec.ofChange gossipLastSpec)

/-- ITS FALSE NEIGHBOUR: 'it returns false'. Refute it at one input. -/
def gossipLastWrong : ChangeSpec := { name := "gossipLast", fn := fun _ => fun
  | [d1, d2, d3, d4, d5] => { results := [.lit (.bool false)], args := [d1, d2, d3, d4, d5] }
  | _ => none }
def GossipLastWrongFalsely : Prop := gossipLastRow.holds Try.pinned (OpenSpec.ofChange gossipLastWrong)

/-- 'splittallykeep.GossipErases': WHATEVER THE INPUT: true; the input reads as it did. -/
def gossipErasesSpec : ChangeSpec := { name := "gossipErases", fn := fun _ => fun
  | [d1, d2, d3, d4, d5] => { results := [.lit (.bool true)], args := [d1, d2, d3, d4, d5] }
  | _ => none }
def gossipErasesRow : OpenClaim := { program := "ytngedkfljpkoiaa", sum := "d65efa08a5d9b3a6df4da79f18eb094a2c7402f0123c21c2a3cebaba8d85c352", func := "splittally/splittallykeep.GossipErases", spec := "gossipErases", inPlace := ["slices.overlaps[splittally/api.Entry]"], unfollowed := true, recurses := true, apart := false }
def GossipErasesSaid : Prop := gossipErasesRow.holds Try.pinned (OpenSpec.ofChange gossipErasesSpec)

/-- ITS FALSE NEIGHBOUR: 'it returns false'. Refute it at one input. -/
def gossipErasesWrong : ChangeSpec := { name := "gossipErases", fn := fun _ => fun
  | [d1, d2, d3, d4, d5] => { results := [.lit (.bool false)], args := [d1, d2, d3, d4, d5] }
  | _ => none }
def GossipErasesWrongFalsely : Prop := gossipErasesRow.holds Try.pinned (OpenSpec.ofChange gossipErasesWrong)

/-- 'splittallykeep.RumourShape': WHATEVER THE INPUT: true; the input reads as it did. -/
def rumourShapeSpec : ChangeSpec := { name := "rumourShape", fn := fun _ => fun
  | [d1, d2, d3, d4, d5, d6, d7] => { results := [.lit (.bool true)], args := [d1, d2, d3, d4, d5, d6, d7] }
  | _ => none }
def rumourShapeRow : OpenClaim := { program := "ytngedkfljpkoiaa", sum := "d65efa08a5d9b3a6df4da79f18eb094a2c7402f0123c21c2a3cebaba8d85c352", func := "splittally/splittallykeep.RumourShape", spec := "rumourShape", inPlace := ["slices.overlaps[splittally/api.Entry]"], unfollowed := true, recurses := true, apart := false }
def RumourShapeSaid : Prop := rumourShapeRow.holds Try.pinned (OpenSpec.ofChange rumourShapeSpec)

/-- ITS FALSE NEIGHBOUR: 'it returns false'. Refute it at one input. -/
def rumourShapeWrong : ChangeSpec := { name := "rumourShape", fn := fun _ => fun
  | [d1, d2, d3, d4, d5, d6, d7] => { results := [.lit (.bool false)], args := [d1, d2, d3, d4, d5, d6, d7] }
  | _ => none }
def RumourShapeWrongFalsely : Prop := rumourShapeRow.holds Try.pinned (OpenSpec.ofChange rumourShapeWrong)

/-- 'splittallykeep.RumourBack': WHATEVER THE INPUT: true; the input reads as it did. -/
def rumourBackSpec : ChangeSpec := { name := "rumourBack", fn := fun _ => fun
  | [d1, d2, d3, d4, d5, d6] => { results := [.lit (.bool true)], args := [d1, d2, d3, d4, d5, d6] }
  | _ => none }
def rumourBackRow : OpenClaim := { program := "ytngedkfljpkoiaa", sum := "d65efa08a5d9b3a6df4da79f18eb094a2c7402f0123c21c2a3cebaba8d85c352", func := "splittally/splittallykeep.RumourBack", spec := "rumourBack", inPlace := ["slices.overlaps[splittally/api.Entry]"], unfollowed := true, recurses := true, apart := false }
def RumourBackSaid : Prop := rumourBackRow.holds Try.pinned (OpenSpec.ofChange rumourBackSpec)

/-- ITS FALSE NEIGHBOUR: 'it returns false'. Refute it at one input. -/
def rumourBackWrong : ChangeSpec := { name := "rumourBack", fn := fun _ => fun
  | [d1, d2, d3, d4, d5, d6] => { results := [.lit (.bool false)], args := [d1, d2, d3, d4, d5, d6] }
  | _ => none }
def RumourBackWrongFalsely : Prop := rumourBackRow.holds Try.pinned (OpenSpec.ofChange rumourBackWrong)

/- THE SECOND FORM. 'bulk': how many values and letters a reading holds, each counted each time it is reached (what is shared counts as often as it is met; a slice's spare places count too). A statement '..UptoSaid' is the law's where the arguments, and the package variables that the reading takes, are together of bulk at most 1048576: NARROWER than '..Said'. Prove '..Said' where nothing that the law and all that it calls make is longer than what came in: it says more and counts as full. Else prove '..UptoSaid'. A law counts once. -/
mutual
def uptoBulk {H : Type} : DataW H → Nat
  | .lit (.string bytes) => bytes.length + 1
  | .lit _ => 1
  | .nil => 1
  | .ptr d => uptoBulk d + 1
  | .slice elems spare => uptoBulkAll elems + uptoBulkAll spare + 1
  | .agg parts => uptoBulkAll parts + 1
  | .iface _ d => uptoBulk d + 1
  | .map entries => uptoBulkEntries entries + 1
  | .held _ => 1
def uptoBulkAll {H : Type} : List (DataW H) → Nat
  | [] => 0
  | d :: r => uptoBulk d + uptoBulkAll r
def uptoBulkEntries {H : Type} : List (Lit × DataW H) → Nat
  | [] => 0
  | x :: r => uptoBulkEntry x + uptoBulkEntries r
def uptoBulkEntry {H : Type} : Lit × DataW H → Nat
  | (.string bytes, d) => bytes.length + uptoBulk d + 1
  | (_, d) => uptoBulk d + 1
 end
def uptoSmall : (H : Type) → List (DataW H) → Bool := fun _ ds => decide (uptoBulkAll ds ≤ 1048576)
def OpenSpec.upto (s : _root_.Go.ChangeSpec) : _root_.Go.OpenSpec := { _root_.Go.OpenSpec.ofChange s with cond := some uptoSmall }

/-- 'splittallykeep.GossipMeets', WHERE WHAT IT READS IS OF BULK AT MOST 1048576: true; the input reads as it did. -/
def gossipMeetsUptoRow : OpenClaim := { program := "ytngedkfljpkoiaa", sum := "d65efa08a5d9b3a6df4da79f18eb094a2c7402f0123c21c2a3cebaba8d85c352", func := "splittally/splittallykeep.GossipMeets", spec := "gossipMeets", inPlace := ["slices.overlaps[splittally/api.Entry]"], unfollowed := true, recurses := true, apart := false, narrowed := true }
def GossipMeetsUptoSaid : Prop := gossipMeetsUptoRow.holds Try.pinned (OpenSpec.upto gossipMeetsSpec)

/-- 'splittallykeep.GossipKeeps', WHERE WHAT IT READS IS OF BULK AT MOST 1048576: true; the input reads as it did. -/
def gossipKeepsUptoRow : OpenClaim := { program := "ytngedkfljpkoiaa", sum := "d65efa08a5d9b3a6df4da79f18eb094a2c7402f0123c21c2a3cebaba8d85c352", func := "splittally/splittallykeep.GossipKeeps", spec := "gossipKeeps", inPlace := ["slices.overlaps[splittally/api.Entry]"], unfollowed := true, recurses := true, apart := false, narrowed := true }
def GossipKeepsUptoSaid : Prop := gossipKeepsUptoRow.holds Try.pinned (OpenSpec.upto gossipKeepsSpec)

/-- 'splittallykeep.GossipBlind', WHERE WHAT IT READS IS OF BULK AT MOST 1048576: true; the input reads as it did. -/
def gossipBlindUptoRow : OpenClaim := { program := "ytngedkfljpkoiaa", sum := "d65efa08a5d9b3a6df4da79f18eb094a2c7402f0123c21c2a3cebaba8d85c352", func := "splittally/splittallykeep.GossipBlind", spec := "gossipBlind", inPlace := ["slices.overlaps[splittally/api.Entry]"], unfollowed := true, recurses := true, apart := false, narrowed := true }
def GossipBlindUptoSaid : Prop := gossipBlindUptoRow.holds Try.pinned (OpenSpec.upto gossipBlindSpec)

/-- 'splittallykeep.GossipLast', WHERE WHAT IT READS IS OF BULK AT MOST 1048576: true; the input reads as it did. -/
def gossipLastUptoRow : OpenClaim := { program := "ytngedkfljpkoiaa", sum := "d65efa08a5d9b3a6df4da79f18eb094a2c7402f0123c21c2a3cebaba8d85c352", func := "splittally/splittallykeep.GossipLast", spec := "gossipLast", inPlace := ["slices.overlaps[splittally/api.Entry]"], unfollowed := true, recurses := true, apart := false, narrowed := true }
def GossipLastUptoSaid : Prop := gossipLastUptoRow.holds Try.pinned (OpenSpec.upto gossipLastSpec)

/-- 'splittallykeep.GossipErases', WHERE WHAT IT READS IS OF BULK AT MOST 1048576: true; the input reads as it did. -/
def gossipErasesUptoRow : OpenClaim := { program := "ytngedkfljpkoiaa", sum := "d65efa08a5d9b3a6df4da79f18eb094a2c7402f0123c21c2a3cebaba8d85c352", func := "splittally/splittallykeep.GossipErases", spec := "gossipErases", inPlace := ["slices.overlaps[splittally/api.Entry]"], unfollowed := true, recurses := true, apart := false, narrowed := true }
def GossipErasesUptoSaid : Prop := gossipErasesUptoRow.holds Try.pinned (OpenSpec.upto gossipErasesSpec)

/-- 'splittallykeep.RumourShape', WHERE WHAT IT READS IS OF BULK AT MOST 1048576: true; the input reads as it did. -/
def rumourShapeUptoRow : OpenClaim := { program := "ytngedkfljpkoiaa", sum := "d65efa08a5d9b3a6df4da79f18eb094a2c7402f0123c21c2a3cebaba8d85c352", func := "splittally/splittallykeep.RumourShape", spec := "rumourShape", inPlace := ["slices.overlaps[splittally/api.Entry]"], unfollowed := true, recurses := true, apart := false, narrowed := true }
def RumourShapeUptoSaid : Prop := rumourShapeUptoRow.holds Try.pinned (OpenSpec.upto rumourShapeSpec)

/-- 'splittallykeep.RumourBack', WHERE WHAT IT READS IS OF BULK AT MOST 1048576: true; the input reads as it did. -/
def rumourBackUptoRow : OpenClaim := { program := "ytngedkfljpkoiaa", sum := "d65efa08a5d9b3a6df4da79f18eb094a2c7402f0123c21c2a3cebaba8d85c352", func := "splittally/splittallykeep.RumourBack", spec := "rumourBack", inPlace := ["slices.overlaps[splittally/api.Entry]"], unfollowed := true, recurses := true, apart := false, narrowed := true }
def RumourBackUptoSaid : Prop := rumourBackUptoRow.holds Try.pinned (OpenSpec.upto rumourBackSpec)

end Rows
end Go.Proofs.Ytngedkfljpkoiaa
