/-
  NARROWER THAN 'FOR EVERY INPUT', by the rows' own cells (each row's printed sentence says how): WorldSums: laid · WorldMeets: laid · WorldOld: laid · WorldSwaps: laid · ViewTwice: laid · ViewAll: laid · ViewLess: laid · TopBlind: laid.
  DERIVED. THE GIVEN ROWS OF THIS SEAT. 8 by the template 'for every input the law returns true; each argument reads behind the call as it read before'; 0 by the template 'total and deterministic' (their statements: YtjdedflfdlhkdaaGreatDoorTotals.lean).
  GIVEN WITH THE SEED: the statements are not yours to turn. If you find one false, say at which input.
  Laid BY PROGRAM, IN A SANDBOX (cutbox-rows.mjs): the forced cells as the released guide's own fill.sh prints them over the translation 31c08e6493628e42… (all of the seat's roots in one cut). By AI agents, Wed Nov 11 2026. No macro, syntax, notation, axiom, sorry.
-/
import Derived.Test.YtjdedflfdlhkdaaGreatDoorChecked
import GoSem.Claim
import GoSem.ClaimJoined
import GoSem.ClaimMapViews
import Derived.JoinedTies
import Derived.KernelRfl
namespace Go.Proofs.YtjdedflfdlhkdaaGreatDoor
/- THE CELL 'sum', in the pinned program and in every row, IS THE sha256 OF THE DUMP (.gsa) THAT YtjdedflfdlhkdaaGreatDoorProg.lean LOADS. Nothing in Lean hashes anything: it is a label: what it is worth is what the hold of that sum in a sandbox is worth. -/
noncomputable def Tryz.pinned : Pinned := { name := "ytjdedflfdlhkdaagreatdoor", sum := "31c08e6493628e42939a380a75933f366f04bce2ad88e0d585145922d57fd6d0", checked := Tryz.checked }
namespace Rows
def none {H : Type} : Left H := { results := [], args := [] }

/- WHAT THE LISTED PACKAGE-LEVEL VARIABLES READ AS WHEN THE CALL BEGINS. Each datum BY PROGRAM (the guide's laid-datum.mjs) off the statement by which the dump's own 'gosem.cut.vars' lays the variable. In a bare row this is a premise. The card (YtjdedflfdlhkdaaGreatDoorCards.lean) ties it to the program's text. -/
def laid_splittally_world_orders {H : Type} : DataW H := .agg [.lit (.int .i64 2), .lit (.int .i64 3), .lit (.int .i64 4), .lit (.int .i64 5), .lit (.int .i64 6)]

/-- 'splittallykeep.WorldSums': WHATEVER THE INPUT: true; the input reads as it did. -/
def worldSumsSpec : ChangeSpec := { name := "worldSums", fn := fun _ => fun
  | [d1, d2, d3, d4, d5] => { results := [.lit (.bool true)], args := [d1, d2, d3, d4, d5] }
  | _ => none }
def worldSumsRow : OpenClaim := { program := "ytjdedflfdlhkdaagreatdoor", sum := "31c08e6493628e42939a380a75933f366f04bce2ad88e0d585145922d57fd6d0", func := "splittally/splittallykeep.WorldSums", spec := "worldSums", inPlace := ["slices.overlaps[splittally/api.Entry]"], unfollowed := true, recurses := true, named := ["splittally/world.orders"], plainKeys := false, apart := false, laid := [("splittally/world.orders", laid_splittally_world_orders)] }
def WorldSumsSaid : Prop := worldSumsRow.holds Tryz.pinned (OpenSpec.ofChange worldSumsSpec)

/-- ITS FALSE NEIGHBOUR: 'it returns false'. Refute it at one input. -/
def worldSumsWrong : ChangeSpec := { name := "worldSums", fn := fun _ => fun
  | [d1, d2, d3, d4, d5] => { results := [.lit (.bool false)], args := [d1, d2, d3, d4, d5] }
  | _ => none }
def WorldSumsWrongFalsely : Prop := worldSumsRow.holds Tryz.pinned (OpenSpec.ofChange worldSumsWrong)

/-- 'splittallykeep.WorldMeets': WHATEVER THE INPUT: true; the input reads as it did. -/
def worldMeetsSpec : ChangeSpec := { name := "worldMeets", fn := fun _ => fun
  | [d1, d2] => { results := [.lit (.bool true)], args := [d1, d2] }
  | _ => none }
def worldMeetsRow : OpenClaim := { program := "ytjdedflfdlhkdaagreatdoor", sum := "31c08e6493628e42939a380a75933f366f04bce2ad88e0d585145922d57fd6d0", func := "splittally/splittallykeep.WorldMeets", spec := "worldMeets", inPlace := ["slices.overlaps[splittally/api.Entry]"], unfollowed := true, recurses := true, named := ["splittally/world.orders"], plainKeys := false, apart := false, laid := [("splittally/world.orders", laid_splittally_world_orders)] }
def WorldMeetsSaid : Prop := worldMeetsRow.holds Tryz.pinned (OpenSpec.ofChange worldMeetsSpec)

/-- ITS FALSE NEIGHBOUR: 'it returns false'. Refute it at one input. -/
def worldMeetsWrong : ChangeSpec := { name := "worldMeets", fn := fun _ => fun
  | [d1, d2] => { results := [.lit (.bool false)], args := [d1, d2] }
  | _ => none }
def WorldMeetsWrongFalsely : Prop := worldMeetsRow.holds Tryz.pinned (OpenSpec.ofChange worldMeetsWrong)

/-- 'splittallykeep.WorldOld': WHATEVER THE INPUT: true; the input reads as it did. -/
def worldOldSpec : ChangeSpec := { name := "worldOld", fn := fun _ => fun
  | [d1, d2, d3, d4, d5, d6, d7] => { results := [.lit (.bool true)], args := [d1, d2, d3, d4, d5, d6, d7] }
  | _ => none }
def worldOldRow : OpenClaim := { program := "ytjdedflfdlhkdaagreatdoor", sum := "31c08e6493628e42939a380a75933f366f04bce2ad88e0d585145922d57fd6d0", func := "splittally/splittallykeep.WorldOld", spec := "worldOld", inPlace := ["slices.overlaps[splittally/api.Entry]"], unfollowed := true, recurses := true, named := ["splittally/world.orders"], plainKeys := false, apart := false, laid := [("splittally/world.orders", laid_splittally_world_orders)] }
def WorldOldSaid : Prop := worldOldRow.holds Tryz.pinned (OpenSpec.ofChange worldOldSpec)

/-- ITS FALSE NEIGHBOUR: 'it returns false'. Refute it at one input. -/
def worldOldWrong : ChangeSpec := { name := "worldOld", fn := fun _ => fun
  | [d1, d2, d3, d4, d5, d6, d7] => { results := [.lit (.bool false)], args := [d1, d2, d3, d4, d5, d6, d7] }
  | _ => none }
def WorldOldWrongFalsely : Prop := worldOldRow.holds Tryz.pinned (OpenSpec.ofChange worldOldWrong)

/-- 'splittallykeep.WorldSwaps': WHATEVER THE INPUT: true; the input reads as it did. -/
def worldSwapsSpec : ChangeSpec := { name := "worldSwaps", fn := fun _ => fun
  | [d1, d2, d3, d4, d5, d6, d7, d8] => { results := [.lit (.bool true)], args := [d1, d2, d3, d4, d5, d6, d7, d8] }
  | _ => none }
def worldSwapsRow : OpenClaim := { program := "ytjdedflfdlhkdaagreatdoor", sum := "31c08e6493628e42939a380a75933f366f04bce2ad88e0d585145922d57fd6d0", func := "splittally/splittallykeep.WorldSwaps", spec := "worldSwaps", inPlace := ["slices.overlaps[splittally/api.Entry]"], unfollowed := true, recurses := true, named := ["splittally/world.orders"], plainKeys := false, apart := false, laid := [("splittally/world.orders", laid_splittally_world_orders)] }
def WorldSwapsSaid : Prop := worldSwapsRow.holds Tryz.pinned (OpenSpec.ofChange worldSwapsSpec)

/-- ITS FALSE NEIGHBOUR: 'it returns false'. Refute it at one input. -/
def worldSwapsWrong : ChangeSpec := { name := "worldSwaps", fn := fun _ => fun
  | [d1, d2, d3, d4, d5, d6, d7, d8] => { results := [.lit (.bool false)], args := [d1, d2, d3, d4, d5, d6, d7, d8] }
  | _ => none }
def WorldSwapsWrongFalsely : Prop := worldSwapsRow.holds Tryz.pinned (OpenSpec.ofChange worldSwapsWrong)

/-- 'splittallykeep.ViewTwice': WHATEVER THE INPUT: true; the input reads as it did. -/
def viewTwiceSpec : ChangeSpec := { name := "viewTwice", fn := fun _ => fun
  | [d1, d2, d3, d4] => { results := [.lit (.bool true)], args := [d1, d2, d3, d4] }
  | _ => none }
def viewTwiceRow : OpenClaim := { program := "ytjdedflfdlhkdaagreatdoor", sum := "31c08e6493628e42939a380a75933f366f04bce2ad88e0d585145922d57fd6d0", func := "splittally/splittallykeep.ViewTwice", spec := "viewTwice", inPlace := ["slices.overlaps[splittally/api.Entry]"], unfollowed := true, recurses := true, named := ["splittally/world.orders"], plainKeys := false, apart := false, laid := [("splittally/world.orders", laid_splittally_world_orders)] }
def ViewTwiceSaid : Prop := viewTwiceRow.holds Tryz.pinned (OpenSpec.ofChange viewTwiceSpec)

/-- ITS FALSE NEIGHBOUR: 'it returns false'. Refute it at one input. -/
def viewTwiceWrong : ChangeSpec := { name := "viewTwice", fn := fun _ => fun
  | [d1, d2, d3, d4] => { results := [.lit (.bool false)], args := [d1, d2, d3, d4] }
  | _ => none }
def ViewTwiceWrongFalsely : Prop := viewTwiceRow.holds Tryz.pinned (OpenSpec.ofChange viewTwiceWrong)

/-- 'splittallykeep.ViewAll': WHATEVER THE INPUT: true; the input reads as it did. -/
def viewAllSpec : ChangeSpec := { name := "viewAll", fn := fun _ => fun
  | [d1, d2, d3] => { results := [.lit (.bool true)], args := [d1, d2, d3] }
  | _ => none }
def viewAllRow : OpenClaim := { program := "ytjdedflfdlhkdaagreatdoor", sum := "31c08e6493628e42939a380a75933f366f04bce2ad88e0d585145922d57fd6d0", func := "splittally/splittallykeep.ViewAll", spec := "viewAll", inPlace := ["slices.overlaps[splittally/api.Entry]"], unfollowed := true, recurses := true, named := ["splittally/world.orders"], plainKeys := false, apart := false, laid := [("splittally/world.orders", laid_splittally_world_orders)] }
def ViewAllSaid : Prop := viewAllRow.holds Tryz.pinned (OpenSpec.ofChange viewAllSpec)

/-- ITS FALSE NEIGHBOUR: 'it returns false'. Refute it at one input. -/
def viewAllWrong : ChangeSpec := { name := "viewAll", fn := fun _ => fun
  | [d1, d2, d3] => { results := [.lit (.bool false)], args := [d1, d2, d3] }
  | _ => none }
def ViewAllWrongFalsely : Prop := viewAllRow.holds Tryz.pinned (OpenSpec.ofChange viewAllWrong)

/-- 'splittallykeep.ViewLess': WHATEVER THE INPUT: true; the input reads as it did. -/
def viewLessSpec : ChangeSpec := { name := "viewLess", fn := fun _ => fun
  | [d1, d2, d3, d4] => { results := [.lit (.bool true)], args := [d1, d2, d3, d4] }
  | _ => none }
def viewLessRow : OpenClaim := { program := "ytjdedflfdlhkdaagreatdoor", sum := "31c08e6493628e42939a380a75933f366f04bce2ad88e0d585145922d57fd6d0", func := "splittally/splittallykeep.ViewLess", spec := "viewLess", inPlace := ["slices.overlaps[splittally/api.Entry]"], unfollowed := true, recurses := true, named := ["splittally/world.orders"], plainKeys := false, apart := false, laid := [("splittally/world.orders", laid_splittally_world_orders)] }
def ViewLessSaid : Prop := viewLessRow.holds Tryz.pinned (OpenSpec.ofChange viewLessSpec)

/-- ITS FALSE NEIGHBOUR: 'it returns false'. Refute it at one input. -/
def viewLessWrong : ChangeSpec := { name := "viewLess", fn := fun _ => fun
  | [d1, d2, d3, d4] => { results := [.lit (.bool false)], args := [d1, d2, d3, d4] }
  | _ => none }
def ViewLessWrongFalsely : Prop := viewLessRow.holds Tryz.pinned (OpenSpec.ofChange viewLessWrong)

/-- 'splittallytop.TopBlind': WHATEVER THE INPUT: true; the input reads as it did. -/
def topBlindSpec : ChangeSpec := { name := "topBlind", fn := fun _ => fun
  | [d1, d2, d3, d4, d5, d6, d7] => { results := [.lit (.bool true)], args := [d1, d2, d3, d4, d5, d6, d7] }
  | _ => none }
def topBlindRow : OpenClaim := { program := "ytjdedflfdlhkdaagreatdoor", sum := "31c08e6493628e42939a380a75933f366f04bce2ad88e0d585145922d57fd6d0", func := "splittally/splittallytop.TopBlind", spec := "topBlind", inPlace := ["slices.overlaps[splittally/api.Entry]"], unfollowed := true, recurses := true, named := ["splittally/world.orders"], plainKeys := false, apart := false, laid := [("splittally/world.orders", laid_splittally_world_orders)] }
def TopBlindSaid : Prop := topBlindRow.holds Tryz.pinned (OpenSpec.ofChange topBlindSpec)

/-- ITS FALSE NEIGHBOUR: 'it returns false'. Refute it at one input. -/
def topBlindWrong : ChangeSpec := { name := "topBlind", fn := fun _ => fun
  | [d1, d2, d3, d4, d5, d6, d7] => { results := [.lit (.bool false)], args := [d1, d2, d3, d4, d5, d6, d7] }
  | _ => none }
def TopBlindWrongFalsely : Prop := topBlindRow.holds Tryz.pinned (OpenSpec.ofChange topBlindWrong)

/- THE SECOND FORM. 'bulk': how many values and letters a reading holds, each counted each time it is reached (what is shared counts as often as it is met; a slice's spare places count too). A statement '..UptoSaid' is the law's where the arguments, and the package variables that the reading takes, are together of bulk at most 1048576: NARROWER than '..Said'. Prove '..Said' where nothing that the law and all that it calls make is longer than what came in: it says more and counts as full. Else prove '..UptoSaid'. A law counts once. -/
mutual
def uptoBulk {H : Type} : DataW H → Nat
  | .lit (.string bytes) => bytes.length + 1
  | .lit _ => 1
  | .nil => 1
  | .ptr d => uptoBulk d + 1
  | .slice elems spare => uptoBulkAll elems + uptoBulkAll spare + 1
  | .agg parts => uptoBulkAll parts + 1
  | .iface _ d => uptoBulk d + 1
  | .map entries => uptoBulkEntries entries + 1
  | .held _ => 1
def uptoBulkAll {H : Type} : List (DataW H) → Nat
  | [] => 0
  | d :: r => uptoBulk d + uptoBulkAll r
def uptoBulkEntries {H : Type} : List (Lit × DataW H) → Nat
  | [] => 0
  | x :: r => uptoBulkEntry x + uptoBulkEntries r
def uptoBulkEntry {H : Type} : Lit × DataW H → Nat
  | (.string bytes, d) => bytes.length + uptoBulk d + 1
  | (_, d) => uptoBulk d + 1
 end
def uptoSmall : (H : Type) → List (DataW H) → Bool := fun _ ds => decide (uptoBulkAll ds ≤ 1048576)
def OpenSpec.upto (s : _root_.Go.ChangeSpec) : _root_.Go.OpenSpec := { _root_.Go.OpenSpec.ofChange s with cond := some uptoSmall }

/-- 'splittallykeep.WorldSums', WHERE WHAT IT READS IS OF BULK AT MOST 1048576: true; the input reads as it did. -/
def worldSumsUptoRow : OpenClaim := { program := "ytjdedflfdlhkdaagreatdoor", sum := "31c08e6493628e42939a380a75933f366f04bce2ad88e0d585145922d57fd6d0", func := "splittally/splittallykeep.WorldSums", spec := "worldSums", inPlace := ["slices.overlaps[splittally/api.Entry]"], unfollowed := true, recurses := true, named := ["splittally/world.orders"], plainKeys := false, apart := false, laid := [("splittally/world.orders", laid_splittally_world_orders)], narrowed := true }
def WorldSumsUptoSaid : Prop := worldSumsUptoRow.holds Tryz.pinned (OpenSpec.upto worldSumsSpec)

/-- 'splittallykeep.WorldMeets', WHERE WHAT IT READS IS OF BULK AT MOST 1048576: true; the input reads as it did. -/
def worldMeetsUptoRow : OpenClaim := { program := "ytjdedflfdlhkdaagreatdoor", sum := "31c08e6493628e42939a380a75933f366f04bce2ad88e0d585145922d57fd6d0", func := "splittally/splittallykeep.WorldMeets", spec := "worldMeets", inPlace := ["slices.overlaps[splittally/api.Entry]"], unfollowed := true, recurses := true, named := ["splittally/world.orders"], plainKeys := false, apart := false, laid := [("splittally/world.orders", laid_splittally_world_orders)], narrowed := true }
def WorldMeetsUptoSaid : Prop := worldMeetsUptoRow.holds Tryz.pinned (OpenSpec.upto worldMeetsSpec)

/-- 'splittallykeep.WorldOld', WHERE WHAT IT READS IS OF BULK AT MOST 1048576: true; the input reads as it did. -/
def worldOldUptoRow : OpenClaim := { program := "ytjdedflfdlhkdaagreatdoor", sum := "31c08e6493628e42939a380a75933f366f04bce2ad88e0d585145922d57fd6d0", func := "splittally/splittallykeep.WorldOld", spec := "worldOld", inPlace := ["slices.overlaps[splittally/api.Entry]"], unfollowed := true, recurses := true, named := ["splittally/world.orders"], plainKeys := false, apart := false, laid := [("splittally/world.orders", laid_splittally_world_orders)], narrowed := true }
def WorldOldUptoSaid : Prop := worldOldUptoRow.holds Tryz.pinned (OpenSpec.upto worldOldSpec)

/-- 'splittallykeep.WorldSwaps', WHERE WHAT IT READS IS OF BULK AT MOST 1048576: true; the input reads as it did. -/
def worldSwapsUptoRow : OpenClaim := { program := "ytjdedflfdlhkdaagreatdoor", sum := "31c08e6493628e42939a380a75933f366f04bce2ad88e0d585145922d57fd6d0", func := "splittally/splittallykeep.WorldSwaps", spec := "worldSwaps", inPlace := ["slices.overlaps[splittally/api.Entry]"], unfollowed := true, recurses := true, named := ["splittally/world.orders"], plainKeys := false, apart := false, laid := [("splittally/world.orders", laid_splittally_world_orders)], narrowed := true }
def WorldSwapsUptoSaid : Prop := worldSwapsUptoRow.holds Tryz.pinned (OpenSpec.upto worldSwapsSpec)

/-- 'splittallykeep.ViewTwice', WHERE WHAT IT READS IS OF BULK AT MOST 1048576: true; the input reads as it did. -/
def viewTwiceUptoRow : OpenClaim := { program := "ytjdedflfdlhkdaagreatdoor", sum := "31c08e6493628e42939a380a75933f366f04bce2ad88e0d585145922d57fd6d0", func := "splittally/splittallykeep.ViewTwice", spec := "viewTwice", inPlace := ["slices.overlaps[splittally/api.Entry]"], unfollowed := true, recurses := true, named := ["splittally/world.orders"], plainKeys := false, apart := false, laid := [("splittally/world.orders", laid_splittally_world_orders)], narrowed := true }
def ViewTwiceUptoSaid : Prop := viewTwiceUptoRow.holds Tryz.pinned (OpenSpec.upto viewTwiceSpec)

/-- 'splittallykeep.ViewAll', WHERE WHAT IT READS IS OF BULK AT MOST 1048576: true; the input reads as it did. -/
def viewAllUptoRow : OpenClaim := { program := "ytjdedflfdlhkdaagreatdoor", sum := "31c08e6493628e42939a380a75933f366f04bce2ad88e0d585145922d57fd6d0", func := "splittally/splittallykeep.ViewAll", spec := "viewAll", inPlace := ["slices.overlaps[splittally/api.Entry]"], unfollowed := true, recurses := true, named := ["splittally/world.orders"], plainKeys := false, apart := false, laid := [("splittally/world.orders", laid_splittally_world_orders)], narrowed := true }
def ViewAllUptoSaid : Prop := viewAllUptoRow.holds Tryz.pinned (OpenSpec.upto viewAllSpec)

/-- 'splittallykeep.ViewLess', WHERE WHAT IT READS IS OF BULK AT MOST 1048576: true; the input reads as it did. -/
def viewLessUptoRow : OpenClaim := { program := "ytjdedflfdlhkdaagreatdoor", sum := "31c08e6493628e42939a380a75933f366f04bce2ad88e0d585145922d57fd6d0", func := "splittally/splittallykeep.ViewLess", spec := "viewLess", inPlace := ["slices.overlaps[splittally/api.Entry]"], unfollowed := true, recurses := true, named := ["splittally/world.orders"], plainKeys := false, apart := false, laid := [("splittally/world.orders", laid_splittally_world_orders)], narrowed := true }
def ViewLessUptoSaid : Prop := viewLessUptoRow.holds Tryz.pinned (OpenSpec.upto viewLessSpec)

/-- 'splittallytop.TopBlind', WHERE WHAT IT READS IS OF BULK AT MOST 1048576: true; the input reads as it did. -/
def topBlindUptoRow : OpenClaim := { program := "ytjdedflfdlhkdaagreatdoor", sum := "31c08e6493628e42939a380a75933f366f04bce2ad88e0d585145922d57fd6d0", func := "splittally/splittallytop.TopBlind", spec := "topBlind", inPlace := ["slices.overlaps[splittally/api.Entry]"], unfollowed := true, recurses := true, named := ["splittally/world.orders"], plainKeys := false, apart := false, laid := [("splittally/world.orders", laid_splittally_world_orders)], narrowed := true }
def TopBlindUptoSaid : Prop := topBlindUptoRow.holds Tryz.pinned (OpenSpec.upto topBlindSpec)

end Rows
end Go.Proofs.YtjdedflfdlhkdaaGreatDoor
