/-
  No cell of these rows narrows 'for every input' (looked for: loops, veiled, ifaces, maps, wideKeys, modest, calm, conditions, laid).
  DERIVED. THE GIVEN ROWS OF THIS SEAT. 11 by the template 'for every input the law returns true; each argument reads behind the call as it read before'; 0 by the template 'total and deterministic' (their statements: YtgmichaconnhaaaTotals.lean).
  GIVEN WITH THE SEED: the statements are not yours to turn. If you find one false, say at which input.
  Laid BY PROGRAM, IN A SANDBOX (cutbox-rows.mjs): the forced cells as the released guide's own fill.sh prints them over the translation 0eb695c50e2b569f… (all of the seat's roots in one cut). By AI agents, Wed Nov 11 2026. No macro, syntax, notation, axiom, sorry.
-/
import Derived.Test.YtgmichaconnhaaaChecked
import GoSem.Claim
import GoSem.ClaimJoined
import GoSem.ClaimMapViews
import Derived.JoinedTies
import Derived.KernelRfl
namespace Go.Proofs.Ytgmichaconnhaaa
/- THE CELL 'sum', in the pinned program and in every row, IS THE sha256 OF THE DUMP (.gsa) THAT YtgmichaconnhaaaProg.lean LOADS. Nothing in Lean hashes anything: it is a label: what it is worth is what the hold of that sum in a sandbox is worth. -/
noncomputable def Try.pinned : Pinned := { name := "ytgmichaconnhaaa", sum := "0eb695c50e2b569fc3717d778a4408e86e5f263cdcd3d2589305442d30502bec", checked := Try.checked }
namespace Rows
def none {H : Type} : Left H := { results := [], args := [] }

/-- 'splittallykeep.HoldSums': WHATEVER THE INPUT: true; the input reads as it did. -/
def holdSumsSpec : ChangeSpec := { name := "holdSums", fn := fun _ => fun
  | [d] => { results := [.lit (.bool true)], args := [d] }
  | _ => none }
def holdSumsRow : OpenClaim := { program := "ytgmichaconnhaaa", sum := "0eb695c50e2b569fc3717d778a4408e86e5f263cdcd3d2589305442d30502bec", func := "splittally/splittallykeep.HoldSums", spec := "holdSums", unfollowed := true, recurses := true, apart := false }
def HoldSumsSaid : Prop := holdSumsRow.holds Try.pinned (OpenSpec.ofChange holdSumsSpec)

/-- ITS FALSE NEIGHBOUR: 'it returns false'. Refute it at one input. -/
def holdSumsWrong : ChangeSpec := { name := "holdSums", fn := fun _ => fun
  | [d] => { results := [.lit (.bool false)], args := [d] }
  | _ => none }
def HoldSumsWrongFalsely : Prop := holdSumsRow.holds Try.pinned (OpenSpec.ofChange holdSumsWrong)

/-- 'splittallykeep.HoldOnce': WHATEVER THE INPUT: true; the input reads as it did. -/
def holdOnceSpec : ChangeSpec := { name := "holdOnce", fn := fun _ => fun
  | [d] => { results := [.lit (.bool true)], args := [d] }
  | _ => none }
def holdOnceRow : OpenClaim := { program := "ytgmichaconnhaaa", sum := "0eb695c50e2b569fc3717d778a4408e86e5f263cdcd3d2589305442d30502bec", func := "splittally/splittallykeep.HoldOnce", spec := "holdOnce", unfollowed := true, recurses := true, apart := false }
def HoldOnceSaid : Prop := holdOnceRow.holds Try.pinned (OpenSpec.ofChange holdOnceSpec)

/-- ITS FALSE NEIGHBOUR: 'it returns false'. Refute it at one input. -/
def holdOnceWrong : ChangeSpec := { name := "holdOnce", fn := fun _ => fun
  | [d] => { results := [.lit (.bool false)], args := [d] }
  | _ => none }
def HoldOnceWrongFalsely : Prop := holdOnceRow.holds Try.pinned (OpenSpec.ofChange holdOnceWrong)

/-- 'splittallykeep.HoldEnds': WHATEVER THE INPUT: true; the input reads as it did. -/
def holdEndsSpec : ChangeSpec := { name := "holdEnds", fn := fun _ => fun
  | [d1, d2, d3, d4] => { results := [.lit (.bool true)], args := [d1, d2, d3, d4] }
  | _ => none }
def holdEndsRow : OpenClaim := { program := "ytgmichaconnhaaa", sum := "0eb695c50e2b569fc3717d778a4408e86e5f263cdcd3d2589305442d30502bec", func := "splittally/splittallykeep.HoldEnds", spec := "holdEnds", unfollowed := true, recurses := true, apart := false }
def HoldEndsSaid : Prop := holdEndsRow.holds Try.pinned (OpenSpec.ofChange holdEndsSpec)

/-- ITS FALSE NEIGHBOUR: 'it returns false'. Refute it at one input. -/
def holdEndsWrong : ChangeSpec := { name := "holdEnds", fn := fun _ => fun
  | [d1, d2, d3, d4] => { results := [.lit (.bool false)], args := [d1, d2, d3, d4] }
  | _ => none }
def HoldEndsWrongFalsely : Prop := holdEndsRow.holds Try.pinned (OpenSpec.ofChange holdEndsWrong)

/-- 'splittallykeep.HoldRefused': WHATEVER THE INPUT: true; the input reads as it did. -/
def holdRefusedSpec : ChangeSpec := { name := "holdRefused", fn := fun _ => fun
  | [d] => { results := [.lit (.bool true)], args := [d] }
  | _ => none }
def holdRefusedRow : OpenClaim := { program := "ytgmichaconnhaaa", sum := "0eb695c50e2b569fc3717d778a4408e86e5f263cdcd3d2589305442d30502bec", func := "splittally/splittallykeep.HoldRefused", spec := "holdRefused", unfollowed := true, recurses := true, apart := false }
def HoldRefusedSaid : Prop := holdRefusedRow.holds Try.pinned (OpenSpec.ofChange holdRefusedSpec)

/-- ITS FALSE NEIGHBOUR: 'it returns false'. Refute it at one input. -/
def holdRefusedWrong : ChangeSpec := { name := "holdRefused", fn := fun _ => fun
  | [d] => { results := [.lit (.bool false)], args := [d] }
  | _ => none }
def HoldRefusedWrongFalsely : Prop := holdRefusedRow.holds Try.pinned (OpenSpec.ofChange holdRefusedWrong)

/-- 'splittallykeep.BookSums': WHATEVER THE INPUT: true; the input reads as it did. -/
def bookSumsSpec : ChangeSpec := { name := "bookSums", fn := fun _ => fun
  | [d1, d2, d3] => { results := [.lit (.bool true)], args := [d1, d2, d3] }
  | _ => none }
def bookSumsRow : OpenClaim := { program := "ytgmichaconnhaaa", sum := "0eb695c50e2b569fc3717d778a4408e86e5f263cdcd3d2589305442d30502bec", func := "splittally/splittallykeep.BookSums", spec := "bookSums", unfollowed := true, recurses := true, apart := false }
def BookSumsSaid : Prop := bookSumsRow.holds Try.pinned (OpenSpec.ofChange bookSumsSpec)

/-- ITS FALSE NEIGHBOUR: 'it returns false'. Refute it at one input. -/
def bookSumsWrong : ChangeSpec := { name := "bookSums", fn := fun _ => fun
  | [d1, d2, d3] => { results := [.lit (.bool false)], args := [d1, d2, d3] }
  | _ => none }
def BookSumsWrongFalsely : Prop := bookSumsRow.holds Try.pinned (OpenSpec.ofChange bookSumsWrong)

/-- 'splittallykeep.BookApart': WHATEVER THE INPUT: true; the input reads as it did. -/
def bookApartSpec : ChangeSpec := { name := "bookApart", fn := fun _ => fun
  | [d1, d2, d3, d4, d5] => { results := [.lit (.bool true)], args := [d1, d2, d3, d4, d5] }
  | _ => none }
def bookApartRow : OpenClaim := { program := "ytgmichaconnhaaa", sum := "0eb695c50e2b569fc3717d778a4408e86e5f263cdcd3d2589305442d30502bec", func := "splittally/splittallykeep.BookApart", spec := "bookApart", unfollowed := true, recurses := true, apart := false }
def BookApartSaid : Prop := bookApartRow.holds Try.pinned (OpenSpec.ofChange bookApartSpec)

/-- ITS FALSE NEIGHBOUR: 'it returns false'. Refute it at one input. -/
def bookApartWrong : ChangeSpec := { name := "bookApart", fn := fun _ => fun
  | [d1, d2, d3, d4, d5] => { results := [.lit (.bool false)], args := [d1, d2, d3, d4, d5] }
  | _ => none }
def BookApartWrongFalsely : Prop := bookApartRow.holds Try.pinned (OpenSpec.ofChange bookApartWrong)

/-- 'splittallykeep.BookServes': WHATEVER THE INPUT: true; the input reads as it did. -/
def bookServesSpec : ChangeSpec := { name := "bookServes", fn := fun _ => fun
  | [d1, d2, d3, d4, d5] => { results := [.lit (.bool true)], args := [d1, d2, d3, d4, d5] }
  | _ => none }
def bookServesRow : OpenClaim := { program := "ytgmichaconnhaaa", sum := "0eb695c50e2b569fc3717d778a4408e86e5f263cdcd3d2589305442d30502bec", func := "splittally/splittallykeep.BookServes", spec := "bookServes", unfollowed := true, recurses := true, apart := false }
def BookServesSaid : Prop := bookServesRow.holds Try.pinned (OpenSpec.ofChange bookServesSpec)

/-- ITS FALSE NEIGHBOUR: 'it returns false'. Refute it at one input. -/
def bookServesWrong : ChangeSpec := { name := "bookServes", fn := fun _ => fun
  | [d1, d2, d3, d4, d5] => { results := [.lit (.bool false)], args := [d1, d2, d3, d4, d5] }
  | _ => none }
def BookServesWrongFalsely : Prop := bookServesRow.holds Try.pinned (OpenSpec.ofChange bookServesWrong)

/-- 'splittallykeep.BookMore': WHATEVER THE INPUT: true; the input reads as it did. -/
def bookMoreSpec : ChangeSpec := { name := "bookMore", fn := fun _ => fun
  | [d1, d2, d3, d4, d5, d6] => { results := [.lit (.bool true)], args := [d1, d2, d3, d4, d5, d6] }
  | _ => none }
def bookMoreRow : OpenClaim := { program := "ytgmichaconnhaaa", sum := "0eb695c50e2b569fc3717d778a4408e86e5f263cdcd3d2589305442d30502bec", func := "splittally/splittallykeep.BookMore", spec := "bookMore", unfollowed := true, recurses := true, apart := false }
def BookMoreSaid : Prop := bookMoreRow.holds Try.pinned (OpenSpec.ofChange bookMoreSpec)

/-- ITS FALSE NEIGHBOUR: 'it returns false'. Refute it at one input. -/
def bookMoreWrong : ChangeSpec := { name := "bookMore", fn := fun _ => fun
  | [d1, d2, d3, d4, d5, d6] => { results := [.lit (.bool false)], args := [d1, d2, d3, d4, d5, d6] }
  | _ => none }
def BookMoreWrongFalsely : Prop := bookMoreRow.holds Try.pinned (OpenSpec.ofChange bookMoreWrong)

/-- 'splittallykeep.AsksBack': WHATEVER THE INPUT: true; the input reads as it did. -/
def asksBackSpec : ChangeSpec := { name := "asksBack", fn := fun _ => fun
  | [d1, d2, d3, d4] => { results := [.lit (.bool true)], args := [d1, d2, d3, d4] }
  | _ => none }
def asksBackRow : OpenClaim := { program := "ytgmichaconnhaaa", sum := "0eb695c50e2b569fc3717d778a4408e86e5f263cdcd3d2589305442d30502bec", func := "splittally/splittallykeep.AsksBack", spec := "asksBack", unfollowed := true, recurses := true, apart := false }
def AsksBackSaid : Prop := asksBackRow.holds Try.pinned (OpenSpec.ofChange asksBackSpec)

/-- ITS FALSE NEIGHBOUR: 'it returns false'. Refute it at one input. -/
def asksBackWrong : ChangeSpec := { name := "asksBack", fn := fun _ => fun
  | [d1, d2, d3, d4] => { results := [.lit (.bool false)], args := [d1, d2, d3, d4] }
  | _ => none }
def AsksBackWrongFalsely : Prop := asksBackRow.holds Try.pinned (OpenSpec.ofChange asksBackWrong)

/-- 'splittallykeep.MergeAny': WHATEVER THE INPUT: true; the input reads as it did. -/
def mergeAnySpec : ChangeSpec := { name := "mergeAny", fn := fun _ => fun
  | [d1, d2, d3] => { results := [.lit (.bool true)], args := [d1, d2, d3] }
  | _ => none }
def mergeAnyRow : OpenClaim := { program := "ytgmichaconnhaaa", sum := "0eb695c50e2b569fc3717d778a4408e86e5f263cdcd3d2589305442d30502bec", func := "splittally/splittallykeep.MergeAny", spec := "mergeAny", inPlace := ["slices.overlaps[splittally/api.Entry]"], unfollowed := true, recurses := true, apart := false }
def MergeAnySaid : Prop := mergeAnyRow.holds Try.pinned (OpenSpec.ofChange mergeAnySpec)

/-- ITS FALSE NEIGHBOUR: 'it returns false'. Refute it at one input. -/
def mergeAnyWrong : ChangeSpec := { name := "mergeAny", fn := fun _ => fun
  | [d1, d2, d3] => { results := [.lit (.bool false)], args := [d1, d2, d3] }
  | _ => none }
def MergeAnyWrongFalsely : Prop := mergeAnyRow.holds Try.pinned (OpenSpec.ofChange mergeAnyWrong)

/-- 'splittallykeep.MergeNewest': WHATEVER THE INPUT: true; the input reads as it did. -/
def mergeNewestSpec : ChangeSpec := { name := "mergeNewest", fn := fun _ => fun
  | [d1, d2] => { results := [.lit (.bool true)], args := [d1, d2] }
  | _ => none }
def mergeNewestRow : OpenClaim := { program := "ytgmichaconnhaaa", sum := "0eb695c50e2b569fc3717d778a4408e86e5f263cdcd3d2589305442d30502bec", func := "splittally/splittallykeep.MergeNewest", spec := "mergeNewest", inPlace := ["slices.overlaps[splittally/api.Entry]"], unfollowed := true, recurses := true, apart := false }
def MergeNewestSaid : Prop := mergeNewestRow.holds Try.pinned (OpenSpec.ofChange mergeNewestSpec)

/-- ITS FALSE NEIGHBOUR: 'it returns false'. Refute it at one input. -/
def mergeNewestWrong : ChangeSpec := { name := "mergeNewest", fn := fun _ => fun
  | [d1, d2] => { results := [.lit (.bool false)], args := [d1, d2] }
  | _ => none }
def MergeNewestWrongFalsely : Prop := mergeNewestRow.holds Try.pinned (OpenSpec.ofChange mergeNewestWrong)

/- THE SECOND FORM. 'bulk': how many values and letters a reading holds, each counted each time it is reached (what is shared counts as often as it is met; a slice's spare places count too). A statement '..UptoSaid' is the law's where the arguments, and the package variables that the reading takes, are together of bulk at most 1048576: NARROWER than '..Said'. Prove '..Said' where nothing that the law and all that it calls make is longer than what came in: it says more and counts as full. Else prove '..UptoSaid'. A law counts once. -/
mutual
def uptoBulk {H : Type} : DataW H → Nat
  | .lit (.string bytes) => bytes.length + 1
  | .lit _ => 1
  | .nil => 1
  | .ptr d => uptoBulk d + 1
  | .slice elems spare => uptoBulkAll elems + uptoBulkAll spare + 1
  | .agg parts => uptoBulkAll parts + 1
  | .iface _ d => uptoBulk d + 1
  | .map entries => uptoBulkEntries entries + 1
  | .held _ => 1
def uptoBulkAll {H : Type} : List (DataW H) → Nat
  | [] => 0
  | d :: r => uptoBulk d + uptoBulkAll r
def uptoBulkEntries {H : Type} : List (Lit × DataW H) → Nat
  | [] => 0
  | x :: r => uptoBulkEntry x + uptoBulkEntries r
def uptoBulkEntry {H : Type} : Lit × DataW H → Nat
  | (.string bytes, d) => bytes.length + uptoBulk d + 1
  | (_, d) => uptoBulk d + 1
 end
def uptoSmall : (H : Type) → List (DataW H) → Bool := fun _ ds => decide (uptoBulkAll ds ≤ 1048576)
def OpenSpec.upto (s : _root_.Go.ChangeSpec) : _root_.Go.OpenSpec := { _root_.Go.OpenSpec.ofChange s with cond := some uptoSmall }

/-- 'splittallykeep.HoldSums', WHERE WHAT IT READS IS OF BULK AT MOST 1048576: true; the input reads as it did. -/
def holdSumsUptoRow : OpenClaim := { program := "ytgmichaconnhaaa", sum := "0eb695c50e2b569fc3717d778a4408e86e5f263cdcd3d2589305442d30502bec", func := "splittally/splittallykeep.HoldSums", spec := "holdSums", unfollowed := true, recurses := true, apart := false, narrowed := true }
def HoldSumsUptoSaid : Prop := holdSumsUptoRow.holds Try.pinned (OpenSpec.upto holdSumsSpec)

/-- 'splittallykeep.HoldOnce', WHERE WHAT IT READS IS OF BULK AT MOST 1048576: true; the input reads as it did. -/
def holdOnceUptoRow : OpenClaim := { program := "ytgmichaconnhaaa", sum := "0eb695c50e2b569fc3717d778a4408e86e5f263cdcd3d2589305442d30502bec", func := "splittally/splittallykeep.HoldOnce", spec := "holdOnce", unfollowed := true, recurses := true, apart := false, narrowed := true }
def HoldOnceUptoSaid : Prop := holdOnceUptoRow.holds Try.pinned (OpenSpec.upto holdOnceSpec)

/-- 'splittallykeep.HoldEnds', WHERE WHAT IT READS IS OF BULK AT MOST 1048576: true; the input reads as it did. -/
def holdEndsUptoRow : OpenClaim := { program := "ytgmichaconnhaaa", sum := "0eb695c50e2b569fc3717d778a4408e86e5f263cdcd3d2589305442d30502bec", func := "splittally/splittallykeep.HoldEnds", spec := "holdEnds", unfollowed := true, recurses := true, apart := false, narrowed := true }
def HoldEndsUptoSaid : Prop := holdEndsUptoRow.holds Try.pinned (OpenSpec.upto holdEndsSpec)

/-- 'splittallykeep.HoldRefused', WHERE WHAT IT READS IS OF BULK AT MOST 1048576: true; the input reads as it did. -/
def holdRefusedUptoRow : OpenClaim := { program := "ytgmichaconnhaaa", sum := "0eb695c50e2b569fc3717d778a4408e86e5f263cdcd3d2589305442d30502bec", func := "splittally/splittallykeep.HoldRefused", spec := "holdRefused", unfollowed := true, recurses := true, apart := false, narrowed := true }
def HoldRefusedUptoSaid : Prop := holdRefusedUptoRow.holds Try.pinned (OpenSpec.upto holdRefusedSpec)

/-- 'splittallykeep.BookSums', WHERE WHAT IT READS IS OF BULK AT MOST 1048576: true; the input reads as it did. -/
def bookSumsUptoRow : OpenClaim := { program := "ytgmichaconnhaaa", sum := "0eb695c50e2b569fc3717d778a4408e86e5f263cdcd3d2589305442d30502bec", func := "splittally/splittallykeep.BookSums", spec := "bookSums", unfollowed := true, recurses := true, apart := false, narrowed := true }
def BookSumsUptoSaid : Prop := bookSumsUptoRow.holds Try.pinned (OpenSpec.upto bookSumsSpec)

/-- 'splittallykeep.BookApart', WHERE WHAT IT READS IS OF BULK AT MOST 1048576: true; the input reads as it did. -/
def bookApartUptoRow : OpenClaim := { program := "ytgmichaconnhaaa", sum := "0eb695c50e2b569fc3717d778a4408e86e5f263cdcd3d2589305442d30502bec", func := "splittally/splittallykeep.BookApart", spec := "bookApart", unfollowed := true, recurses := true, apart := false, narrowed := true }
def BookApartUptoSaid : Prop := bookApartUptoRow.holds Try.pinned (OpenSpec.upto bookApartSpec)

/-- 'splittallykeep.BookServes', WHERE WHAT IT READS IS OF BULK AT MOST 1048576: true; the input reads as it did. -/
def bookServesUptoRow : OpenClaim := { program := "ytgmichaconnhaaa", sum := "0eb695c50e2b569fc3717d778a4408e86e5f263cdcd3d2589305442d30502bec", func := "splittally/splittallykeep.BookServes", spec := "bookServes", unfollowed := true, recurses := true, apart := false, narrowed := true }
def BookServesUptoSaid : Prop := bookServesUptoRow.holds Try.pinned (OpenSpec.upto bookServesSpec)

/-- 'splittallykeep.BookMore', WHERE WHAT IT READS IS OF BULK AT MOST 1048576: true; the input reads as it did. -/
def bookMoreUptoRow : OpenClaim := { program := "ytgmichaconnhaaa", sum := "0eb695c50e2b569fc3717d778a4408e86e5f263cdcd3d2589305442d30502bec", func := "splittally/splittallykeep.BookMore", spec := "bookMore", unfollowed := true, recurses := true, apart := false, narrowed := true }
def BookMoreUptoSaid : Prop := bookMoreUptoRow.holds Try.pinned (OpenSpec.upto bookMoreSpec)

/-- 'splittallykeep.AsksBack', WHERE WHAT IT READS IS OF BULK AT MOST 1048576: true; the input reads as it did. -/
def asksBackUptoRow : OpenClaim := { program := "ytgmichaconnhaaa", sum := "0eb695c50e2b569fc3717d778a4408e86e5f263cdcd3d2589305442d30502bec", func := "splittally/splittallykeep.AsksBack", spec := "asksBack", unfollowed := true, recurses := true, apart := false, narrowed := true }
def AsksBackUptoSaid : Prop := asksBackUptoRow.holds Try.pinned (OpenSpec.upto asksBackSpec)

/-- 'splittallykeep.MergeAny', WHERE WHAT IT READS IS OF BULK AT MOST 1048576: true; the input reads as it did. -/
def mergeAnyUptoRow : OpenClaim := { program := "ytgmichaconnhaaa", sum := "0eb695c50e2b569fc3717d778a4408e86e5f263cdcd3d2589305442d30502bec", func := "splittally/splittallykeep.MergeAny", spec := "mergeAny", inPlace := ["slices.overlaps[splittally/api.Entry]"], unfollowed := true, recurses := true, apart := false, narrowed := true }
def MergeAnyUptoSaid : Prop := mergeAnyUptoRow.holds Try.pinned (OpenSpec.upto mergeAnySpec)

/-- 'splittallykeep.MergeNewest', WHERE WHAT IT READS IS OF BULK AT MOST 1048576: true; the input reads as it did. -/
def mergeNewestUptoRow : OpenClaim := { program := "ytgmichaconnhaaa", sum := "0eb695c50e2b569fc3717d778a4408e86e5f263cdcd3d2589305442d30502bec", func := "splittally/splittallykeep.MergeNewest", spec := "mergeNewest", inPlace := ["slices.overlaps[splittally/api.Entry]"], unfollowed := true, recurses := true, apart := false, narrowed := true }
def MergeNewestUptoSaid : Prop := mergeNewestUptoRow.holds Try.pinned (OpenSpec.upto mergeNewestSpec)

end Rows
end Go.Proofs.Ytgmichaconnhaaa
