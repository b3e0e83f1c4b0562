/-
  DERIVED. GIVEN WITH THE SEED: THE CARDS: each row of YtjnjecednkiakaaDoorRows.lean that lists a variable, with what it lists TIED to the program's text (the seventh form; the later family's looks); each row that meets fmt, with fmt's text TOLD by the authors' own Lean function (tested against real Go, not proved from fmt's source: count such statements apart). THE CARD IS WHAT COUNTS. Prove the row's statement (the work); the ties are given (YtjnjecednkiakaaDoorTie.lean); close each card by the builder's one call (the guide's Derived/Test/ToyasCard.lean, 'card_holds'). Laid BY PROGRAM, IN A SANDBOX (cutbox-door.mjs). By AI agents, Wed Nov 11 2026. No macro, syntax, notation, axiom, sorry.
-/
import Derived.Test.YtjnjecednkiakaaDoorRows
import GoSem.ClaimSeven
namespace Go.Proofs.YtjnjecednkiakaaDoor
namespace Rows

/-- THE TIED CARD OF 'splittallykeep.MembersBack'. -/
def membersBackCard : Claim7 := { stood := { row := membersBackRow, standIns := [], harness := (true, "82af0814cb54cce425f035968b0cc974ce1398953e2a7fbf87b7e6b563fdaacc"), looks := true }, kinds := [], alts := [], laidByText := true, laidKinds := [.data, .data], laidTests := true, laidLooks := .later }
def MembersBackCardSaid : Prop := Claim7.holds Tryd.pinned (.plain (OpenSpec.ofChange membersBackSpec)) membersBackCard

/-- THE TIED CARD OF 'splittallykeep.LineBack'. -/
def lineBackCard : Claim7 := { stood := { row := lineBackRow, standIns := [], harness := (true, "82af0814cb54cce425f035968b0cc974ce1398953e2a7fbf87b7e6b563fdaacc"), looks := true }, kinds := [], alts := [], laidByText := true, laidKinds := [.data, .data, .data, .data, .sentinel, .sentinel, .widerDeep, .pinned], laidTests := true, laidLooks := .later }
def LineBackCardSaid : Prop := Claim7.holds Tryd.pinned (.plain (OpenSpec.ofChange lineBackSpec)) lineBackCard

/-- THE TIED CARD OF 'splittallykeep.LineFixed'. -/
def lineFixedCard : Claim7 := { stood := { row := lineFixedRow, standIns := [], harness := (true, "82af0814cb54cce425f035968b0cc974ce1398953e2a7fbf87b7e6b563fdaacc"), looks := true }, kinds := [], alts := [], laidByText := true, laidKinds := [.data, .data, .data, .data, .sentinel, .sentinel, .widerDeep, .pinned], laidTests := true, laidLooks := .later }
def LineFixedCardSaid : Prop := Claim7.holds Tryd.pinned (.plain (OpenSpec.ofChange lineFixedSpec)) lineFixedCard

/-- THE SECOND FORM's CARD OF 'splittallykeep.MembersBack'. -/
def membersBackUptoCard : Claim7 := { stood := { row := membersBackUptoRow, standIns := [], harness := (true, "82af0814cb54cce425f035968b0cc974ce1398953e2a7fbf87b7e6b563fdaacc"), looks := true }, kinds := [], alts := [], laidByText := true, laidKinds := [.data, .data], laidTests := true, laidLooks := .later }
def MembersBackUptoCardSaid : Prop := Claim7.holds Tryd.pinned (.plain (OpenSpec.upto membersBackSpec)) membersBackUptoCard

/-- THE SECOND FORM's CARD OF 'splittallykeep.LineBack'. -/
def lineBackUptoCard : Claim7 := { stood := { row := lineBackUptoRow, standIns := [], harness := (true, "82af0814cb54cce425f035968b0cc974ce1398953e2a7fbf87b7e6b563fdaacc"), looks := true }, kinds := [], alts := [], laidByText := true, laidKinds := [.data, .data, .data, .data, .sentinel, .sentinel, .widerDeep, .pinned], laidTests := true, laidLooks := .later }
def LineBackUptoCardSaid : Prop := Claim7.holds Tryd.pinned (.plain (OpenSpec.upto lineBackSpec)) lineBackUptoCard

/-- THE SECOND FORM's CARD OF 'splittallykeep.LineFixed'. -/
def lineFixedUptoCard : Claim7 := { stood := { row := lineFixedUptoRow, standIns := [], harness := (true, "82af0814cb54cce425f035968b0cc974ce1398953e2a7fbf87b7e6b563fdaacc"), looks := true }, kinds := [], alts := [], laidByText := true, laidKinds := [.data, .data, .data, .data, .sentinel, .sentinel, .widerDeep, .pinned], laidTests := true, laidLooks := .later }
def LineFixedUptoCardSaid : Prop := Claim7.holds Tryd.pinned (.plain (OpenSpec.upto lineFixedSpec)) lineFixedUptoCard
end Rows
end Go.Proofs.YtjnjecednkiakaaDoor
