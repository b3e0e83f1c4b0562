/-
  DERIVED. GIVEN WITH THE SEED: THE CARDS: each row of YtjdedflfdlhkdaaGreatDoorRows.lean that lists a variable, with what it lists TIED to the program's text (the seventh form; the later family's looks); each row that meets fmt, with fmt's text TOLD by the authors' own Lean function (tested against real Go, not proved from fmt's source: count such statements apart). THE CARD IS WHAT COUNTS. Prove the row's statement (the work); the ties are given (YtjdedflfdlhkdaaGreatDoorTie.lean); close each card by the builder's one call (the guide's Derived/Test/ToyasCard.lean, 'card_holds'). Laid BY PROGRAM, IN A SANDBOX (cutbox-door.mjs). By AI agents, Wed Nov 11 2026. No macro, syntax, notation, axiom, sorry.
-/
import Derived.Test.YtjdedflfdlhkdaaGreatDoorRows
import GoSem.ClaimSeven
namespace Go.Proofs.YtjdedflfdlhkdaaGreatDoor
namespace Rows

/-- THE TIED CARD OF 'splittallykeep.WorldSums'. -/
def worldSumsCard : Claim7 := { stood := { row := worldSumsRow, standIns := [], harness := (true, "253e7683baefae24b7ebe1cb2a33246cb99130590d17b1c3d09a331f31b7c8f6"), looks := false }, kinds := [], alts := [], laidByText := true, laidKinds := [.data], laidTests := true, laidLooks := .later }
def WorldSumsCardSaid : Prop := Claim7.holds Tryz.pinned (.plain (OpenSpec.ofChange worldSumsSpec)) worldSumsCard

/-- THE TIED CARD OF 'splittallykeep.WorldMeets'. -/
def worldMeetsCard : Claim7 := { stood := { row := worldMeetsRow, standIns := [], harness := (true, "253e7683baefae24b7ebe1cb2a33246cb99130590d17b1c3d09a331f31b7c8f6"), looks := false }, kinds := [], alts := [], laidByText := true, laidKinds := [.data], laidTests := true, laidLooks := .later }
def WorldMeetsCardSaid : Prop := Claim7.holds Tryz.pinned (.plain (OpenSpec.ofChange worldMeetsSpec)) worldMeetsCard

/-- THE TIED CARD OF 'splittallykeep.WorldOld'. -/
def worldOldCard : Claim7 := { stood := { row := worldOldRow, standIns := [], harness := (true, "253e7683baefae24b7ebe1cb2a33246cb99130590d17b1c3d09a331f31b7c8f6"), looks := false }, kinds := [], alts := [], laidByText := true, laidKinds := [.data], laidTests := true, laidLooks := .later }
def WorldOldCardSaid : Prop := Claim7.holds Tryz.pinned (.plain (OpenSpec.ofChange worldOldSpec)) worldOldCard

/-- THE TIED CARD OF 'splittallykeep.WorldSwaps'. -/
def worldSwapsCard : Claim7 := { stood := { row := worldSwapsRow, standIns := [], harness := (true, "253e7683baefae24b7ebe1cb2a33246cb99130590d17b1c3d09a331f31b7c8f6"), looks := false }, kinds := [], alts := [], laidByText := true, laidKinds := [.data], laidTests := true, laidLooks := .later }
def WorldSwapsCardSaid : Prop := Claim7.holds Tryz.pinned (.plain (OpenSpec.ofChange worldSwapsSpec)) worldSwapsCard

/-- THE TIED CARD OF 'splittallykeep.ViewTwice'. -/
def viewTwiceCard : Claim7 := { stood := { row := viewTwiceRow, standIns := [], harness := (true, "253e7683baefae24b7ebe1cb2a33246cb99130590d17b1c3d09a331f31b7c8f6"), looks := false }, kinds := [], alts := [], laidByText := true, laidKinds := [.data], laidTests := true, laidLooks := .later }
def ViewTwiceCardSaid : Prop := Claim7.holds Tryz.pinned (.plain (OpenSpec.ofChange viewTwiceSpec)) viewTwiceCard

/-- THE TIED CARD OF 'splittallykeep.ViewAll'. -/
def viewAllCard : Claim7 := { stood := { row := viewAllRow, standIns := [], harness := (true, "253e7683baefae24b7ebe1cb2a33246cb99130590d17b1c3d09a331f31b7c8f6"), looks := false }, kinds := [], alts := [], laidByText := true, laidKinds := [.data], laidTests := true, laidLooks := .later }
def ViewAllCardSaid : Prop := Claim7.holds Tryz.pinned (.plain (OpenSpec.ofChange viewAllSpec)) viewAllCard

/-- THE TIED CARD OF 'splittallykeep.ViewLess'. -/
def viewLessCard : Claim7 := { stood := { row := viewLessRow, standIns := [], harness := (true, "253e7683baefae24b7ebe1cb2a33246cb99130590d17b1c3d09a331f31b7c8f6"), looks := false }, kinds := [], alts := [], laidByText := true, laidKinds := [.data], laidTests := true, laidLooks := .later }
def ViewLessCardSaid : Prop := Claim7.holds Tryz.pinned (.plain (OpenSpec.ofChange viewLessSpec)) viewLessCard

/-- THE TIED CARD OF 'splittallytop.TopBlind'. -/
def topBlindCard : Claim7 := { stood := { row := topBlindRow, standIns := [], harness := (true, "253e7683baefae24b7ebe1cb2a33246cb99130590d17b1c3d09a331f31b7c8f6"), looks := false }, kinds := [], alts := [], laidByText := true, laidKinds := [.data], laidTests := true, laidLooks := .later }
def TopBlindCardSaid : Prop := Claim7.holds Tryz.pinned (.plain (OpenSpec.ofChange topBlindSpec)) topBlindCard

/-- THE SECOND FORM's CARD OF 'splittallykeep.WorldSums'. -/
def worldSumsUptoCard : Claim7 := { stood := { row := worldSumsUptoRow, standIns := [], harness := (true, "253e7683baefae24b7ebe1cb2a33246cb99130590d17b1c3d09a331f31b7c8f6"), looks := false }, kinds := [], alts := [], laidByText := true, laidKinds := [.data], laidTests := true, laidLooks := .later }
def WorldSumsUptoCardSaid : Prop := Claim7.holds Tryz.pinned (.plain (OpenSpec.upto worldSumsSpec)) worldSumsUptoCard

/-- THE SECOND FORM's CARD OF 'splittallykeep.WorldMeets'. -/
def worldMeetsUptoCard : Claim7 := { stood := { row := worldMeetsUptoRow, standIns := [], harness := (true, "253e7683baefae24b7ebe1cb2a33246cb99130590d17b1c3d09a331f31b7c8f6"), looks := false }, kinds := [], alts := [], laidByText := true, laidKinds := [.data], laidTests := true, laidLooks := .later }
def WorldMeetsUptoCardSaid : Prop := Claim7.holds Tryz.pinned (.plain (OpenSpec.upto worldMeetsSpec)) worldMeetsUptoCard

/-- THE SECOND FORM's CARD OF 'splittallykeep.WorldOld'. -/
def worldOldUptoCard : Claim7 := { stood := { row := worldOldUptoRow, standIns := [], harness := (true, "253e7683baefae24b7ebe1cb2a33246cb99130590d17b1c3d09a331f31b7c8f6"), looks := false }, kinds := [], alts := [], laidByText := true, laidKinds := [.data], laidTests := true, laidLooks := .later }
def WorldOldUptoCardSaid : Prop := Claim7.holds Tryz.pinned (.plain (OpenSpec.upto worldOldSpec)) worldOldUptoCard

/-- THE SECOND FORM's CARD OF 'splittallykeep.WorldSwaps'. -/
def worldSwapsUptoCard : Claim7 := { stood := { row := worldSwapsUptoRow, standIns := [], harness := (true, "253e7683baefae24b7ebe1cb2a33246cb99130590d17b1c3d09a331f31b7c8f6"), looks := false }, kinds := [], alts := [], laidByText := true, laidKinds := [.data], laidTests := true, laidLooks := .later }
def WorldSwapsUptoCardSaid : Prop := Claim7.holds Tryz.pinned (.plain (OpenSpec.upto worldSwapsSpec)) worldSwapsUptoCard

/-- THE SECOND FORM's CARD OF 'splittallykeep.ViewTwice'. -/
def viewTwiceUptoCard : Claim7 := { stood := { row := viewTwiceUptoRow, standIns := [], harness := (true, "253e7683baefae24b7ebe1cb2a33246cb99130590d17b1c3d09a331f31b7c8f6"), looks := false }, kinds := [], alts := [], laidByText := true, laidKinds := [.data], laidTests := true, laidLooks := .later }
def ViewTwiceUptoCardSaid : Prop := Claim7.holds Tryz.pinned (.plain (OpenSpec.upto viewTwiceSpec)) viewTwiceUptoCard

/-- THE SECOND FORM's CARD OF 'splittallykeep.ViewAll'. -/
def viewAllUptoCard : Claim7 := { stood := { row := viewAllUptoRow, standIns := [], harness := (true, "253e7683baefae24b7ebe1cb2a33246cb99130590d17b1c3d09a331f31b7c8f6"), looks := false }, kinds := [], alts := [], laidByText := true, laidKinds := [.data], laidTests := true, laidLooks := .later }
def ViewAllUptoCardSaid : Prop := Claim7.holds Tryz.pinned (.plain (OpenSpec.upto viewAllSpec)) viewAllUptoCard

/-- THE SECOND FORM's CARD OF 'splittallykeep.ViewLess'. -/
def viewLessUptoCard : Claim7 := { stood := { row := viewLessUptoRow, standIns := [], harness := (true, "253e7683baefae24b7ebe1cb2a33246cb99130590d17b1c3d09a331f31b7c8f6"), looks := false }, kinds := [], alts := [], laidByText := true, laidKinds := [.data], laidTests := true, laidLooks := .later }
def ViewLessUptoCardSaid : Prop := Claim7.holds Tryz.pinned (.plain (OpenSpec.upto viewLessSpec)) viewLessUptoCard

/-- THE SECOND FORM's CARD OF 'splittallytop.TopBlind'. -/
def topBlindUptoCard : Claim7 := { stood := { row := topBlindUptoRow, standIns := [], harness := (true, "253e7683baefae24b7ebe1cb2a33246cb99130590d17b1c3d09a331f31b7c8f6"), looks := false }, kinds := [], alts := [], laidByText := true, laidKinds := [.data], laidTests := true, laidLooks := .later }
def TopBlindUptoCardSaid : Prop := Claim7.holds Tryz.pinned (.plain (OpenSpec.upto topBlindSpec)) topBlindUptoCard
end Rows
end Go.Proofs.YtjdedflfdlhkdaaGreatDoor
