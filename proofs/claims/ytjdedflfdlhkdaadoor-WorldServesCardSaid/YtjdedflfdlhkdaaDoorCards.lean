/-
  DERIVED. GIVEN WITH THE SEED: THE CARDS: each row of YtjdedflfdlhkdaaDoorRows.lean that lists a variable, with what it lists TIED to the program's text (the seventh form; the later family's looks); each row that meets fmt, with fmt's text TOLD by the authors' own Lean function (tested against real Go, not proved from fmt's source: count such statements apart). THE CARD IS WHAT COUNTS. Prove the row's statement (the work); the ties are given (YtjdedflfdlhkdaaDoorTie.lean); close each card by the builder's one call (the guide's Derived/Test/ToyasCard.lean, 'card_holds'). Laid BY PROGRAM, IN A SANDBOX (cutbox-door.mjs). By AI agents, Wed Nov 11 2026. No macro, syntax, notation, axiom, sorry.
-/
import Derived.Test.YtjdedflfdlhkdaaDoorRows
import GoSem.ClaimSeven
namespace Go.Proofs.YtjdedflfdlhkdaaDoor
namespace Rows

/-- THE TIED CARD OF 'splittallykeep.WorldShape'. -/
def worldShapeCard : Claim7 := { stood := { row := worldShapeRow, standIns := [], harness := (true, "10f9d2a3bca22f2c00e5f359a2d33f6dab2fc1d5ac3cf64d1ca54fb8db8af790"), looks := false }, kinds := [], alts := [], laidByText := true, laidKinds := [.data], laidTests := true, laidLooks := .later }
def WorldShapeCardSaid : Prop := Claim7.holds Tryd.pinned (.plain (OpenSpec.ofChange worldShapeSpec)) worldShapeCard

/-- THE TIED CARD OF 'splittallykeep.WorldServes'. -/
def worldServesCard : Claim7 := { stood := { row := worldServesRow, standIns := [], harness := (true, "10f9d2a3bca22f2c00e5f359a2d33f6dab2fc1d5ac3cf64d1ca54fb8db8af790"), looks := false }, kinds := [], alts := [], laidByText := true, laidKinds := [.data], laidTests := true, laidLooks := .later }
def WorldServesCardSaid : Prop := Claim7.holds Tryd.pinned (.plain (OpenSpec.ofChange worldServesSpec)) worldServesCard

/-- THE TIED CARD OF 'splittallytop.TopSold'. -/
def topSoldCard : Claim7 := { stood := { row := topSoldRow, standIns := [], harness := (true, "10f9d2a3bca22f2c00e5f359a2d33f6dab2fc1d5ac3cf64d1ca54fb8db8af790"), looks := false }, kinds := [], alts := [], laidByText := true, laidKinds := [.data], laidTests := true, laidLooks := .later }
def TopSoldCardSaid : Prop := Claim7.holds Tryd.pinned (.plain (OpenSpec.ofChange topSoldSpec)) topSoldCard

/-- THE SECOND FORM's CARD OF 'splittallykeep.WorldShape'. -/
def worldShapeUptoCard : Claim7 := { stood := { row := worldShapeUptoRow, standIns := [], harness := (true, "10f9d2a3bca22f2c00e5f359a2d33f6dab2fc1d5ac3cf64d1ca54fb8db8af790"), looks := false }, kinds := [], alts := [], laidByText := true, laidKinds := [.data], laidTests := true, laidLooks := .later }
def WorldShapeUptoCardSaid : Prop := Claim7.holds Tryd.pinned (.plain (OpenSpec.upto worldShapeSpec)) worldShapeUptoCard

/-- THE SECOND FORM's CARD OF 'splittallykeep.WorldServes'. -/
def worldServesUptoCard : Claim7 := { stood := { row := worldServesUptoRow, standIns := [], harness := (true, "10f9d2a3bca22f2c00e5f359a2d33f6dab2fc1d5ac3cf64d1ca54fb8db8af790"), looks := false }, kinds := [], alts := [], laidByText := true, laidKinds := [.data], laidTests := true, laidLooks := .later }
def WorldServesUptoCardSaid : Prop := Claim7.holds Tryd.pinned (.plain (OpenSpec.upto worldServesSpec)) worldServesUptoCard

/-- THE SECOND FORM's CARD OF 'splittallytop.TopSold'. -/
def topSoldUptoCard : Claim7 := { stood := { row := topSoldUptoRow, standIns := [], harness := (true, "10f9d2a3bca22f2c00e5f359a2d33f6dab2fc1d5ac3cf64d1ca54fb8db8af790"), looks := false }, kinds := [], alts := [], laidByText := true, laidKinds := [.data], laidTests := true, laidLooks := .later }
def TopSoldUptoCardSaid : Prop := Claim7.holds Tryd.pinned (.plain (OpenSpec.upto topSoldSpec)) topSoldUptoCard
end Rows
end Go.Proofs.YtjdedflfdlhkdaaDoor
