/-
  DERIVED. GIVEN WITH THE SEED: THE CARDS: each row of YtkcfcdeljefbcaaGreatDoorRows.lean that lists a variable, with what it lists TIED to the program's text (the seventh form; the later family's looks); each row that meets fmt, with fmt's text TOLD by the authors' own Lean function (tested against real Go, not proved from fmt's source: count such statements apart). THE CARD IS WHAT COUNTS. Prove the row's statement (the work); the ties are given (YtkcfcdeljefbcaaGreatDoorTie.lean); close each card by the builder's one call (the guide's Derived/Test/ToyasCard.lean, 'card_holds'). Laid BY PROGRAM, IN A SANDBOX (cutbox-door.mjs). By AI agents, Wed Nov 11 2026. No macro, syntax, notation, axiom, sorry.
-/
import Derived.Test.YtkcfcdeljefbcaaGreatDoorRows
import GoSem.ClaimSeven
namespace Go.Proofs.YtkcfcdeljefbcaaGreatDoor
namespace Rows

/-- THE TIED CARD OF 'millhandlaw28.RowsWith'. -/
def rowsWithCard : Claim7 := { stood := { row := rowsWithRow, standIns := [], harness := (true, "f16670dbd5fcfae8de40d0f4b975d94b5f0882723dbb661a59198cbc1dc559f5"), looks := false }, kinds := [], alts := [], laidByText := true, laidKinds := [.data, .pinned], laidTests := true, laidLooks := .later }
def RowsWithCardSaid : Prop := Claim7.holds Tryz.pinned (.plain (OpenSpec.ofChange rowsWithSpec)) rowsWithCard

/-- THE TIED CARD OF 'millhandlaw28.RowsFew'. -/
def rowsFewCard : Claim7 := { stood := { row := rowsFewRow, standIns := [], harness := (true, "f16670dbd5fcfae8de40d0f4b975d94b5f0882723dbb661a59198cbc1dc559f5"), looks := false }, kinds := [], alts := [], laidByText := true, laidKinds := [.data, .pinned], laidTests := true, laidLooks := .later }
def RowsFewCardSaid : Prop := Claim7.holds Tryz.pinned (.plain (OpenSpec.ofChange rowsFewSpec)) rowsFewCard

/-- THE TIED CARD OF 'millhandlaw28.RowsNames'. -/
def rowsNamesCard : Claim7 := { stood := { row := rowsNamesRow, standIns := [], harness := (true, "f16670dbd5fcfae8de40d0f4b975d94b5f0882723dbb661a59198cbc1dc559f5"), looks := false }, kinds := [], alts := [], laidByText := true, laidKinds := [.data, .pinned], laidTests := true, laidLooks := .later }
def RowsNamesCardSaid : Prop := Claim7.holds Tryz.pinned (.plain (OpenSpec.ofChange rowsNamesSpec)) rowsNamesCard

/-- THE SECOND FORM's CARD OF 'millhandlaw28.RowsWith'. -/
def rowsWithUptoCard : Claim7 := { stood := { row := rowsWithUptoRow, standIns := [], harness := (true, "f16670dbd5fcfae8de40d0f4b975d94b5f0882723dbb661a59198cbc1dc559f5"), looks := false }, kinds := [], alts := [], laidByText := true, laidKinds := [.data, .pinned], laidTests := true, laidLooks := .later }
def RowsWithUptoCardSaid : Prop := Claim7.holds Tryz.pinned (.plain (OpenSpec.upto rowsWithSpec)) rowsWithUptoCard

/-- THE SECOND FORM's CARD OF 'millhandlaw28.RowsFew'. -/
def rowsFewUptoCard : Claim7 := { stood := { row := rowsFewUptoRow, standIns := [], harness := (true, "f16670dbd5fcfae8de40d0f4b975d94b5f0882723dbb661a59198cbc1dc559f5"), looks := false }, kinds := [], alts := [], laidByText := true, laidKinds := [.data, .pinned], laidTests := true, laidLooks := .later }
def RowsFewUptoCardSaid : Prop := Claim7.holds Tryz.pinned (.plain (OpenSpec.upto rowsFewSpec)) rowsFewUptoCard

/-- THE SECOND FORM's CARD OF 'millhandlaw28.RowsNames'. -/
def rowsNamesUptoCard : Claim7 := { stood := { row := rowsNamesUptoRow, standIns := [], harness := (true, "f16670dbd5fcfae8de40d0f4b975d94b5f0882723dbb661a59198cbc1dc559f5"), looks := false }, kinds := [], alts := [], laidByText := true, laidKinds := [.data, .pinned], laidTests := true, laidLooks := .later }
def RowsNamesUptoCardSaid : Prop := Claim7.holds Tryz.pinned (.plain (OpenSpec.upto rowsNamesSpec)) rowsNamesUptoCard
end Rows
end Go.Proofs.YtkcfcdeljefbcaaGreatDoor
