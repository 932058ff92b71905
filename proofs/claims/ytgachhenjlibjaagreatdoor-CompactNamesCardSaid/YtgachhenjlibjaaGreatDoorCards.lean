/-
  DERIVED. GIVEN WITH THE SEED: THE CARDS: each row of YtgachhenjlibjaaGreatDoorRows.lean that lists a variable, with what it lists TIED to the program's text (the seventh form; the later family's looks); each row that meets fmt, with fmt's text TOLD by the authors' own Lean function (tested against real Go, not proved from fmt's source: count such statements apart). THE CARD IS WHAT COUNTS. Prove the row's statement (the work); the ties are given (YtgachhenjlibjaaGreatDoorTie.lean); close each card by the builder's one call (the guide's Derived/Test/ToyasCard.lean, 'card_holds'). Laid BY PROGRAM, IN A SANDBOX (cutbox-door.mjs). By AI agents, Wed Nov 11 2026. No macro, syntax, notation, axiom, sorry.
-/
import Derived.Test.YtgachhenjlibjaaGreatDoorRows
import GoSem.ClaimSeven
namespace Go.Proofs.YtgachhenjlibjaaGreatDoor
namespace Rows

/-- THE TIED CARD OF 'millhandlaw19.CompactNames'. -/
def compactNamesCard : Claim7 := { stood := { row := compactNamesRow, standIns := [], harness := (true, "2e18027a7d4e18cc1a672d20683ad746a1f42e3c5e18ec0f7ca962bbe2083b3e"), looks := false }, kinds := [], alts := [], laidByText := true, laidKinds := [.data, .data, .data, .sentinel], laidTests := true, laidLooks := .later }
def CompactNamesCardSaid : Prop := Claim7.holds Tryz.pinned (.plain (OpenSpec.ofChange compactNamesSpec)) compactNamesCard

/-- THE TIED CARD OF 'millhandlaw21.TxnNames'. -/
def txnNamesCard : Claim7 := { stood := { row := txnNamesRow, standIns := [], harness := (true, "2e18027a7d4e18cc1a672d20683ad746a1f42e3c5e18ec0f7ca962bbe2083b3e"), looks := false }, kinds := [], alts := [], laidByText := true, laidKinds := [.data, .data, .data, .sentinel], laidTests := true, laidLooks := .later }
def TxnNamesCardSaid : Prop := Claim7.holds Tryz.pinned (.plain (OpenSpec.ofChange txnNamesSpec)) txnNamesCard

/-- THE TIED CARD OF 'millhandlaw20.KvNames'. -/
def kvNamesCard : Claim7 := { stood := { row := kvNamesRow, standIns := [], harness := (true, "2e18027a7d4e18cc1a672d20683ad746a1f42e3c5e18ec0f7ca962bbe2083b3e"), looks := false }, kinds := [], alts := [], laidByText := true, laidKinds := [.data, .data, .data, .sentinel], laidTests := true, laidLooks := .later }
def KvNamesCardSaid : Prop := Claim7.holds Tryz.pinned (.plain (OpenSpec.ofChange kvNamesSpec)) kvNamesCard

/-- THE SECOND FORM's CARD OF 'millhandlaw19.CompactNames'. -/
def compactNamesUptoCard : Claim7 := { stood := { row := compactNamesUptoRow, standIns := [], harness := (true, "2e18027a7d4e18cc1a672d20683ad746a1f42e3c5e18ec0f7ca962bbe2083b3e"), looks := false }, kinds := [], alts := [], laidByText := true, laidKinds := [.data, .data, .data, .sentinel], laidTests := true, laidLooks := .later }
def CompactNamesUptoCardSaid : Prop := Claim7.holds Tryz.pinned (.plain (OpenSpec.upto compactNamesSpec)) compactNamesUptoCard

/-- THE SECOND FORM's CARD OF 'millhandlaw21.TxnNames'. -/
def txnNamesUptoCard : Claim7 := { stood := { row := txnNamesUptoRow, standIns := [], harness := (true, "2e18027a7d4e18cc1a672d20683ad746a1f42e3c5e18ec0f7ca962bbe2083b3e"), looks := false }, kinds := [], alts := [], laidByText := true, laidKinds := [.data, .data, .data, .sentinel], laidTests := true, laidLooks := .later }
def TxnNamesUptoCardSaid : Prop := Claim7.holds Tryz.pinned (.plain (OpenSpec.upto txnNamesSpec)) txnNamesUptoCard

/-- THE SECOND FORM's CARD OF 'millhandlaw20.KvNames'. -/
def kvNamesUptoCard : Claim7 := { stood := { row := kvNamesUptoRow, standIns := [], harness := (true, "2e18027a7d4e18cc1a672d20683ad746a1f42e3c5e18ec0f7ca962bbe2083b3e"), looks := false }, kinds := [], alts := [], laidByText := true, laidKinds := [.data, .data, .data, .sentinel], laidTests := true, laidLooks := .later }
def KvNamesUptoCardSaid : Prop := Claim7.holds Tryz.pinned (.plain (OpenSpec.upto kvNamesSpec)) kvNamesUptoCard
end Rows
end Go.Proofs.YtgachhenjlibjaaGreatDoor
