/-
  DERIVED. GIVEN WITH THE SEED: THE CARDS: each row of YtoehhbkhdddeeaaGreatDoorRows.lean that lists a variable, with what it lists TIED to the program's text (the seventh form; the later family's looks); each row that meets fmt, with fmt's text TOLD by the authors' own Lean function (tested against real Go, not proved from fmt's source: count such statements apart). THE CARD IS WHAT COUNTS. Prove the row's statement (the work); the ties are given (YtoehhbkhdddeeaaGreatDoorTie.lean); close each card by the builder's one call (the guide's Derived/Test/ToyasCard.lean, 'card_holds'). Laid BY PROGRAM, IN A SANDBOX (cutbox-door.mjs). By AI agents, Wed Nov 11 2026. No macro, syntax, notation, axiom, sorry.
-/
import Derived.Test.YtoehhbkhdddeeaaGreatDoorRows
import GoSem.ClaimSeven
namespace Go.Proofs.YtoehhbkhdddeeaaGreatDoor
namespace Rows

/-- THE TIED CARD OF 'laws.FnFormSame'. -/
def fnFormSameCard : Claim7 := { stood := { row := fnFormSameRow, standIns := [], harness := (true, "9a627bc0089ef8297c61e71c0ad9c29fcfa250e1cb6a544d8bec35ac41ad5599"), looks := false }, kinds := [], alts := [], laidByText := true, laidKinds := [.data, .data, .data], laidTests := true, laidLooks := .later }
def FnFormSameCardSaid : Prop := Claim7.holds Tryz.pinned (.plain (OpenSpec.ofChange fnFormSameSpec)) fnFormSameCard

/-- THE SECOND FORM's CARD OF 'laws.FnFormSame'. -/
def fnFormSameUptoCard : Claim7 := { stood := { row := fnFormSameUptoRow, standIns := [], harness := (true, "9a627bc0089ef8297c61e71c0ad9c29fcfa250e1cb6a544d8bec35ac41ad5599"), looks := false }, kinds := [], alts := [], laidByText := true, laidKinds := [.data, .data, .data], laidTests := true, laidLooks := .later }
def FnFormSameUptoCardSaid : Prop := Claim7.holds Tryz.pinned (.plain (OpenSpec.upto fnFormSameSpec)) fnFormSameUptoCard
end Rows
end Go.Proofs.YtoehhbkhdddeeaaGreatDoor
