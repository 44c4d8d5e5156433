/-
  DERIVED. GIVEN WITH THE SEED: THE CARDS: each row of YtoehhbkhdddeeaaDoorRows.lean that lists a variable, with what it lists TIED to the program's text (the seventh form; the later family's looks); each row that meets fmt, with fmt's text TOLD by the authors' own Lean function (tested against real Go, not proved from fmt's source: count such statements apart). THE CARD IS WHAT COUNTS. Prove the row's statement (the work); the ties are given (YtoehhbkhdddeeaaDoorTie.lean); close each card by the builder's one call (the guide's Derived/Test/ToyasCard.lean, 'card_holds'). Laid BY PROGRAM, IN A SANDBOX (cutbox-door.mjs). By AI agents, Wed Nov 11 2026. No macro, syntax, notation, axiom, sorry.
-/
import Derived.Test.YtoehhbkhdddeeaaDoorRows
import GoSem.ClaimSeven
namespace Go.Proofs.YtoehhbkhdddeeaaDoor
namespace Rows

/-- THE TIED CARD OF 'laws.FnLitNot'. -/
def fnLitNotCard : Claim7 := { stood := { row := fnLitNotRow, standIns := [], harness := (true, "b84565f9e61d20b8cd8ced5de52945a5780b95620617d6c3c83c557e126ad3f1"), looks := false }, kinds := [], alts := [], laidByText := true, laidKinds := [.data, .data, .data], laidTests := true, laidLooks := .later }
def FnLitNotCardSaid : Prop := Claim7.holds Tryd.pinned (.plain (OpenSpec.ofChange fnLitNotSpec)) fnLitNotCard

/-- THE TIED CARD OF 'laws.FnAtomOk'. -/
def fnAtomOkCard : Claim7 := { stood := { row := fnAtomOkRow, standIns := [], harness := (true, "b84565f9e61d20b8cd8ced5de52945a5780b95620617d6c3c83c557e126ad3f1"), looks := false }, kinds := [], alts := [], laidByText := true, laidKinds := [.data, .data, .data], laidTests := true, laidLooks := .later }
def FnAtomOkCardSaid : Prop := Claim7.holds Tryd.pinned (.plain (OpenSpec.ofChange fnAtomOkSpec)) fnAtomOkCard

/-- THE TIED CARD OF 'laws.FnExactFormText'. -/
def fnExactFormTextCard : Claim7 := { stood := { row := fnExactFormTextRow, standIns := [], harness := (true, "b84565f9e61d20b8cd8ced5de52945a5780b95620617d6c3c83c557e126ad3f1"), looks := false }, kinds := [], alts := [], laidByText := true, laidKinds := [.data, .data, .data], laidTests := true, laidLooks := .later }
def FnExactFormTextCardSaid : Prop := Claim7.holds Tryd.pinned (.plain (OpenSpec.ofChange fnExactFormTextSpec)) fnExactFormTextCard

/-- THE SECOND FORM's CARD OF 'laws.FnLitNot'. -/
def fnLitNotUptoCard : Claim7 := { stood := { row := fnLitNotUptoRow, standIns := [], harness := (true, "b84565f9e61d20b8cd8ced5de52945a5780b95620617d6c3c83c557e126ad3f1"), looks := false }, kinds := [], alts := [], laidByText := true, laidKinds := [.data, .data, .data], laidTests := true, laidLooks := .later }
def FnLitNotUptoCardSaid : Prop := Claim7.holds Tryd.pinned (.plain (OpenSpec.upto fnLitNotSpec)) fnLitNotUptoCard

/-- THE SECOND FORM's CARD OF 'laws.FnAtomOk'. -/
def fnAtomOkUptoCard : Claim7 := { stood := { row := fnAtomOkUptoRow, standIns := [], harness := (true, "b84565f9e61d20b8cd8ced5de52945a5780b95620617d6c3c83c557e126ad3f1"), looks := false }, kinds := [], alts := [], laidByText := true, laidKinds := [.data, .data, .data], laidTests := true, laidLooks := .later }
def FnAtomOkUptoCardSaid : Prop := Claim7.holds Tryd.pinned (.plain (OpenSpec.upto fnAtomOkSpec)) fnAtomOkUptoCard

/-- THE SECOND FORM's CARD OF 'laws.FnExactFormText'. -/
def fnExactFormTextUptoCard : Claim7 := { stood := { row := fnExactFormTextUptoRow, standIns := [], harness := (true, "b84565f9e61d20b8cd8ced5de52945a5780b95620617d6c3c83c557e126ad3f1"), looks := false }, kinds := [], alts := [], laidByText := true, laidKinds := [.data, .data, .data], laidTests := true, laidLooks := .later }
def FnExactFormTextUptoCardSaid : Prop := Claim7.holds Tryd.pinned (.plain (OpenSpec.upto fnExactFormTextSpec)) fnExactFormTextUptoCard
end Rows
end Go.Proofs.YtoehhbkhdddeeaaDoor
