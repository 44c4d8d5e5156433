/- Parts of the proof: Open. -/
import Derived.ChangeArms
import Derived.DataReads
import Derived.ProofKit
import Derived.OpenShut
import Derived.Test.YtoehhbkhdddeeaaDoorPd1
namespace Go.Proofs.YtoehhbkhdddeeaaDoor
open Go Go.RowKit Go.ChangeShapes Go.WideShapes
set_option linter.unusedVariables false
set_option linter.unusedSimpArgs false
theorem list1 {α : Type} {a b : α} (h : [a] = [b]) : a = b := by simpa using h
section
variable {H : Type} {enc : TypeId × Value → H} {P : Program} {w : World} {base : Nat} {spare : Nat → Bool} {held : Bool}
end
end Go.Proofs.YtoehhbkhdddeeaaDoor
