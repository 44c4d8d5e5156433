/- Copies of atoms, literals, forms. -/
import Derived.Test.YtlcfophhjflpdaaOwn
import Derived.Test.YtlcfophhjflpdaaAtomO
import Derived.Test.YtlcfophhjflpdaaLitT
namespace Go.Proofs.Ytlcfophhjflpdaa
open Go Go.RowKit
set_option linter.unusedVariables false
set_option linter.unusedSimpArgs false


set_option maxHeartbeats 1600000
theorem Lt.of_atom {w : World} {x : Lt} {vs : List Value} {f : List Nat} (h : RdVs w x.atom.cd vs f) : RdVs w x.cd (vs ++ [.bool x.no]) f := by
  have h1 := h.app (rd_bool_mk (b := x.no))
  simpa [Lt.cd] using h1
end Go.Proofs.Ytlcfophhjflpdaa
