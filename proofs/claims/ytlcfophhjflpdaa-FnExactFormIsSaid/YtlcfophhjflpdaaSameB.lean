/- slices.EqualFunc. -/
import Derived.Test.YtlcfophhjflpdaaSameA
namespace Go.Proofs.Ytlcfophhjflpdaa
open Go Go.RowKit
set_option linter.unusedVariables false
set_option linter.unusedSimpArgs false


end Go.Proofs.Ytlcfophhjflpdaa
