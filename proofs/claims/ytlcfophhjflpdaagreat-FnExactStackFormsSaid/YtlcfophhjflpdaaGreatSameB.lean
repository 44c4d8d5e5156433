/- slices.EqualFunc. -/
import Derived.Test.YtlcfophhjflpdaaGreatSameA
namespace Go.Proofs.YtlcfophhjflpdaaGreat
open Go Go.RowKit
set_option linter.unusedVariables false
set_option linter.unusedSimpArgs false


end Go.Proofs.YtlcfophhjflpdaaGreat
