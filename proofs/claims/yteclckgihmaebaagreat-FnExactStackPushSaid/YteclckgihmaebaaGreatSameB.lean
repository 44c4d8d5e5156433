/- slices.EqualFunc. -/
import Derived.Test.YteclckgihmaebaaGreatSameA
namespace Go.Proofs.YteclckgihmaebaaGreat
open Go Go.RowKit
set_option linter.unusedVariables false
set_option linter.unusedSimpArgs false


end Go.Proofs.YteclckgihmaebaaGreat
