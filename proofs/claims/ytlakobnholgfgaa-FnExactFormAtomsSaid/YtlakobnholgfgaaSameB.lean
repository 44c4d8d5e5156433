/- slices.EqualFunc. -/
import Derived.Test.YtlakobnholgfgaaSameA
namespace Go.Proofs.Ytlakobnholgfgaa
open Go Go.RowKit
set_option linter.unusedVariables false
set_option linter.unusedSimpArgs false


end Go.Proofs.Ytlakobnholgfgaa
