/- The law GaussParts: the walk. -/
import Derived.Test.YtilajcibjlcffaaDoorGauD
set_option linter.unusedSimpArgs false
set_option linter.unusedVariables false

namespace Go.Proofs.YtilajcibjlcffaaDoor
open Go.RowKit

end Go.Proofs.YtilajcibjlcffaaDoor
