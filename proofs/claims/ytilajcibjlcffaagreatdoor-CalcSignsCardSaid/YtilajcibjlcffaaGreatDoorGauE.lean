/- The law GaussParts: the walk. -/
import Derived.Test.YtilajcibjlcffaaGreatDoorGauD
set_option linter.unusedSimpArgs false
set_option linter.unusedVariables false

namespace Go.Proofs.YtilajcibjlcffaaGreatDoor.Gau
open Go.RowKit

end Go.Proofs.YtilajcibjlcffaaGreatDoor.Gau
