/- Text of the document's answer: the walk. -/
import Derived.Test.YtpggidkcifnhjaaDecQ
set_option linter.unusedSimpArgs false
set_option linter.unusedVariables false

namespace Go.Proofs.Ytpggidkcifnhjaa
open Go.RowKit

end Go.Proofs.Ytpggidkcifnhjaa
