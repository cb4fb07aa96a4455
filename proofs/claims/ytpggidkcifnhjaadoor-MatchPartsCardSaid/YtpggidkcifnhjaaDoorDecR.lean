/- Text of the document's answer: the walk. -/
import Derived.Test.YtpggidkcifnhjaaDoorDecQ
set_option linter.unusedSimpArgs false
set_option linter.unusedVariables false

namespace Go.Proofs.YtpggidkcifnhjaaDoor
open Go.RowKit

end Go.Proofs.YtpggidkcifnhjaaDoor
