/- Conditions: a pattern is read, the document's way. -/
import Derived.Test.YtpggidkcifnhjaaDoorMatF
set_option linter.unusedSimpArgs false
set_option linter.unusedVariables false

namespace Go.Proofs.YtpggidkcifnhjaaDoor
open Go.RowKit

end Go.Proofs.YtpggidkcifnhjaaDoor
