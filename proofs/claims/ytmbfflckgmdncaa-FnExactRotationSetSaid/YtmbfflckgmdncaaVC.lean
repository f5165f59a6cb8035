/- Contracts: slices.Clone over leaves. -/
import Derived.Test.YtmbfflckgmdncaaVB
namespace Go.Proofs.Ytmbfflckgmdncaa.Fw
open Go Go.RowKit
set_option linter.unusedVariables false
set_option linter.unusedSimpArgs false
set_option maxRecDepth 100000
set_option maxHeartbeats 2000000

end Go.Proofs.Ytmbfflckgmdncaa.Fw
-- %intro
