/- slices.Insert over leaves: within, where there is no room. -/
import Derived.Test.YtmbfflckgmdncaaB2
namespace Go.Proofs.Ytmbfflckgmdncaa.Fw
open Go Go.RowKit Go.Lib
set_option linter.unusedVariables false
set_option linter.unusedSimpArgs false
set_option maxRecDepth 100000
set_option maxHeartbeats 4000000

end Go.Proofs.Ytmbfflckgmdncaa.Fw
