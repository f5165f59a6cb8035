/- The law of pair matrices, walked. -/
import Derived.Test.YtadlnnjgocknhaaK8
import Derived.Test.YtadlnnjgocknhaaK9
namespace Go.Proofs.Ytadlnnjgocknhaa.Fw
open Go Go.RowKit
set_option linter.unusedVariables false
set_option linter.unusedSimpArgs false
set_option maxRecDepth 100000
set_option maxHeartbeats 2000000
end Go.Proofs.Ytadlnnjgocknhaa.Fw
