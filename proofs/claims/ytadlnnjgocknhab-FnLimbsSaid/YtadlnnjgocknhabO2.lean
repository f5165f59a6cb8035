/- Contracts: the program's orbits. -/
import Derived.Test.YtadlnnjgocknhabO1
namespace Go.Proofs.Ytadlnnjgocknhab.Fw
open Go Go.RowKit
set_option linter.unusedVariables false
set_option linter.unusedSimpArgs false
set_option maxRecDepth 100000
set_option maxHeartbeats 2000000
end Go.Proofs.Ytadlnnjgocknhab.Fw
