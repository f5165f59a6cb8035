/- Contracts: places of angles in an orbit, as the reference finds them. -/
import Derived.Test.YtllagpbbbdekiacL3
namespace Go.Proofs.Ytllagpbbbdekiac.Fw
open Go Go.RowKit
set_option linter.unusedVariables false
set_option linter.unusedSimpArgs false
set_option maxRecDepth 100000
set_option maxHeartbeats 2000000
end Go.Proofs.Ytllagpbbbdekiac.Fw
