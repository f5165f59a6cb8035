/- The law of pair matrices, walked. -/
import Derived.Test.YtllagpbbbdekiabK8
import Derived.Test.YtllagpbbbdekiabK9
namespace Go.Proofs.Ytllagpbbbdekiab.Fw
open Go Go.RowKit
set_option linter.unusedVariables false
set_option linter.unusedSimpArgs false
set_option maxRecDepth 100000
set_option maxHeartbeats 2000000
end Go.Proofs.Ytllagpbbbdekiab.Fw
