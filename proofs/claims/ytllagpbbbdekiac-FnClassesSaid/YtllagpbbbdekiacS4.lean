/- Contracts: IsSequence, sequencesCode; the reference's letters and sequences. -/
import Derived.Test.YtllagpbbbdekiacS3
namespace Go.Proofs.Ytllagpbbbdekiac.Fw
open Go Go.RowKit
set_option linter.unusedVariables false
set_option linter.unusedSimpArgs false
set_option maxRecDepth 100000
set_option maxHeartbeats 2000000
end Go.Proofs.Ytllagpbbbdekiac.Fw
