/- Contracts: pairs of numbers, as rows of rows. -/
import Derived.Test.YtllagpbbbdekiacL2
namespace Go.Proofs.Ytllagpbbbdekiac.Fw
open Go Go.RowKit
set_option linter.unusedVariables false
set_option linter.unusedSimpArgs false
set_option maxRecDepth 100000
set_option maxHeartbeats 2000000
abbrev rT : TyC := .lst iT 2
end Go.Proofs.Ytllagpbbbdekiac.Fw
