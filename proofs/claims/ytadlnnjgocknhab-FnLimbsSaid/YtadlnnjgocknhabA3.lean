/- Contracts: distances, fractions, doubles, halves, orbits, periods: both sides. -/
import Derived.Test.YtadlnnjgocknhabA2
namespace Go.Proofs.Ytadlnnjgocknhab.Fw
open Go Go.RowKit
set_option linter.unusedVariables false
set_option linter.unusedSimpArgs false
set_option maxRecDepth 100000
set_option maxHeartbeats 2000000
/-! ### fractions -/
def okF (n d : Int) : Prop := (-1000000000 ≤ n ∧ n ≤ 1000000000) ∧ 1 ≤ d ∧ d ≤ 1000000000
instance (n d : Int) : Decidable (okF n d) := by unfold okF; infer_instance
/-! ### doubles, angles -/
/-! ### halves -/
/-! ### orbits -/
/-! ### periods -/
end Go.Proofs.Ytadlnnjgocknhab.Fw
-- %intro
