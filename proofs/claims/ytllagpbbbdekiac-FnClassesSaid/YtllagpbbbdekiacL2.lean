/- Contracts: the reference's orbits of at most seven angles, separated pairs. -/
import Derived.Test.YtllagpbbbdekiacL1
namespace Go.Proofs.Ytllagpbbbdekiac.Fw
open Go Go.RowKit
set_option linter.unusedVariables false
set_option linter.unusedSimpArgs false
set_option maxRecDepth 100000
set_option maxHeartbeats 2000000
def ok8 (x : Ang) : Prop := orbB x = true ∧ ((orbX x).length : Int) ≤ 7
instance (x : Ang) : Decidable (ok8 x) := by unfold ok8; infer_instance
end Go.Proofs.Ytllagpbbbdekiac.Fw
