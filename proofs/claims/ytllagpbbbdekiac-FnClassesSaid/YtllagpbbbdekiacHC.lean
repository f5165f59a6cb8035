/- Contracts: halves of angles, leaves that arise when a leaf is pulled back. -/
import Derived.Test.YtllagpbbbdekiacHB
import Derived.Test.YtllagpbbbdekiacGE
namespace Go.Proofs.Ytllagpbbbdekiac.Fw
open Go Go.RowKit
set_option linter.unusedVariables false
set_option linter.unusedSimpArgs false
set_option maxRecDepth 100000
set_option maxHeartbeats 2000000
end Go.Proofs.Ytllagpbbbdekiac.Fw
namespace Go.Proofs.Ytllagpbbbdekiac.Fw
open Go Go.RowKit
set_option linter.unusedVariables false
set_option linter.unusedSimpArgs false
set_option maxRecDepth 100000
set_option maxHeartbeats 2000000
theorem Sm.half {a : Ang} (h : IsA a) : Sm (halfA a) := by
  have := ofQ_bd a.1 (2 * a.2) (by have := h.1.1; omega)
  have := h.1
  unfold Sm halfA
  omega
def PastP (l d : Lf) : Prop := sDiaL d = true ∧ ¬ (doubleA d.1 = l.1 ∨ doubleA d.1 = l.2)
instance (l d : Lf) : Decidable (PastP l d) := by unfold PastP; infer_instance
end Go.Proofs.Ytllagpbbbdekiac.Fw
namespace Go.Proofs.Ytllagpbbbdekiac.Fw
open Go Go.RowKit
set_option linter.unusedVariables false
set_option linter.unusedSimpArgs false
set_option maxRecDepth 100000
set_option maxHeartbeats 2000000
end Go.Proofs.Ytllagpbbbdekiac.Fw
namespace Go.Proofs.Ytllagpbbbdekiac.Fw
open Go Go.RowKit
set_option linter.unusedVariables false
set_option linter.unusedSimpArgs false
set_option maxRecDepth 100000
set_option maxHeartbeats 2000000
end Go.Proofs.Ytllagpbbbdekiac.Fw
