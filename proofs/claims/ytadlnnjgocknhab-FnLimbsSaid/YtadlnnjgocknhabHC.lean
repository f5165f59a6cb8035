/- Contracts: halves of angles, leaves that arise when a leaf is pulled back. -/
import Derived.Test.YtadlnnjgocknhabHB
import Derived.Test.YtadlnnjgocknhabGE
namespace Go.Proofs.Ytadlnnjgocknhab.Fw
open Go Go.RowKit
set_option linter.unusedVariables false
set_option linter.unusedSimpArgs false
set_option maxRecDepth 100000
set_option maxHeartbeats 2000000
end Go.Proofs.Ytadlnnjgocknhab.Fw
/- Contracts: pulling a leaf back past a diameter. -/
namespace Go.Proofs.Ytadlnnjgocknhab.Fw
open Go Go.RowKit
set_option linter.unusedVariables false
set_option linter.unusedSimpArgs false
set_option maxRecDepth 100000
set_option maxHeartbeats 2000000
def PastP (l d : Lf) : Prop := sDiaL d = true ∧ ¬ (doubleA d.1 = l.1 ∨ doubleA d.1 = l.2)
instance (l d : Lf) : Decidable (PastP l d) := by unfold PastP; infer_instance
end Go.Proofs.Ytadlnnjgocknhab.Fw
/- Contracts: the reference pulls a leaf back past a diameter; the law, walked. -/
namespace Go.Proofs.Ytadlnnjgocknhab.Fw
open Go Go.RowKit
set_option linter.unusedVariables false
set_option linter.unusedSimpArgs false
set_option maxRecDepth 100000
set_option maxHeartbeats 2000000
end Go.Proofs.Ytadlnnjgocknhab.Fw
/- The law of leaves that are pulled back past a diameter, walked. -/
namespace Go.Proofs.Ytadlnnjgocknhab.Fw
open Go Go.RowKit
set_option linter.unusedVariables false
set_option linter.unusedSimpArgs false
set_option maxRecDepth 100000
set_option maxHeartbeats 2000000
end Go.Proofs.Ytadlnnjgocknhab.Fw
