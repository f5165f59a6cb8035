/- Contracts: the reference's pair of an angle; partners. -/
import Derived.Test.YtadlnnjgocknhabQ1
namespace Go.Proofs.Ytadlnnjgocknhab.Fw
open Go Go.RowKit
set_option linter.unusedVariables false
set_option linter.unusedSimpArgs false
set_option maxRecDepth 100000
set_option maxHeartbeats 2000000
theorem okX.perS {a : Ang} (h : okX a) : perS a = perI a := by
  have h2 := h.2
  rcases per_eq h.1 with ⟨h3, h4⟩ | ⟨h3, h4⟩
  · exact h3
  · omega
end Go.Proofs.Ytadlnnjgocknhab.Fw
