/- Plain laws of the law of angles. -/
import Derived.Test.YtadlnnjgocknhabA3
namespace Go.Proofs.Ytadlnnjgocknhab.Fw
set_option linter.unusedVariables false
set_option linter.unusedSimpArgs false
/-! ### orbits are led into themselves -/
end Go.Proofs.Ytadlnnjgocknhab.Fw
