/- Contracts: where a leaf belongs, by halving. -/
import Derived.Test.YtmbfflckgmdncaaB4
import Derived.Test.YtmbfflckgmdncaaB5
namespace Go.Proofs.Ytmbfflckgmdncaa.Fw
open Go Go.RowKit
set_option linter.unusedVariables false
set_option linter.unusedSimpArgs false
set_option maxRecDepth 100000
set_option maxHeartbeats 2000000

def thereB (xs : List Lf) (l : Lf) : Bool := decide (posL xs l < xs.length ∧ xs.getD (posL xs l) dL = l)
end Go.Proofs.Ytmbfflckgmdncaa.Fw
