/- Contracts: put, AddLeaf, the program. -/
import Derived.Test.YtmbfflckgmdncaaB6
namespace Go.Proofs.Ytmbfflckgmdncaa.Fw
open Go Go.RowKit
set_option linter.unusedVariables false
set_option linter.unusedSimpArgs false
set_option maxRecDepth 100000
set_option maxHeartbeats 2000000

abbrev GPut := (GOk.nil : GOk Try.prog [])
abbrev GAd := (GOk.nil : GOk Try.prog [])
end Go.Proofs.Ytmbfflckgmdncaa.Fw
-- %intro
