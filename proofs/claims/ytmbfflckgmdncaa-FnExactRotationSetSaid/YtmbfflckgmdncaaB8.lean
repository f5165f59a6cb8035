/- Contracts: AddLeaf, the reference. -/
import Derived.Test.YtmbfflckgmdncaaB7
import Derived.Test.YtmbfflckgmdncaaFwFl
namespace Go.Proofs.Ytmbfflckgmdncaa.Fw
open Go Go.RowKit
set_option linter.unusedVariables false
set_option linter.unusedSimpArgs false
set_option maxRecDepth 100000
set_option maxHeartbeats 2000000

abbrev GSin := (GOk.nil : GOk Try.prog [])
abbrev GsAd := (GOk.nil : GOk Try.prog [])
end Go.Proofs.Ytmbfflckgmdncaa.Fw
-- %intro
