/- slices.Insert over leaves: the other roads: at the end, and where there is no room. -/
import Derived.Test.YtmbfflckgmdncaaB1
import Derived.Shelf.Spec.SlicesInsertGrow
namespace Go.Proofs.Ytmbfflckgmdncaa.Fw
open Go Go.RowKit Go.Lib
set_option linter.unusedVariables false
set_option linter.unusedSimpArgs false
set_option maxRecDepth 100000
set_option maxHeartbeats 4000000

abbrev zLf : Value := .agg #[.int .i64 0, .int .i64 0, .int .i64 0, .int .i64 0]
end Go.Proofs.Ytmbfflckgmdncaa.Fw
