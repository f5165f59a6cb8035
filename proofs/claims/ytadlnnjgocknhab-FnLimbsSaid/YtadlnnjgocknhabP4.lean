/- Contracts: slices.SortFunc over ray pairs. -/
import Derived.Test.YtadlnnjgocknhabP3
import Derived.Shelf.SlSortCmp.NoneTotal
import Derived.Shelf.SlGeneric
import Derived.Ground.SlsfProg
import Derived.Lib.QuietBelow
namespace Go.Proofs.Ytadlnnjgocknhab.Fw
open Go Go.RowKit Go.Sort Go.Shelf Go.Lib
set_option linter.unusedVariables false
set_option linter.unusedSimpArgs false
set_option maxRecDepth 100000
set_option maxHeartbeats 2000000
/-! ### the kit's contract of the sort, at this program (this part was written by the kit's lay-plain) -/
abbrev PL : Type := {p : Lf // IsL p}
instance : Inhabited PL := ⟨⟨((0, 1), (1, 2)), by decide⟩⟩
end Go.Proofs.Ytadlnnjgocknhab.Fw
