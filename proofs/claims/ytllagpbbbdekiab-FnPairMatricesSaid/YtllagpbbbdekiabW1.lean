/- Plain laws of matrices whose sums wrap around: products, traces, polynomials. -/
import Derived.Test.YtllagpbbbdekiabK12
namespace Go.Proofs.Ytllagpbbbdekiab.Fw
open Go Go.RowKit
set_option linter.unusedVariables false
set_option linter.unusedSimpArgs false
theorem wrap_id {x : Int} (h1 : -9223372036854775808 ≤ x) (h2 : x ≤ 9223372036854775807) : IntKind.i64.wrap x = x := wrap_of_rng ⟨h1, h2⟩
end Go.Proofs.Ytllagpbbbdekiab.Fw
