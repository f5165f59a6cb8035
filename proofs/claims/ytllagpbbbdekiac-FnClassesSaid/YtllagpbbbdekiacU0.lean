/- Bytes. -/
import Derived.Test.YtllagpbbbdekiacFwT
namespace Go.Proofs.Ytllagpbbbdekiac.Fw
abbrev bT : TyC := .int .u8
end Go.Proofs.Ytllagpbbbdekiac.Fw
