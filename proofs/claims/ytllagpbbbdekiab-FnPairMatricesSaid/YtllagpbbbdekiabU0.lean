/- Bytes. -/
import Derived.Test.YtllagpbbbdekiabFwT
namespace Go.Proofs.Ytllagpbbbdekiab.Fw
abbrev bT : TyC := .int .u8
end Go.Proofs.Ytllagpbbbdekiab.Fw
