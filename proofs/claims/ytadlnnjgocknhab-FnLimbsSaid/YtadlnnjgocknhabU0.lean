/- Bytes. -/
import Derived.Test.YtadlnnjgocknhabFwT
namespace Go.Proofs.Ytadlnnjgocknhab.Fw
abbrev bT : TyC := .int .u8
end Go.Proofs.Ytadlnnjgocknhab.Fw
