/- Bytes. -/
import Derived.Test.YtadlnnjgocknhacFwT
namespace Go.Proofs.Ytadlnnjgocknhac.Fw
abbrev bT : TyC := .int .u8
end Go.Proofs.Ytadlnnjgocknhac.Fw
