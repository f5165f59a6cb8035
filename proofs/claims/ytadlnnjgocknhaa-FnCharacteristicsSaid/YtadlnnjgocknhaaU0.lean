/- Bytes. -/
import Derived.Test.YtadlnnjgocknhaaFwT
namespace Go.Proofs.Ytadlnnjgocknhaa.Fw
abbrev bT : TyC := .int .u8
end Go.Proofs.Ytadlnnjgocknhaa.Fw
