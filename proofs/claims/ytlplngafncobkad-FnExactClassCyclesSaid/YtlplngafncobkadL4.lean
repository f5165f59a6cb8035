/- Contracts: places of angles in an orbit, as the reference finds them. -/
import Derived.Test.YtlplngafncobkadL3
namespace Go.Proofs.Ytlplngafncobkad.Fw
open Go Go.RowKit
set_option linter.unusedVariables false
set_option linter.unusedSimpArgs false
set_option maxRecDepth 100000
set_option maxHeartbeats 2000000

def plC : PCtr := fun _ rg _ vals k => match vals with
  | [.row i, .agg [.int .i64 p, .int .i64 q]] => rowC aT (rg i) fun xs => (List.length (α := Ang) xs ≤ 100) ∧ k [] (.int .i64 (idxP (eqA (p, q)) xs + 1))
  | _ => False
end Go.Proofs.Ytlplngafncobkad.Fw
