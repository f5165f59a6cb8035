/- Contracts: what is drawn from a code for angles. -/
import Derived.Test.YtadlnnjgocknhabU2
namespace Go.Proofs.Ytadlnnjgocknhab.Fw
open Go Go.RowKit
set_option linter.unusedVariables false
set_option linter.unusedSimpArgs false
set_option maxRecDepth 100000
set_option maxHeartbeats 2000000
abbrev GUw := (GOk.xcons next_ok (GOk.xcons pick_ok (GOk.xcons bad_ok (GOk.xcons spoil_ok (GOk.cons sOf_ok .nil)))))
/-- An angle, from a code. -/
def dAnC : BCtr := fun hg rg lb lr vals k => match vals with
  | [.row i] => rowC bT (rg i) fun code => Bts code ∧ ∀ x : Ang, True → k none [] (.agg [.int .i64 x.1, .int .i64 x.2])
  | _ => False
/-- Two angles, from a code. -/
def dA2C : BCtr := fun hg rg lb lr vals k => match vals with
  | [.row i] => rowC bT (rg i) fun code => Bts code ∧ ∀ x : Ang × Ang, True → k none [] (.tup [.agg [.int .i64 x.1.1, .int .i64 x.1.2], .agg [.int .i64 x.2.1, .int .i64 x.2.2]])
  | _ => False
end Go.Proofs.Ytadlnnjgocknhab.Fw
-- %intro
