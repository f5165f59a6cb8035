/- Contracts: a minor leaf pulled back by itself: its majors. -/
import Derived.Test.YtmbfflckgmdncaaV9
namespace Go.Proofs.Ytmbfflckgmdncaa.Fw
open Go Go.RowKit
set_option linter.unusedVariables false
set_option linter.unusedSimpArgs false
set_option maxRecDepth 100000
set_option maxHeartbeats 2000000

def bkEC : PCtr := fun _ rg lr vals k => match vals with
  | [.agg [.int .i64 n, .int .i64 d, .int .i64 m, .int .i64 e], .agg [.int .i64 n', .int .i64 d', .int .i64 m', .int .i64 e'], .row i] => rowC lT (rg i) fun ms => (((n, d), (m, e)) : Lf) = ((n', d'), (m', e')) ∧ k [] (.tup [.row i, .int .i64 0])
  | _ => False
def ibEC : PCtr := fun _ rg lr vals k => match vals with
  | [.agg [.int .i64 n', .int .i64 d', .int .i64 m', .int .i64 e', .row i, .row j, .int .i64 f], .agg [.int .i64 n, .int .i64 d, .int .i64 m, .int .i64 e]] => rowC lT (rg i) fun im => rowC lT (rg j) fun ms => (((n, d), (m, e)) : Lf) = ((n', d'), (m', e')) ∧ k [] (.tup [.row j, .int .i64 0])
  | _ => False
end Go.Proofs.Ytmbfflckgmdncaa.Fw
-- %intro
