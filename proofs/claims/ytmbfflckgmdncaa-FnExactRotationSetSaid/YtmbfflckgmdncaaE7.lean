/- The law of ConditionThatFails, walked: the program. -/
import Derived.Test.YtmbfflckgmdncaaE6
import Derived.Test.YtmbfflckgmdncaaHB
namespace Go.Proofs.Ytmbfflckgmdncaa.Fw
open Go Go.RowKit
set_option linter.unusedVariables false
set_option linter.unusedSimpArgs false
set_option maxRecDepth 100000
set_option maxHeartbeats 2000000

def hvC : PCtr := fun hg rg _ vals k => match vals with
  | [.agg [.int .i64 n, .int .i64 d, .int .i64 m, .int .i64 e], .loc qo 0] => boxR (hg qo) fun ro => rowC lT (rg ro) fun o => ((∀ x ∈ (o : List Lf), SmL x) ∧ SmL ((n, d), (m, e))) ∧ k [] (.bool ((fun l : Lf => List.any (α := Lf) o (crossL l)) ((n, d), (m, e))))
  | _ => False
def haveC : PCtr := fun _ rg _ vals k => match vals with
  | [.row i, .row j] => rowC lT (rg i) fun xs => rowC lT (rg j) fun ys => ((∀ x ∈ (xs : List Lf), SmL x) ∧ ∀ x ∈ (ys : List Lf), SmL x) ∧ k [] (.bool (haveL xs ys))
  | _ => False
def mlC : PCtr := fun hg rg _ vals k => match vals with
  | [.agg [.int .i64 n, .int .i64 d, .int .i64 m, .int .i64 e], .loc qm0 0] => boxLf (hg qm0) fun m0 => ((SmL m0) ∧ SmL ((n, d), (m, e))) ∧ k [] (.bool ((lessLen m0) ((n, d), (m, e))))
  | _ => False
end Go.Proofs.Ytmbfflckgmdncaa.Fw
