/- Contracts: what a minor leaf pulls back, both sides (under way). -/
import Derived.Test.YtmbfflckgmdncaaV4
namespace Go.Proofs.Ytmbfflckgmdncaa.Fw
open Go Go.RowKit
set_option linter.unusedVariables false
set_option linter.unusedSimpArgs false
set_option maxRecDepth 100000
set_option maxHeartbeats 2000000

theorem sDist_bd5 {a b : Ang} (ha : Sm a) (hb : Sm b) : Bd (sDistA a b) := by
  have u4 : 1 ≤ a.2 * b.2 := mulPos ha.2.1 hb.2.1
  have u3 : a.2 * b.2 ≤ 32768 * 32768 := Int.mul_le_mul ha.2.2 hb.2.2 (by have := hb.2.1; omega) (by decide)
  have b1 := ofQ_bd (b.1 * a.2 - a.1 * b.2) (a.2 * b.2) u4
  have b2 := ofQ_bd (-(ofQ (b.1 * a.2 - a.1 * b.2) (a.2 * b.2)).1) (ofQ (b.1 * a.2 - a.1 * b.2) (a.2 * b.2)).2 b1.2.1
  unfold sDistA
  split
  · unfold Bd; omega
  · unfold Bd; omega
def slB (xs ys : List Lf) : Bool := decide (lessA (sDistA (xs.getD 0 lT.dflt).1 (xs.getD 0 lT.dflt).2) (sDistA (ys.getD 0 lT.dflt).1 (ys.getD 0 lT.dflt).2))
def slC : PCtr := fun _ rg _ vals k => match vals with
  | [.row i, .row j] => rowC lT (rg i) fun xs => rowC lT (rg j) fun ys => ((List.length (α := Lf) xs = 2 ∧ ∀ x ∈ (xs : List Lf), SmL x) ∧ List.length (α := Lf) ys = 2 ∧ ∀ x ∈ (ys : List Lf), SmL x) ∧ k [] (.bool (slB xs ys))
  | _ => False
abbrev GSl := (GOk.cons sLess_ok .nil)
end Go.Proofs.Ytmbfflckgmdncaa.Fw
-- %intro
