/- Boxes with two rows, boxes with addresses of boxes. -/
import Derived.Test.YtllagpbbbdekiabGE
namespace Go.Proofs.Ytllagpbbbdekiab.Fw
open Go Go.RowKit
set_option linter.unusedVariables false
set_option linter.unusedSimpArgs false
def boxRR (o : Option (List AVal)) (X : Nat → Nat → Prop) : Prop := match o with | some [.row r, .row s] => X r s | _ => False
theorem boxRR_inv {o : Option (List AVal)} {X : Nat → Nat → Prop} (h : boxRR o X) : ∃ r s, o = some [.row r, .row s] ∧ X r s := by
  unfold boxRR at h
  split at h
  · exact ⟨_, _, rfl, h⟩
  · exact h.elim
def boxP (o : Option (List AVal)) (X : Nat → Prop) : Prop := match o with | some [.loc j 0] => X j | _ => False
theorem boxP_inv {o : Option (List AVal)} {X : Nat → Prop} (h : boxP o X) : ∃ j, o = some [.loc j 0] ∧ X j := by
  unfold boxP at h
  split at h
  · exact ⟨_, rfl, h⟩
  · exact h.elim
end Go.Proofs.Ytllagpbbbdekiab.Fw
