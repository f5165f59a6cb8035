/- Contracts: how the laws compare and mark lists of lists of whole numbers. -/
import Derived.Test.YtllagpbbbdekiabL4
import Derived.Test.YtllagpbbbdekiabHA
namespace Go.Proofs.Ytllagpbbbdekiab.Fw
open Go Go.RowKit
set_option linter.unusedVariables false
set_option linter.unusedSimpArgs false
set_option maxRecDepth 100000
set_option maxHeartbeats 2000000
theorem list_eq9 {α : Type} {l m : List α} (d : α) (h : l.length = m.length) (he : ∀ i, i < l.length → l.getD i d = m.getD i d) : l = m := by
  refine List.ext_getElem h fun i h1 h2 => ?_
  have := he i h1
  rwa [List.getD_eq_getElem?_getD, List.getD_eq_getElem?_getD, List.getElem?_eq_getElem h1, List.getElem?_eq_getElem h2] at this
def eqLI (xs ys : List Int) : Bool := decide (xs = ys)
def eqLL (xs ys : List (List Int)) : Bool := decide (xs = ys)
def eqIC : PCtr := fun _ rg _ vals k => match vals with
  | [.row i, .row j] => rowC iT (rg i) fun xs => rowC iT (rg j) fun ys => (List.length (α := Int) xs ≤ 100000 ∧ List.length (α := Int) ys ≤ 100000) ∧ k [] (.bool (eqLI xs ys))
  | _ => False
def eqSSC : PCtr := fun _ rg _ vals k => match vals with
  | [.row i, .row j] => rowC rT (rg i) fun xs => rowC rT (rg j) fun ys => ((List.length (α := List Int) xs ≤ 100000 ∧ List.length (α := List Int) ys ≤ 100000) ∧ (∀ r ∈ (xs : List (List Int)), List.length (α := Int) r ≤ 100000) ∧ (∀ r ∈ (ys : List (List Int)), List.length (α := Int) r ≤ 100000)) ∧ k [] (.bool (eqLL xs ys))
  | _ => False
end Go.Proofs.Ytllagpbbbdekiab.Fw
