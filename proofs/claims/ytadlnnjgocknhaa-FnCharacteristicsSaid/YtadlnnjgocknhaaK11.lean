/- Contracts: products of matrices, as the program makes them. -/
import Derived.Test.YtadlnnjgocknhaaK8
namespace Go.Proofs.Ytadlnnjgocknhaa.Fw
open Go Go.RowKit
set_option linter.unusedVariables false
set_option linter.unusedSimpArgs false
set_option maxRecDepth 100000
set_option maxHeartbeats 2000000
theorem getD_set_ne' {α : Type} {l : List α} {n m : Nat} {x d : α} (h : m ≠ n) : (l.set n x).getD m d = l.getD m d := by
  rw [List.getD_eq_getElem?_getD, List.getD_eq_getElem?_getD, List.getElem?_set_ne (fun e => h e.symm)]
theorem set_set {α : Type} (l : List α) (n : Nat) (x y : α) : (l.set n x).set n y = l.set n y := by simp
end Go.Proofs.Ytadlnnjgocknhaa.Fw
