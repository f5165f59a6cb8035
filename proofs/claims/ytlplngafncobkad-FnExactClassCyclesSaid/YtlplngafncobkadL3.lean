/- Contracts: pairs of numbers, as rows of rows. -/
import Derived.Test.YtlplngafncobkadL2
namespace Go.Proofs.Ytlplngafncobkad.Fw
open Go Go.RowKit
set_option linter.unusedVariables false
set_option linter.unusedSimpArgs false
set_option maxRecDepth 100000
set_option maxHeartbeats 2000000

/-- The pairs (i, k) with k from a on, so many. -/
def prI (i a : Int) : Nat → List (List Int)
  | 0 => []
  | g + 1 => prI i a g ++ [[i, a + g]]
/-- The pairs whose first number lies in 1, 2 .. -/
def prJ (m : Int) : Nat → List (List Int)
  | 0 => []
  | g + 1 => prJ m g ++ prI (g + 1) (g + 2) (m - g - 1).toNat
abbrev rT : TyC := .lst iT 2
def prsC : PCtr := fun _ _ lr vals k => match vals with
  | [.int .i64 m] => (0 ≤ m ∧ m ≤ 64) ∧ k [⟨rT, 52, true, prJ m m.toNat⟩] (.row lr)
  | _ => False
theorem prI_len (i a : Int) : ∀ g, (prI i a g).length = g
  | 0 => rfl
  | g + 1 => by simp [prI, prI_len i a g]
theorem prJ_len (m : Nat) (hm : m ≤ 64) : ∀ g : Nat, (prJ m g).length ≤ 64 * g
  | 0 => Nat.le_refl _
  | g + 1 => by
    have := prJ_len m hm g
    simp only [prJ, List.length_append, prI_len]
    omega
end Go.Proofs.Ytlplngafncobkad.Fw
