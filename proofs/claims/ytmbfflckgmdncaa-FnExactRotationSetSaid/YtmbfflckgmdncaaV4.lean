/- Contracts, the reference: majors of a minor leaf, whether pairs are free, which is shorter. -/
import Derived.Test.YtmbfflckgmdncaaV3
import Derived.Test.YtmbfflckgmdncaaE9
namespace Go.Proofs.Ytmbfflckgmdncaa.Fw
open Go Go.RowKit
set_option linter.unusedVariables false
set_option linter.unusedSimpArgs false
set_option maxRecDepth 100000
set_option maxHeartbeats 2000000

@[irreducible] def smO (m : Lf) : List Lf × Int := if (sfR m).2 = true then (if (sfR m).1 = 0 then (sMajO m, 0) else ([], 5)) else ([], 3)
theorem smO_3 {m : Lf} (h : (sfR m).2 = false) : smO m = ([], 3) := by unfold smO; rw [h]; rfl
theorem smO_5 {m : Lf} (h : (sfR m).2 = true) (h2 : ¬ (sfR m).1 = 0) : smO m = ([], 5) := by unfold smO; rw [if_pos h, if_neg h2]
theorem smO_0 {m : Lf} (h : (sfR m).2 = true) (h2 : (sfR m).1 = 0) : smO m = (sMajO m, 0) := by unfold smO; rw [if_pos h, if_pos h2]
abbrev GSm := (GOk.nil : GOk Try.prog [])
def frB (xs ys : List Lf) : Bool := (List.range 2).all fun i => (List.range 2).all fun j => !sCrossL (xs.getD i lT.dflt) (ys.getD j lT.dflt)
theorem frB_yes {xs ys : List Lf} (h : ∀ i, i < 2 → ∀ j, j < 2 → sCrossL (xs.getD i lT.dflt) (ys.getD j lT.dflt) = false) : frB xs ys = true := by
  unfold frB
  rw [List.all_eq_true]
  intro i hi
  rw [List.all_eq_true]
  intro j hj
  rw [h i (List.mem_range.1 hi) j (List.mem_range.1 hj)]; rfl
theorem frB_no {xs ys : List Lf} {i j : Nat} (hi : i < 2) (hj : j < 2) (h : sCrossL (xs.getD i lT.dflt) (ys.getD j lT.dflt) = true) : frB xs ys = false := by
  cases hf : frB xs ys with
  | false => rfl
  | true =>
    unfold frB at hf
    have h1 := List.all_eq_true.1 (List.all_eq_true.1 hf i (List.mem_range.2 hi)) j (List.mem_range.2 hj)
    rw [h] at h1; cases h1
def frC : PCtr := fun _ rg _ vals k => match vals with
  | [.row i, .row j] => rowC lT (rg i) fun xs => rowC lT (rg j) fun ys => ((List.length (α := Lf) xs = 2 ∧ ∀ x ∈ (xs : List Lf), SmL x) ∧ List.length (α := Lf) ys = 2 ∧ ∀ x ∈ (ys : List Lf), SmL x) ∧ k [] (.bool (frB xs ys))
  | _ => False
abbrev GFr := (GOk.nil : GOk Try.prog [])
end Go.Proofs.Ytmbfflckgmdncaa.Fw
-- %intro
