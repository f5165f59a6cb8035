/- Contracts: the reference's orbits of at most seven angles, separated pairs. -/
import Derived.Test.YtlplngafncobkadL1
namespace Go.Proofs.Ytlplngafncobkad.Fw
open Go Go.RowKit
set_option linter.unusedVariables false
set_option linter.unusedSimpArgs false
set_option maxRecDepth 100000
set_option maxHeartbeats 2000000

theorem let_3 (x t : Ang) : letA x t = 42 ∨ letA x t = 48 ∨ letA x t = 49 := by
  unfold letA; (repeat' split) <;> simp
/-- The pair of two angles is separated. -/
def apB (x y t : Ang) : Bool := (decide (letA x t = 48) && decide (letA y t = 49)) || (decide (letA x t = 49) && decide (letA y t = 48))
def apC : PCtr := fun _ _ _ vals k => match vals with
  | [.agg [.int .i64 n, .int .i64 d], .agg [.int .i64 m, .int .i64 e], .agg [.int .i64 p, .int .i64 q]] => (IsA (n, d) ∧ IsA (m, e) ∧ IsA (p, q)) ∧ k [] (.bool (apB (n, d) (m, e) (p, q)))
  | _ => False
def ok8 (x : Ang) : Prop := orbB x = true ∧ ((orbX x).length : Int) ≤ 7
instance (x : Ang) : Decidable (ok8 x) := by unfold ok8; infer_instance
def orb8 (x : Ang) : List Ang := if IsA x ∧ ok8 x then orbX x else []
def orbN8 (x : Ang) : Int := if IsA x then (if ok8 x then 0 else 2) else 1
def orb8C : PCtr := fun _ _ lr vals k => match vals with
  | [.agg [.int .i64 n, .int .i64 d]] => True ∧ ∀ ys, ys = orb8 (n, d) → k [⟨aT, 36, true, ys⟩] (.tup [.row lr, .int .i64 (orbN8 (n, d))])
  | _ => False
abbrev GO8 := GOk.cons sIs_ok (GOk.cons sOrbit_ok .nil)
end Go.Proofs.Ytlplngafncobkad.Fw
