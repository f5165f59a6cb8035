/- The law of pair matrices, walked. -/
import Derived.Test.YtadlnnjgocknhaaK8
import Derived.Test.YtadlnnjgocknhaaK9
namespace Go.Proofs.Ytadlnnjgocknhaa.Fw
open Go Go.RowKit
set_option linter.unusedVariables false
set_option linter.unusedSimpArgs false
set_option maxRecDepth 100000
set_option maxHeartbeats 2000000

theorem totL_bd {l : List (List Int)} {n : Nat} (h : ∀ r ∈ l, r.length ≤ n) : totL l ≤ (n : Int) * l.length := by
  induction l with
  | nil => simp [totL]
  | cons r l ih =>
    have h1 := h r (by simp)
    have h2 := ih fun r hr => h r (by simp [hr])
    have e : (n : Int) * ((r :: l).length : Int) = n * (l.length : Int) + n := by rw [List.length_cons]; simp only [Int.natCast_add, Int.natCast_one, Int.mul_add, Int.mul_one]
    rw [e]
    simp only [totL]
    omega
theorem pmO_len (x : Ang) : (pmO x).length ≤ 21 := by
  unfold pmO
  split
  · rename_i h
    have ho := orb8_orb (orb8_N h)
    have := ho.len
    rw [matP_len]
    exact prJ7 _ (by omega)
  · exact Nat.zero_le _
theorem pmO_row (x : Ang) : ∀ r ∈ pmO x, r.length ≤ 21 := by
  intro r hr
  have hl := pmO_len x
  unfold pmO at hr hl
  split at hr
  · rename_i h
    rw [if_pos h] at hl
    rw [matP_sq _ r hr]
    exact hl
  · simp at hr
theorem pmO_bd (x : Ang) : List.length (α := List Int) (pmO x) ≤ 1000 ∧ totL (pmO x) ≤ 900000 := by
  have h1 := totL_bd (pmO_row x)
  have h2 := pmO_len x
  exact ⟨by omega, by omega⟩
theorem mkSS_bd (q : Int) (x : Ang) : List.length (α := List Int) (mkSS q (pmO x)) ≤ 1000 ∧ totL (mkSS q (pmO x)) ≤ 900000 := by
  rw [mkSS_len, mkSS_tot_all]; exact pmO_bd x
theorem pmO_eq (x : Ang) : (List.length (α := List Int) (pmO x) ≤ 100000 ∧ List.length (α := List Int) (pmO x) ≤ 100000) ∧ (∀ r ∈ pmO x, List.length (α := Int) r ≤ 100000) ∧ (∀ r ∈ pmO x, List.length (α := Int) r ≤ 100000) := by
  have h2 := pmO_len x
  have h3 := pmO_row x
  exact ⟨⟨by omega, by omega⟩, fun r hr => by have := h3 r hr; omega, fun r hr => by have := h3 r hr; omega⟩
theorem eqLL_self (x : List (List Int)) : eqLL x x = true := decide_eq_true rfl

def lawPMC : PCtr := fun _ _ _ vals k => match vals with
  | [.agg [.int .i64 n, .int .i64 d]] => True ∧ k [] (.bool true)
  | _ => False
abbrev GLPM := GOk.cons toAngle_ok (GOk.cons sPm_ok (GOk.cons pm_ok (GOk.cons eqSS_ok (GOk.lcons mkSS_ok (GOk.cons hdSS_ok .nil)))))
end Go.Proofs.Ytadlnnjgocknhaa.Fw
