/- Contracts: orbits of angles. -/
import Derived.Test.YtadlnnjgocknhacN1
import Derived.Test.YtadlnnjgocknhacHB
import Derived.Test.YtadlnnjgocknhacGE
namespace Go.Proofs.Ytadlnnjgocknhac.Fw
open Go Go.RowKit
set_option linter.unusedVariables false
set_option linter.unusedSimpArgs false
set_option maxRecDepth 100000
set_option maxHeartbeats 2000000

theorem getD_map_range {α : Type} {f : Nat → α} {n j : Nat} {d : α} (h : j < n) : ((List.range n).map f).getD j d = f j := by
  rw [List.getD_eq_getElem?_getD, List.getElem?_map, List.getElem?_range h]; rfl
theorem stop_no {a : Ang} {n : Nat} (h : ¬ (preA a < n ∧ itA a n = itA a (preA a))) : stopA a n = false := by
  unfold stopA
  rw [← Bool.decide_and]; exact decide_eq_false h
theorem stop_yes {a : Ang} {n : Nat} (h : preA a < n ∧ itA a n = itA a (preA a)) : stopA a n = true := by
  unfold stopA
  rw [← Bool.decide_and]; exact decide_eq_true h
theorem v2_le (d : Nat) : ∀ k, d < 2 ^ k → v2 d ≤ k := fun k => by
  induction k generalizing d with
  | zero => intro h; rw [show d = 0 by omega, v2]; simp
  | succ k ih =>
    intro h
    by_cases h0 : d = 0 ∨ d % 2 = 1
    · rw [v2, dif_pos h0]; omega
    · rw [v2, dif_neg h0]
      have := ih (d / 2) (by rw [Nat.pow_succ] at h; omega)
      omega
theorem preA_le {a : Ang} (h : IsA a) : preA a ≤ 13 := v2_le _ _ (by have := h.1; omega)

def orbC : PCtr := fun _ _ lr vals k => match vals with
  | [.agg [.int .i64 n, .int .i64 d]] => IsA (n, d) ∧ k [⟨aT, 32, true, orbX (n, d)⟩] (.tup [.row lr, .int .i64 (orbP (n, d)), .bool (orbB (n, d))])
  | _ => False
def eqA (a x : Ang) : Bool := decide (a = x)
def idxAC : PCtr := fun _ rg _ vals k => match vals with
  | [.row i, .agg [.int .i64 p, .int .i64 q]] => rowC aT (rg i) fun xs => True ∧ k [] (.int .i64 (idxP (α := Ang) (eqA (p, q)) xs))
  | _ => False
def hasAC : PCtr := fun _ rg _ vals k => match vals with
  | [.row i, .agg [.int .i64 p, .int .i64 q]] => rowC aT (rg i) fun xs => True ∧ k [] (.bool (List.any (α := Ang) xs (eqA (p, q))))
  | _ => False
end Go.Proofs.Ytadlnnjgocknhac.Fw
