/- The laws of classes, walked. -/
import Derived.Test.YtllagpbbbdekiacT7
import Derived.Test.YtllagpbbbdekiacK9
namespace Go.Proofs.Ytllagpbbbdekiac.Fw
open Go Go.RowKit
set_option linter.unusedVariables false
set_option linter.unusedSimpArgs false
set_option maxRecDepth 100000
set_option maxHeartbeats 2000000
theorem totL_bd {l : List (List Int)} {n : Nat} (h : ∀ r ∈ l, r.length ≤ n) : totL l ≤ (n : Int) * l.length := by
  induction l with
  | nil => simp [totL]
  | cons r l ih =>
    have h1 := h r (by simp)
    have h2 := ih fun r hr => h r (by simp [hr])
    have e : (n : Int) * ((r :: l).length : Int) = n * (l.length : Int) + n := by rw [List.length_cons]; simp only [Int.natCast_add, Int.natCast_one, Int.mul_add, Int.mul_one]
    rw [e]
    simp only [totL]
    omega
def SmallL (x : List (List Int)) : Prop := List.length (α := List Int) x ≤ 63 ∧ ∀ r ∈ x, List.length (α := Int) r ≤ 63
theorem clsL_small {n : Nat} (c : List Int) (h : n ≤ 63) : SmallL (clsL n c) := by
  unfold clsL
  refine ⟨by have := clsG_len2 n c n; omega, fun r hr => ?_⟩
  unfold clsG at hr
  obtain ⟨k, _, rfl⟩ := List.mem_map.1 hr
  have := ownL_len2 c k n
  omega
theorem nil_small : SmallL [] := ⟨Nat.zero_le _, fun r hr => absurd hr List.not_mem_nil⟩
theorem cloR_small (t : Ang) (n : Int) : SmallL (cloR t n).1 := by
  unfold cloR
  split
  · split
    · rename_i h
      unfold cls1
      exact clsL_small _ (by have := h.2; omega)
    · exact nil_small
  · exact nil_small
theorem jocR_small (t u : Ang) (n : Int) : SmallL (jocR t u n).1 := by
  unfold jocR
  split
  · split
    · rename_i h
      unfold cls2
      exact clsL_small _ (by have := h.2; omega)
    · exact nil_small
  · exact nil_small
theorem SmallL.bd {x : List (List Int)} (h : SmallL x) : List.length (α := List Int) x ≤ 1000 ∧ totL x ≤ 900000 := by
  have h1 := totL_bd h.2
  have h2 := h.1
  exact ⟨by omega, by omega⟩
theorem SmallL.mk {x : List (List Int)} (h : SmallL x) (q : Int) : List.length (α := List Int) (mkSS q x) ≤ 1000 ∧ totL (mkSS q x) ≤ 900000 := by
  rw [mkSS_len, mkSS_tot_all]; exact h.bd
theorem SmallL.eq {x : List (List Int)} (h : SmallL x) : (List.length (α := List Int) x ≤ 100000 ∧ List.length (α := List Int) x ≤ 100000) ∧ (∀ r ∈ x, List.length (α := Int) r ≤ 100000) ∧ (∀ r ∈ x, List.length (α := Int) r ≤ 100000) := by
  have h2 := h.1
  exact ⟨⟨by omega, by omega⟩, fun r hr => by have := h.2 r hr; omega, fun r hr => by have := h.2 r hr; omega⟩
theorem eqLL_self (x : List (List Int)) : eqLL x x = true := decide_eq_true rfl
end Go.Proofs.Ytllagpbbbdekiac.Fw
