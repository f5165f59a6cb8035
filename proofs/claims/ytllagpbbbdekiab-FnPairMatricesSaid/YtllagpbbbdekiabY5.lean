/- The law of orbits of a pair. -/
import Derived.Test.YtllagpbbbdekiabY4
namespace Go.Proofs.Ytllagpbbbdekiab.Fw
open Go Go.RowKit
set_option linter.unusedVariables false
set_option linter.unusedSimpArgs false
set_option maxRecDepth 100000
set_option maxHeartbeats 2000000
theorem poR_bd (x : Ang) (i j q : Int) : (poR x i j q).1.length ≤ 21 ∧ ∀ r ∈ (poR x i j q).1, r.length ≤ 21 := by
  by_cases hA : IsA x
  · by_cases hp : poOk x i j q
    · rw [poR_0 hp]
      have hO := orb8_orb (orb8_N hp.1)
      have hst := stV_ok hO hp.2.2.1 hp.2.2.2.1 hp.2.2.2.2
      have h21 := matP_21 hO
      have hq := hp.2.1
      refine ⟨by simp only [stepsL_len]; omega, fun r hr => ?_⟩
      obtain ⟨s, _, rfl⟩ := List.mem_map.1 hr
      rw [stepR_len hst]; exact h21
    · rw [poR_2 hA hp]; exact ⟨Nat.zero_le _, fun r hr => by simp at hr⟩
  · rw [poR_1 hA]; exact ⟨Nat.zero_le _, fun r hr => by simp at hr⟩
end Go.Proofs.Ytllagpbbbdekiab.Fw
