/- Contracts: the program's orbits. -/
import Derived.Test.YtadlnnjgocknhacO1
namespace Go.Proofs.Ytadlnnjgocknhac.Fw
open Go Go.RowKit
set_option linter.unusedVariables false
set_option linter.unusedSimpArgs false
set_option maxRecDepth 100000
set_option maxHeartbeats 2000000

theorem orb_idx {a : Ang} (h : IsF a) {g : Nat} (hg : ∀ j, j < g → stopA a j = false) :
    (stopA a g = true ∧ idxP (eqA (itA a g)) ((List.range g).map (itA a)) = (preA a : Int)) ∨ (stopA a g = false ∧ idxP (eqA (itA a g)) ((List.range g).map (itA a)) = -1) := by
  rcases idxP_cases (eqA (itA a g)) (0, 0) ((List.range g).map (itA a)) with ⟨h1, h2⟩ | ⟨n, h1, h2, h3, _⟩
  · refine .inr ⟨stop_no fun ⟨h3, h4⟩ => ?_, h1⟩
    have := h2 (itA a (preA a)) (List.mem_map.2 ⟨_, List.mem_range.2 h3, rfl⟩)
    unfold eqA at this
    rw [decide_eq_false_iff_not] at this
    exact this h4
  · have hn : n < g := by simpa using h2
    rw [getD_map_range hn] at h3
    unfold eqA at h3
    rw [decide_eq_true_iff] at h3
    obtain ⟨h4, h5⟩ := it_rep h hg hn h3.symm
    exact .inl ⟨h5, by rw [h1, h4]⟩
end Go.Proofs.Ytadlnnjgocknhac.Fw
