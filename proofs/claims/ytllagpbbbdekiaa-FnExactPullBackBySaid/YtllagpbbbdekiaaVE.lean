/- Contracts: PullBackBy, the reference; plain: both alike (under way). -/
import Derived.Test.YtllagpbbbdekiaaVD
namespace Go.Proofs.Ytllagpbbbdekiaa.Fw
open Go Go.RowKit
set_option linter.unusedVariables false
set_option linter.unusedSimpArgs false
set_option maxRecDepth 100000
set_option maxHeartbeats 2000000

theorem ml_sm {m : Lf} (hm : IsL m) : (smO m).2 = (mlR true m).c ∧ ((mlR true m).c = 0 → (smO m).1 = (mlR true m).j) := by
  have hc := cf_of hm
  unfold cfR at hc
  by_cases h1 : (sfR m).2 = true
  · rw [if_pos h1] at hc
    have hcc : (miR m).c = 0 := by
      by_cases h : (miR m).c = 0
      · exact h
      · rw [if_neg h] at hc; exact congrArg Prod.snd hc
    rw [if_pos hcc] at hc
    have hf : (miR m).f = (sfR m).1 := congrArg Prod.fst hc
    by_cases h2 : (sfR m).1 = 0
    · have h0 : (miR m).f = 0 := by rw [hf, h2]
      rw [smO_0 h1 h2, mlR_4 rfl hcc h0]
      refine ⟨hcc.symm, fun _ => ?_⟩
      show sMajO m = (miR m).j
      have g := ml_facts (ok := true) (m := m) (by rw [mlR_4 rfl hcc h0]; exact hcc)
      by_cases hs : ShortL m
      · by_cases hb : imgB isDiaL m = true ∧ majN m = 0
        · rw [miR_4 hm hs hb]; exact (majO_eq hm).1.symm
        · rw [miR_3 hm hs hb] at hcc; exact absurd hcc (show ¬ (3 : Int) = 0 by decide)
      · rw [miR_2 hm hs] at h0; exact absurd h0 (show ¬ (1 : Int) = 0 by decide)
    · rw [smO_5 h1 h2, mlR_3 rfl hcc (by rw [hf]; exact h2)]
      exact ⟨rfl, fun h => absurd h (show ¬ (5 : Int) = 0 by decide)⟩
  · rw [if_neg h1] at hc
    have h1' : (sfR m).2 = false := by simpa using h1
    have hcc : (miR m).c = 3 := by
      by_cases h : (miR m).c = 0
      · rw [if_pos h] at hc; exact absurd (congrArg Prod.snd hc) (show ¬ (0 : Int) = 3 by decide)
      · rw [if_neg h] at hc; exact congrArg Prod.snd hc
    have hne : ¬ (miR m).c = 0 := by rw [hcc]; decide
    rw [smO_3 h1', mlR_2 rfl hne]
    exact ⟨hcc.symm, fun h => absurd h (by show ¬ (miR m).c = 0; exact hne)⟩
end Go.Proofs.Ytllagpbbbdekiaa.Fw
-- %intro
