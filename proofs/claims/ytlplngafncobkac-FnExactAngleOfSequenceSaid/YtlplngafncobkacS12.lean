/- Plain laws: expansions are told in the one way. -/
import Derived.Test.YtlplngafncobkacS8
namespace Go.Proofs.Ytlplngafncobkac.Fw
open Go
set_option linter.unusedVariables false
set_option linter.unusedSimpArgs false

/-- The first binary digit of an angle, as a letter. -/
def dgA (x : Ang) : Int := if x.2 ≤ 2 * x.1 then 49 else 48
theorem dgA_v {x : Ang} (h : IsF x) : dgA x = 49 ↔ ¬ vA x < 1 / 2 := by
  have hp := h.1
  have e : vA x < 1 / 2 ↔ 2 * x.1 < x.2 := by
    unfold vA
    have h1 : ((x.1 : Rat) / (x.2 : Rat) < 1 / 2) ↔ ((2 * x.1 : Int) : Rat) < (x.2 : Rat) := by
      have hq : (0 : Rat) < (x.2 : Rat) := Rat.intCast_pos.2 (by omega)
      rw [Rat.intCast_mul]
      have h2 : ((2 : Int) : Rat) = 2 := by decide +kernel
      rw [h2, Rat.div_lt_iff hq]
      constructor <;> intro h <;> grind
    rw [h1, Rat.intCast_lt_intCast]
  rw [e]
  unfold dgA
  split <;> omega
theorem dgA_cases (x : Ang) : dgA x = 48 ∨ dgA x = 49 := by unfold dgA; split <;> simp
theorem v_diff {x y : Ang} (hx : IsF x) (hy : IsF y) (h : dgA x = dgA y) : vA (doubleA x) - vA (doubleA y) = 2 * (vA x - vA y) := by
  have h1 := dgA_v hx
  have h2 := dgA_v hy
  rw [v_double hx, v_double hy]
  rw [h] at h1
  by_cases hq : dgA y = 49
  · rw [if_neg (h1.1 hq), if_neg (h2.1 hq)]; grind
  · have a1 : vA x < 1 / 2 := by
      by_cases hh : vA x < 1 / 2
      · exact hh
      · exact absurd (h1.2 hh) hq
    have a2 : vA y < 1 / 2 := by
      by_cases hh : vA y < 1 / 2
      · exact hh
      · exact absurd (h2.2 hh) hq
    rw [if_pos a1, if_pos a2]; grind
theorem v_diffs {x y : Ang} (hx : IsF x) (hy : IsF y) : ∀ j, (∀ i, i < j → dgA (itA x i) = dgA (itA y i)) → vA (itA x j) - vA (itA y j) = ((2 ^ j : Nat) : Rat) * (vA x - vA y)
  | 0, _ => by
    have : ((2 ^ 0 : Nat) : Rat) = 1 := by decide +kernel
    rw [this]; simp only [itA]; grind
  | j + 1, h => by
    have ih := v_diffs hx hy j fun i hi => h i (by omega)
    rw [itA, itA, v_diff (itA_f hx j) (itA_f hy j) (h j (by omega)), ih, Nat.pow_succ, Rat.natCast_mul]
    have h2 : ((2 : Nat) : Rat) = 2 := by decide +kernel
    rw [h2]; grind
/-- Angles that come back and have the same digits are equal. -/
theorem same_digits {x y : Ang} (hx : IsF x) (hy : IsF y) {q : Nat} (hq : 1 ≤ q) (cx : itA x q = x) (cy : itA y q = y) (h : ∀ i, i < q → dgA (itA x i) = dgA (itA y i)) : x = y := by
  have h1 := v_diffs hx hy q h
  rw [cx, cy] at h1
  have h2 : 2 ≤ 2 ^ q := by
    have := Nat.pow_le_pow_right (n := 2) (by omega) hq
    simpa using this
  have h3 : (2 : Rat) ≤ ((2 ^ q : Nat) : Rat) := by
    have h4 : ((2 : Nat) : Rat) ≤ ((2 ^ q : Nat) : Rat) := Rat.natCast_le_natCast.2 h2
    have h5 : ((2 : Nat) : Rat) = 2 := by decide +kernel
    rwa [h5] at h4
  rw [eq_v hx hy]
  generalize ((2 ^ q : Nat) : Rat) = c at h1 h3
  have h6 : (c - 1) * (vA x - vA y) = 0 := by grind
  rcases Rat.mul_eq_zero.1 h6 with h7 | h7 <;> grind
theorem one_digit {x y : Ang} (hx : IsF x) (hy : IsF y) (hd : doubleA x = doubleA y) (h : dgA x = dgA y) : x = y := by
  have h1 := v_diff hx hy h
  rw [hd] at h1
  rw [eq_v hx hy]
  grind
end Go.Proofs.Ytlplngafncobkac.Fw
-- %intro
