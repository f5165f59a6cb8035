/- Plain laws: diameters, laminations that are carried. No program. -/
import Derived.Test.YtlplngafncobkaaC12
namespace Go.Proofs.Ytlplngafncobkaa.Fw
set_option linter.unusedVariables false
set_option linter.unusedSimpArgs false

theorem ofQ_eq (n d m e : Int) (hd : 1 ≤ d) (he : 1 ≤ e) : ofQ n d = ofQ m e ↔ (n % d) * e = (m % e) * d := by
  have c1 := cmp_ofQ n d m e hd he
  have c2 := cmp_ofQ m e n d he hd
  constructor
  · intro h
    rw [h] at c1 c2
    unfold lessA at c1 c2
    omega
  · intro h
    refine frac_eq (ofQ_bd n d hd).2.1 (ofQ_bd m e he).2.1 (ofQ_gcd n d hd) (ofQ_gcd m e he) ?_
    unfold lessA at c1 c2
    omega

theorem dia_eq {l : Lf} (hl : IsL l) : isDiaL l = sDiaL l := by
  obtain ⟨ha, hb, hlt⟩ := hl
  obtain ⟨⟨x, u⟩, ⟨y, v⟩⟩ := l
  obtain ⟨⟨a1, a2⟩, ⟨a3, a4⟩, _⟩ := ha
  obtain ⟨⟨b1, b2⟩, ⟨b3, b4⟩, _⟩ := hb
  unfold lessA at hlt
  simp only at *
  have hm : 0 < u * v := Int.mul_pos (by omega) (by omega)
  have hA : 0 ≤ x * v := Int.mul_nonneg a3 (by omega)
  have hB : y * u < u * v := by rw [Int.mul_comm u v]; exact Int.mul_lt_mul_of_pos_right (by omega) (by omega)
  have half : ((1, 2) : Ang) = ofQ 1 2 := by decide +kernel
  have d1 : minusA (x, u) (y, v) = ofQ (x * v - y * u) (u * v) := rfl
  have d2 : minusA (y, v) (x, u) = ofQ (y * u - x * v) (u * v) := by unfold minusA; rw [Int.mul_comm v u]
  have e1 : (x * v - y * u) % (u * v) = u * v - (y * u - x * v) := by
    rw [← Int.add_emod_right]
    exact (Int.emod_eq_of_lt (by omega) (by omega)).trans (by omega)
  have e2 : (y * u - x * v) % (u * v) = y * u - x * v := Int.emod_eq_of_lt (by omega) (by omega)
  have hless : lessA (minusA (x, u) (y, v)) (minusA (y, v) (x, u)) ↔ u * v - (y * u - x * v) < y * u - x * v := by
    rw [d1, d2, cmp_ofQ _ _ _ _ (by omega) (by omega), e1, e2]
    exact ⟨fun h => Int.lt_of_mul_lt_mul_right h (by omega), fun h => Int.mul_lt_mul_of_pos_right h hm⟩
  have h1 : isDiaL ((x, u), (y, v)) = true ↔ 2 * (y * u - x * v) = u * v := by
    unfold isDiaL sizeL distA
    simp only
    rw [decide_eq_true_iff, half]
    by_cases h : cmpA (minusA (x, u) (y, v)) (minusA (y, v) (x, u)) < 0
    · rw [if_pos h, d1, ofQ_eq _ _ _ _ (by omega) (by omega), e1, show (1 : Int) % 2 = 1 from rfl]
      have := hless.1 ((cmpA_less _ _).1 h)
      omega
    · rw [if_neg h, d2, ofQ_eq _ _ _ _ (by omega) (by omega), e2, show (1 : Int) % 2 = 1 from rfl]
      omega
  have h2 : sDiaL ((x, u), (y, v)) = true ↔ 2 * (y * u - x * v) = u * v := by
    unfold sDiaL doubleA
    simp only
    rw [decide_eq_true_iff, ofQ_eq _ _ _ _ a1 b1, ← emod_mul_right _ _ v (by omega), ← emod_mul_right _ _ u (by omega), Int.mul_assoc, Int.mul_assoc, Int.mul_comm v u]
    generalize x * v = A at *
    generalize y * u = B at *
    generalize u * v = M at *
    have m1 : (2 * A) % M = if 2 * A < M then 2 * A else 2 * A - M := by
      split
      · exact Int.emod_eq_of_lt (by omega) (by omega)
      · rw [← Int.sub_emod_right]; exact Int.emod_eq_of_lt (by omega) (by omega)
    have m2 : (2 * B) % M = if 2 * B < M then 2 * B else 2 * B - M := by
      split
      · exact Int.emod_eq_of_lt (by omega) (by omega)
      · rw [← Int.sub_emod_right]; exact Int.emod_eq_of_lt (by omega) (by omega)
    rw [m1, m2]
    split <;> split <;> omega
  rw [Bool.eq_iff_iff, h1, h2]

theorem car_eq {ys : List Lf} {l : Lf} (hl : IsL l) : carL ys l = sCarL ys l := by
  unfold carL sCarL
  rw [dia_eq hl]
  congr 1
  congr 1
  funext x
  unfold eqL qeL
  congr 1
  exact propext ⟨fun h => h.symm, fun h => h.symm⟩

theorem carried_eq (xs : List Lf) : crB xs = sCrB xs ∧ crC xs = sCrC xs := by
  unfold crB sCrB crC sCrC
  rw [← lam_eq]
  refine ⟨?_, rfl⟩
  by_cases h : lamL xs = true
  · have hall := lam_all h
    congr 1
    rw [Bool.eq_iff_iff, List.all_eq_true, List.all_eq_true]
    exact ⟨fun k x hx => by rw [← car_eq (hall x hx)]; exact k x hx, fun k x hx => by rw [car_eq (hall x hx)]; exact k x hx⟩
  · rw [Bool.not_eq_true] at h
    rw [h]; rfl

end Go.Proofs.Ytlplngafncobkaa.Fw
