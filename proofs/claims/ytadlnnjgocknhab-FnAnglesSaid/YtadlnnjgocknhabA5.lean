/- Plain laws of the law of angles. -/
import Derived.Test.YtadlnnjgocknhabA3
namespace Go.Proofs.Ytadlnnjgocknhab.Fw
set_option linter.unusedVariables false
set_option linter.unusedSimpArgs false

theorem isA_of_f {a : Ang} (h : IsF a) (hd : a.2 ≤ 8191) : IsA a := ⟨⟨h.1, hd⟩, ⟨h.2.1, by have := h.2.2.1; omega⟩, by have := h.2.2.2; omega⟩
theorem dbl_half {a : Ang} (h : IsF a) : doubleA (halfA a) = a := by
  have hf := half_f h
  have hr := v_rng h
  refine (eq_v (double_f hf) h).2 ?_
  rw [v_double hf]
  have e : vA (halfA a) = vA a / 2 := v_half h
  rw [e]
  grind
theorem dbl_half2 {a : Ang} (h : IsF a) : doubleA (half2A a) = a := by
  have hf := half2_f h
  have hr := v_rng h
  refine (eq_v (double_f hf) h).2 ?_
  rw [v_double hf]
  have e : vA (half2A a) = vA a / 2 + 1 / 2 := v_half2 h
  rw [e]
  grind
/-- The halves' doubles are the angle. -/
theorem halO_dbl {a : Ang} {i : Nat} (hi : i < (halO a).1.length) : dblO ((halO a).1.getD i (0, 0)) = (a, 0) := by
  by_cases hA : IsA a
  · by_cases hk : okHalf a
    · rw [halO_t hA hk] at hi ⊢
      have h1 := isA_of_f (half_f hA.f) hk.1
      have h2 := isA_of_f (half2_f hA.f) hk.2
      match i, hi with
      | 0, _ => show dblO (halfA a) = _; rw [dblO_t h1, dbl_half hA.f]
      | 1, _ => show dblO (half2A a) = _; rw [dblO_t h2, dbl_half2 hA.f]
      | i + 2, hi => simp at hi; omega
    · rw [halO_l hA hk] at hi; simp at hi
  · rw [halO_f hA] at hi; simp at hi
theorem halO_len (a : Ang) : (halO a).1.length ≤ 2 := by
  by_cases hA : IsA a
  · by_cases hk : okHalf a
    · rw [halO_t hA hk]; exact Nat.le_refl _
    · rw [halO_l hA hk]; exact Nat.zero_le _
  · rw [halO_f hA]; exact Nat.zero_le _
theorem plusA_comm (a b : Ang) : plusA a b = plusA b a := by
  unfold plusA
  rw [Int.add_comm, Int.mul_comm a.2]
theorem addO_comm (a b : Ang) : addO a b = addO b a := by
  by_cases h : IsA a ∧ IsA b
  · rw [addO_t h, addO_t h.symm, plusA_comm]
  · rw [addO_f h, addO_f fun h' => h h'.symm]
theorem distA_comm {a b : Ang} (ha : IsA a) (hb : IsA b) : distA a b = distA b a := by
  refine (eq_v (dist_f ha.f hb.f) (dist_f hb.f ha.f)).2 ?_
  rw [v_dist ha.f hb.f, v_dist hb.f ha.f]
  grind
theorem disO_comm (a b : Ang) : disO a b = disO b a := by
  by_cases h : IsA a ∧ IsA b
  · rw [disO_t h, disO_t h.symm, distA_comm h.1 h.2]
  · rw [disO_f h, disO_f fun h' => h h'.symm]

/-! ### orbits are led into themselves -/
theorem orb_len {a : Ang} (hb : orbB a = true) : ∃ n, lenA a = some n ∧ (orbX a).length = n ∧ 0 < n ∧ orbP a = preA a ∧ preA a < n ∧ itA a n = itA a (preA a) := by
  unfold orbB at hb
  cases hl : lenA a with
  | none => rw [hl] at hb; cases hb
  | some n =>
    have h2 := (lenA_inv hl).2.1
    unfold stopA at h2
    rw [Bool.and_eq_true, decide_eq_true_iff, decide_eq_true_iff] at h2
    refine ⟨n, rfl, by unfold orbX; rw [hl]; simp, by omega, by unfold orbP; rw [hl], h2⟩
theorem orb_get {a : Ang} {n i : Nat} (hl : lenA a = some n) (hi : i < n) : (orbX a).getD i (0, 0) = itA a i := by
  unfold orbX; rw [hl]; exact getD_map_range hi
theorem orb_next {a : Ang} (hA : IsA a) (hb : orbB a = true) {i : Nat} (hi : i < (orbX a).length) :
    dblO ((orbX a).getD i (0, 0)) = ((orbX a).getD (if i + 1 < (orbX a).length then i + 1 else orbP a) (0, 0), 0) := by
  obtain ⟨n, h1, h2, h3, h4, h5, h6⟩ := orb_len hb
  rw [h2] at hi ⊢
  rw [orb_get h1 hi, dblO_t (hA.it i)]
  have e : doubleA (itA a i) = itA a (i + 1) := rfl
  rw [e]
  by_cases h : i + 1 < n
  · rw [if_pos h, orb_get h1 h]
  · rw [if_neg h, h4, orb_get h1 h5, show i + 1 = n by omega, h6]
theorem orb_first {a : Ang} (hb : orbB a = true) : (orbX a).getD 0 (0, 0) = a := by
  obtain ⟨n, h1, h2, h3, _⟩ := orb_len hb
  rw [orb_get h1 h3]; rfl
theorem orO_pd (a : Ang) : (orO a).2 = (pdO a).2 := by
  by_cases h : (orO a).2 = 0
  · obtain ⟨hA, hb⟩ := orO_0 h
    rw [h, pdO_t hA hb]
  · rw [pdO_ne h]
end Go.Proofs.Ytadlnnjgocknhab.Fw
