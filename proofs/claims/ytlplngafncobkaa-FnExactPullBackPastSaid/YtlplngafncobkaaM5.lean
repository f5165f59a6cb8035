/- Plain laws: angles as rational numbers. No program. -/
import Derived.Test.YtlplngafncobkaaM4
namespace Go.Proofs.Ytlplngafncobkaa.Fw
set_option linter.unusedVariables false
set_option linter.unusedSimpArgs false

/-- The size of a fraction. -/
def vA (a : Ang) : Rat := (a.1 : Rat) / (a.2 : Rat)
/-- A reduced fraction below 1. -/
def IsF (a : Ang) : Prop := 1 ≤ a.2 ∧ 0 ≤ a.1 ∧ a.1 < a.2 ∧ Int.gcd a.2 a.1 = 1
theorem IsA.f {a : Ang} (h : IsA a) : IsF a := ⟨h.1.1, h.2.1.1, by have := h.2.1.2; omega, by have := h.2.2; omega⟩
theorem ofQ_f (n d : Int) (hd : 1 ≤ d) : IsF (ofQ n d) := by
  have h := ofQ_bd n d hd
  exact ⟨h.2.1, h.1.1, by omega, ofQ_gcd n d hd⟩

theorem rpos {d : Int} (h : 1 ≤ d) : (0 : Rat) < (d : Rat) := Rat.intCast_pos.2 (by omega)
theorem div_lt_div {n d m e : Int} (hd : 1 ≤ d) (he : 1 ≤ e) : (n : Rat) / d < (m : Rat) / e ↔ n * e < m * d := by
  have h1 := rpos hd
  have h2 := rpos he
  rw [Rat.div_lt_iff h1, Rat.div_def, Rat.mul_assoc, Rat.mul_comm _ (d : Rat), ← Rat.mul_assoc, ← Rat.div_def, Rat.lt_div_iff h2, ← Rat.intCast_mul, ← Rat.intCast_mul, Rat.intCast_lt_intCast]
theorem div_eq_div {n d m e : Int} (hd : 1 ≤ d) (he : 1 ≤ e) : (n : Rat) / d = (m : Rat) / e ↔ n * e = m * d := by
  have h1 := @div_lt_div n d m e hd he
  have h2 := @div_lt_div m e n d he hd
  constructor
  · intro h; rw [h] at h1 h2
    have := Rat.lt_irrefl (a := (m : Rat) / e)
    have h3 := mt h1.2 this
    have h4 := mt h2.2 this
    omega
  · intro h
    have h3 : ¬ (n : Rat) / d < (m : Rat) / e := fun h' => by have := h1.1 h'; omega
    have h4 : ¬ (m : Rat) / e < (n : Rat) / d := fun h' => by have := h2.1 h'; omega
    grind
theorem lessA_v {a b : Ang} (ha : IsF a) (hb : IsF b) : lessA a b ↔ vA a < vA b := (div_lt_div ha.1 hb.1).symm
theorem eq_v {a b : Ang} (ha : IsF a) (hb : IsF b) : a = b ↔ vA a = vA b :=
  ⟨fun h => by rw [h], fun h => frac_eq ha.1 hb.1 ha.2.2.2 hb.2.2.2 ((div_eq_div ha.1 hb.1).1 h)⟩
theorem v_rng {a : Ang} (h : IsF a) : 0 ≤ vA a ∧ vA a < 1 := by
  have h1 : ¬ (vA a < ((0 : Int) : Rat) / ((1 : Int) : Rat)) := fun h' => by have := (div_lt_div h.1 (by omega)).1 h'; have := h.2.1; omega
  have h2 : vA a < ((1 : Int) : Rat) / ((1 : Int) : Rat) := (div_lt_div h.1 (by omega)).2 (by have := h.2.2.1; omega)
  have e0 : ((0 : Int) : Rat) / ((1 : Int) : Rat) = 0 := by decide +kernel
  have e1 : ((1 : Int) : Rat) / ((1 : Int) : Rat) = 1 := by decide +kernel
  rw [e0] at h1
  rw [e1] at h2
  grind
theorem v_ofQ (n d : Int) (hd : 1 ≤ d) : vA (ofQ n d) = ((n % d : Int) : Rat) / (d : Rat) :=
  (div_eq_div (ofQ_bd n d hd).2.1 hd).2 (ofQ_cross n d hd)
theorem rne {d : Int} (hd : 1 ≤ d) : (d : Rat) ≠ 0 := fun h => by have := rpos hd; rw [h] at this; exact Rat.lt_irrefl this
theorem div_iff {n d x : Rat} (hd : d ≠ 0) : n / d = x ↔ n = x * d := by grind
theorem vA_mul {a : Ang} (h : IsF a) : (a.1 : Rat) = vA a * (a.2 : Rat) := (div_iff (rne h.1)).1 rfl
theorem v_ofQ_k (n d k : Int) (hd : 1 ≤ d) (h1 : k * d ≤ n) (h2 : n < (k + 1) * d) : vA (ofQ n d) = (n : Rat) / (d : Rat) - (k : Rat) := by
  rw [v_ofQ n d hd]
  have e : n % d = n - k * d := by
    rw [show n = n - k * d + k * d by omega, Int.add_mul_emod_self_right]
    rw [Int.add_mul] at h2
    rw [Int.emod_eq_of_lt (by omega) (by omega)]; omega
  have h := rne hd
  rw [e, Rat.intCast_sub, Rat.intCast_mul]
  grind

theorem v_half {a : Ang} (h : IsF a) : vA (ofQ a.1 (2 * a.2)) = vA a / 2 := by
  rw [v_ofQ_k a.1 (2 * a.2) 0 (by have := h.1; omega) (by have := h.2.1; omega) (by have := h.2.2.1; have := h.1; omega)]
  have h1 := vA_mul h
  have h2 := rne h.1
  have h3 : ((2 * a.2 : Int) : Rat) = 2 * (a.2 : Rat) := by rw [Rat.intCast_mul]; rfl
  have h4 : ((2 * a.2 : Int) : Rat) ≠ 0 := rne (by have := h.1; omega)
  have h5 := (div_iff (n := (a.1 : Rat)) (x := vA a / 2) h4).2 (by rw [h3, h1]; grind)
  rw [h5]
  grind
theorem v_half2 {a : Ang} (h : IsF a) : vA (ofQ (a.1 + a.2) (2 * a.2)) = vA a / 2 + 1 / 2 := by
  rw [v_ofQ_k (a.1 + a.2) (2 * a.2) 0 (by have := h.1; omega) (by have := h.2.1; have := h.1; omega) (by have := h.2.2.1; have := h.1; omega)]
  have h1 := vA_mul h
  have h2 := rne h.1
  have h3 : ((2 * a.2 : Int) : Rat) = 2 * (a.2 : Rat) := by rw [Rat.intCast_mul]; rfl
  have h4 : ((2 * a.2 : Int) : Rat) ≠ 0 := rne (by have := h.1; omega)
  have h5 := (div_iff (n := ((a.1 + a.2 : Int) : Rat)) (x := vA a / 2 + 1 / 2) h4).2 (by rw [h3, Rat.intCast_add, h1]; grind)
  rw [h5]
  grind
theorem v_double {a : Ang} (h : IsF a) : vA (doubleA a) = if vA a < 1 / 2 then 2 * vA a else 2 * vA a - 1 := by
  have hh : vA a < 1 / 2 ↔ a.1 * 2 < 1 * a.2 := by
    have := @div_lt_div a.1 a.2 1 2 h.1 (by omega)
    rw [show (((1 : Int) : Rat) / ((2 : Int) : Rat)) = 1 / 2 by decide +kernel] at this
    exact this
  have e : ((2 * a.1 : Int) : Rat) / (a.2 : Rat) = 2 * vA a := by
    unfold vA; rw [Rat.intCast_mul, Rat.div_def, Rat.div_def, Rat.mul_assoc]; rfl
  unfold doubleA
  have h0 := h.1
  have h2 := h.2.1
  have h3 := h.2.2.1
  split
  · rename_i h1
    rw [hh] at h1
    rw [v_ofQ_k (2 * a.1) a.2 0 h.1 (by omega) (by omega), e]
    grind
  · rename_i h1
    rw [hh] at h1
    rw [v_ofQ_k (2 * a.1) a.2 1 h.1 (by omega) (by omega), e]
    grind
theorem v_minus {a b : Ang} (ha : IsF a) (hb : IsF b) : vA (minusA a b) = if vA b ≤ vA a then vA a - vA b else vA a - vA b + 1 := by
  have p := mulPos ha.1 hb.1
  have e : ((a.1 * b.2 - b.1 * a.2 : Int) : Rat) / ((a.2 * b.2 : Int) : Rat) = vA a - vA b := by
    refine (div_iff (rne p)).2 ?_
    rw [Rat.intCast_sub, Rat.intCast_mul, Rat.intCast_mul, Rat.intCast_mul, vA_mul ha, vA_mul hb]
    grind
  have hh : vA b ≤ vA a ↔ b.1 * a.2 ≤ a.1 * b.2 := by
    have := lessA_v ha hb
    unfold lessA at this
    rw [← Rat.not_lt, ← this]; omega
  have ra := v_rng ha
  have rb := v_rng hb
  have l1 : a.1 * b.2 < a.2 * b.2 := Int.mul_lt_mul_of_pos_right ha.2.2.1 (by have := hb.1; omega)
  have l2 : b.1 * a.2 < a.2 * b.2 := by rw [Int.mul_comm a.2]; exact Int.mul_lt_mul_of_pos_right hb.2.2.1 (by have := ha.1; omega)
  have l3 : 0 ≤ a.1 * b.2 := Int.mul_nonneg ha.2.1 (by have := hb.1; omega)
  have l4 : 0 ≤ b.1 * a.2 := Int.mul_nonneg hb.2.1 (by have := ha.1; omega)
  unfold minusA
  split
  · rename_i h1
    rw [hh] at h1
    rw [v_ofQ_k _ _ 0 p (by omega) (by omega), e]
    grind
  · rename_i h1
    rw [hh] at h1
    rw [v_ofQ_k _ _ (-1) p (by omega) (by omega), e, Rat.intCast_neg]
    grind
theorem minus_f {a b : Ang} (ha : IsF a) (hb : IsF b) : IsF (minusA a b) := ofQ_f _ _ (mulPos ha.1 hb.1)
theorem v_dist {a b : Ang} (ha : IsF a) (hb : IsF b) : vA (distA a b) = if vA (minusA a b) < vA (minusA b a) then vA (minusA a b) else vA (minusA b a) := by
  have := cmpA_less (minusA a b) (minusA b a)
  rw [lessA_v (minus_f ha hb) (minus_f hb ha)] at this
  unfold distA
  by_cases h : cmpA (minusA a b) (minusA b a) < 0
  · rw [if_pos h, if_pos (this.1 h)]
  · rw [if_neg h, if_neg (fun h' => h (this.2 h'))]
theorem dist_f {a b : Ang} (ha : IsF a) (hb : IsF b) : IsF (distA a b) := by
  unfold distA; split
  · exact minus_f ha hb
  · exact minus_f hb ha
theorem double_f {a : Ang} (ha : IsF a) : IsF (doubleA a) := ofQ_f _ _ ha.1
theorem order_v {a b c : Ang} (ha : IsF a) (hb : IsF b) (hc : IsF c) :
    orderA a b c = if vA a = vA b ∨ vA b = vA c ∨ vA a = vA c then 0 else if vA (minusA b a) < vA (minusA c a) then 1 else -1 := by
  have := cmpA_less (minusA b a) (minusA c a)
  rw [lessA_v (minus_f hb ha) (minus_f hc ha)] at this
  unfold orderA
  simp only [eq_v ha hb, eq_v hb hc, eq_v ha hc]
  by_cases h0 : vA a = vA b ∨ vA b = vA c ∨ vA a = vA c
  · rw [if_pos h0, if_pos h0]
  · rw [if_neg h0, if_neg h0]
    by_cases h : cmpA (minusA b a) (minusA c a) < 0
    · rw [if_pos h, if_pos (this.1 h)]
    · rw [if_neg h, if_neg (fun h' => h (this.2 h'))]

end Go.Proofs.Ytlplngafncobkaa.Fw
