/- Plain laws: order of angles, leaves that cross, laminations, the longest leaf. No program. -/
import Derived.Test.YtlplngafncobkaaC8
namespace Go.Proofs.Ytlplngafncobkaa.Fw
set_option linter.unusedVariables false
set_option linter.unusedSimpArgs false

theorem dvd_cop {a b c : Int} (h : a ∣ b * c) (g : Int.gcd a b = 1) : a ∣ c := by
  rw [← Int.natAbs_dvd_natAbs] at h ⊢
  rw [Int.natAbs_mul] at h
  exact Nat.Coprime.dvd_of_dvd_mul_left g h

theorem emod_mul_right (a b t : Int) (h : 0 < t) : (a * t) % (b * t) = a % b * t := by
  rw [Int.mul_comm a t, Int.mul_comm b t, Int.mul_emod_mul_of_pos _ _ h, Int.mul_comm]

/-- Reduced fractions that are equal are the same. -/
theorem frac_eq {a b : Ang} (ha : 1 ≤ a.2) (hb : 1 ≤ b.2) (ga : Int.gcd a.2 a.1 = 1) (gb : Int.gcd b.2 b.1 = 1) (h : a.1 * b.2 = b.1 * a.2) : a = b := by
  have h1 : a.2 ∣ b.2 := by
    have : a.2 ∣ a.1 * b.2 := ⟨b.1, by rw [h, Int.mul_comm]⟩
    exact dvd_cop this ga
  have h2 : b.2 ∣ a.2 := by
    have : b.2 ∣ b.1 * a.2 := ⟨a.1, by rw [← h, Int.mul_comm]⟩
    exact dvd_cop this gb
  have h3 : a.2 = b.2 := Int.dvd_antisymm (by omega) (by omega) h1 h2
  rw [h3] at h
  have h4 : a.1 = b.1 := Int.eq_of_mul_eq_mul_right (by omega) h
  exact Prod.ext h4 h3

theorem ofQ_gcd (n d : Int) (hd : 1 ≤ d) : Int.gcd (ofQ n d).2 (ofQ n d).1 = 1 := by
  have t6 : 0 < Int.gcd d (n % d) := Int.gcd_pos_of_ne_zero_left _ (by omega)
  exact Int.gcd_ediv_gcd_ediv_gcd t6

theorem ofQ_cross (n d : Int) (hd : 1 ≤ d) : (ofQ n d).1 * d = (n % d) * (ofQ n d).2 := by
  have t6 : (0 : Int) < (Int.gcd d (n % d) : Nat) := Int.ofNat_lt.2 (Int.gcd_pos_of_ne_zero_left _ (by omega))
  have d1 : ((Int.gcd d (n % d) : Nat) : Int) ∣ d := Int.gcd_dvd_left ..
  have d2 : ((Int.gcd d (n % d) : Nat) : Int) ∣ (n % d) := Int.gcd_dvd_right ..
  unfold ofQ
  simp only
  generalize ((Int.gcd d (n % d) : Nat) : Int) = g at *
  obtain ⟨x, hx⟩ := d1
  obtain ⟨y, hy⟩ := d2
  rw [hy]
  have e1 : d / g = x := by rw [hx]; exact Int.mul_ediv_cancel_left _ (by omega)
  have e2 : g * y / g = y := Int.mul_ediv_cancel_left _ (by omega)
  rw [e1, e2, hx]
  rw [Int.mul_left_comm, Int.mul_comm g y, Int.mul_assoc, Int.mul_comm g (y * x), Int.mul_assoc, Int.mul_comm x g]

/-- The same fraction, reduced or not. -/
theorem cmp_ofQ (n d m e : Int) (hd : 1 ≤ d) (he : 1 ≤ e) : lessA (ofQ n d) (ofQ m e) ↔ (n % d) * e < (m % e) * d := by
  have c1 := ofQ_cross n d hd
  have c2 := ofQ_cross m e he
  have b1 := (ofQ_bd n d hd).2.1
  have b2 := (ofQ_bd m e he).2.1
  unfold lessA
  generalize ofQ n d = a at *
  generalize ofQ m e = b at *
  obtain ⟨p, q⟩ := a
  obtain ⟨r, s⟩ := b
  simp only at *
  -- p/q = N/d, r/s = M/e
  generalize n % d = N at *
  generalize m % e = M at *
  have key : (p * s) * (d * e) - (r * q) * (d * e) = (N * e - M * d) * (q * s) := by
    have k1 : (p * s) * (d * e) = (p * d) * (s * e) := by ac_rfl
    have k2 : (r * q) * (d * e) = (r * e) * (q * d) := by ac_rfl
    rw [k1, k2, c1, c2, Int.sub_mul]
    congr 1 <;> ac_rfl
  have pde : 0 < d * e := Int.mul_pos (by omega) (by omega)
  have pqs : 0 < q * s := Int.mul_pos (by omega) (by omega)
  constructor
  · intro h
    have h1 : (p * s) * (d * e) < (r * q) * (d * e) := Int.mul_lt_mul_of_pos_right h pde
    have h2 : (N * e - M * d) * (q * s) < 0 := by omega
    rcases Int.lt_or_le (N * e) (M * d) with h3 | h3
    · exact h3
    · have := Int.mul_nonneg (show 0 ≤ N * e - M * d by omega) (by omega : 0 ≤ q * s)
      omega
  · intro h
    have h2 : (N * e - M * d) * (q * s) < 0 := Int.mul_neg_of_neg_of_pos (by omega) pqs
    rcases Int.lt_or_le (p * s) (r * q) with h3 | h3
    · exact h3
    · have := Int.mul_le_mul_of_nonneg_right h3 (by omega : 0 ≤ d * e)
      omega

theorem cmpA_less (a b : Ang) : cmpA a b < 0 ↔ lessA a b := cmpA_neg a b
theorem cmpA_more (a b : Ang) : 0 < cmpA a b ↔ lessA b a := cmpI_pos _ _

/-- Forward distances of reduced fractions in [0, 1): as numbers over a common denominator. -/
theorem order_less {a b c : Ang} (ha : IsA a) (hb : IsA b) (hc : IsA c) :
    lessA (minusA b a) (minusA c a) ↔ (b.1 * a.2 * c.2 - a.1 * b.2 * c.2) % (a.2 * b.2 * c.2) < (c.1 * a.2 * b.2 - a.1 * b.2 * c.2) % (a.2 * b.2 * c.2) := by
  obtain ⟨⟨a1, a2⟩, ⟨a3, a4⟩, _⟩ := ha
  obtain ⟨⟨b1, b2⟩, ⟨b3, b4⟩, _⟩ := hb
  obtain ⟨⟨c1, c2⟩, ⟨c3, c4⟩, _⟩ := hc
  have p1 := mulPos b1 a1
  have p2 := mulPos c1 a1
  unfold minusA
  rw [cmp_ofQ _ _ _ _ p1 p2]
  obtain ⟨x, u⟩ := a
  obtain ⟨y, v⟩ := b
  obtain ⟨z, t⟩ := c
  simp only at *
  have e1 : (y * u * t - x * v * t) % (u * v * t) = (y * u - x * v) % (v * u) * t := by
    rw [← Int.sub_mul, Int.mul_comm u v, emod_mul_right _ _ _ (by omega : 0 < t)]
  have e2 : (z * u * v - x * v * t) % (u * v * t) = (z * u - x * t) % (t * u) * v := by
    rw [show x * v * t = x * t * v by ac_rfl, ← Int.sub_mul, show u * v * t = t * u * v by ac_rfl, emod_mul_right _ _ _ (by omega : 0 < v)]
  rw [e1, e2]
  generalize (y * u - x * v) % (v * u) = X
  generalize (z * u - x * t) % (t * u) = Y
  rw [show X * (t * u) = X * t * u by ac_rfl, show Y * (v * u) = Y * v * u by ac_rfl]
  constructor
  · intro h
    exact Int.lt_of_mul_lt_mul_right h (by omega)
  · intro h
    exact Int.mul_lt_mul_of_pos_right h (by omega)


/-- The three angles as numbers below a common one. -/
theorem common {a b c : Ang} (ha : IsA a) (hb : IsA b) (hc : IsA c) : ∃ A B C M : Int, (0 ≤ A ∧ A < M) ∧ (0 ≤ B ∧ B < M) ∧ (0 ≤ C ∧ C < M) ∧
    (lessA a b ↔ A < B) ∧ (lessA b a ↔ B < A) ∧ (lessA b c ↔ B < C) ∧ (lessA c b ↔ C < B) ∧ (lessA a c ↔ A < C) ∧ (lessA c a ↔ C < A) ∧ (a = b ↔ A = B) ∧ (b = c ↔ B = C) ∧ (a = c ↔ A = C) ∧
    (lessA (minusA b a) (minusA c a) ↔ (B - A) % M < (C - A) % M) := by
  have hord := order_less ha hb hc
  have fab := @frac_eq a b ha.1.1 hb.1.1 (by have := ha.2.2; omega) (by have := hb.2.2; omega)
  have fbc := @frac_eq b c hb.1.1 hc.1.1 (by have := hb.2.2; omega) (by have := hc.2.2; omega)
  have fac := @frac_eq a c ha.1.1 hc.1.1 (by have := ha.2.2; omega) (by have := hc.2.2; omega)
  obtain ⟨⟨a1, a2⟩, ⟨a3, a4⟩, _⟩ := ha
  obtain ⟨⟨b1, b2⟩, ⟨b3, b4⟩, _⟩ := hb
  obtain ⟨⟨c1, c2⟩, ⟨c3, c4⟩, _⟩ := hc
  obtain ⟨x, u⟩ := a
  obtain ⟨y, v⟩ := b
  obtain ⟨z, t⟩ := c
  simp only at *
  have pu : 0 < u := by omega
  have pv : 0 < v := by omega
  have pt : 0 < t := by omega
  have lt {p q : Int} (k : Int) (hk : 0 < k) : p < q ↔ p * k < q * k := ⟨fun h => Int.mul_lt_mul_of_pos_right h hk, fun h => Int.lt_of_mul_lt_mul_right h (by omega)⟩
  have eqk {p q : Int} (k : Int) (hk : 0 < k) : p = q ↔ p * k = q * k := ⟨fun h => by rw [h], fun h => Int.eq_of_mul_eq_mul_right (by omega) h⟩
  refine ⟨x * v * t, y * u * t, z * u * v, u * v * t, ⟨?_, ?_⟩, ⟨?_, ?_⟩, ⟨?_, ?_⟩, ?_, ?_, ?_, ?_, ?_, ?_, ?_, ?_, ?_, hord⟩
  · exact Int.mul_nonneg (Int.mul_nonneg a3 (by omega)) (by omega)
  · exact Int.mul_lt_mul_of_pos_right (Int.mul_lt_mul_of_pos_right (by omega) pv) pt
  · exact Int.mul_nonneg (Int.mul_nonneg b3 (by omega)) (by omega)
  · rw [Int.mul_comm u v]; exact Int.mul_lt_mul_of_pos_right (Int.mul_lt_mul_of_pos_right (by omega) pu) pt
  · exact Int.mul_nonneg (Int.mul_nonneg c3 (by omega)) (by omega)
  · rw [show u * v * t = t * u * v by ac_rfl]; exact Int.mul_lt_mul_of_pos_right (Int.mul_lt_mul_of_pos_right (by omega) pu) pv
  · exact lt t pt
  · exact lt t pt
  · show y * t < z * v ↔ _
    rw [show y * u * t = (y * t) * u by ac_rfl, show z * u * v = (z * v) * u by ac_rfl]; exact lt u pu
  · show z * v < y * t ↔ _
    rw [show y * u * t = (y * t) * u by ac_rfl, show z * u * v = (z * v) * u by ac_rfl]; exact lt u pu
  · show x * t < z * u ↔ _
    rw [show x * v * t = (x * t) * v by ac_rfl]; exact lt v pv
  · show z * u < x * t ↔ _
    rw [show x * v * t = (x * t) * v by ac_rfl]; exact lt v pv
  · rw [← eqk t pt]
    exact ⟨fun h => by cases h; rfl, fab⟩
  · rw [show y * u * t = (y * t) * u by ac_rfl, show z * u * v = (z * v) * u by ac_rfl, ← eqk u pu]
    exact ⟨fun h => by cases h; rfl, fbc⟩
  · rw [show x * v * t = (x * t) * v by ac_rfl, ← eqk v pv]
    exact ⟨fun h => by cases h; rfl, fac⟩

theorem sub_mod {A B M : Int} (h1 : 0 ≤ A ∧ A < M) (h2 : 0 ≤ B ∧ B < M) : (B - A) % M = if A ≤ B then B - A else B - A + M := by
  split
  · exact Int.emod_eq_of_lt (by omega) (by omega)
  · rw [← Int.add_emod_right]
    exact Int.emod_eq_of_lt (by omega) (by omega)

/-- The order of three angles, by their sizes. -/
theorem order_eq {a b c : Ang} (ha : IsA a) (hb : IsA b) (hc : IsA c) :
    orderA a b c = if a = b ∨ b = c ∨ a = c then 0 else if sWithinA b a c = true then 1 else -1 := by
  obtain ⟨A, B, C, M, h1, h2, h3, e1, e2, e3, e4, e5, e6, e7, e8, e9, e10⟩ := common ha hb hc
  unfold orderA
  by_cases h : a = b ∨ b = c ∨ a = c
  · rw [if_pos h, if_pos h]
  · rw [if_neg h, if_neg h]
    rw [e7, e8, e9] at h
    have hw : (sWithinA b a c = true) ↔ (cmpA (minusA b a) (minusA c a) < 0) := by
      rw [cmpA_less, e10, sub_mod h1 h2, sub_mod h1 h3]
      unfold sWithinA
      by_cases hac : lessA a c
      · rw [if_pos hac, Bool.and_eq_true, decide_eq_true_iff, decide_eq_true_iff, e1, e3]
        rw [e5] at hac
        split <;> split <;> omega
      · rw [if_neg hac, Bool.or_eq_true, decide_eq_true_iff, decide_eq_true_iff, e1, e3]
        rw [e5] at hac
        split <;> split <;> omega
    by_cases hc' : cmpA (minusA b a) (minusA c a) < 0
    · rw [if_pos hc', if_pos (hw.2 hc')]
    · rw [if_neg hc', if_neg (fun h => hc' (hw.1 h))]

end Go.Proofs.Ytlplngafncobkaa.Fw
