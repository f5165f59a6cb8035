/- Plain laws on angles as pairs of whole numbers. No program. -/
import Derived.KernelRfl
namespace Go.Proofs.Ytlplngafncobkaa.Fw
set_option linter.unusedVariables false

abbrev Ang := Int × Int

theorem tmod_pos (n d : Int) (hd : 0 < d) : (n.tmod d + d).tmod d = n % d := by
  have h1 := Int.tmod_lt_of_pos n hd
  have h2 : -d < n.tmod d := by
    have := Int.lt_tmod_of_pos n hd
    omega
  have h3 : n.tmod d = n % d ∨ n.tmod d = n % d - d := by
    rw [Int.tmod_eq_emod]
    split
    · left; omega
    · right
      have : (d.natAbs : Int) = d := by omega
      omega
  rcases h3 with h | h
  · rw [h]
    have := Int.emod_nonneg n (by omega : d ≠ 0)
    have := Int.emod_lt_of_pos n hd
    rw [Int.tmod_eq_emod_of_nonneg (by omega), Int.add_emod_right, Int.emod_emod_of_dvd _ (Int.dvd_refl d)]
  · rw [h]
    have h4 := Int.emod_nonneg n (by omega : d ≠ 0)
    have h5 := Int.emod_lt_of_pos n hd
    rw [show n % d - d + d = n % d by omega, Int.tmod_eq_emod_of_nonneg h4, Int.emod_emod_of_dvd _ (Int.dvd_refl d)]

theorem gcd_step (a b : Int) : Int.gcd b (a.tmod b) = Int.gcd a b := by
  rw [Int.gcd_comm a b]
  have : a.tmod b = a - b * a.tdiv b := by have := Int.mul_tdiv_add_tmod a b; omega
  rw [this, Int.gcd_sub_mul_left_right]

/-- The angle of a fraction, whole turns left out. -/
def ofQ (n d : Int) : Ang := ((n % d) / (Int.gcd d (n % d) : Int), d / (Int.gcd d (n % d) : Int))

def IsA (a : Ang) : Prop := (1 ≤ a.2 ∧ a.2 ≤ 8191) ∧ (0 ≤ a.1 ∧ a.1 ≤ a.2 - 1) ∧ ((Int.gcd a.2 a.1 : Nat) : Int) = 1
instance (a : Ang) : Decidable (IsA a) := by unfold IsA; infer_instance

/-- A fraction whose parts can be multiplied. -/
def Bd (a : Ang) : Prop := (0 ≤ a.1 ∧ a.1 ≤ 1073741824) ∧ (1 ≤ a.2 ∧ a.2 ≤ 1073741824)

theorem IsA.bd {a : Ang} (h : IsA a) : Bd a := by
  obtain ⟨⟨h1, h2⟩, ⟨h3, h4⟩, _⟩ := h
  refine ⟨⟨h3, by omega⟩, h1, by omega⟩

theorem mulBd {x y : Int} (h1 : 0 ≤ x) (h2 : x ≤ 1073741824) (h3 : 0 ≤ y) (h4 : y ≤ 1073741824) : 0 ≤ x * y ∧ x * y ≤ 1152921504606846976 :=
  ⟨Int.mul_nonneg h1 h3, Int.le_trans (Int.mul_le_mul h2 h4 h3 (by omega)) (by omega)⟩
theorem mulPos {x y : Int} (h1 : 1 ≤ x) (h3 : 1 ≤ y) : 1 ≤ x * y := by have := Int.mul_pos (a := x) (b := y) (by omega) (by omega); omega

theorem ofQ_bd (n d : Int) (hd : 1 ≤ d) : (0 ≤ (ofQ n d).1 ∧ (ofQ n d).1 ≤ (ofQ n d).2 - 1) ∧ (1 ≤ (ofQ n d).2 ∧ (ofQ n d).2 ≤ d) := by
  have t4 := Int.emod_nonneg n (by omega : d ≠ 0)
  have t5 := Int.emod_lt_of_pos n (by omega : 0 < d)
  have t6 : (0 : Int) < (Int.gcd d (n % d) : Nat) := Int.ofNat_lt.2 (Int.gcd_pos_of_ne_zero_left _ (by omega))
  have d1 : ((Int.gcd d (n % d) : Nat) : Int) ∣ d := Int.gcd_dvd_left ..
  have d2 : ((Int.gcd d (n % d) : Nat) : Int) ∣ (n % d) := Int.gcd_dvd_right ..
  unfold ofQ
  simp only
  generalize hg : ((Int.gcd d (n % d) : Nat) : Int) = g at *
  obtain ⟨x, hx⟩ := d1
  obtain ⟨y, hy⟩ := d2
  have e1 : d / g = x := by rw [hx]; exact Int.mul_ediv_cancel_left _ (by omega)
  have e2 : (n % d) / g = y := by rw [hy]; exact Int.mul_ediv_cancel_left _ (by omega)
  rw [e1, e2]
  have hx0 : 1 ≤ x := by
    rcases Int.lt_or_le 0 x with h | h
    · omega
    · have := Int.mul_nonpos_of_nonneg_of_nonpos (a := g) (b := x) (by omega) h
      omega
  have hy0 : 0 ≤ y := by
    rcases Int.lt_or_le y 0 with h | h
    · have := Int.mul_neg_of_pos_of_neg (a := g) (b := y) (by omega) h
      omega
    · exact h
  have hyx : y < x := by
    rcases Int.lt_or_le y x with h | h
    · exact h
    · have := Int.mul_le_mul_of_nonneg_left h (by omega : 0 ≤ g)
      omega
  have hxd : x ≤ d := by
    have := Int.mul_le_mul_of_nonneg_right (by omega : 1 ≤ g) (by omega : 0 ≤ x)
    omega
  omega

def minusA (a b : Ang) : Ang := ofQ (a.1 * b.2 - b.1 * a.2) (a.2 * b.2)
def plusA (a b : Ang) : Ang := ofQ (a.1 * b.2 + b.1 * a.2) (a.2 * b.2)
def doubleA (a : Ang) : Ang := ofQ (2 * a.1) a.2
def lessA (a b : Ang) : Prop := a.1 * b.2 < b.1 * a.2
instance (a b : Ang) : Decidable (lessA a b) := by unfold lessA; infer_instance
/-- The sign of a comparison. -/
def cmpI (x y : Int) : Int := if x < y then -1 else if y < x then 1 else 0
def cmpA (a b : Ang) : Int := cmpI (a.1 * b.2) (b.1 * a.2)
def distA (a b : Ang) : Ang := if cmpA (minusA a b) (minusA b a) < 0 then minusA a b else minusA b a
def orderA (a b c : Ang) : Int := if a = b ∨ b = c ∨ a = c then 0 else if cmpA (minusA b a) (minusA c a) < 0 then 1 else -1
abbrev Lf := Ang × Ang
def sizeL (l : Lf) : Ang := distA l.1 l.2
def IsL (l : Lf) : Prop := IsA l.1 ∧ IsA l.2 ∧ lessA l.1 l.2
instance (l : Lf) : Decidable (IsL l) := by unfold IsL; infer_instance
def crossL (l m : Lf) : Bool := decide (orderA l.1 m.1 l.2 * orderA l.1 m.2 l.2 = -1)
def cmpL (l m : Lf) : Int := if cmpA l.1 m.1 = 0 then cmpA l.2 m.2 else cmpA l.1 m.1

theorem cmpI_rng (x y : Int) : -1 ≤ cmpI x y ∧ cmpI x y ≤ 1 := by unfold cmpI; (repeat' split) <;> omega
theorem orderA_rng (a b c : Ang) : -1 ≤ orderA a b c ∧ orderA a b c ≤ 1 := by unfold orderA; (repeat' split) <;> omega

end Go.Proofs.Ytlplngafncobkaa.Fw
