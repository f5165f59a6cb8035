/- Plain laws: the angle of a sequence. -/
import Derived.Test.YtlplngafncobkacS12
namespace Go.Proofs.Ytlplngafncobkac.Fw
open Go
set_option linter.unusedVariables false
set_option linter.unusedSimpArgs false

/-! ### powers of two as rational numbers -/
def cN (k : Nat) : Rat := ((2 ^ k : Nat) : Rat)
theorem cN_zero : cN 0 = 1 := by unfold cN; decide +kernel
theorem cN_succ (k : Nat) : cN (k + 1) = 2 * cN k := by
  unfold cN
  rw [Nat.pow_succ, Rat.natCast_mul]
  have h2 : ((2 : Nat) : Rat) = 2 := by decide +kernel
  rw [h2]; grind
theorem cN_add (a b : Nat) : cN (a + b) = cN a * cN b := by unfold cN; rw [Nat.pow_add, Rat.natCast_mul]
theorem cN_pos (k : Nat) : 0 < cN k := by
  unfold cN
  have : ((0 : Nat) : Rat) < ((2 ^ k : Nat) : Rat) := Rat.natCast_lt_natCast.2 (Nat.pow_pos (by omega))
  have h0 : ((0 : Nat) : Rat) = 0 := by decide +kernel
  rwa [h0] at this
theorem cN_int (k : Nat) : (((2 : Int) ^ k : Int) : Rat) = cN k := by
  unfold cN
  rw [← Rat.intCast_natCast, Int.natCast_pow]; rfl

/-! ### numbers of digits -/
def nOf (b : Nat → Int) : Nat → Int
  | 0 => 0
  | k + 1 => 2 * nOf b k + b k
theorem nOf_congr {b c : Nat → Int} : ∀ k, (∀ i, i < k → b i = c i) → nOf b k = nOf c k
  | 0, _ => rfl
  | k + 1, h => by rw [nOf, nOf, nOf_congr k fun i hi => h i (by omega), h k (by omega)]
theorem nOf_rng {b : Nat → Int} : ∀ k, (∀ i, i < k → b i = 0 ∨ b i = 1) → 0 ≤ nOf b k ∧ nOf b k ≤ 2 ^ k - 1
  | 0, _ => by simp [nOf]
  | k + 1, h => by
    have h1 := nOf_rng k fun i hi => h i (by omega)
    have h2 := h k (by omega)
    rw [nOf, Int.pow_succ]
    omega
theorem nOf_lt {b : Nat → Int} : ∀ k, (∀ i, i < k → b i = 0 ∨ b i = 1) → (∃ i, i < k ∧ b i = 0) → nOf b k < 2 ^ k - 1
  | 0, _, ⟨i, hi, _⟩ => by omega
  | k + 1, h, ⟨i, hi, h0⟩ => by
    have h1 := nOf_rng k fun i hi => h i (by omega)
    have h2 := h k (by omega)
    rw [nOf, Int.pow_succ]
    by_cases e : i = k
    · subst e; omega
    · have := nOf_lt k (fun i hi => h i (by omega)) ⟨i, by omega, h0⟩
      omega

/-! ### what is left behind some digits -/
def uR (x : Rat) (b : Nat → Int) : Nat → Rat
  | 0 => x
  | k + 1 => 2 * uR x b k - (b k : Rat)
theorem uR_val (x : Rat) (b : Nat → Int) : ∀ k, uR x b k = cN k * x - (nOf b k : Rat)
  | 0 => by
    have : ((0 : Int) : Rat) = 0 := by decide +kernel
    rw [uR, nOf, cN_zero, this]; grind
  | k + 1 => by
    have h2 : ((2 : Int) : Rat) = 2 := by decide +kernel
    rw [uR, uR_val x b k, cN_succ, nOf, Rat.intCast_add, Rat.intCast_mul, h2]; grind
theorem uR_back {x : Rat} {b : Nat → Int} {k : Nat} (hb : b k = 0 ∨ b k = 1) (h : 0 ≤ uR x b (k + 1) ∧ uR x b (k + 1) < 1) : 0 ≤ uR x b k ∧ uR x b k < 1 := by
  rw [uR] at h
  have h0 : ((0 : Int) : Rat) = 0 := by decide +kernel
  have h1 : ((1 : Int) : Rat) = 1 := by decide +kernel
  rcases hb with hb | hb <;> rw [hb] at h
  · rw [h0] at h; grind
  · rw [h1] at h; grind
theorem uR_backs {x : Rat} {b : Nat → Int} (hb : ∀ k, b k = 0 ∨ b k = 1) {k : Nat} : ∀ j, (0 ≤ uR x b (k + j) ∧ uR x b (k + j) < 1) → 0 ≤ uR x b k ∧ uR x b k < 1
  | 0, h => h
  | j + 1, h => uR_backs hb j (uR_back (hb _) h)
theorem uR_per {x : Rat} {b : Nat → Int} {p q : Nat} (hb : ∀ k, b (p + k + q) = b (p + k)) (h : uR x b (p + q) = uR x b p) : ∀ k, uR x b (p + k + q) = uR x b (p + k)
  | 0 => h
  | k + 1 => by
    have ih := uR_per hb h k
    have e : p + (k + 1) + q = (p + k + q) + 1 := by omega
    rw [e, uR, ih, hb k]
    rfl
theorem uR_pers {x : Rat} {b : Nat → Int} {p q : Nat} (hb : ∀ k, b (p + k + q) = b (p + k)) (h : uR x b (p + q) = uR x b p) : ∀ m, uR x b (p + m * q) = uR x b p
  | 0 => by rw [Nat.zero_mul, Nat.add_zero]
  | m + 1 => by
    have := uR_per hb h (m * q)
    rw [show p + (m + 1) * q = p + m * q + q by rw [Nat.add_mul, Nat.one_mul, Nat.add_assoc], this, uR_pers hb h m]
theorem uR_rng {x : Rat} {b : Nat → Int} {p q : Nat} (h1 : 1 ≤ q) (hd : ∀ k, b k = 0 ∨ b k = 1) (hb : ∀ k, b (p + k + q) = b (p + k)) (h : uR x b (p + q) = uR x b p) (h0 : 0 ≤ uR x b p ∧ uR x b p < 1) (k : Nat) : 0 ≤ uR x b k ∧ uR x b k < 1 := by
  have h2 : k ≤ p + k * q := by
    have := Nat.mul_le_mul_left k h1
    omega
  obtain ⟨j, hj⟩ : ∃ j, p + k * q = k + j := ⟨p + k * q - k, by omega⟩
  refine uR_backs hd j ?_
  rw [← hj, uR_pers hb h k]
  exact h0
/-- The digits of an angle that has the value. -/
theorem uR_digits {x : Rat} {b : Nat → Int} (hd : ∀ k, b k = 0 ∨ b k = 1) (hr : ∀ k, 0 ≤ uR x b k ∧ uR x b k < 1) {a : Ang} (ha : IsF a) (hx : vA a = x) : ∀ k, vA (itA a k) = uR x b k ∧ dgA (itA a k) = 48 + b k := by
  have h0 : ((0 : Int) : Rat) = 0 := by decide +kernel
  have h1 : ((1 : Int) : Rat) = 1 := by decide +kernel
  have step : ∀ k, vA (itA a k) = uR x b k → dgA (itA a k) = 48 + b k ∧ vA (itA a (k + 1)) = uR x b (k + 1) := fun k hk => by
    have hf := itA_f ha k
    have e1 := dgA_v hf
    have e2 := v_double hf
    have e3 := hr (k + 1)
    rw [uR] at e3
    rw [itA, uR, e2]
    rcases hd k with hb | hb <;> rw [hb] at e3 ⊢
    · rw [h0] at e3 ⊢
      have hl : vA (itA a k) < 1 / 2 := by grind
      rw [if_pos hl]
      refine ⟨?_, by grind⟩
      rcases dgA_cases (itA a k) with h | h
      · rw [h]; rfl
      · exact absurd hl (e1.1 h)
    · rw [h1] at e3 ⊢
      have hl : ¬ vA (itA a k) < 1 / 2 := by grind
      rw [if_neg hl]
      exact ⟨by rw [e1.2 hl]; rfl, by grind⟩
  intro k
  induction k with
  | zero => exact ⟨hx, (step 0 hx).1⟩
  | succ k ih =>
    have h2 := (step k ih.1).2
    exact ⟨h2, (step (k + 1) h2).1⟩
theorem uR_conv {b : Nat → Int} {a : Ang} (ha : IsF a) {m : Nat} (hd : ∀ k, k < m → b k = 0 ∨ b k = 1) (hg : ∀ k, k < m → dgA (itA a k) = 48 + b k) (x : Rat) : ∀ k, k ≤ m → vA (itA a k) - uR x b k = cN k * (vA a - x)
  | 0, _ => by rw [cN_zero, itA, uR]; grind
  | k + 1, hk => by
    have ih := uR_conv ha hd hg x k (by omega)
    have h0 : ((0 : Int) : Rat) = 0 := by decide +kernel
    have h1 : ((1 : Int) : Rat) = 1 := by decide +kernel
    have hf := itA_f ha k
    have e1 := dgA_v hf
    have e2 := v_double hf
    have e3 := hg k (by omega)
    rw [itA, uR, e2, cN_succ]
    rcases hd k (by omega) with hb | hb <;> rw [hb] at e3 ⊢
    · rw [h0]
      have hl : vA (itA a k) < 1 / 2 := by
        by_cases h : vA (itA a k) < 1 / 2
        · exact h
        · have := e1.2 h; rw [this] at e3; omega
      rw [if_pos hl]; grind
    · rw [h1]
      have hl : ¬ vA (itA a k) < 1 / 2 := e1.1 e3
      rw [if_neg hl]; grind

/-! ### sequences -/
def ltN (s : Sq) (k : Nat) : Nat := if k < s.1.size then byteAt s.1 k else byteAt s.2 ((k - s.1.size) % s.2.size)
def dB (s : ByteArray) (k : Nat) : Int := (byteAt s k : Int) - 48
def dS (s : Sq) (k : Nat) : Int := (ltN s k : Int) - 48
def topN (s : Sq) : Int := nOf (dB s.1) s.1.size * (2 ^ s.2.size - 1) + nOf (dB s.2) s.2.size
def botN (s : Sq) : Int := 2 ^ s.1.size * (2 ^ s.2.size - 1)
/-- The angle of a sequence. -/
def aS (s : Sq) : Ang := ofQ (topN s) (botN s)
structure BitS (s : Sq) : Prop where
  one : ∀ k, k < s.1.size → dB s.1 k = 0 ∨ dB s.1 k = 1
  two : ∀ k, k < s.2.size → dB s.2 k = 0 ∨ dB s.2 k = 1
  pos : 1 ≤ s.2.size
theorem pow_two {q : Nat} (h : 1 ≤ q) : (2 : Int) ≤ 2 ^ q := by
  obtain ⟨m, rfl⟩ : ∃ m, q = m + 1 := ⟨q - 1, by omega⟩
  have : (1 : Int) ≤ 2 ^ m := Int.pow_pos (by omega)
  rw [Int.pow_succ]; omega
theorem botN_pos {s : Sq} (h : 1 ≤ s.2.size) : 1 ≤ botN s := mulPos (Int.pow_pos (by omega)) (by have := pow_two h; omega)
theorem aS_f {s : Sq} (h : 1 ≤ s.2.size) : IsF (aS s) := ofQ_f _ _ (botN_pos h)
theorem BitS.d {s : Sq} (h : BitS s) (k : Nat) : dS s k = 0 ∨ dS s k = 1 := by
  unfold dS ltN
  split
  · exact h.one k (by assumption)
  · exact h.two _ (Nat.mod_lt _ h.pos)
theorem dS_pre {s : Sq} {k : Nat} (h : k < s.1.size) : dS s k = dB s.1 k := by unfold dS ltN; rw [if_pos h]; rfl
theorem dS_per (s : Sq) (k : Nat) : dS s (s.1.size + k) = dB s.2 (k % s.2.size) := by
  unfold dS ltN
  rw [if_neg (by omega), Nat.add_sub_cancel_left]; rfl
theorem dS_rep (s : Sq) (k : Nat) : dS s (s.1.size + k + s.2.size) = dS s (s.1.size + k) := by
  rw [Nat.add_assoc, dS_per, dS_per, Nat.add_mod_right]
theorem nS_pre (s : Sq) : nOf (dS s) s.1.size = nOf (dB s.1) s.1.size := nOf_congr _ fun i hi => dS_pre hi
theorem nS_add (s : Sq) : ∀ j, j ≤ s.2.size → nOf (dS s) (s.1.size + j) = 2 ^ j * nOf (dB s.1) s.1.size + nOf (dB s.2) j
  | 0, _ => by rw [Nat.add_zero, nS_pre, nOf]; omega
  | j + 1, h => by
    have ih := nS_add s j (by omega)
    have e : s.1.size + (j + 1) = (s.1.size + j) + 1 := by omega
    rw [e, nOf, ih, dS_per, Nat.mod_eq_of_lt (by omega), nOf, Int.pow_succ, Int.mul_add, Int.mul_assoc, ← Int.mul_assoc (2 ^ j) 2, Int.mul_comm (2 ^ j) 2, Int.mul_assoc]
    omega
/-- The value of a sequence. -/
def xS (s : Sq) : Rat := (topN s : Rat) / (botN s : Rat)
theorem xS_pre {s : Sq} (h : 1 ≤ s.2.size) : uR (xS s) (dS s) s.1.size * (cN s.2.size - 1) = (nOf (dB s.2) s.2.size : Rat) := by
  have hb := rne (botN_pos h)
  have e : (topN s : Rat) = xS s * (botN s : Rat) := (div_iff hb).1 rfl
  have h1 : ((1 : Int) : Rat) = 1 := by decide +kernel
  have e2 : (botN s : Rat) = cN s.1.size * (cN s.2.size - 1) := by
    unfold botN
    rw [Rat.intCast_mul, Rat.intCast_sub, cN_int, cN_int, h1]
  have e3 : (topN s : Rat) = (nOf (dB s.1) s.1.size : Rat) * (cN s.2.size - 1) + (nOf (dB s.2) s.2.size : Rat) := by
    unfold topN
    rw [Rat.intCast_add, Rat.intCast_mul, Rat.intCast_sub, cN_int, h1]
  rw [uR_val, nS_pre]
  rw [e2, e3] at e
  grind
theorem cN_gt {q : Nat} (h : 1 ≤ q) : 0 < cN q - 1 := by
  have h1 := pow_two h
  have h2 : ((2 : Int) : Rat) ≤ ((2 ^ q : Int) : Rat) := Rat.intCast_le_intCast.2 h1
  rw [cN_int] at h2
  have h3 : ((2 : Int) : Rat) = 2 := by decide +kernel
  rw [h3] at h2
  grind
theorem xS_per {s : Sq} (h : 1 ≤ s.2.size) : uR (xS s) (dS s) (s.1.size + s.2.size) = uR (xS s) (dS s) s.1.size := by
  have h1 := xS_pre h
  have e1 : nOf (dS s) (s.1.size + s.2.size) = _ := nS_add s s.2.size (Nat.le_refl _)
  rw [uR_val, nS_pre] at h1
  rw [uR_val, uR_val, nS_pre, e1, Rat.intCast_add, Rat.intCast_mul, cN_int, cN_add]
  grind
/-- A sequence of digits that does not end in 1 for ever. -/
structure LowS (s : Sq) : Prop extends BitS s where
  low : nOf (dB s.2) s.2.size < 2 ^ s.2.size - 1
theorem LowS.rng {s : Sq} (h : LowS s) (k : Nat) : 0 ≤ uR (xS s) (dS s) k ∧ uR (xS s) (dS s) k < 1 := by
  refine uR_rng h.pos h.d (dS_rep s) (xS_per h.pos) ?_ k
  have h1 := xS_pre h.pos
  have h2 := cN_gt h.pos
  have h3 := (nOf_rng (b := dB s.2) s.2.size h.two).1
  have h4 := h.low
  have h5 : ((0 : Int) : Rat) ≤ (nOf (dB s.2) s.2.size : Rat) := Rat.intCast_le_intCast.2 h3
  have h6 : (nOf (dB s.2) s.2.size : Rat) < ((2 ^ s.2.size - 1 : Int) : Rat) := Rat.intCast_lt_intCast.2 h4
  have e0 : ((0 : Int) : Rat) = 0 := by decide +kernel
  have e1 : ((1 : Int) : Rat) = 1 := by decide +kernel
  rw [e0] at h5
  rw [Rat.intCast_sub, cN_int, e1] at h6
  rw [← h1] at h5 h6
  generalize uR (xS s) (dS s) s.1.size = u at *
  generalize cN s.2.size - 1 = c at *
  constructor
  · exact Rat.not_lt.1 (fun hn => by
      have := Rat.mul_lt_mul_of_pos_right hn h2
      grind)
  · exact Rat.not_le.1 (fun hn => by
      have := Rat.mul_le_mul_of_nonneg_right hn (Rat.le_of_lt h2)
      grind)
theorem LowS.v {s : Sq} (h : LowS s) : vA (aS s) = xS s := by
  have hp := botN_pos h.pos
  have h0 := h.rng 0
  have h1 : uR (xS s) (dS s) 0 = xS s := rfl
  rw [h1] at h0
  unfold aS
  have hr := rpos hp
  have e : (topN s : Rat) = xS s * (botN s : Rat) := (div_iff (rne hp)).1 rfl
  have e0 : ((0 : Int) : Rat) = 0 := by decide +kernel
  have ha : 0 ≤ topN s := Rat.intCast_le_intCast.1 (by
    rw [e0, e]
    exact Rat.mul_nonneg h0.1 (Rat.le_of_lt hr))
  have hb : topN s < botN s := Rat.intCast_lt_intCast.1 (by
    rw [e]
    have := Rat.mul_lt_mul_of_pos_right h0.2 hr
    grind)
  rw [v_ofQ _ _ hp, Int.emod_eq_of_lt ha hb]; rfl

/-- Has an angle the letters of a sequence as digits? -/
def begB (a : Ang) (s : Sq) : Bool := (List.range (s.1.size + s.2.size)).all (fun k => decide (dgA (itA a k) = (ltN s k : Int))) && decide (itA a (s.1.size + s.2.size) = itA a s.1.size)
theorem begB_iff {a : Ang} {s : Sq} (ha : IsF a) (h : LowS s) : begB a s = true ↔ a = aS s := by
  have hf := aS_f h.pos
  unfold begB
  rw [Bool.and_eq_true, decide_eq_true_iff, List.all_eq_true]
  constructor
  · rintro ⟨h1, h2⟩
    have hg : ∀ k, k < s.1.size + s.2.size → dgA (itA a k) = 48 + dS s k := fun k hk => by
      have := h1 k (List.mem_range.2 hk)
      rw [decide_eq_true_iff] at this
      rw [this]; unfold dS; omega
    have e1 := uR_conv ha (fun k _ => h.d k) hg (xS s) (s.1.size + s.2.size) (Nat.le_refl _)
    have e2 := uR_conv ha (fun k _ => h.d k) hg (xS s) s.1.size (by omega)
    rw [h2, xS_per h.pos, e2, cN_add] at e1
    rw [eq_v ha hf, h.v]
    have h3 := cN_gt h.pos
    have h4 := cN_pos s.1.size
    have h5 : cN s.1.size * (vA a - xS s) * (cN s.2.size - 1) = 0 := by grind
    rcases Rat.mul_eq_zero.1 h5 with h6 | h6
    · rcases Rat.mul_eq_zero.1 h6 with h7 | h7 <;> grind
    · grind
  · intro e
    have hx : vA a = xS s := by rw [e, h.v]
    have hd := uR_digits h.d h.rng ha hx
    refine ⟨fun k hk => ?_, ?_⟩
    · rw [decide_eq_true_iff, (hd k).2]; unfold dS; omega
    · rw [eq_v (itA_f ha _) (itA_f ha _), (hd _).1, (hd _).1, xS_per h.pos]

/-! ### the search for a Den -/
theorem search_num {s : Sq} (h : LowS s) : nOf (dS s) 30 * (aS s).2 ≤ 1073741824 * (aS s).1 ∧ 1073741824 * (aS s).1 < (nOf (dS s) 30 + 1) * (aS s).2 := by
  have h1 := h.rng 30
  have hf := aS_f h.pos
  rw [uR_val, ← h.v] at h1
  have hm := vA_mul hf
  have hp := rpos hf.1
  have ec : cN 30 = ((1073741824 : Int) : Rat) := by decide +kernel
  have e1 : ((1 : Int) : Rat) = 1 := by decide +kernel
  rw [ec] at h1
  constructor
  · refine Rat.intCast_le_intCast.1 ?_
    rw [Rat.intCast_mul, Rat.intCast_mul, hm]
    have := Rat.mul_le_mul_of_nonneg_right (show (nOf (dS s) 30 : Rat) ≤ ((1073741824 : Int) : Rat) * vA (aS s) by grind) (Rat.le_of_lt hp)
    grind
  · refine Rat.intCast_lt_intCast.1 ?_
    rw [Rat.intCast_mul, Rat.intCast_mul, hm, Rat.intCast_add, e1]
    have := Rat.mul_lt_mul_of_pos_right (show ((1073741824 : Int) : Rat) * vA (aS s) < (nOf (dS s) 30 : Rat) + 1 by grind) hp
    grind
/-- The Num that the reference tries for a Den. -/
def numD (f d : Int) : Int := (f * d + 1073741824 - 1) / 1073741824
theorem numD_of {s : Sq} (h : LowS s) (hd : (aS s).2 ≤ 8191) : numD (nOf (dS s) 30) (aS s).2 = (aS s).1 := by
  obtain ⟨h1, h2⟩ := search_num h
  have h3 : (nOf (dS s) 30 + 1) * (aS s).2 = nOf (dS s) 30 * (aS s).2 + (aS s).2 := by rw [Int.add_mul, Int.one_mul]
  have h4 := (aS_f h.pos).1
  unfold numD
  rw [h3] at h2
  generalize nOf (dS s) 30 * (aS s).2 = t at *
  omega
/-- What the reference finds. -/
theorem search_no {s : Sq} (h : LowS s) {d : Int} (hd : 1 ≤ d) (hl : d ≤ 8191) (hne : d ≠ (aS s).2) (h0 : 0 ≤ numD (nOf (dS s) 30) d) (h1 : numD (nOf (dS s) 30) d < d) (hg : Int.gcd d (numD (nOf (dS s) 30) d) = 1) : begB (numD (nOf (dS s) 30) d, d) s = false := by
  rcases hb : begB (numD (nOf (dS s) 30) d, d) s with _ | _
  · rfl
  · have := (begB_iff ⟨hd, h0, h1, hg⟩ h).1 hb
    exact absurd (congrArg Prod.snd this) hne
theorem search_yes {s : Sq} (h : LowS s) (hd : (aS s).2 ≤ 8191) : numD (nOf (dS s) 30) (aS s).2 = (aS s).1 ∧ (aS s).1 * 1073741824 < (nOf (dS s) 30 + 1) * (aS s).2 ∧ (aS s).1 < (aS s).2 ∧ Int.gcd (aS s).2 (aS s).1 = 1 ∧ begB (aS s) s = true := by
  have hf := aS_f h.pos
  exact ⟨numD_of h hd, by rw [Int.mul_comm]; exact (search_num h).2, hf.2.2.1, hf.2.2.2, (begB_iff hf h).2 rfl⟩

/-! ### the program's reckoning -/
/-- A reduced part that a sequence's rest has as its value. -/
structure Red (s : Sq) (i : Nat) (n d : Int) : Prop where
  d1 : 1 ≤ d
  n0 : 0 ≤ n
  nd : n ≤ d
  g : Int.gcd d n = 1
  e : n * botN s = d * (2 ^ i * topN s - nOf (dB s.1) i * botN s)
theorem gcd_of {a b : Int} (h : ∀ k : Int, k ∣ a → k ∣ b → k ∣ 1) : Int.gcd a b = 1 := by
  have h1 := h (Int.gcd a b : Nat) (Int.gcd_dvd_left ..) (Int.gcd_dvd_right ..)
  have h2 : Int.gcd a b ∣ 1 := Int.natCast_dvd_natCast.1 h1
  exact Nat.dvd_one.1 h2
theorem dvd_of_gcd {a b k : Int} (h : Int.gcd a b = 1) (h1 : k ∣ a) (h2 : k ∣ b) : k ∣ 1 := by
  have := Int.dvd_coe_gcd h1 h2
  rw [h] at this
  exact this
theorem dvd_co {k m n : Int} (h : Int.gcd k n = 1) (h1 : k ∣ m * n) : k ∣ m := by
  rw [Int.gcd_eq_natAbs_gcd_natAbs] at h
  have h2 := Int.natAbs_dvd_natAbs.2 h1
  rw [Int.natAbs_mul] at h2
  exact Int.natAbs_dvd_natAbs.1 (Nat.Coprime.dvd_of_dvd_mul_right h h2)
theorem Red.start {s : Sq} (h : BitS s) (R D : Int) (hR : R = nOf (dB s.2) s.2.size) (hD : D = 2 ^ s.2.size - 1) : Red s s.1.size (R / (Int.gcd D R : Int)) (D / (Int.gcd D R : Int)) := by
  have hp := pow_two h.pos
  have hr := nOf_rng (b := dB s.2) s.2.size h.two
  have hD1 : 1 ≤ D := by omega
  have hg : (0 : Int) < (Int.gcd D R : Nat) := Int.ofNat_lt.2 (Int.gcd_pos_of_ne_zero_left _ (by omega))
  obtain ⟨x, hx⟩ : ((Int.gcd D R : Nat) : Int) ∣ D := Int.gcd_dvd_left ..
  obtain ⟨y, hy⟩ : ((Int.gcd D R : Nat) : Int) ∣ R := Int.gcd_dvd_right ..
  have hco : Int.gcd (D / (Int.gcd D R : Int)) (R / (Int.gcd D R : Int)) = 1 := Int.gcd_ediv_gcd_ediv_gcd (Int.ofNat_lt.1 hg)
  generalize ((Int.gcd D R : Nat) : Int) = g at *
  have e1 : D / g = x := by rw [hx]; exact Int.mul_ediv_cancel_left _ (by omega)
  have e2 : R / g = y := by rw [hy]; exact Int.mul_ediv_cancel_left _ (by omega)
  rw [e1, e2] at hco ⊢
  have hx0 : 1 ≤ x := by
    rcases Int.lt_or_le 0 x with h | h
    · omega
    · have := Int.mul_nonpos_of_nonneg_of_nonpos (a := g) (b := x) (by omega) h
      omega
  have hy0 : 0 ≤ y := by
    rcases Int.lt_or_le y 0 with h | h
    · have := Int.mul_neg_of_pos_of_neg (a := g) (b := y) (by omega) h
      omega
    · exact h
  have hyx : y ≤ x := by
    rcases Int.lt_or_le x y with h | h
    · have := Int.mul_lt_mul_of_pos_left h hg
      omega
    · exact h
  refine ⟨hx0, hy0, hyx, hco, ?_⟩
  have et : topN s = nOf (dB s.1) s.1.size * D + R := by rw [topN, hD, hR]
  have eb : botN s = 2 ^ s.1.size * D := by rw [botN, hD]
  rw [et, eb, hx, hy]
  generalize (2 : Int) ^ s.1.size = c
  generalize nOf (dB s.1) s.1.size = m
  grind
theorem Red.next {s : Sq} (h : BitS s) {i : Nat} {n d : Int} (hi : i < s.1.size) (hr : Red s (i + 1) n d) :
    (((n + d * dB s.1 i) % 2 = 0 → Red s i ((n + d * dB s.1 i) / 2) d) ∧ ((n + d * dB s.1 i) % 2 ≠ 0 → Red s i (n + d * dB s.1 i) (2 * d))) := by
  obtain ⟨h1, h2, h3, h4, h5⟩ := hr
  have hb := h.one i hi
  generalize hm : n + d * dB s.1 i = m
  have hm0 : 0 ≤ m ∧ m ≤ 2 * d := by
    rcases hb with hb | hb <;> rw [hb] at hm <;> omega
  have hg : Int.gcd d m = 1 := gcd_of fun k k1 k2 => dvd_of_gcd h4 k1 (by
    have : n = m - d * dB s.1 i := by omega
    rw [this]
    exact Int.dvd_sub k2 (Int.dvd_mul_of_dvd_left k1))
  have he : m * botN s = 2 * d * (2 ^ i * topN s - nOf (dB s.1) i * botN s) := by
    rw [← hm, Int.add_mul, h5, nOf, Int.pow_succ]
    generalize (2 : Int) ^ i = c
    grind
  constructor
  · intro h0
    obtain ⟨t, ht⟩ : ∃ t, m = 2 * t := ⟨m / 2, by omega⟩
    have e : m / 2 = t := by omega
    rw [e]
    refine ⟨h1, by omega, by omega, gcd_of fun k k1 k2 => dvd_of_gcd hg k1 (by rw [ht]; exact Int.dvd_mul_of_dvd_right k2), ?_⟩
    rw [ht, Int.mul_assoc, Int.mul_assoc] at he
    exact Int.eq_of_mul_eq_mul_left (by omega) he
  · intro h0
    refine ⟨by omega, hm0.1, hm0.2, gcd_of fun k k1 k2 => ?_, he⟩
    -- an odd number has no divisor with 2
    have hk : Int.gcd k 2 = 1 := by
      have hd := Int.gcd_dvd_right (a := k) (b := 2)
      have hd2 : ((Int.gcd k 2 : Nat) : Int) ∣ m := Int.dvd_trans (Int.gcd_dvd_left ..) k2
      have hle : Int.gcd k 2 ≤ 2 := Nat.le_of_dvd (by omega) (Int.natCast_dvd_natCast.1 hd)
      have hpos : 0 < Int.gcd k 2 := Int.gcd_pos_of_ne_zero_right _ (by omega)
      rcases Nat.lt_or_ge (Int.gcd k 2) 2 with hh | hh
      · omega
      · have : Int.gcd k 2 = 2 := by omega
        rw [this] at hd2
        omega
    rw [Int.mul_comm] at k1
    exact dvd_of_gcd hg (dvd_co hk k1) k2
theorem Red.dvd {s : Sq} (h : BitS s) {i : Nat} {n d : Int} (hr : Red s i n d) : d ∣ (aS s).2 := by
  obtain ⟨h1, h2, h3, h4, h5⟩ := hr
  have hp := botN_pos h.pos
  have hf := aS_f h.pos
  have hv : vA (aS s) = _ := v_ofQ (topN s) (botN s) hp
  unfold vA at hv
  have hq := (div_eq_div hf.1 hp).1 hv
  have hk := Int.mul_ediv_add_emod (topN s) (botN s)
  generalize topN s / botN s = k at hk
  generalize topN s % botN s = r at *
  generalize (aS s).1 = a at *
  generalize (aS s).2 = b at *
  have e : n * b = d * (2 ^ i * (a + k * b) - nOf (dB s.1) i * b) := by
    have hz : botN s ≠ 0 := by omega
    refine Int.eq_of_mul_eq_mul_left hz ?_
    have : botN s * (n * b) = (n * botN s) * b := by grind
    rw [this, h5, ← hk]
    generalize (2 : Int) ^ i = c
    grind
  have hdv : d ∣ n * b := ⟨_, e⟩
  rw [Int.mul_comm] at hdv
  exact dvd_co h4 hdv
theorem Red.done {s : Sq} (h : BitS s) {n d : Int} (hr : Red s 0 n d) : ofQ n d = aS s := by
  obtain ⟨h1, h2, h3, h4, h5⟩ := hr
  have hp := botN_pos h.pos
  have h6 : n * botN s = topN s * d := by
    rw [h5, nOf]
    simp only [Int.pow_zero, Int.one_mul, Int.zero_mul, Int.sub_zero]
    exact Int.mul_comm _ _
  rw [eq_v (ofQ_f _ _ h1) (aS_f h.pos)]
  have e1 : vA (ofQ n d) = _ := v_ofQ n d h1
  have e2 : vA (aS s) = _ := v_ofQ (topN s) (botN s) hp
  rw [e1, e2, div_eq_div h1 hp]
  have k1 := Int.mul_ediv_add_emod n d
  have k2 := Int.mul_ediv_add_emod (topN s) (botN s)
  have r1 := Int.emod_nonneg n (show d ≠ 0 by omega)
  have r2 := Int.emod_lt_of_pos n (show 0 < d by omega)
  have r3 := Int.emod_nonneg (topN s) (show botN s ≠ 0 by omega)
  have r4 := Int.emod_lt_of_pos (topN s) (show 0 < botN s by omega)
  -- (n mod d) B and (A mod B) d are both n B modulo d B
  have t1 : n % d * botN s = (n * botN s) % (d * botN s) := by
    rw [Int.mul_comm (n % d), ← Int.mul_emod_mul_of_pos n d (by omega : 0 < botN s), Int.mul_comm (botN s) n, Int.mul_comm (botN s) d]
  have t2 : topN s % botN s * d = (topN s * d) % (botN s * d) := by
    rw [Int.mul_comm (topN s % botN s), ← Int.mul_emod_mul_of_pos (topN s) (botN s) (by omega : 0 < d), Int.mul_comm d (topN s), Int.mul_comm d (botN s)]
  rw [t1, t2, h6, Int.mul_comm d]
end Go.Proofs.Ytlplngafncobkac.Fw
-- %intro
