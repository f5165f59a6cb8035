/- Plain laws: angles doubled again and again. No program. -/
import Derived.Test.YtllagpbbbdekiabHB
namespace Go.Proofs.Ytllagpbbbdekiab.Fw
set_option linter.unusedVariables false
set_option linter.unusedSimpArgs false
theorem emod_dbl {n d : Int} (h0 : 0 ≤ n) (h1 : n < d) : (2 * n) % d = if 2 * n < d then 2 * n else 2 * n - d := by
  split
  · exact Int.emod_eq_of_lt (by omega) (by omega)
  · rw [← Int.sub_emod_right (2 * n) d]; exact Int.emod_eq_of_lt (by omega) (by omega)
theorem gcd_emod (d n : Int) : Int.gcd d (n % d) = Int.gcd d n := by
  rw [show n % d = n - d * (n / d) by have := Int.mul_ediv_add_emod n d; omega, Int.gcd_sub_mul_left_right]
theorem dbl_odd {a : Ang} (h : IsF a) (ho : a.2 % 2 = 1) : doubleA a = (2 * a.1 % a.2, a.2) := by
  have hg : Int.gcd a.2 (2 * a.1 % a.2) = 1 := by
    rw [gcd_emod]
    have h2 : Int.gcd a.2 2 = 1 := by
      have hd : ((Int.gcd a.2 2 : Nat) : Int) ∣ 2 := Int.gcd_dvd_right ..
      have hd2 : ((Int.gcd a.2 2 : Nat) : Int) ∣ a.2 := Int.gcd_dvd_left ..
      have hle : ((Int.gcd a.2 2 : Nat) : Int) ≤ 2 := Int.le_of_dvd (by omega) hd
      have hpos : 0 < Int.gcd a.2 2 := Int.gcd_pos_of_ne_zero_right _ (by omega)
      have hne : Int.gcd a.2 2 ≠ 2 := fun e => by rw [e] at hd2; have := Int.emod_eq_zero_of_dvd hd2; omega
      omega
    have := h.2.2.2
    rw [Int.gcd_eq_natAbs_gcd_natAbs] at *
    rw [Int.natAbs_mul]
    exact Nat.Coprime.mul_right h2 this
  unfold doubleA ofQ
  rw [hg]
  simp
theorem dbl_even {a : Ang} (h : IsF a) (he : a.2 % 2 = 0) : doubleA a = (a.1 % (a.2 / 2), a.2 / 2) := by
  obtain ⟨e, hq⟩ : ∃ e, a.2 = 2 * e := ⟨a.2 / 2, by omega⟩
  have e0 : 1 ≤ e := by have := h.1; omega
  have em : 2 * a.1 % (2 * e) = 2 * (a.1 % e) := by
    have := emod_mul_right a.1 e 2 (by omega)
    rw [Int.mul_comm a.1, Int.mul_comm e] at this
    rw [this, Int.mul_comm]
  have hg : Int.gcd e (a.1 % e) = 1 := by
    rw [gcd_emod]
    have h1 := h.2.2.2
    rw [hq] at h1
    have hd1 : ((Int.gcd e a.1 : Nat) : Int) ∣ e := Int.gcd_dvd_left ..
    have hd2 : ((Int.gcd e a.1 : Nat) : Int) ∣ a.1 := Int.gcd_dvd_right ..
    have hd3 : ((Int.gcd e a.1 : Nat) : Int) ∣ 2 * e := Int.dvd_trans hd1 ⟨2, Int.mul_comm ..⟩
    have := Int.dvd_gcd hd3 hd2
    rw [h1] at this
    exact Nat.dvd_one.1 this
  have hg2 : Int.gcd (2 * e) (2 * (a.1 % e)) = 2 := by rw [Int.gcd_mul_left, hg]; rfl
  unfold doubleA ofQ
  rw [hq, em, hg2, show 2 * e / 2 = e by omega]
  refine Prod.ext ?_ ?_
  · show 2 * (a.1 % e) / 2 = _; omega
  · show 2 * e / 2 = e; omega
theorem two_cases (n : Int) : n % 2 = 0 ∨ n % 2 = 1 := by omega
def v2 (d : Nat) : Nat := if h : d = 0 ∨ d % 2 = 1 then 0 else v2 (d / 2) + 1
termination_by d
theorem v2_odd {d : Nat} (h : d % 2 = 1) : v2 d = 0 := by rw [v2]; rw [dif_pos (.inr h)]
theorem v2_even {d : Nat} (h : d % 2 = 0) (h0 : d ≠ 0) : v2 d = v2 (d / 2) + 1 := by rw [v2]; rw [dif_neg (by omega)]
def preA (a : Ang) : Nat := v2 a.2.toNat
theorem preA_odd {a : Ang} (h : IsF a) (ho : a.2 % 2 = 1) : preA a = 0 := v2_odd (by have := h.1; omega)
theorem preA_even {a : Ang} (h : IsF a) (he : a.2 % 2 = 0) : preA a = preA (doubleA a) + 1 := by
  have h1 := h.1
  rw [dbl_even h he]
  unfold preA
  rw [v2_even (d := a.2.toNat) (by omega) (by omega)]
  simp only
  rw [show (a.2 / 2).toNat = a.2.toNat / 2 by omega]
theorem preA_zero {a : Ang} (h : IsF a) : preA a = 0 ↔ a.2 % 2 = 1 := by
  constructor
  · intro h0
    rcases two_cases a.2 with h1 | h1
    · rw [preA_even h h1] at h0; omega
    · exact h1
  · exact preA_odd h
theorem preA_dbl {a : Ang} (h : IsF a) : preA (doubleA a) = preA a - 1 := by
  rcases two_cases a.2 with h1 | h1
  · rw [preA_even h h1]; omega
  · rw [preA_odd h h1, dbl_odd h h1]
    exact v2_odd (by have := h.1; simp only; omega)
theorem dbl_inj {a b : Ang} (ha : IsF a) (hb : IsF b) (oa : a.2 % 2 = 1) (ob : b.2 % 2 = 1) (h : doubleA a = doubleA b) : a = b := by
  rw [dbl_odd ha oa, dbl_odd hb ob, Prod.mk.injEq, emod_dbl ha.2.1 ha.2.2.1, emod_dbl hb.2.1 hb.2.2.1] at h
  obtain ⟨h1, h2⟩ := h
  refine Prod.ext ?_ h2
  have := ha.2.2.1
  have := hb.2.2.1
  split at h1 <;> split at h1 <;> omega
def itA (a : Ang) : Nat → Ang
  | 0 => a
  | n + 1 => doubleA (itA a n)
theorem itA_f {a : Ang} (h : IsF a) : ∀ n, IsF (itA a n)
  | 0 => h
  | n + 1 => double_f (itA_f h n)
theorem itA_pre {a : Ang} (h : IsF a) : ∀ n, preA (itA a n) = preA a - n
  | 0 => rfl
  | n + 1 => by rw [itA, preA_dbl (itA_f h n), itA_pre h n]; omega
theorem IsA.it {a : Ang} (h : IsA a) : ∀ n, IsA (itA a n)
  | 0 => h
  | n + 1 => (IsA.it h n).double
def stopA (a : Ang) (n : Nat) : Bool := decide (preA a < n) && decide (itA a n = itA a (preA a))
theorem it_rep {a : Ang} (h : IsF a) {n : Nat} (hn : ∀ m, m < n → stopA a m = false) {j : Nat} (hj : j < n) (he : itA a j = itA a n) : j = preA a ∧ stopA a n = true := by
  have hp := congrArg preA he
  rw [itA_pre h, itA_pre h] at hp
  have hge : preA a ≤ j := by omega
  have key : j = preA a := by
    rcases Nat.eq_or_lt_of_le hge with h1 | h1
    · exact h1.symm
    · exfalso
      have q1 : (itA a (j - 1)).2 % 2 = 1 := (preA_zero (itA_f h _)).1 (by rw [itA_pre h]; omega)
      have q2 : (itA a (n - 1)).2 % 2 = 1 := (preA_zero (itA_f h _)).1 (by rw [itA_pre h]; omega)
      have e1 : itA a j = doubleA (itA a (j - 1)) := by rw [show j = (j - 1) + 1 by omega]; rfl
      have e2 : itA a n = doubleA (itA a (n - 1)) := by rw [show n = (n - 1) + 1 by omega]; rfl
      rw [e1, e2] at he
      have h3 := dbl_inj (itA_f h _) (itA_f h _) q1 q2 he
      have down : ∀ k, k ≤ j - preA a → itA a (j - k) = itA a (n - k) := fun k => by
        induction k with
        | zero => intro _; rw [Nat.sub_zero, Nat.sub_zero, e1, e2, h3]
        | succ k ih =>
          intro hk
          have h4 := ih (by omega)
          have r1 : (itA a (j - (k + 1))).2 % 2 = 1 := (preA_zero (itA_f h _)).1 (by rw [itA_pre h]; omega)
          have r2 : (itA a (n - (k + 1))).2 % 2 = 1 := (preA_zero (itA_f h _)).1 (by rw [itA_pre h]; omega)
          have f1 : itA a (j - k) = doubleA (itA a (j - (k + 1))) := by rw [show j - k = (j - (k + 1)) + 1 by omega]; rfl
          have f2 : itA a (n - k) = doubleA (itA a (n - (k + 1))) := by rw [show n - k = (n - (k + 1)) + 1 by omega]; rfl
          rw [f1, f2] at h4
          exact dbl_inj (itA_f h _) (itA_f h _) r1 r2 h4
      have h5 := down (j - preA a) (Nat.le_refl _)
      rw [show j - (j - preA a) = preA a by omega] at h5
      have h6 := hn (n - (j - preA a)) (by omega)
      unfold stopA at h6
      rw [Bool.and_eq_false_iff, decide_eq_false_iff_not, decide_eq_false_iff_not] at h6
      rcases h6 with h6 | h6
      · omega
      · exact h6 h5.symm
  refine ⟨key, ?_⟩
  unfold stopA
  rw [Bool.and_eq_true, decide_eq_true_iff, decide_eq_true_iff, ← key]
  exact ⟨hj, he.symm⟩
def lenA (a : Ang) : Option Nat := (List.range 65).find? (stopA a)
def orbX (a : Ang) : List Ang := match lenA a with | some n => (List.range n).map (itA a) | none => []
def orbP (a : Ang) : Nat := match lenA a with | some _ => preA a | none => 0
def orbB (a : Ang) : Bool := (lenA a).isSome
theorem find_range {p : Nat → Bool} {n N : Nat} (hn : n < N) (h : p n = true) (hm : ∀ m, m < n → p m = false) : (List.range N).find? p = some n := by
  rw [List.find?_eq_some_iff_append]
  refine ⟨h, List.range n, (List.range (N - n - 1)).map (· + (n + 1)), ?_, fun x hx => by rw [hm x (List.mem_range.1 hx)]; rfl⟩
  rw [show N = n + (1 + (N - n - 1)) by omega, List.range_add, List.range_add]
  simp
  intro x _; omega
theorem lenA_some {a : Ang} {n : Nat} (hn : n ≤ 64) (h : stopA a n = true) (hm : ∀ m, m < n → stopA a m = false) : lenA a = some n := find_range (by omega) h hm
theorem lenA_none {a : Ang} (hm : ∀ m, m ≤ 64 → stopA a m = false) : lenA a = none := by
  unfold lenA
  rw [List.find?_eq_none]
  intro x hx
  rw [hm x (by have := List.mem_range.1 hx; omega)]; simp
theorem lenA_inv {a : Ang} {n : Nat} (h : lenA a = some n) : n ≤ 64 ∧ stopA a n = true ∧ ∀ m, m < n → stopA a m = false := by
  unfold lenA at h
  have h1 := List.find?_some h
  have h2 := List.mem_of_find?_eq_some h
  refine ⟨by have := List.mem_range.1 h2; omega, h1, fun m hm => ?_⟩
  rcases hq : stopA a m with _ | _
  · rfl
  · exfalso
    obtain ⟨k, hk, hkk⟩ : ∃ k, k ≤ m ∧ stopA a k = true ∧ ∀ j, j < k → stopA a j = false := by
      have : ∀ m, stopA a m = true → ∃ k, k ≤ m ∧ stopA a k = true ∧ ∀ j, j < k → stopA a j = false := fun m => by
        induction m using Nat.strongRecOn with
        | ind m ih =>
          intro hm
          by_cases hex : ∃ j, j < m ∧ stopA a j = true
          · obtain ⟨j, h1, h2⟩ := hex
            obtain ⟨k, h3, h4⟩ := ih j h1 h2
            exact ⟨k, by omega, h4⟩
          · exact ⟨m, Nat.le_refl _, hm, fun j hj => by
              rcases hq : stopA a j with _ | _
              · rfl
              · exact absurd ⟨j, hj, hq⟩ hex⟩
      exact this m hq
    have := find_range (p := stopA a) (N := 65) (n := k) (by have := List.mem_range.1 h2; omega) hkk.1 hkk.2
    rw [this] at h
    cases h
    omega
theorem orbX_isA {a : Ang} (h : IsA a) : ∀ x ∈ orbX a, IsA x := by
  unfold orbX
  cases lenA a with
  | none => simp
  | some n =>
    intro x hx
    simp only [List.mem_map] at hx
    obtain ⟨j, _, rfl⟩ := hx
    exact h.it j
end Go.Proofs.Ytllagpbbbdekiab.Fw
