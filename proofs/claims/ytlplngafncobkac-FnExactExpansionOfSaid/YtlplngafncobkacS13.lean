/- Plain laws: the expansion of an angle is told in the one way. -/
import Derived.Test.YtlplngafncobkacS12
namespace Go.Proofs.Ytlplngafncobkac.Fw
open Go
set_option linter.unusedVariables false
set_option linter.unusedSimpArgs false

def dgB (x : Ang) : UInt8 := UInt8.ofNat (dgA x).toNat
theorem dgB_inj {x y : Ang} (h : dgB x = dgB y) : dgA x = dgA y := by
  unfold dgB at h
  rcases dgA_cases x with h1 | h1 <;> rcases dgA_cases y with h2 | h2 <;> rw [h1, h2] at h ⊢ <;> exact absurd h (by decide)
theorem bl_nums (ys : List Int) : bl (strOfNums ys) = ys.map fun n => UInt8.ofNat n.toNat := rfl
/-- The digits of an orbit. -/
def digs (a : Ang) : List Int := (orbX a).map dgA
theorem digs_eq {a : Ang} {n : Nat} (hl : lenA a = some n) : digs a = (List.range n).map fun i => dgA (itA a i) := by
  unfold digs orbX
  rw [hl]
  simp only [List.map_map]
  rfl
theorem digs_at {a : Ang} {n p i : Nat} (hl : lenA a = some n) (h : p + i < n) : (bl (strOfNums ((digs a).drop p))).getD i 0 = dgB (itA a (p + i)) := by
  rw [bl_nums, digs_eq hl, List.getD_eq_getElem?_getD, List.getElem?_map, List.getElem?_drop, List.getElem?_map, List.getElem?_range h]
  rfl
theorem digs_pre {a : Ang} {n p i : Nat} (hl : lenA a = some n) (h : i < p) (hp : p ≤ n) : (bl (strOfNums ((digs a).take p))).getD i 0 = dgB (itA a i) := by
  rw [bl_nums, digs_eq hl, List.getD_eq_getElem?_getD, List.getElem?_map, List.getElem?_take, if_pos h, List.getElem?_map, List.getElem?_range (by omega)]
  rfl
theorem exp_canon {a : Ang} (h : IsF a) {n : Nat} (hl : lenA a = some n) : seqW (digs a) (preA a) = (strOfNums ((digs a).take (preA a)), strOfNums ((digs a).drop (preA a))) := by
  obtain ⟨_, hst, hmin⟩ := lenA_inv hl
  unfold stopA at hst
  rw [Bool.and_eq_true, decide_eq_true_iff, decide_eq_true_iff] at hst
  obtain ⟨hpn, hcy⟩ := hst
  have hlen : (digs a).length = n := by rw [digs_eq hl]; simp
  generalize hp : preA a = p at hpn hcy ⊢
  obtain ⟨q, hq⟩ : ∃ q, n = p + q := ⟨n - p, by omega⟩
  have hq1 : 1 ≤ q := by omega
  have hsz : (strOfNums ((digs a).drop p)).size = q := by rw [strOfNums_size, List.length_drop, hlen]; omega
  have hsp : (strOfNums ((digs a).take p)).size = p := by rw [strOfNums_size, List.length_take, hlen]; omega
  have wrap : ∀ m, itA a (p + (q + m)) = itA a (p + m) := fun m => by
    rw [← Nat.add_assoc, ← hq, itA_add, hcy, ← itA_add]
  have hroot : IsRoot (strOfNums ((digs a).drop p)) q := by
    refine ⟨⟨hq1, by rw [hsz]; exact Nat.mod_self _, fun i h1 h2 => by rw [bl_len, hsz] at h2; omega⟩, fun j hj hjp => ?_⟩
    obtain ⟨hj1, hjd, hper⟩ := hjp
    rw [hsz] at hjd
    have hc0 : itA (itA a p) q = itA a p := by rw [← itA_add]; have := wrap 0; simpa using this
    have hc1 : itA (itA a (p + j)) q = itA a (p + j) := by
      rw [← itA_add]
      have := wrap j
      rw [show p + j + q = p + (q + j) by omega]
      exact this
    have hdig : ∀ i, i < q → dgA (itA (itA a p) i) = dgA (itA (itA a (p + j)) i) := fun i hi => by
      rw [← itA_add, ← itA_add]
      apply dgB_inj
      rw [← digs_at hl (by omega)]
      rcases Nat.lt_or_ge (j + i) q with h' | h'
      · rw [show p + j + i = p + (j + i) by omega, ← digs_at hl (by omega)]
        have := hper (j + i) (by omega) (by rw [bl_len, hsz]; exact h')
        rw [this, show j + i - j = i by omega]
      · obtain ⟨m, hm⟩ : ∃ m, j + i = q + m := ⟨j + i - q, by omega⟩
        rw [show p + j + i = p + (q + m) by omega, wrap, ← digs_at hl (by omega), perL_mod hj1 hper i (by rw [bl_len, hsz]; exact hi), perL_mod hj1 hper m (by rw [bl_len, hsz]; omega)]
        obtain ⟨c, hc⟩ := Nat.dvd_of_mod_eq_zero hjd
        have : (q + m) % j = (j + i) % j := by rw [hm]
        rw [Nat.add_mod_left, hc, Nat.mul_add_mod] at this
        rw [this]
    have he := same_digits (itA_f h _) (itA_f h _) hq1 hc0 hc1 hdig
    have h2 := (it_rep h (n := p + j) (fun m hm => hmin m (by omega)) (j := p) (by omega) he).2
    rw [hmin (p + j) (by omega)] at h2
    cases h2
  have hw : wordR (strOfNums ((digs a).drop p)) = strOfNums ((digs a).drop p) := by
    rw [wordR, rootK_of hroot (by rw [hsz]; exact Nat.le_refl _)]
    apply bl_inj
    rw [bl_extract, List.drop_zero, List.take_of_length_le (by rw [bl_len, hsz]; exact Nat.le_refl _)]
  rw [seqW, seqB, hw]
  refine strip_stop fun ⟨h1, h2⟩ => ?_
  rw [hsp] at h1 h2
  rw [hsz, byteAt_inj, digs_pre hl (by omega) (by omega), digs_at hl (by omega)] at h2
  have hd : doubleA (itA a (p - 1)) = doubleA (itA a (p + (q - 1))) := by
    have e1 : doubleA (itA a (p - 1)) = itA a p := by
      have : itA a ((p - 1) + 1) = doubleA (itA a (p - 1)) := rfl
      rw [← this, show p - 1 + 1 = p by omega]
    have e2 : doubleA (itA a (p + (q - 1))) = itA a n := by
      have : itA a ((p + (q - 1)) + 1) = doubleA (itA a (p + (q - 1))) := rfl
      rw [← this, show p + (q - 1) + 1 = n by omega]
    rw [e1, e2, hcy]
  have he := one_digit (itA_f h _) (itA_f h _) hd (dgB_inj h2)
  have h3 := (it_rep h (n := p + (q - 1)) (fun m hm => hmin m (by omega)) (j := p - 1) (by omega) he).1
  rw [hp] at h3
  omega
end Go.Proofs.Ytlplngafncobkac.Fw
