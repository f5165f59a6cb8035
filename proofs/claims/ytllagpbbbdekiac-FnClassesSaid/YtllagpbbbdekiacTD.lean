/- Plain laws: a sequence is told by its letters; itineraries of doubles. -/
import Derived.Test.YtllagpbbbdekiacT2
namespace Go.Proofs.Ytllagpbbbdekiac.Fw
set_option linter.unusedVariables false
set_option linter.unusedSimpArgs false
def wd (s : Sq) (i : Nat) : UInt8 := if i < s.1.size then (bl s.1).getD i 0 else (bl s.2).getD ((i - s.1.size) % s.2.size) 0
theorem wd_pre {s : Sq} {i : Nat} (h : i < s.1.size) : wd s i = (bl s.1).getD i 0 := by unfold wd; rw [if_pos h]
theorem wd_per (s : Sq) (j : Nat) : wd s (s.1.size + j) = (bl s.2).getD (j % s.2.size) 0 := by unfold wd; rw [if_neg (by omega), Nat.add_sub_cancel_left]
theorem wd_rep {s : Sq} {i : Nat} (h : s.1.size ≤ i) : wd s (i + s.2.size) = wd s i := by
  obtain ⟨j, rfl⟩ : ∃ j, i = s.1.size + j := ⟨i - s.1.size, by omega⟩
  rw [Nat.add_assoc, wd_per, wd_per, Nat.add_mod_right]
theorem wd_word {a b : ByteArray} (h : 1 ≤ b.size) (i : Nat) : wd (a, wordR b) i = wd (a, b) i := by
  unfold wd
  simp only
  split
  · rfl
  · have h1 := rootK_spec b h
    have hp := rootK_pos h
    rw [wordR_size h]
    have e : ∀ j, j < rootK b → (bl (wordR b)).getD j 0 = (bl b).getD j 0 := fun j hj => by
      unfold wordR
      rw [bl_extract, List.drop_zero, List.getD_eq_getElem?_getD, List.getElem?_take, if_pos hj, ← List.getD_eq_getElem?_getD]
    rw [e _ (Nat.mod_lt _ hp), perL_mod hp h1.1.1.2.2 ((i - a.size) % b.size) (by rw [bl_len]; exact Nat.mod_lt _ h), Nat.mod_mod_of_dvd _ (Nat.dvd_of_mod_eq_zero (rootK_dvd h))]
theorem turn_bl (b : ByteArray) (h : 1 ≤ b.size) (j : Nat) (hj : j < b.size) : (bl (b.extract (b.size - 1) b.size ++ b.extract 0 (b.size - 1))).getD ((j + 1) % b.size) 0 = (bl b).getD j 0 := by
  have e1 : (bl (b.extract (b.size - 1) b.size)).length = 1 := by rw [bl_len, size_extract _ _ _ (Nat.le_refl _)]; omega
  rw [bl_append]
  by_cases hl : j + 1 = b.size
  · rw [hl, Nat.mod_self, List.getD_eq_getElem?_getD, List.getElem?_append_left (by omega), bl_extract, List.getElem?_drop, List.getElem?_take, if_pos (by omega), ← List.getD_eq_getElem?_getD]
    congr 1; omega
  · rw [Nat.mod_eq_of_lt (by omega), List.getD_eq_getElem?_getD, List.getElem?_append_right (by omega), e1, bl_extract, List.drop_zero, List.getElem?_take, if_pos (by omega), ← List.getD_eq_getElem?_getD]
    congr 1
theorem wd_strip : ∀ (n : Nat) (a b : ByteArray), 1 ≤ b.size → ∀ i, wd (stripB n a b) i = wd (a, b) i
  | 0, a, b, _, i => rfl
  | n + 1, a, b, h, i => by
    unfold stripB
    split
    · rename_i hc
      have hts := turn_size b h
      rw [wd_strip n _ _ (by rw [hts]; exact h)]
      have hs : (a.extract 0 (a.size - 1)).size = a.size - 1 := by rw [size_extract _ _ _ (by omega)]; omega
      rcases Nat.lt_or_ge i (a.size - 1) with h1 | h1
      · rw [wd_pre (by show i < (a.extract 0 (a.size - 1)).size; omega), wd_pre (by show i < a.size; omega)]
        show (bl (a.extract 0 (a.size - 1))).getD i 0 = (bl a).getD i 0
        rw [bl_extract, List.drop_zero, List.getD_eq_getElem?_getD, List.getElem?_take, if_pos h1, ← List.getD_eq_getElem?_getD]
      · obtain ⟨j, rfl⟩ : ∃ j, i = (a.size - 1) + j := ⟨i - (a.size - 1), by omega⟩
        have e0 : wd (a.extract 0 (a.size - 1), b.extract (b.size - 1) b.size ++ b.extract 0 (b.size - 1)) (a.size - 1 + j) = (bl (b.extract (b.size - 1) b.size ++ b.extract 0 (b.size - 1))).getD (j % b.size) 0 := by
          have := wd_per (a.extract 0 (a.size - 1), b.extract (b.size - 1) b.size ++ b.extract 0 (b.size - 1)) j
          simp only [hs, hts] at this
          exact this
        rw [e0]
        rcases Nat.eq_zero_or_pos j with rfl | hj
        · rw [Nat.add_zero, wd_pre (by show a.size - 1 < a.size; omega), Nat.zero_mod]
          have h2 := turn_bl b h (b.size - 1) (by omega)
          rw [show b.size - 1 + 1 = b.size by omega, Nat.mod_self] at h2
          rw [h2]
          exact (byteAt_inj.1 hc.2).symm
        · obtain ⟨m, rfl⟩ : ∃ m, j = m + 1 := ⟨j - 1, by omega⟩
          rw [show a.size - 1 + (m + 1) = (a, b).1.size + m by show _ = a.size + m; omega, wd_per]
          show _ = (bl b).getD (m % b.size) 0
          rw [← turn_bl b h (m % b.size) (Nat.mod_lt _ h)]
          congr 1
          exact (Nat.mod_add_mod m b.size 1).symm
    · rfl
theorem wd_seq {a b : ByteArray} (h : 1 ≤ b.size) (i : Nat) : wd (seqB a b) i = wd (a, b) i := by
  unfold seqB
  rw [wd_strip _ _ _ (by rw [wordR_size h]; exact rootK_pos h), wd_word h]
theorem strip_end : ∀ (n : Nat) (a b : ByteArray), a.size ≤ n → ¬ ((stripB n a b).1.size ≠ 0 ∧ byteAt (stripB n a b).1 ((stripB n a b).1.size - 1) = byteAt (stripB n a b).2 ((stripB n a b).2.size - 1))
  | 0, a, b, h => fun hh => hh.1 (by show a.size = 0; omega)
  | n + 1, a, b, h => by
    unfold stripB
    split
    · rename_i hc
      exact strip_end n _ _ (by rw [size_extract _ _ _ (by omega)]; omega)
    · rename_i hc
      exact hc
def EvP (w : Nat → UInt8) (m : Nat) : Prop := 1 ≤ m ∧ ∃ N, ∀ i, N ≤ i → w (i + m) = w i
theorem rep_many {w : Nat → UInt8} {p q : Nat} (h : ∀ i, p ≤ i → w (i + q) = w i) {i : Nat} (hi : p ≤ i) : ∀ t, w (i + t * q) = w i
  | 0 => by rw [Nat.zero_mul, Nat.add_zero]
  | t + 1 => by rw [Nat.succ_mul, ← Nat.add_assoc, h _ (by omega), rep_many h hi t]
theorem evp_from {w : Nat → UInt8} {p q m : Nat} (hq : 1 ≤ q) (h : ∀ i, p ≤ i → w (i + q) = w i) (hm : EvP w m) : ∀ i, p ≤ i → w (i + m) = w i := fun i hi => by
  obtain ⟨_, N, hN⟩ := hm
  have hb : N ≤ i + N * q := by have := Nat.le_mul_of_pos_right N (show 0 < q by omega); omega
  have := hN (i + N * q) hb
  rw [rep_many h hi] at this
  rw [← this, Nat.add_right_comm, rep_many h (by omega)]
theorem root_least {a b : ByteArray} (h : 1 ≤ b.size) : EvP (wd (a, b)) (rootK b) ∧ ∀ m, EvP (wd (a, b)) m → rootK b ≤ m := by
  have hp := rootK_pos h
  have hw : ∀ i, wd (a, wordR b) i = wd (a, b) i := wd_word h
  have hrep : ∀ i, a.size ≤ i → wd (a, b) (i + rootK b) = wd (a, b) i := fun i hi => by
    rw [← hw, ← hw]
    have := wd_rep (s := (a, wordR b)) (i := i) hi
    rw [show (a, wordR b).2.size = rootK b from wordR_size h] at this
    exact this
  have hrepb : ∀ i, a.size ≤ i → wd (a, b) (i + b.size) = wd (a, b) i := fun i hi => wd_rep (s := (a, b)) hi
  refine ⟨⟨hp, a.size, hrep⟩, fun m hm => ?_⟩
  obtain ⟨k, hk, hmin⟩ := exists_least (p := EvP (wd (a, b))) ⟨m, hm⟩
  have hkf := evp_from h hrepb hk
  have hk1 := hk.1
  have hdiv : b.size % k = 0 := by
    refine Classical.byContradiction fun hne => ?_
    have hlt := Nat.mod_lt b.size (show 0 < k by omega)
    have : EvP (wd (a, b)) (b.size % k) := ⟨by omega, a.size, fun i hi => by
      rw [← rep_many hkf (i := i + b.size % k) (by omega) (b.size / k), Nat.add_assoc, Nat.mul_comm, Nat.mod_add_div]
      exact hrepb i hi⟩
    have := hmin _ this
    omega
  have hroot : rootP b k := ⟨hk1, hdiv, fun i h1 h2 => by
    rw [bl_len] at h2
    have := hkf (a.size + (i - k)) (by omega)
    rw [show a.size + (i - k) + k = (a, b).1.size + i by show _ = a.size + i; omega, show a.size + (i - k) = (a, b).1.size + (i - k) from rfl, wd_per, wd_per] at this
    simp only [Nat.mod_eq_of_lt h2, Nat.mod_eq_of_lt (show i - k < b.size by omega)] at this
    exact this⟩
  have hle : rootK b ≤ k := by
    rcases Nat.lt_or_ge k (rootK b) with h1 | h1
    · exact absurd hroot ((rootK_spec b h).1.2 k h1)
    · exact h1
  exact Nat.le_trans hle (hmin m hm)
theorem seq_uniq {a b a' b' : ByteArray} (h : 1 ≤ b.size) (h' : 1 ≤ b'.size) (hw : ∀ i, wd (a, b) i = wd (a', b') i) : seqB a b = seqB a' b' := by
  have hwe : wd (a, b) = wd (a', b') := funext hw
  have r1 := root_least (a := a) h
  have r2 := root_least (a := a') h'
  rw [← hwe] at r2
  have hK : rootK b = rootK b' := Nat.le_antisymm (r1.2 _ r2.1) (r2.2 _ r1.1)
  have s1 : (seqB a b).2.size = rootK b := by
    unfold seqB
    rw [(strip_size _ _ _ (by rw [wordR_size h]; exact rootK_pos h)).2, wordR_size h]
  have s2 : (seqB a' b').2.size = rootK b := by
    unfold seqB
    rw [(strip_size _ _ _ (by rw [wordR_size h']; exact rootK_pos h')).2, wordR_size h', hK]
  have w1 : ∀ i, wd (seqB a b) i = wd (seqB a' b') i := fun i => by rw [wd_seq h, wd_seq h', hw]
  have n1 : ¬ ((seqB a b).1.size ≠ 0 ∧ byteAt (seqB a b).1 ((seqB a b).1.size - 1) = byteAt (seqB a b).2 ((seqB a b).2.size - 1)) := strip_end _ _ _ (Nat.le_refl _)
  have n2 : ¬ ((seqB a' b').1.size ≠ 0 ∧ byteAt (seqB a' b').1 ((seqB a' b').1.size - 1) = byteAt (seqB a' b').2 ((seqB a' b').2.size - 1)) := strip_end _ _ _ (Nat.le_refl _)
  generalize seqB a b = s at s1 w1 n1 ⊢
  generalize seqB a' b' = s' at s2 w1 n2 ⊢
  have hq : 1 ≤ rootK b := rootK_pos h
  generalize rootK b = q at s1 s2 hq
  have half : ∀ s s' : Sq, s.2.size = q → s'.2.size = q → (∀ i, wd s i = wd s' i) → ¬ (s'.1.size ≠ 0 ∧ byteAt s'.1 (s'.1.size - 1) = byteAt s'.2 (s'.2.size - 1)) → s'.1.size ≤ s.1.size := fun s s' e1 e2 hww hn => by
    refine Nat.le_of_not_lt fun hlt => hn ⟨by omega, byteAt_inj.2 ?_⟩
    have h1 : wd s' (s'.1.size - 1) = (bl s'.1).getD (s'.1.size - 1) 0 := wd_pre (by omega)
    have h2 : wd s' (s'.1.size - 1 + q) = (bl s'.2).getD (s'.2.size - 1) 0 := by
      rw [show s'.1.size - 1 + q = s'.1.size + (q - 1) by omega, wd_per, e2, Nat.mod_eq_of_lt (by omega)]
    rw [← h1, ← h2, ← hww, ← hww]
    have := wd_rep (s := s) (i := s'.1.size - 1) (by omega)
    rw [e1] at this
    exact this.symm
  have hp : s.1.size = s'.1.size := Nat.le_antisymm (half s' s s2 s1 (fun i => (w1 i).symm) n1) (half s s' s1 s2 w1 n2)
  have e1 : s.1 = s'.1 := bl_inj (List.ext_getElem (by rw [bl_len, bl_len, hp]) fun i h1 h2 => by
    rw [bl_len] at h1 h2
    have := w1 i
    rw [wd_pre h1, wd_pre h2, List.getD_eq_getElem?_getD, List.getD_eq_getElem?_getD, List.getElem?_eq_getElem (by rw [bl_len]; exact h1), List.getElem?_eq_getElem (by rw [bl_len]; exact h2)] at this
    exact this)
  have e2 : s.2 = s'.2 := bl_inj (List.ext_getElem (by rw [bl_len, bl_len, s1, s2]) fun i h1 h2 => by
    rw [bl_len] at h1 h2
    have := w1 (s.1.size + i)
    rw [wd_per, hp, wd_per, Nat.mod_eq_of_lt h1, Nat.mod_eq_of_lt h2, List.getD_eq_getElem?_getD, List.getD_eq_getElem?_getD, List.getElem?_eq_getElem (by rw [bl_len]; exact h1), List.getElem?_eq_getElem (by rw [bl_len]; exact h2)] at this
    exact this)
  exact Prod.ext e1 e2
def lb (x t : Ang) : UInt8 := UInt8.ofNat (letA x t).toNat
theorem bl_numsW (ys : List Int) : bl (strOfNums ys) = ys.map fun n => UInt8.ofNat n.toNat := rfl
theorem itS_wd {x t : Ang} (h : orbB x = true) (i : Nat) : wd (itS x t) i = lb (itA x i) t := by
  unfold orbB at h
  cases hl : lenA x with
  | none => rw [hl] at h; cases h
  | some n =>
    obtain ⟨_, hst, _⟩ := lenA_inv hl
    unfold stopA at hst
    rw [Bool.and_eq_true, decide_eq_true_iff, decide_eq_true_iff] at hst
    obtain ⟨hpn, hcy⟩ := hst
    have hox : orbX x = (List.range n).map (itA x) := by unfold orbX; rw [hl]
    have hop : orbP x = preA x := by unfold orbP; rw [hl]
    generalize hp : preA x = p at *
    have hwl : (wordA (orbX x) t).length = n := by rw [wordA_len, hox]; simp
    have hs1 : (strOfNums ((wordA (orbX x) t).take p)).size = p := by rw [strOfNums_size, List.length_take, hwl]; omega
    have hs2 : (strOfNums ((wordA (orbX x) t).drop p)).size = n - p := by rw [strOfNums_size, List.length_drop, hwl]
    have hg : ∀ j, j < n → (wordA (orbX x) t)[j]? = some (letA (itA x j) t) := fun j hj => by
      unfold wordA
      rw [hox, List.getElem?_map, List.getElem?_map, List.getElem?_range hj]; rfl
    rw [itS_eq, hop]
    unfold seqW
    rw [wd_seq (by rw [hs2]; omega)]
    have wrap : ∀ t' m, itA x (p + (t' * (n - p) + m)) = itA x (p + m) := fun t' m => by
      induction t' with
      | zero => rw [Nat.zero_mul, Nat.zero_add]
      | succ t' ih =>
        rw [← ih, Nat.succ_mul, show p + (t' * (n - p) + (n - p) + m) = n + (t' * (n - p) + m) by omega, itA_add, hcy, ← itA_add]
    rcases Nat.lt_or_ge i p with h1 | h1
    · rw [wd_pre (by show i < (strOfNums _).size; omega)]
      show (bl (strOfNums ((wordA (orbX x) t).take p))).getD i 0 = _
      rw [bl_numsW, List.getD_eq_getElem?_getD, List.getElem?_map, List.getElem?_take, if_pos h1, hg i (by omega)]; rfl
    · obtain ⟨j, rfl⟩ : ∃ j, i = p + j := ⟨i - p, by omega⟩
      have e1 : wd (strOfNums ((wordA (orbX x) t).take p), strOfNums ((wordA (orbX x) t).drop p)) (p + j) = (bl (strOfNums ((wordA (orbX x) t).drop p))).getD (j % (n - p)) 0 := by
        have := wd_per (strOfNums ((wordA (orbX x) t).take p), strOfNums ((wordA (orbX x) t).drop p)) j
        simp only [hs1, hs2] at this
        exact this
      have hlt := Nat.mod_lt j (show 0 < n - p by omega)
      rw [e1, bl_numsW, List.getD_eq_getElem?_getD, List.getElem?_map, List.getElem?_drop, hg _ (by omega)]
      show lb (itA x (p + j % (n - p))) t = _
      have := wrap (j / (n - p)) (j % (n - p))
      rw [Nat.mul_comm, Nat.div_add_mod] at this
      rw [this]
theorem itR_wd {x t : Ang} (h : orbB x = true) (i : Nat) : wd (itR x t) i = lb (itA x i) t := by rw [itR_t h, itS_wd h]
theorem itR_of {x y t : Ang} (hx : orbB x = true) (hy : orbB y = true) (h : ∀ i, lb (itA x i) t = lb (itA y i) t) : itR x t = itR y t := by
  have h2 : ∀ {x : Ang}, orbB x = true → 1 ≤ (strOfNums ((wordA (orbX x) t).drop (orbP x))).size := fun {x} hx => by
    rw [strOfNums_size, List.length_drop, wordA_len]
    have := orbP_lt hx
    omega
  have w1 := fun i => itS_wd (t := t) hx i
  have w2 := fun i => itS_wd (t := t) hy i
  rw [itR_t hx, itR_t hy, itS_eq, itS_eq]
  rw [itS_eq] at w1 w2
  unfold seqW at w1 w2 ⊢
  refine seq_uniq (h2 hx) (h2 hy) fun i => ?_
  rw [← wd_seq (h2 hx), ← wd_seq (h2 hy), w1, w2, h]
theorem itR_dbl {x y t : Ang} (hx : orbB x = true) (hy : orbB y = true) (hx2 : orbB (doubleA x) = true) (hy2 : orbB (doubleA y) = true) (h : itR x t = itR y t) : itR (doubleA x) t = itR (doubleA y) t :=
  itR_of hx2 hy2 fun i => by
    rw [← it_one, ← it_one, ← itR_wd hx, ← itR_wd hy, h]
theorem itR_let {x y t : Ang} (hx : orbB x = true) (hy : orbB y = true) (h : itR x t = itR y t) : lb x t = lb y t := by
  have h1 := itR_wd (t := t) hx 0
  have h2 := itR_wd (t := t) hy 0
  rw [h] at h1
  exact h1.symm.trans h2
end Go.Proofs.Ytllagpbbbdekiac.Fw
