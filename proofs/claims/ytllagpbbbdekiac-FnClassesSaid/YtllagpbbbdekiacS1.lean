/- Plain laws of sequences: letters, shortest words, the one way to tell a sequence. -/
import Derived.Test.YtllagpbbbdekiacGE
import Derived.Lib.Repeat
import Derived.Deep.LoopGhost
namespace Go.Proofs.Ytllagpbbbdekiac.Fw
set_option linter.unusedVariables false
set_option linter.unusedSimpArgs false
def bl (s : ByteArray) : List UInt8 := s.data.toList
theorem bl_inj {s t : ByteArray} (h : bl s = bl t) : s = t := by
  have : s.data = t.data := Array.ext' h
  cases s; cases t; simp_all
theorem bl_len (s : ByteArray) : (bl s).length = s.size := rfl
theorem bl_append (s t : ByteArray) : bl (s ++ t) = bl s ++ bl t := by simp [bl, ByteArray.data_append]
theorem bl_extract (s : ByteArray) (a b : Nat) : bl (s.extract a b) = ((bl s).take b).drop a := by
  simp [bl, ByteArray.data_extract, Array.toList_extract, List.extract_eq_take_drop, List.drop_take]
theorem size_extract (s : ByteArray) (a b : Nat) (h : b ≤ s.size) : (s.extract a b).size = b - a := by rw [ByteArray.size_extract]; omega
theorem byteAt_eq (s : ByteArray) (n : Nat) : byteAt s n = ((bl s).getD n 0).toNat := rfl
theorem byteAt_inj {s t : ByteArray} {n m : Nat} : byteAt s n = byteAt t m ↔ (bl s).getD n 0 = (bl t).getD m 0 := by
  rw [byteAt_eq, byteAt_eq]
  constructor
  · intro h; exact UInt8.toNat_inj.1 h
  · intro h; rw [h]
theorem bl_mk (l : List UInt8) : bl ⟨l.toArray⟩ = l := by simp [bl]
theorem size_zero {s : ByteArray} : s.size = 0 ↔ s = ByteArray.empty := by
  constructor
  · intro h; exact bl_inj (List.eq_nil_of_length_eq_zero h)
  · intro h; subst h; rfl
def perL (w : List UInt8) (k : Nat) : Prop := ∀ i, k ≤ i → i < w.length → w.getD i 0 = w.getD (i - k) 0
def rootP (w : ByteArray) (k : Nat) : Prop := 1 ≤ k ∧ w.size % k = 0 ∧ perL (bl w) k
def IsRoot (w : ByteArray) (k : Nat) : Prop := rootP w k ∧ ∀ j, j < k → ¬ rootP w j
theorem perL_all (w : List UInt8) : perL w w.length := fun i h1 h2 => by omega
theorem root_ex (w : ByteArray) (h : 1 ≤ w.size) : ∃ k, IsRoot w k ∧ k ≤ w.size := by
  have hP : rootP w w.size := ⟨h, Nat.mod_self _, perL_all _⟩
  obtain ⟨k, h1, h2⟩ := exists_least (p := fun k => rootP w k) ⟨_, hP⟩
  exact ⟨k, ⟨h1, fun j hj hjp => by have := h2 j hjp; omega⟩, h2 _ hP⟩
open Classical in
noncomputable def rootK (w : ByteArray) : Nat := if h : ∃ k, IsRoot w k ∧ k ≤ w.size then h.choose else 0
theorem rootK_spec (w : ByteArray) (h : 1 ≤ w.size) : IsRoot w (rootK w) ∧ rootK w ≤ w.size := by
  have := root_ex w h
  unfold rootK
  rw [dif_pos this]
  exact this.choose_spec
theorem rootK_of {w : ByteArray} {k : Nat} (hk : IsRoot w k) (hw : k ≤ w.size) : rootK w = k := by
  have hs := (rootK_spec w (by have := hk.1.1; omega)).1
  rcases Nat.lt_trichotomy (rootK w) k with h | h | h
  · exact absurd hs.1 (hk.2 _ h)
  · exact h
  · exact absurd hk.1 (hs.2 _ h)
theorem rootK_pos {w : ByteArray} (h : 1 ≤ w.size) : 1 ≤ rootK w := (rootK_spec w h).1.1.1
theorem rootK_dvd {w : ByteArray} (h : 1 ≤ w.size) : w.size % rootK w = 0 := (rootK_spec w h).1.1.2.1
noncomputable def wordR (w : ByteArray) : ByteArray := w.extract 0 (rootK w)
theorem wordR_size {w : ByteArray} (h : 1 ≤ w.size) : (wordR w).size = rootK w := by
  have := (rootK_spec w h).2
  rw [wordR, size_extract _ _ _ this]; omega
theorem perL_mod {w : List UInt8} {k : Nat} (hk : 1 ≤ k) (h : perL w k) : ∀ i, i < w.length → w.getD i 0 = w.getD (i % k) 0 := by
  intro i
  induction i using Nat.strongRecOn with
  | ind i ih =>
    intro hi
    by_cases hik : i < k
    · rw [Nat.mod_eq_of_lt hik]
    · rw [h i (by omega) hi, ih (i - k) (by omega) (by omega), ← Nat.mod_eq_sub_mod (by omega)]
theorem perL_of_mod {w : List UInt8} {k : Nat} (hk : 1 ≤ k) (h : ∀ i, i < w.length → w.getD i 0 = w.getD (i % k) 0) : perL w k := fun i h1 h2 => by
  rw [h i h2, h (i - k) (by omega), ← Nat.mod_eq_sub_mod (by omega)]
theorem repeatL_get (l : List UInt8) (hl : 1 ≤ l.length) : ∀ c i, i < c * l.length → (Go.Lib.repeatL l c).getD i 0 = l.getD (i % l.length) 0
  | 0, i, h => by omega
  | c + 1, i, h => by
    rw [Go.Lib.repeatL]
    by_cases hi : i < l.length
    · rw [List.getD_eq_getElem?_getD, List.getElem?_append_left hi, ← List.getD_eq_getElem?_getD, Nat.mod_eq_of_lt hi]
    · rw [List.getD_eq_getElem?_getD, List.getElem?_append_right (by omega), ← List.getD_eq_getElem?_getD, repeatL_get l hl c (i - l.length) (by rw [Nat.add_mul] at h; omega), ← Nat.mod_eq_sub_mod (by omega)]
def repB (s : ByteArray) (c : Nat) : ByteArray := ⟨(Go.Lib.repeatL (bl s) c).toArray⟩
theorem repB_size (s : ByteArray) (c : Nat) : (repB s c).size = c * s.size := by
  rw [← bl_len, repB, bl_mk, Go.Lib.repeatL_length, bl_len]
theorem rep_iff {w : ByteArray} {k : Nat} (hk : 1 ≤ k) (hkw : k ≤ w.size) (hd : w.size % k = 0) : repB (w.extract 0 k) (w.size / k) = w ↔ perL (bl w) k := by
  have hl : (bl (w.extract 0 k)).length = k := by rw [bl_len, size_extract _ _ _ hkw]; omega
  have hmul : w.size / k * k = w.size := Nat.div_mul_cancel (Nat.dvd_of_mod_eq_zero hd)
  have hg : ∀ i, i < w.size → (bl (repB (w.extract 0 k) (w.size / k))).getD i 0 = (bl w).getD (i % k) 0 := fun i hi => by
    rw [repB, bl_mk, repeatL_get _ (by rw [hl]; exact hk) _ _ (by rw [hl, hmul]; exact hi), hl, bl_extract, List.drop_zero, List.getD_eq_getElem?_getD, List.getElem?_take, if_pos (Nat.mod_lt _ hk), ← List.getD_eq_getElem?_getD]
  have hlen : (bl (repB (w.extract 0 k) (w.size / k))).length = (bl w).length := by rw [bl_len, repB_size, bl_len, size_extract _ _ _ hkw]; simpa using hmul
  constructor
  · intro h
    refine perL_of_mod hk fun i hi => ?_
    rw [← hg i hi, h]
  · intro h
    refine bl_inj (List.ext_getElem hlen fun i h1 h2 => ?_)
    have := hg i h2
    rw [← perL_mod hk h i h2, List.getD_eq_getElem?_getD, List.getD_eq_getElem?_getD, List.getElem?_eq_getElem h1, List.getElem?_eq_getElem h2] at this
    exact this
def stripB : Nat → ByteArray → ByteArray → ByteArray × ByteArray
  | 0, pre, per => (pre, per)
  | n + 1, pre, per => if pre.size ≠ 0 ∧ byteAt pre (pre.size - 1) = byteAt per (per.size - 1) then
      stripB n (pre.extract 0 (pre.size - 1)) (per.extract (per.size - 1) per.size ++ per.extract 0 (per.size - 1)) else (pre, per)
theorem strip_stop {n : Nat} {pre per : ByteArray} (h : ¬ (pre.size ≠ 0 ∧ byteAt pre (pre.size - 1) = byteAt per (per.size - 1))) : stripB n pre per = (pre, per) := by
  cases n with
  | zero => rfl
  | succ n => unfold stripB; rw [if_neg h]
theorem strip_succ (n : Nat) (pre per : ByteArray) : stripB (n + 1) pre per = if pre.size ≠ 0 ∧ byteAt pre (pre.size - 1) = byteAt per (per.size - 1) then
      stripB n (pre.extract 0 (pre.size - 1)) (per.extract (per.size - 1) per.size ++ per.extract 0 (per.size - 1)) else (pre, per) := rfl
theorem strip_go {pre per : ByteArray} (h : pre.size ≠ 0 ∧ byteAt pre (pre.size - 1) = byteAt per (per.size - 1)) :
    stripB pre.size pre per = stripB (pre.extract 0 (pre.size - 1)).size (pre.extract 0 (pre.size - 1)) (per.extract (per.size - 1) per.size ++ per.extract 0 (per.size - 1)) := by
  have e : (pre.extract 0 (pre.size - 1)).size = pre.size - 1 := by rw [size_extract _ _ _ (by omega)]; omega
  have e1 : stripB pre.size pre per = stripB ((pre.size - 1) + 1) pre per := congrArg (fun k => stripB k pre per) (by omega)
  rw [e1, strip_succ, if_pos h, e]
noncomputable def seqB (pre per : ByteArray) : ByteArray × ByteArray := stripB pre.size pre (wordR per)
theorem turn_size (per : ByteArray) (h : 1 ≤ per.size) : (per.extract (per.size - 1) per.size ++ per.extract 0 (per.size - 1)).size = per.size := by
  rw [ByteArray.size_append, size_extract _ _ _ (Nat.le_refl _), size_extract _ _ _ (by omega)]; omega
theorem strip_size : ∀ (n : Nat) (pre per : ByteArray), 1 ≤ per.size → (stripB n pre per).1.size ≤ pre.size ∧ (stripB n pre per).2.size = per.size
  | 0, pre, per, _ => ⟨Nat.le_refl _, rfl⟩
  | n + 1, pre, per, h => by
    unfold stripB
    split
    · have := strip_size n (pre.extract 0 (pre.size - 1)) (per.extract (per.size - 1) per.size ++ per.extract 0 (per.size - 1)) (by rw [turn_size per h]; exact h)
      rw [turn_size per h, size_extract _ _ _ (by omega)] at this
      exact ⟨by omega, this.2⟩
    · exact ⟨Nat.le_refl _, rfl⟩
end Go.Proofs.Ytllagpbbbdekiac.Fw
