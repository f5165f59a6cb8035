/- Plain laws: texts of sequences, cut and split. No program. -/
import Derived.Test.YtlplngafncobkadS4
import Derived.Lib.Bytealg
import Derived.Lib.Strings
namespace Go.Proofs.Ytlplngafncobkad.Fw
open Go
set_option linter.unusedVariables false
set_option linter.unusedSimpArgs false

def txS (s : Sq) : ByteArray := s.1 ++ ByteArray.mk #[40] ++ s.2 ++ ByteArray.mk #[41]
theorem bl_txS (s : Sq) : bl (txS s) = bl s.1 ++ 40 :: (bl s.2 ++ [41]) := by
  unfold txS
  rw [bl_append, bl_append, bl_append]
  have e1 : bl (ByteArray.mk #[40]) = [40] := rfl
  have e2 : bl (ByteArray.mk #[41]) = [41] := rfl
  rw [e1, e2]; simp
theorem let_no {s : ByteArray} (h : letS s = true) : ∀ x ∈ bl s, x ≠ 40 := by
  intro x hx e
  subst e
  have := List.all_eq_true.1 h _ hx
  exact absurd this (by decide)

/-! ### the first one -/
@[irreducible] def ix40 (s : ByteArray) : Int := Go.Lib.indexByte (bl s) 40
theorem ix_of : ∀ (P R : List UInt8), (∀ x ∈ P, x ≠ 40) → Go.Lib.indexByte (P ++ 40 :: R) 40 = (P.length : Int)
  | [], R, _ => by simp [Go.Lib.indexByte]
  | b :: P, R, h => by
    have hb : ¬ (b == (40 : UInt8)) = true := by have := h b (List.mem_cons_self ..); simpa using this
    have ih := ix_of P R fun x hx => h x (List.mem_cons_of_mem _ hx)
    rw [List.cons_append, Go.Lib.indexByte, if_neg hb, ih, if_neg (by simp)]
    simp
theorem ix_inv : ∀ (L : List UInt8), 0 ≤ Go.Lib.indexByte L 40 → ∃ P R, L = P ++ 40 :: R ∧ (∀ x ∈ P, x ≠ 40) ∧ Go.Lib.indexByte L 40 = (P.length : Int)
  | [], h => by simp [Go.Lib.indexByte] at h
  | b :: L, h => by
    by_cases hb : (b == (40 : UInt8)) = true
    · have : b = 40 := by simpa using hb
      subst this
      refine ⟨[], L, rfl, (fun x hx => absurd hx (List.not_mem_nil)), ?_⟩
      simp [Go.Lib.indexByte]
    · rw [Go.Lib.indexByte, if_neg hb] at h
      by_cases h1 : (Go.Lib.indexByte L 40 == -1) = true
      · rw [if_pos h1] at h; omega
      · rw [if_neg h1] at h
        have hg := Go.Lib.indexByte_ge L 40
        have h2 : Go.Lib.indexByte L 40 ≠ -1 := by simpa using h1
        obtain ⟨P, R, e1, e2, e3⟩ := ix_inv L (by omega)
        refine ⟨b :: P, R, by rw [e1]; rfl, fun x hx => ?_, ?_⟩
        · rcases List.mem_cons.1 hx with rfl | hx
          · simpa using hb
          · exact e2 x hx
        · rw [Go.Lib.indexByte, if_neg hb, if_neg h1, e3]; simp
theorem ix40_lt {s : ByteArray} (h : 0 ≤ ix40 s) : ix40 s + 1 ≤ (s.size : Int) := by
  unfold ix40 at h ⊢
  obtain ⟨P, R, e1, _, e3⟩ := ix_inv _ h
  have : s.size = (bl s).length := (bl_len s).symm
  rw [e3, this, e1]; simp; omega
theorem ix40_le (s : ByteArray) : ix40 s ≤ (s.size : Int) := by
  rcases Int.lt_or_le (ix40 s) 0 with h | h
  · omega
  · have := ix40_lt h; omega
def cut1 (s : ByteArray) : ByteArray := if 0 ≤ ix40 s then s.extract 0 (ix40 s).toNat else s
def cut2 (s : ByteArray) : ByteArray := if 0 ≤ ix40 s then s.extract (ix40 s + 1).toNat s.size else ByteArray.mk #[]
@[irreducible] def trim41 (s : ByteArray) : ByteArray := ⟨(Go.Lib.trimSuffix (bl s) [41]).toArray⟩
theorem trim_of (R : List UInt8) : Go.Lib.trimSuffix (R ++ [41]) [41] = R := by
  unfold Go.Lib.trimSuffix Go.Lib.hasSuffix
  rw [if_pos (List.isSuffixOf_iff_suffix.2 ⟨R, rfl⟩)]
  simp
theorem trim_sz (s : ByteArray) : (trim41 s).size ≤ s.size := by
  unfold trim41
  rw [← bl_len, bl_mk, ← bl_len]
  unfold Go.Lib.trimSuffix
  split
  · rw [List.length_take]; omega
  · exact Nat.le_refl _
@[irreducible] def cand (t : ByteArray) : Sq := (cut1 t, trim41 (cut2 t))
theorem cand_eq (t : ByteArray) : cand t = (cut1 t, trim41 (cut2 t)) := by unfold cand; rfl
theorem cut_sz (t : ByteArray) : (cut1 t).size + (cut2 t).size ≤ t.size := by
  unfold cut1 cut2
  by_cases h : 0 ≤ ix40 t
  · have := ix40_lt h
    rw [if_pos h, if_pos h, size_extract _ _ _ (by omega), size_extract _ _ _ (Nat.le_refl _)]
    omega
  · rw [if_neg h, if_neg h]; exact Nat.le_refl _
theorem cand_sz {t : ByteArray} (h : t.size ≤ 1048576) : SzS (cut1 t, trim41 (cut2 t)) := by
  have h1 := cut_sz t
  have h2 := trim_sz (cut2 t)
  show (cut1 t).size + (trim41 (cut2 t)).size ≤ 1048576
  omega
theorem cand_of {t : ByteArray} {s : Sq} (h : txS s = t) (hl : letS s.1 = true) : cand t = s := by
  have hb := bl_txS s
  rw [h] at hb
  have hi : ix40 t = (s.1.size : Int) := by
    unfold ix40
    rw [hb, ix_of _ _ (let_no hl), bl_len]
  have h0 : 0 ≤ ix40 t := by omega
  have hsz : t.size = s.1.size + 1 + (s.2.size + 1) := by
    rw [← bl_len, hb, ← bl_len, ← bl_len]; simp; omega
  rw [cand_eq]
  refine Prod.ext ?_ ?_
  · show cut1 t = s.1
    apply bl_inj
    rw [cut1, if_pos h0, bl_extract, hb, hi, Int.toNat_natCast, List.drop_zero, ← bl_len, List.take_left]
  · show trim41 (cut2 t) = s.2
    have e : bl (cut2 t) = bl s.2 ++ [41] := by
      rw [cut2, if_pos h0, bl_extract, List.take_of_length_le (by rw [bl_len]; exact Nat.le_refl _), hb, hi, show ((s.1.size : Int) + 1).toNat = (bl s.1).length + 1 by rw [bl_len]; omega]
      simp
    apply bl_inj
    unfold trim41
    rw [bl_mk, e, trim_of]

/-! ### all of them -/
def splR (t : ByteArray) : Nat → List ByteArray × Nat
  | 0 => ([], 0)
  | i + 1 => if byteAt t i = 40 then ((splR t i).1 ++ [t.extract (splR t i).2 i], i + 1) else splR t i
theorem splR_le (t : ByteArray) : ∀ i, (splR t i).2 ≤ i
  | 0 => Nat.le_refl _
  | i + 1 => by
    unfold splR
    split
    · exact Nat.le_refl _
    · have := splR_le t i; omega
theorem splR_len (t : ByteArray) : ∀ i, (splR t i).1.length ≤ i
  | 0 => Nat.le_refl _
  | i + 1 => by
    unfold splR
    split
    · have := splR_len t i; simp; omega
    · have := splR_len t i; omega
theorem splR_0 (t : ByteArray) : ∀ i, (∀ m, m < i → byteAt t m ≠ 40) → splR t i = ([], 0)
  | 0, _ => rfl
  | i + 1, h => by
    unfold splR
    rw [if_neg (h i (by omega))]
    exact splR_0 t i fun m hm => h m (by omega)
theorem splR_1 (t : ByteArray) {j : Nat} (hj : byteAt t j = 40) : ∀ i, j < i → (∀ m, m < i → m ≠ j → byteAt t m ≠ 40) → splR t i = ([t.extract 0 j], j + 1)
  | 0, h, _ => by omega
  | i + 1, h, hno => by
    unfold splR
    by_cases e : i = j
    · subst e
      rw [if_pos hj, splR_0 t i fun m hm => hno m (by omega) (by omega)]
      rfl
    · rw [if_neg (hno i (by omega) e)]
      exact splR_1 t hj i (by omega) fun m hm => hno m (by omega)
theorem splR_inv (t : ByteArray) : ∀ i, ((splR t i).1.length = 0 → ∀ m, m < i → byteAt t m ≠ 40) ∧ ((splR t i).1.length = 1 → ∃ j, j < i ∧ byteAt t j = 40 ∧ ∀ m, m < i → m ≠ j → byteAt t m ≠ 40)
  | 0 => ⟨fun _ m hm => by omega, fun h => by simp [splR] at h⟩
  | i + 1 => by
    have ih := splR_inv t i
    by_cases hi : byteAt t i = 40
    · have e : splR t (i + 1) = ((splR t i).1 ++ [t.extract (splR t i).2 i], i + 1) := by rw [splR, if_pos hi]
      rw [e]
      refine ⟨fun h => by simp at h, fun h => ⟨i, by omega, hi, fun m hm hne => ih.1 (by simpa using h) m (by omega)⟩⟩
    · have e : splR t (i + 1) = splR t i := by rw [splR, if_neg hi]
      rw [e]
      refine ⟨fun h m hm => ?_, fun h => ?_⟩
      · rcases Nat.lt_or_ge m i with h' | h'
        · exact ih.1 h m h'
        · obtain rfl : m = i := by omega
          exact hi
      · obtain ⟨j, h1, h2, h3⟩ := ih.2 h
        refine ⟨j, by omega, h2, fun m hm hne => ?_⟩
        rcases Nat.lt_or_ge m i with h' | h'
        · exact h3 m h' hne
        · obtain rfl : m = i := by omega
          exact hi
/-- The partS of a text. -/
@[irreducible] def partS (t : ByteArray) : List ByteArray := (splR t t.size).1 ++ [t.extract (splR t t.size).2 t.size]
theorem partS_eq (t : ByteArray) : partS t = (splR t t.size).1 ++ [t.extract (splR t t.size).2 t.size] := by unfold partS; rfl
theorem partS_len (t : ByteArray) : 1 ≤ (partS t).length ∧ (partS t).length ≤ t.size + 1 := by
  rw [partS_eq, List.length_append]
  have := splR_len t t.size
  simp; omega
theorem partS_two {t : ByteArray} (h : (partS t).length = 2) : ∃ j, j < t.size ∧ byteAt t j = 40 ∧ partS t = [t.extract 0 j, t.extract (j + 1) t.size] := by
  rw [partS_eq, List.length_append] at h
  obtain ⟨j, h1, h2, h3⟩ := (splR_inv t t.size).2 (by simpa using h)
  refine ⟨j, h1, h2, ?_⟩
  rw [partS_eq, splR_1 t h2 _ h1 h3]
  rfl
theorem partS_of {t : ByteArray} {s : Sq} (h : txS s = t) (h1 : letS s.1 = true) (h2 : letS s.2 = true) : partS t = [s.1, s.2 ++ ByteArray.mk #[41]] := by
  have hb := bl_txS s
  rw [h] at hb
  have hsz : t.size = s.1.size + 1 + (s.2.size + 1) := by
    rw [← bl_len, hb, ← bl_len, ← bl_len]; simp; omega
  have hj : byteAt t s.1.size = 40 := by
    rw [byteAt_eq, hb, ← bl_len, List.getD_eq_getElem?_getD, List.getElem?_append_right (Nat.le_refl _)]
    simp
  have hno : ∀ m, m < t.size → m ≠ s.1.size → byteAt t m ≠ 40 := by
    intro m hm hne e
    rw [byteAt_eq, hb, List.getD_eq_getElem?_getD] at e
    rcases Nat.lt_or_ge m (bl s.1).length with h' | h'
    · rw [List.getElem?_append_left h', List.getElem?_eq_getElem h'] at e
      exact let_no h1 _ (List.getElem_mem h') (UInt8.toNat_inj.1 e)
    · rw [List.getElem?_append_right h'] at e
      have hne' : m - (bl s.1).length ≠ 0 := by rw [bl_len]; rw [bl_len] at h'; omega
      obtain ⟨q, hq⟩ : ∃ q, m - (bl s.1).length = q + 1 := ⟨_, (Nat.succ_pred_eq_of_ne_zero hne').symm⟩
      rw [hq, List.getElem?_cons_succ] at e
      rcases Nat.lt_or_ge q (bl s.2).length with h'' | h''
      · rw [List.getElem?_append_left h'', List.getElem?_eq_getElem h''] at e
        exact let_no h2 _ (List.getElem_mem h'') (UInt8.toNat_inj.1 e)
      · have : q = (bl s.2).length := by rw [bl_len] at *; omega
        rw [this, List.getElem?_append_right (Nat.le_refl _)] at e
        simp at e
  rw [partS_eq, splR_1 t hj _ (by omega) hno]
  have e1 : t.extract 0 s.1.size = s.1 := by
    apply bl_inj
    rw [bl_extract, hb, List.drop_zero, ← bl_len, List.take_left]
  have e2 : t.extract (s.1.size + 1) t.size = s.2 ++ ByteArray.mk #[41] := by
    apply bl_inj
    rw [bl_extract, List.take_of_length_le (by rw [bl_len]; exact Nat.le_refl _), hb, bl_append, ← bl_len]
    simp
    rfl
  simp only [e1, e2]
  rfl
theorem txt_of_partS {t p r : ByteArray} (h : partS t = [p, r]) (hr : 1 ≤ r.size) (hl : byteAt r (r.size - 1) = 41) : txS (p, r.extract 0 (r.size - 1)) = t := by
  obtain ⟨j, h1, h2, h3⟩ := partS_two (by rw [h]; rfl)
  rw [h] at h3
  injection h3 with e1 e2
  injection e2 with e2 _
  apply bl_inj
  rw [bl_txS]
  simp only
  have f1 : bl p = (bl t).take j := by rw [e1, bl_extract, List.drop_zero]
  have f2 : bl r = (bl t).drop (j + 1) := by rw [e2, bl_extract, List.take_of_length_le (by rw [bl_len]; exact Nat.le_refl _)]
  have hrl : (bl r).length = r.size := bl_len r
  have f3 : bl (r.extract 0 (r.size - 1)) ++ [41] = bl r := by
    rw [bl_extract, List.drop_zero]
    have hlt : r.size - 1 < (bl r).length := by omega
    have e41 : (bl r)[r.size - 1] = 41 := by
      rw [byteAt_eq, List.getD_eq_getElem?_getD, List.getElem?_eq_getElem hlt] at hl
      exact UInt8.toNat_inj.1 hl
    rw [← e41, ← List.take_succ_eq_append_getElem hlt, List.take_of_length_le (by omega)]
  have hjl : j < (bl t).length := by rw [bl_len]; exact h1
  have e40 : (bl t)[j] = 40 := by
    rw [byteAt_eq, List.getD_eq_getElem?_getD, List.getElem?_eq_getElem hjl] at h2
    exact UInt8.toNat_inj.1 h2
  rw [f3, f1, f2, ← e40, ← List.drop_eq_getElem_cons hjl, List.take_append_drop]

/-! ### what is read -/
open Classical in
/-- The sequence with a text, and the code. -/
noncomputable def psR (t : ByteArray) : Sq × Int := if isSeqB (cand t) = true ∧ txS (cand t) = t then (cand t, 0) else ((ByteArray.mk #[], ByteArray.mk #[]), 6)
theorem psR_t {t : ByteArray} {s : Sq} (h1 : isSeqB s = true) (h2 : txS s = t) : psR t = (s, 0) := by
  have e := cand_of h2 ((isSeqB_iff s).1 h1).1.1
  unfold psR
  rw [e, if_pos ⟨h1, h2⟩]
theorem psR_f {t : ByteArray} (h : ∀ s, isSeqB s = true → txS s = t → False) : psR t = ((ByteArray.mk #[], ByteArray.mk #[]), 6) := by
  unfold psR
  rw [if_neg fun h' => h _ h'.1 h'.2]
theorem psR_c {t : ByteArray} (h : ¬ (isSeqB (cand t) = true ∧ txS (cand t) = t)) : psR t = ((ByteArray.mk #[], ByteArray.mk #[]), 6) := by
  unfold psR
  rw [if_neg h]
end Go.Proofs.Ytlplngafncobkad.Fw
