/- Plain laws: texts of angles, cut and split at a slash. No program. -/
import Derived.Test.YtmbfflckgmdncaaDoorDB
import Derived.Test.YtmbfflckgmdncaaDoorDE
import Derived.Lib.Bytealg
import Derived.Lib.Strings
namespace Go.Proofs.YtmbfflckgmdncaaDoor.Fw
open Go
set_option linter.unusedVariables false
set_option linter.unusedSimpArgs false

def bl (s : ByteArray) : List UInt8 := s.data.toList
theorem bl_inj {s t : ByteArray} (h : bl s = bl t) : s = t := by
  have : s.data = t.data := Array.ext' h
  cases s; cases t; simp_all
theorem bl_len (s : ByteArray) : (bl s).length = s.size := rfl
theorem bl_append (s t : ByteArray) : bl (s ++ t) = bl s ++ bl t := by simp [bl, ByteArray.data_append]
theorem bl_extract (s : ByteArray) (a b : Nat) : bl (s.extract a b) = ((bl s).take b).drop a := by
  simp [bl, ByteArray.data_extract, Array.toList_extract, List.extract_eq_take_drop, List.drop_take]
theorem size_extract (s : ByteArray) (a b : Nat) (h : b ≤ s.size) : (s.extract a b).size = b - a := by rw [ByteArray.size_extract]; omega
theorem byteAt_eq (s : ByteArray) (n : Nat) : byteAt s n = ((bl s).getD n 0).toNat := rfl
theorem byteAt_inj {s t : ByteArray} {n m : Nat} : byteAt s n = byteAt t m ↔ (bl s).getD n 0 = (bl t).getD m 0 := by
  rw [byteAt_eq, byteAt_eq]
  constructor
  · intro h; exact UInt8.toNat_inj.1 h
  · intro h; rw [h]
theorem bl_mk (l : List UInt8) : bl ⟨l.toArray⟩ = l := by simp [bl]
theorem byteAt_append_left {s t : ByteArray} {n : Nat} (h : n < s.size) : byteAt (s ++ t) n = byteAt s n := by
  rw [byteAt_eq, byteAt_eq, bl_append, List.getD_eq_getElem?_getD, List.getElem?_append_left (by rw [bl_len]; exact h), ← List.getD_eq_getElem?_getD]
theorem byteAt_append_right {s t : ByteArray} {n : Nat} (h : s.size ≤ n) : byteAt (s ++ t) n = byteAt t (n - s.size) := by
  rw [byteAt_eq, byteAt_eq, bl_append, List.getD_eq_getElem?_getD, List.getElem?_append_right (by rw [bl_len]; exact h), ← List.getD_eq_getElem?_getD, bl_len]
theorem size_zero {s : ByteArray} : s.size = 0 ↔ s = ByteArray.empty := by
  constructor
  · intro h; exact bl_inj (List.eq_nil_of_length_eq_zero h)
  · intro h; subst h; rfl

/-! ### cut -/
@[irreducible] def ix47 (s : ByteArray) : Int := Go.Lib.indexByte (bl s) 47
theorem ixA_of : ∀ (P R : List UInt8), (∀ x ∈ P, x ≠ 47) → Go.Lib.indexByte (P ++ 47 :: R) 47 = (P.length : Int)
  | [], R, _ => by simp [Go.Lib.indexByte]
  | b :: P, R, h => by
    have hb : ¬ (b == (47 : UInt8)) = true := by have := h b (List.mem_cons_self ..); simpa using this
    have ih := ixA_of P R fun x hx => h x (List.mem_cons_of_mem _ hx)
    rw [List.cons_append, Go.Lib.indexByte, if_neg hb, ih, if_neg (by simp)]
    simp
theorem ixA_inv : ∀ (L : List UInt8), 0 ≤ Go.Lib.indexByte L 47 → ∃ P R, L = P ++ 47 :: R ∧ (∀ x ∈ P, x ≠ 47) ∧ Go.Lib.indexByte L 47 = (P.length : Int)
  | [], h => by simp [Go.Lib.indexByte] at h
  | b :: L, h => by
    by_cases hb : (b == (47 : UInt8)) = true
    · have : b = 47 := by simpa using hb
      subst this
      refine ⟨[], L, rfl, (fun x hx => absurd hx (List.not_mem_nil)), ?_⟩
      simp [Go.Lib.indexByte]
    · rw [Go.Lib.indexByte, if_neg hb] at h
      by_cases h1 : (Go.Lib.indexByte L 47 == -1) = true
      · rw [if_pos h1] at h; omega
      · rw [if_neg h1] at h
        have hg := Go.Lib.indexByte_ge L 47
        have h2 : Go.Lib.indexByte L 47 ≠ -1 := by simpa using h1
        obtain ⟨P, R, e1, e2, e3⟩ := ixA_inv L (by omega)
        refine ⟨b :: P, R, by rw [e1]; rfl, fun x hx => ?_, ?_⟩
        · rcases List.mem_cons.1 hx with rfl | hx
          · simpa using hb
          · exact e2 x hx
        · rw [Go.Lib.indexByte, if_neg hb, if_neg h1, e3]; simp
theorem ix47_lt {s : ByteArray} (h : 0 ≤ ix47 s) : ix47 s + 1 ≤ (s.size : Int) := by
  unfold ix47 at h ⊢
  obtain ⟨P, R, e1, _, e3⟩ := ixA_inv _ h
  have : s.size = (bl s).length := (bl_len s).symm
  rw [e3, this, e1]; simp; omega
theorem ix47_le (s : ByteArray) : ix47 s ≤ (s.size : Int) := by
  rcases Int.lt_or_le (ix47 s) 0 with h | h
  · omega
  · have := ix47_lt h; omega
def cuA (s : ByteArray) : ByteArray := if 0 ≤ ix47 s then s.extract 0 (ix47 s).toNat else s
def cuB (s : ByteArray) : ByteArray := if 0 ≤ ix47 s then s.extract (ix47 s + 1).toNat s.size else ByteArray.mk #[]

/-! ### texts -/
theorem bl_dcB (n : Nat) : bl (dcB n) = Lib.decDigits n := by unfold dcB; exact bl_mk _
theorem dcB_inj {n m : Nat} (h : dcB n = dcB m) : n = m := by
  have := congrArg (dvL 0) (congrArg bl h)
  rw [bl_dcB, bl_dcB, dd_val, dd_val] at this
  exact this
theorem bl_txB (a : Ang) : bl (txB a) = Lib.decDigits a.1.toNat ++ 47 :: Lib.decDigits a.2.toNat := by
  unfold txB
  rw [bl_append, bl_append, bl_dcB, bl_dcB]
  have e1 : bl (ByteArray.mk #[47]) = [47] := rfl
  rw [e1]; simp
theorem dd_no (n : Nat) : ∀ x ∈ Lib.decDigits n, x ≠ 47 := fun x hx e => by
  have := dd_dig n x hx
  subst e
  exact absurd this (by decide)
theorem cu_of {t : ByteArray} {P R : List UInt8} (hb : bl t = P ++ 47 :: R) (hP : ∀ x ∈ P, x ≠ 47) : bl (cuA t) = P ∧ bl (cuB t) = R := by
  have hi : ix47 t = (P.length : Int) := by unfold ix47; rw [hb, ixA_of P R hP]
  have h0 : 0 ≤ ix47 t := by omega
  refine ⟨?_, ?_⟩
  · rw [cuA, if_pos h0, bl_extract, hb, hi, Int.toNat_natCast, List.drop_zero, List.take_left]
  · rw [cuB, if_pos h0, bl_extract, List.take_of_length_le (by rw [bl_len]; exact Nat.le_refl _), hb, hi, show ((P.length : Int) + 1).toNat = P.length + 1 by omega]
    simp

/-! ### split -/
def splA (t : ByteArray) : Nat → List ByteArray × Nat
  | 0 => ([], 0)
  | i + 1 => if byteAt t i = 47 then ((splA t i).1 ++ [t.extract (splA t i).2 i], i + 1) else splA t i
theorem splA_le (t : ByteArray) : ∀ i, (splA t i).2 ≤ i
  | 0 => Nat.le_refl _
  | i + 1 => by
    unfold splA
    split
    · exact Nat.le_refl _
    · have := splA_le t i; omega
theorem splA_len (t : ByteArray) : ∀ i, (splA t i).1.length ≤ i
  | 0 => Nat.le_refl _
  | i + 1 => by
    unfold splA
    split
    · have := splA_len t i; simp; omega
    · have := splA_len t i; omega
theorem splA_0 (t : ByteArray) : ∀ i, (∀ m, m < i → byteAt t m ≠ 47) → splA t i = ([], 0)
  | 0, _ => rfl
  | i + 1, h => by
    unfold splA
    rw [if_neg (h i (by omega))]
    exact splA_0 t i fun m hm => h m (by omega)
theorem splA_1 (t : ByteArray) {j : Nat} (hj : byteAt t j = 47) : ∀ i, j < i → (∀ m, m < i → m ≠ j → byteAt t m ≠ 47) → splA t i = ([t.extract 0 j], j + 1)
  | 0, h, _ => by omega
  | i + 1, h, hno => by
    unfold splA
    by_cases e : i = j
    · subst e
      rw [if_pos hj, splA_0 t i fun m hm => hno m (by omega) (by omega)]
      rfl
    · rw [if_neg (hno i (by omega) e)]
      exact splA_1 t hj i (by omega) fun m hm => hno m (by omega)
theorem splA_inv (t : ByteArray) : ∀ i, ((splA t i).1.length = 0 → ∀ m, m < i → byteAt t m ≠ 47) ∧ ((splA t i).1.length = 1 → ∃ j, j < i ∧ byteAt t j = 47 ∧ ∀ m, m < i → m ≠ j → byteAt t m ≠ 47)
  | 0 => ⟨fun _ m hm => by omega, fun h => by simp [splA] at h⟩
  | i + 1 => by
    have ih := splA_inv t i
    by_cases hi : byteAt t i = 47
    · have e : splA t (i + 1) = ((splA t i).1 ++ [t.extract (splA t i).2 i], i + 1) := by rw [splA, if_pos hi]
      rw [e]
      refine ⟨fun h => by simp at h, fun h => ⟨i, by omega, hi, fun m hm hne => ih.1 (by simpa using h) m (by omega)⟩⟩
    · have e : splA t (i + 1) = splA t i := by rw [splA, if_neg hi]
      rw [e]
      refine ⟨fun h m hm => ?_, fun h => ?_⟩
      · rcases Nat.lt_or_ge m i with h' | h'
        · exact ih.1 h m h'
        · obtain rfl : m = i := by omega
          exact hi
      · obtain ⟨j, h1, h2, h3⟩ := ih.2 h
        refine ⟨j, by omega, h2, fun m hm hne => ?_⟩
        rcases Nat.lt_or_ge m i with h' | h'
        · exact h3 m h' hne
        · obtain rfl : m = i := by omega
          exact hi
/-- The prtA of a text. -/
@[irreducible] def prtA (t : ByteArray) : List ByteArray := (splA t t.size).1 ++ [t.extract (splA t t.size).2 t.size]
theorem prtA_eq (t : ByteArray) : prtA t = (splA t t.size).1 ++ [t.extract (splA t t.size).2 t.size] := by unfold prtA; rfl
theorem prtA_len (t : ByteArray) : 1 ≤ (prtA t).length ∧ (prtA t).length ≤ t.size + 1 := by
  rw [prtA_eq, List.length_append]
  have := splA_len t t.size
  simp; omega
theorem prtA_two {t : ByteArray} (h : (prtA t).length = 2) : ∃ j, j < t.size ∧ byteAt t j = 47 ∧ prtA t = [t.extract 0 j, t.extract (j + 1) t.size] := by
  rw [prtA_eq, List.length_append] at h
  obtain ⟨j, h1, h2, h3⟩ := (splA_inv t t.size).2 (by simpa using h)
  refine ⟨j, h1, h2, ?_⟩
  rw [prtA_eq, splA_1 t h2 _ h1 h3]
  rfl
theorem prtA_of {t : ByteArray} {P R : List UInt8} (hb : bl t = P ++ 47 :: R) (hP : ∀ x ∈ P, x ≠ 47) (hR : ∀ x ∈ R, x ≠ 47) : ∃ p r, prtA t = [p, r] ∧ bl p = P ∧ bl r = R := by
  have hsz : t.size = P.length + 1 + R.length := by rw [← bl_len, hb]; simp; omega
  have hj : byteAt t P.length = 47 := by
    rw [byteAt_eq, hb, List.getD_eq_getElem?_getD, List.getElem?_append_right (Nat.le_refl _)]
    simp
  have hno : ∀ m, m < t.size → m ≠ P.length → byteAt t m ≠ 47 := by
    intro m hm hne e
    rw [byteAt_eq, hb, List.getD_eq_getElem?_getD] at e
    rcases Nat.lt_or_ge m P.length with h' | h'
    · rw [List.getElem?_append_left h', List.getElem?_eq_getElem h'] at e
      exact hP _ (List.getElem_mem h') (UInt8.toNat_inj.1 e)
    · rw [List.getElem?_append_right h'] at e
      obtain ⟨q, hq⟩ : ∃ q, m - P.length = q + 1 := ⟨m - P.length - 1, by omega⟩
      rw [hq, List.getElem?_cons_succ] at e
      have h'' : q < R.length := by omega
      rw [List.getElem?_eq_getElem h''] at e
      exact hR _ (List.getElem_mem h'') (UInt8.toNat_inj.1 e)
  refine ⟨t.extract 0 P.length, t.extract (P.length + 1) t.size, ?_, ?_, ?_⟩
  · rw [prtA_eq, splA_1 t hj _ (by omega) hno]
    rfl
  · rw [bl_extract, hb, List.drop_zero, List.take_left]
  · rw [bl_extract, List.take_of_length_le (by rw [bl_len]; exact Nat.le_refl _), hb]
    simp
theorem prtA_back {t : ByteArray} (h : (prtA t).length = 2) : bl t = bl ((prtA t).getD 0 ByteArray.empty) ++ 47 :: bl ((prtA t).getD 1 ByteArray.empty) := by
  obtain ⟨j, h1, h2, h3⟩ := prtA_two h
  rw [h3]
  show bl t = bl (t.extract 0 j) ++ 47 :: bl (t.extract (j + 1) t.size)
  have hjl : j < (bl t).length := by rw [bl_len]; exact h1
  have e47 : (bl t)[j] = 47 := by
    rw [byteAt_eq, List.getD_eq_getElem?_getD, List.getElem?_eq_getElem hjl] at h2
    exact UInt8.toNat_inj.1 h2
  have f1 : bl (t.extract 0 j) = (bl t).take j := by rw [bl_extract, List.drop_zero]
  have f2 : bl (t.extract (j + 1) t.size) = (bl t).drop (j + 1) := by rw [bl_extract, List.take_of_length_le (by rw [bl_len]; exact Nat.le_refl _)]
  rw [f1, f2, ← e47, ← List.drop_eq_getElem_cons hjl, List.take_append_drop]

/-! ### what is read -/
open Classical in
/-- The angle with a text, and the code. -/
@[irreducible] noncomputable def prO (t : ByteArray) : Ang × Int := if h : ∃ a : Ang, IsA a ∧ txB a = t then (h.choose, 0) else ((0, 0), 6)
theorem txB_inj {a b : Ang} (ha : IsA a) (hb : IsA b) (h : txB a = txB b) : a = b := by
  have h1 := cu_of (bl_txB a) (dd_no _)
  have h2 := cu_of (bl_txB b) (dd_no _)
  rw [← h] at h2
  have e1 := congrArg (dvL 0) (h1.1.symm.trans h2.1)
  have e2 := congrArg (dvL 0) (h1.2.symm.trans h2.2)
  rw [dd_val, dd_val] at e1 e2
  have a1 := isA_b (n := a.1) (d := a.2) ha
  have b1 := isA_b (n := b.1) (d := b.2) hb
  exact Prod.ext (by omega) (by omega)
theorem prO_t {t : ByteArray} {a : Ang} (h1 : IsA a) (h2 : txB a = t) : prO t = (a, 0) := by
  unfold prO
  have h : ∃ a : Ang, IsA a ∧ txB a = t := ⟨a, h1, h2⟩
  rw [dif_pos h, txB_inj h.choose_spec.1 h1 (h.choose_spec.2.trans h2.symm)]
theorem prO_f {t : ByteArray} (h : ∀ a, IsA a → txB a = t → False) : prO t = ((0, 0), 6) := by
  unfold prO
  rw [dif_neg fun ⟨a, h1, h2⟩ => h a h1 h2]
/-- What the program goes by. -/
theorem prO_cut {t : ByteArray} {m1 m2 : Int} (h1 : ∀ n : Nat, n ≤ 100000 → dcB n = cuA t → m1 = n) (h2 : ∀ n : Nat, n ≤ 100000 → dcB n = cuB t → m2 = n) (h : ¬ (IsA (m1, m2) ∧ txB (m1, m2) = t)) : prO t = ((0, 0), 6) := prO_f fun a ha he => h (by
  have hc := cu_of (t := t) (by rw [← he]; exact bl_txB a) (dd_no _)
  have hb := isA_b (n := a.1) (d := a.2) ha
  have e1 := h1 a.1.toNat (by omega) (bl_inj (by rw [bl_dcB, hc.1]))
  have e2 := h2 a.2.toNat (by omega) (bl_inj (by rw [bl_dcB, hc.2]))
  have ea : (m1, m2) = a := Prod.ext (by simp only; omega) (by simp only; omega)
  rw [ea]
  exact ⟨ha, he⟩)
/-- What the reference goes by. -/
def rdA (t : ByteArray) : Ang := (nmL (bl ((prtA t).getD 0 ByteArray.empty)), nmL (bl ((prtA t).getD 1 ByteArray.empty)))
theorem prO_prt {t : ByteArray} (h : (prtA t).length = 2) (ha : IsA (rdA t)) : prO t = (rdA t, 0) := by
  have hb := isA_b (n := (rdA t).1) (d := (rdA t).2) ha
  refine prO_t ha (bl_inj ?_)
  rw [bl_txB, prtA_back h]
  unfold rdA at hb ⊢
  simp only at hb ⊢
  rw [nmL_inv hb.1.1, nmL_inv hb.2.1]
theorem prO_no {t : ByteArray} (h : ¬ ((prtA t).length = 2 ∧ IsA (rdA t))) : prO t = ((0, 0), 6) := prO_f fun a ha he => h (by
  obtain ⟨p, r, h1, h2, h3⟩ := prtA_of (t := t) (by rw [← he]; exact bl_txB a) (dd_no _) (dd_no _)
  have hb := isA_b (n := a.1) (d := a.2) ha
  refine ⟨by rw [h1]; rfl, ?_⟩
  have e : rdA t = a := by
    unfold rdA
    rw [h1]
    show (nmL (bl p), nmL (bl r)) = a
    rw [h2, h3, nmL_of (by omega), nmL_of (by omega)]
    exact Prod.ext (by simp only; omega) (by simp only; omega)
  rw [e]; exact ha)
end Go.Proofs.YtmbfflckgmdncaaDoor.Fw
