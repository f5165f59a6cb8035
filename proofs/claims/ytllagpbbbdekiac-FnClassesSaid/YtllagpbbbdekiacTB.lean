/- Plain laws: the cycles of the images. No program. -/
import Derived.Test.YtllagpbbbdekiacT13
namespace Go.Proofs.Ytllagpbbbdekiac.Fw
open Go Go.RowKit
set_option linter.unusedVariables false
set_option linter.unusedSimpArgs false
def nxF (im : List Int) (k : Nat) : Nat := (im.getD k 0).toNat
def Nums (im : List Int) : Prop := im.length ≤ 63 ∧ ∀ i, i < im.length → 0 ≤ im.getD i 0 ∧ im.getD i 0 < im.length
theorem Nums.lt {im : List Int} (h : Nums im) : ∀ k, k < im.length → nxF im k < im.length := fun k hk => by
  have := h.2 k hk
  unfold nxF
  omega
theorem Nums.eq {im : List Int} (h : Nums im) {k : Nat} (hk : k < im.length) : im.getD k 0 = (nxF im k : Int) := by
  have := h.2 k hk
  unfold nxF
  omega
theorem Nums.step {im : List Int} (h : Nums im) {i r : Nat} (hi : i < im.length) : im.getD (itN (nxF im) r i) 0 = (itN (nxF im) (r + 1) i : Int) := h.eq (itN_lt h.lt hi r)
theorem imgG_full (L : List (List Int)) (n : Int) : (imgG L n L.length).length = L.length := by unfold imgG; rw [List.length_map, List.take_length]
theorem imgG_at (L : List (List Int)) (n : Int) {i : Nat} (h : i < L.length) : (imgG L n L.length).getD i 0 = idxP (hasN (dblN n (L.getD i []))) L := by
  unfold imgG
  rw [List.take_length, List.getD_eq_getElem?_getD, List.getElem?_map, List.getElem?_eq_getElem h, List.getD_eq_getElem?_getD, List.getElem?_eq_getElem h]; rfl
theorem imgA_nums (t : Ang) {n : Int} (h : OkN n) : Nums (imgA t n) := by
  have hC := lab1_can t n
  have hsm := cls1_small t h
  have e : cls1 t n = clsL n.toNat (lab1 t n) := by unfold cls1; rfl
  have hn : ((n.toNat : Nat) : Int) = n := by have := h.1; omega
  unfold imgA
  refine ⟨by rw [imgG_full]; exact hsm.1, fun i hi => ?_⟩
  rw [imgG_full] at hi ⊢
  rw [imgG_at _ _ hi]
  rw [e] at hi ⊢
  have := img_in hC hi
  rw [hn] at this
  exact this
theorem ciR_nums {t : Ang} {n : Int} (h : (ciR t n).2 = 0) : Nums (ciR t n).1 := by
  by_cases h1 : IsA t
  · by_cases h2 : OkN n
    · rw [ciR_t h1 h2]; exact imgA_nums t h2
    · rw [ciR_r h1 h2] at h; cases h
  · rw [ciR_i h1] at h; cases h
noncomputable def cyL (q : List Int × Int) : List (List Int) × Int := if q.2 = 0 then (cycG (nxF q.1) q.1.length, 0) else ([], q.2)
theorem cyL_0 {q : List Int × Int} (h : q.2 = 0) : cyL q = (cycG (nxF q.1) q.1.length, 0) := by unfold cyL; rw [if_pos h]
theorem cyL_1 {q : List Int × Int} (h : ¬ q.2 = 0) : cyL q = ([], q.2) := by unfold cyL; rw [if_neg h]
theorem cyL_small (t : Ang) (n : Int) : SmallL (cyL (ciR t n)).1 := by
  by_cases h : (ciR t n).2 = 0
  · rw [cyL_0 h]
    have hN := ciR_nums h
    refine ⟨Nat.le_trans (cycG_len _ _) hN.1, fun r hr => Nat.le_trans (cycG_row hN.lt _ (Nat.le_refl _) r hr) hN.1⟩
  · rw [cyL_1 h]; exact nil_small
def minP (xs : List Int) (j : Nat) : Int := (xs.take j).foldl min (xs.getD 0 0)
theorem minP_next (xs : List Int) {j : Nat} (h : j < xs.length) : minP xs (j + 1) = min (minP xs j) (xs.getD j 0) := by
  unfold minP
  rw [List.take_add_one, List.foldl_append, List.getElem?_eq_getElem h, List.getD_eq_getElem?_getD (l := xs) (i := j), List.getElem?_eq_getElem h]; rfl
theorem minP_one (xs : List Int) (h : 0 < xs.length) : minP xs 1 = xs.getD 0 0 := by
  rw [minP_next xs h]
  show min (xs.getD 0 0) (xs.getD 0 0) = _
  omega
theorem minP_spec (xs : List Int) : ∀ j, j ≤ xs.length → 0 < xs.length → (∀ i, i < j → minP xs j ≤ xs.getD i 0) ∧ ∃ i, i < xs.length ∧ minP xs j = xs.getD i 0
  | 0, _, hp => ⟨fun i hi => absurd hi (Nat.not_lt_zero _), 0, hp, rfl⟩
  | j + 1, hj, hp => by
    obtain ⟨h1, i0, h2, h3⟩ := minP_spec xs j (by omega) hp
    have e := minP_next xs (j := j) (by omega)
    refine ⟨fun i hi => ?_, ?_⟩
    · rcases Nat.lt_or_ge i j with h | h
      · have := h1 i h; omega
      · obtain rfl : i = j := by omega
        omega
    · by_cases hle : minP xs j ≤ xs.getD j 0
      · exact ⟨i0, h2, by omega⟩
      · exact ⟨j, by omega, by omega⟩
theorem min_path (f : Nat → Nat) (i : Nat) {r : Nat} (hr : 0 < r) : minP (pthG f i r) r = (i : Int) ↔ ∀ k, k < r → i ≤ itN f k i := by
  obtain ⟨h1, k0, h2, h3⟩ := minP_spec (pthG f i r) r (by rw [pthG_len]; exact Nat.le_refl _) (by rw [pthG_len]; exact hr)
  constructor
  · intro e k hk
    have := h1 k hk
    rw [pthG_at f i hk, e] at this
    omega
  · intro h
    have e0 := h1 0 hr
    rw [pthG_at f i hr] at e0
    have e0' : minP (pthG f i r) r ≤ (i : Int) := e0
    rw [pthG_len] at h2
    rw [pthG_at f i h2] at h3
    have := h k0 h2
    omega
theorem ref_none {f : Nat → Nat} {i r N : Nat} (hf : ∀ k, k < N → f k < N) (hi : i < N) (hr : N < r) (hne : ∀ q, 0 < q → q < r → itN f q i ≠ i) : ∀ p, ¬ IsPer f i p := fun p hp => by
  have := hp.dst.le hf hi
  exact hne p hp.pos (by omega) hp.back
end Go.Proofs.Ytllagpbbbdekiac.Fw
