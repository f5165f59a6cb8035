/- Plain laws: sums of rows of pair matrices, counts of paths double at most. -/
import Derived.Test.YtllagpbbbdekiabK2
namespace Go.Proofs.Ytllagpbbbdekiab.Fw
set_option linter.unusedVariables false
set_option linter.unusedSimpArgs false
def sepB (xs : List Ang) (p : List Int) : Bool := apB (xs.getD (p.getD 0 0 - 1).toNat (0, 0)) (xs.getD (p.getD 1 0 - 1).toNat (0, 0)) (xs.getD 0 (0, 0))
theorem rowP_one {xs : List Ang} (ho : Orb xs) {p : List Int} (hp : p ∈ prJ xs.length xs.length) (hs : ¬ sepB xs p = true) : Nn 1 (rowP xs p) := by
  obtain ⟨i, k, rfl, h1, h2, h3, h4⟩ := mem_prJ.1 hp
  have hx : xs.getD (i - 1).toNat (0, 0) ∈ xs := getD_mem (by omega)
  have hy : xs.getD (k - 1).toNat (0, 0) ∈ xs := getD_mem (by omega)
  obtain ⟨a1, a2, _⟩ := plA_rng xs _ (ho.dbl _ hx)
  obtain ⟨b1, b2, _⟩ := plA_rng xs _ (ho.dbl _ hy)
  have hz : Nn 0 (List.replicate (prJ xs.length xs.length).length (0 : Int)) := ⟨fun x hx => by rw [(List.mem_replicate.1 hx).2]; exact Int.le_refl _, by rw [sumI_zero]; exact Int.le_refl _⟩
  unfold rowP
  unfold sepB at hs
  simp only [List.getD_cons_zero, List.getD_cons_succ] at hs ⊢
  rw [if_neg hs]
  exact addP_nn (by rw [List.length_replicate]) a1 b1 a2 b2 hz
theorem allM_rows (M : List (List Int)) : allM M = sumN (fun i => sumI (M.getD i [])) M.length := by
  unfold allM
  refine sumN_congr fun i hi => ?_
  have e : sumN (fun j => ent M i j) (M.getD i []).length = sumN (fun j => (M.getD i []).getD j 0) (M.getD i []).length := rfl
  rw [e, sumN_list _ _ (Nat.le_refl _), List.take_length]
theorem mulM_getD (a b : List (List Int)) (w i : Nat) (h : i < a.length) : (mulM a b w).getD i [] = rowM (a.getD i []) b w (a.getD i []).length := by
  unfold mulM
  rw [List.getD_eq_getElem?_getD, List.getElem?_map, List.getElem?_eq_getElem h, List.getD_eq_getElem?_getD (l := a), List.getElem?_eq_getElem h]; rfl
theorem sumN_mul (c : Int) (f : Nat → Int) : ∀ n, sumN (fun i => c * f i) n = c * sumN f n
  | 0 => by simp [sumN]
  | n + 1 => by rw [sumN, sumN, sumN_mul c f n, Int.mul_add]
theorem allM_mul {a b : List (List Int)} {s : Int} (ha : ∀ r ∈ a, Nn s r) (hl : ∀ r ∈ a, r.length = b.length) (hb : ∀ r ∈ b, Nn 2 r) (hw : ∀ r ∈ b, r.length = b.length) : allM (mulM a b b.length) ≤ 2 * allM a := by
  rw [allM_rows, allM_rows, mulM_len, ← sumN_mul]
  refine sumN_le fun i hi => ?_
  rw [mulM_getD _ _ _ _ hi]
  have hm : a.getD i [] ∈ a := getD_mem hi
  have := (rowM_nn (ha _ hm) (hl _ hm) hb hw (a.getD i []).length (by rw [hl _ hm]; exact Nat.le_refl _)).2
  rw [List.take_length] at this
  exact this
theorem trM_all {a : List (List Int)} {s : Int} (ha : ∀ r ∈ a, Nn s r) : trM a ≤ allM a := by
  rw [allM_rows]
  unfold trM
  refine sumN_le fun i hi => ?_
  have hm : a.getD i [] ∈ a := getD_mem hi
  have hn : Nn (sumI (a.getD i [])) (a.getD i []) := ⟨(ha _ hm).1, Int.le_refl _⟩
  show (a.getD i []).getD i 0 ≤ _
  rcases Nat.lt_or_ge i (a.getD i []).length with h | h
  · exact hn.le _ (getD_mem h)
  · rw [List.getD_eq_getElem?_getD (l := a.getD i []), List.getElem?_eq_none h]
    exact sumI_nn (ha _ hm).1
theorem powM_dbl {xs : List Ang} (ho : Orb xs) (k : Nat) : allM (powM (matP xs) (k + 1)) ≤ 2 * allM (powM (matP xs) k) := by
  have h := allM_mul (b := matP xs) (powM_nn (matP_nn ho) (matP_sq xs) k) (powM_row (matP xs) k) (matP_nn ho) (matP_sq xs)
  exact h
theorem powM_trs {xs : List Ang} (ho : Orb xs) (k : Nat) : trM (powM (matP xs) k) ≤ allM (powM (matP xs) k) := trM_all (powM_nn (matP_nn ho) (matP_sq xs) k)
end Go.Proofs.Ytllagpbbbdekiab.Fw
