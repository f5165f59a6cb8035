/- Plain laws of matrices: products, powers, sums, traces. -/
import Derived.Test.YtadlnnjgocknhaaK1
namespace Go.Proofs.Ytadlnnjgocknhaa.Fw
set_option linter.unusedVariables false
set_option linter.unusedSimpArgs false
/-- f 0 + f 1 + .. -/
def sumN (f : Nat → Int) : Nat → Int
  | 0 => 0
  | n + 1 => sumN f n + f n
theorem sumN_congr {f g : Nat → Int} : ∀ {n : Nat}, (∀ i, i < n → f i = g i) → sumN f n = sumN g n
  | 0, _ => rfl
  | n + 1, h => by rw [sumN, sumN, sumN_congr fun i hi => h i (by omega), h n (by omega)]
theorem sumN_nn {f : Nat → Int} : ∀ {n : Nat}, (∀ i, i < n → 0 ≤ f i) → 0 ≤ sumN f n
  | 0, _ => Int.le_refl _
  | n + 1, h => by have := sumN_nn (n := n) fun i hi => h i (by omega); have := h n (by omega); rw [sumN]; omega
theorem sumN_le {f g : Nat → Int} : ∀ {n : Nat}, (∀ i, i < n → f i ≤ g i) → sumN f n ≤ sumN g n
  | 0, _ => Int.le_refl _
  | n + 1, h => by have := sumN_le (n := n) fun i hi => h i (by omega); have := h n (by omega); rw [sumN, sumN]; omega
/-! ### products -/
def ent (a : List (List Int)) (i j : Nat) : Int := (a.getD i []).getD j 0
/-! ### bounds of rows of numbers of at least 0 -/
theorem sumI_take_succ (r : List Int) (k : Nat) (h : k < r.length) : sumI (r.take (k + 1)) = sumI (r.take k) + r.getD k 0 := by
  rw [List.take_add_one, sumI_append, List.getElem?_eq_getElem h, List.getD_eq_getElem?_getD, List.getElem?_eq_getElem h]
  simp [sumI]
theorem getD_nn {l : List Int} (h : ∀ x ∈ l, 0 ≤ x) (k : Nat) : 0 ≤ l.getD k 0 := by
  rcases Nat.lt_or_ge k l.length with hk | hk
  · exact h _ (getD_mem hk)
  · rw [List.getD_eq_getElem?_getD, List.getElem?_eq_none hk]; exact Int.le_refl _
theorem ent_nn {b : List (List Int)} (h : ∀ r ∈ b, ∀ x ∈ r, 0 ≤ x) (q j : Nat) : 0 ≤ ent b q j := by
  unfold ent
  rcases Nat.lt_or_ge q b.length with hk | hk
  · exact getD_nn (h _ (getD_mem hk)) j
  · rw [List.getD_eq_getElem?_getD (l := b), List.getElem?_eq_none hk]; simp
/-! ### powers -/
def unitM (n : Nat) : List (List Int) := (List.range n).map fun i => (List.replicate n (0 : Int)).set i 1
theorem unitM_len (n : Nat) : (unitM n).length = n := by simp [unitM]
theorem unitM_row (n : Nat) : ∀ r ∈ unitM n, r.length = n := by
  intro r hr
  obtain ⟨i, _, rfl⟩ := List.mem_map.1 hr
  simp
/-! ### traces, sums of all -/
theorem sumN_list (r : List Int) : ∀ k, k ≤ r.length → sumN (fun j => r.getD j 0) k = sumI (r.take k)
  | 0, _ => by simp [sumN, sumI]
  | k + 1, h => by rw [sumN, sumN_list r k (by omega), sumI_take_succ r k (by omega)]
end Go.Proofs.Ytadlnnjgocknhaa.Fw
