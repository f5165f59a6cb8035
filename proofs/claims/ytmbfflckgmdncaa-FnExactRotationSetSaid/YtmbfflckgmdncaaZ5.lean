/- A list in weak order without its doubles is the list in order. -/
import Derived.Test.YtmbfflckgmdncaaZ4
namespace Go.Proofs.Ytmbfflckgmdncaa.Fw
open Go Go.RowKit
set_option linter.unusedVariables false
set_option linter.unusedSimpArgs false
set_option maxRecDepth 100000
set_option maxHeartbeats 2000000

/-- No angle is smaller than one ahead of it. -/
def WkA (xs : List Ang) : Prop := ∀ i j, i < j → j < xs.length → ¬ lessA (xs.getD j dA9) (xs.getD i dA9)
theorem ddA_mem (xs : List Ang) (z : Ang) : ∀ n, n ≤ xs.length → (z ∈ ddA xs n ↔ z ∈ xs.take n)
  | 0, _ => by simp [ddA]
  | n + 1, hn => by
    have ih := ddA_mem xs z n (by omega)
    have e : xs.getD n dA9 = xs[n]'(by omega) := by rw [List.getD_eq_getElem?_getD, List.getElem?_eq_getElem (by omega)]; rfl
    rw [ddA_next, List.take_add_one, List.getElem?_eq_getElem (by omega), List.mem_append, List.mem_append, ih]
    by_cases h : newA xs n = true
    · rw [if_pos h, ← e]; simp
    · rw [if_neg h]
      have h0 : ¬ (n = 0 ∨ xs.getD n dA9 ≠ xs.getD (n - 1) dA9) := fun hh => h (decide_eq_true hh)
      have hn0 : n ≠ 0 := fun hh => h0 (.inl hh)
      have heq : xs.getD n dA9 = xs.getD (n - 1) dA9 := Classical.byContradiction fun hh => h0 (.inr hh)
      constructor
      · rintro (h | h)
        · exact .inl h
        · cases h
      · rintro (h | h)
        · exact .inl h
        · left
          have hz : z = xs.getD (n - 1) dA9 := by rw [← heq, e]; simpa using h
          rw [hz, List.getD_eq_getElem?_getD, List.getElem?_eq_getElem (by omega)]
          exact List.mem_take_iff_getElem.2 ⟨n - 1, by omega, rfl⟩
theorem ddA_asc {xs : List Ang} (hx : ∀ x ∈ xs, IsF x) (hw : WkA xs) : ∀ n, n ≤ xs.length → Asc (ddA xs n)
  | 0, _ => List.Pairwise.nil
  | n + 1, hn => by
    have ih := ddA_asc hx hw n (by omega)
    rw [ddA_next]
    by_cases h : newA xs n = true
    · rw [if_pos h]
      refine List.pairwise_append.2 ⟨ih, List.pairwise_singleton _ _, fun y hy z hz => ?_⟩
      obtain rfl := List.mem_singleton.1 hz
      have hy := (ddA_mem xs y n (by omega)).1 hy
      obtain ⟨t, ht, rfl⟩ := List.mem_take_iff_getElem.1 hy
      have htn : t < n := by omega
      have et : xs[t]'(by omega) = xs.getD t dA9 := by rw [List.getD_eq_getElem?_getD, List.getElem?_eq_getElem (by omega)]; rfl
      rw [et]
      have hF : ∀ k, k < xs.length → IsF (xs.getD k dA9) := fun k hk => hx _ (getD_mem hk)
      have h1 := hw t n htn (by omega)
      refine lessA_tot (hF n (by omega)) (hF t (by omega)) h1 (fun he => ?_)
      rcases of_decide_eq_true h with h0 | h0
      · omega
      · rcases Nat.eq_or_lt_of_le (show t ≤ n - 1 by omega) with e | h2
        · rw [e] at he; exact h0 he
        · have h3 := hw t (n - 1) h2 (by omega)
          have h4 := hw (n - 1) n (by omega) (by omega)
          rw [he] at h4 h0
          exact h4 (lessA_tot (hF (n - 1) (by omega)) (hF t (by omega)) h3 (fun e => h0 e.symm))
    · rw [if_neg h, List.append_nil]; exact ih
theorem ddA_srt {xs : List Ang} (hx : ∀ x ∈ xs, IsF x) (hw : WkA xs) : ddA xs xs.length = srtA xs :=
  srtA_uniq hx (ddA_asc hx hw _ (Nat.le_refl _)) fun z => by
    rw [ddA_mem xs z _ (Nat.le_refl _), List.take_length]
theorem srtA_perm {xs ys : List Ang} (hx : ∀ x ∈ xs, IsF x) (h : ∀ z, z ∈ ys ↔ z ∈ xs) : srtA ys = srtA xs :=
  srtA_uniq hx (srtA_asc fun y hy => hx y ((h y).1 hy)).1 fun z => ((srtA_asc fun y hy => hx y ((h y).1 hy)).2 z).trans (h z)
end Go.Proofs.Ytmbfflckgmdncaa.Fw
