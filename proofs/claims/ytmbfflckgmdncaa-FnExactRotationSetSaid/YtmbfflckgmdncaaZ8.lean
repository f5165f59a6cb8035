/- Lists of angles in weak order: there is just one with given members. -/
import Derived.Test.YtmbfflckgmdncaaZ5
namespace Go.Proofs.Ytmbfflckgmdncaa.Fw
open Go Go.RowKit
set_option linter.unusedVariables false
set_option linter.unusedSimpArgs false
set_option maxRecDepth 100000
set_option maxHeartbeats 2000000

theorem wk_exists {xs : List Ang} (hx : ∀ x ∈ xs, IsF x) : ∃ ys : List Ang, xs.Perm ys ∧ ys.Pairwise fun x y => ¬ lessA y x := by
  let le : Ang → Ang → Bool := fun a b => decide (vA a ≤ vA b)
  have hp : (xs.mergeSort le).Perm xs := List.mergeSort_perm xs le
  have hs := List.pairwise_mergeSort (le := le) (fun a b c h1 h2 => by simp only [le, decide_eq_true_iff] at *; grind) (fun a b => by simp only [le, Bool.or_eq_true, decide_eq_true_iff]; grind) xs
  refine ⟨xs.mergeSort le, hp.symm, hs.imp_of_mem fun {a b} ha hb h => ?_⟩
  rw [lessA_v (hx _ (hp.mem_iff.1 hb)) (hx _ (hp.mem_iff.1 ha))]
  simp only [le, decide_eq_true_iff] at h
  grind
theorem wk_uniq {xs ys : List Ang} (hx : ∀ x ∈ xs, IsF x) (hp : xs.Perm ys) (h1 : xs.Pairwise fun x y => ¬ lessA y x) (h2 : ys.Pairwise fun x y => ¬ lessA y x) : xs = ys := by
  induction xs generalizing ys with
  | nil => exact (List.nil_perm.1 hp).symm
  | cons x xs ih =>
    cases ys with
    | nil => exact absurd hp.length_eq (by simp)
    | cons y ys =>
      have a1 := List.pairwise_cons.1 h1
      have a2 := List.pairwise_cons.1 h2
      have hy : ∀ z ∈ y :: ys, IsF z := fun z hz => hx z (hp.mem_iff.2 hz)
      have e : x = y := by
        rcases List.mem_cons.1 (hp.mem_iff.1 (List.mem_cons_self (a := x) (l := xs))) with e | hxm
        · exact e
        · rcases List.mem_cons.1 (hp.mem_iff.2 (List.mem_cons_self (a := y) (l := ys))) with e | hym
          · exact e.symm
          · have q1 := a1.1 y hym
            have q2 := a2.1 x hxm
            exact Classical.byContradiction fun hne => q1 (lessA_tot (hx x (by simp)) (hy y (by simp)) q2 hne)
      subst e
      rw [ih (fun z hz => hx z (by simp [hz])) (List.perm_cons x |>.1 hp) a1.2 a2.2]
theorem wk_WkA {xs : List Ang} (h : xs.Pairwise fun x y => ¬ lessA y x) : WkA xs := fun i j hij hj => by
  have e : ∀ k, (hk : k < xs.length) → xs.getD k dA9 = xs[k] := fun k hk => by rw [List.getD_eq_getElem?_getD, List.getElem?_eq_getElem hk]; rfl
  rw [e j hj, e i (by omega)]
  exact List.pairwise_iff_getElem.1 h i j (by omega) hj hij
end Go.Proofs.Ytmbfflckgmdncaa.Fw
