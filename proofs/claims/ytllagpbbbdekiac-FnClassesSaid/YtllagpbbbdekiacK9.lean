/- Contracts: how the laws compare and mark lists of lists of whole numbers. -/
import Derived.Test.YtllagpbbbdekiacL4
import Derived.Test.YtllagpbbbdekiacHA
namespace Go.Proofs.Ytllagpbbbdekiac.Fw
open Go Go.RowKit
set_option linter.unusedVariables false
set_option linter.unusedSimpArgs false
set_option maxRecDepth 100000
set_option maxHeartbeats 2000000
theorem list_eq9 {α : Type} {l m : List α} (d : α) (h : l.length = m.length) (he : ∀ i, i < l.length → l.getD i d = m.getD i d) : l = m := by
  refine List.ext_getElem h fun i h1 h2 => ?_
  have := he i h1
  rwa [List.getD_eq_getElem?_getD, List.getD_eq_getElem?_getD, List.getElem?_eq_getElem h1, List.getElem?_eq_getElem h2] at this
def mkIF (q : Int) (i : Nat) : Int := q + 1 * i
def eqLI (xs ys : List Int) : Bool := decide (xs = ys)
def eqLL (xs ys : List (List Int)) : Bool := decide (xs = ys)
def eqIC : PCtr := fun _ rg _ vals k => match vals with
  | [.row i, .row j] => rowC iT (rg i) fun xs => rowC iT (rg j) fun ys => (List.length (α := Int) xs ≤ 100000 ∧ List.length (α := Int) ys ≤ 100000) ∧ k [] (.bool (eqLI xs ys))
  | _ => False
def eqSSC : PCtr := fun _ rg _ vals k => match vals with
  | [.row i, .row j] => rowC rT (rg i) fun xs => rowC rT (rg j) fun ys => ((List.length (α := List Int) xs ≤ 100000 ∧ List.length (α := List Int) ys ≤ 100000) ∧ (∀ r ∈ (xs : List (List Int)), List.length (α := Int) r ≤ 100000) ∧ (∀ r ∈ (ys : List (List Int)), List.length (α := Int) r ≤ 100000)) ∧ k [] (.bool (eqLL xs ys))
  | _ => False
def totL : List (List Int) → Int
  | [] => 0
  | r :: l => (r.length : Int) + totL l
def mkRow (q : Int) (l : List (List Int)) (i : Nat) : List Int := (List.range (l.getD i []).length).map (mkIF (q + totL (l.take i)))
def mkSS (q : Int) (l : List (List Int)) : List (List Int) := (List.range l.length).map (mkRow q l)
theorem mkSS_len (q : Int) (l : List (List Int)) : (mkSS q l).length = l.length := by simp [mkSS]
theorem mkSS_row {q : Int} {l : List (List Int)} {i : Nat} (h : i < l.length) : (mkSS q l).getD i [] = mkRow q l i := by
  unfold mkSS; rw [List.getD_eq_getElem?_getD, List.getElem?_map, List.getElem?_range h]; rfl
theorem mkRow_len (q : Int) (l : List (List Int)) (i : Nat) : (mkRow q l i).length = (l.getD i []).length := by simp [mkRow]
theorem totL_congr : ∀ {l m : List (List Int)}, l.length = m.length → (∀ i, i < l.length → (l.getD i []).length = (m.getD i []).length) → totL l = totL m
  | [], [], _, _ => rfl
  | [], _ :: _, h, _ => by simp at h
  | _ :: _, [], h, _ => by simp at h
  | r :: l, s :: m, h, he => by
    have h0 := he 0 (by simp)
    simp only [List.getD_cons_zero] at h0
    have := totL_congr (l := l) (m := m) (by simpa using h) (fun i hi => by have := he (i + 1) (by simpa using hi); simpa only [List.getD_cons_succ] using this)
    simp only [totL, this, h0]
theorem mkSS_tot (q : Int) (l : List (List Int)) (n : Nat) : totL ((mkSS q l).take n) = totL (l.take n) := by
  refine totL_congr (by simp [mkSS_len]) fun i hi => ?_
  rw [List.length_take, mkSS_len] at hi
  have e : ∀ l : List (List Int), (l.take n).getD i [] = l.getD i [] := fun l => by
    rw [List.getD_eq_getElem?_getD, List.getElem?_take, if_pos (by omega), ← List.getD_eq_getElem?_getD]
  rw [e, e, mkSS_row (by omega), mkRow_len]
theorem mkSS_tot_all (q : Int) (l : List (List Int)) : totL (mkSS q l) = totL l := by
  have := mkSS_tot q l l.length
  rwa [List.take_length, List.take_of_length_le (by rw [mkSS_len]; omega)] at this
end Go.Proofs.Ytllagpbbbdekiac.Fw
