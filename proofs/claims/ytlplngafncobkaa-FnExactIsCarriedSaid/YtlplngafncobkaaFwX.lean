/- Leaving a function under a contract. -/
import Derived.Test.YtlplngafncobkaaFwW
namespace Go.Proofs.Ytlplngafncobkaa.Fw
open Go Go.RowKit
set_option linter.unusedVariables false
set_option linter.unusedSimpArgs false

theorem setRws_nil (A : Asg) (n : Nat) : A.setRws n [] = A := by
  unfold Asg.setRws
  have : (fun i => if n ≤ i ∧ i < n + ([] : List Hdr).length then ([] : List Hdr).getD (i - n) ⟨none, 0, 0⟩ else A.rw i) = A.rw := by
    funext i
    rw [if_neg (by simp)]
  rw [this]

/-- A result that names no level. -/
theorem leaf0 {P : Program} {w : World} {K : Nat → Prop} {r0 : Nat → Hdr} {n0 b0 : Nat} {A : Asg} {lr : Nat} {hp : List (Option (List AVal))} {rows : List (Option Row)} {u v : AVal} (hK : K = (· < w.heap.size)) (huv : u = v) (hsc : v.sc 0 [] 0 [] = true) :
    Leaf ⟨P, w, K, r0, n0, b0⟩ (CPost A lr [] v w) hp rows u := ⟨fun B w' hm => by
  subst huv; subst hK
  refine ⟨[], rfl, ?_, hm.kept.below, fun i r h hi => by simp at hi, fun i j h h' a b _ hi => by simp at hi⟩
  rw [AVal.den_congr (B := A.setRws lr []) (nb := 0) (nr := 0) (eb := []) (er := []) (fun i hi => by simp at hi) (fun i hi => by simp at hi) u hsc]⟩

/-- One new row, whatever stands about it. -/
theorem leaf1 {P : Program} {w : World} {K : Nat → Prop} {r0 : Nat → Hdr} {n0 b0 : Nat} {A : Asg} {lr : Nat} {hp : List (Option (List AVal))} {rows : List (Option Row)} {u v : AVal} {r : Row} (k : Nat) (hK : K = (· < w.heap.size)) (hk : nthj rows k = some r) (ho : r.own = true)
    (huv : ∀ B C : Asg, B.rw k = C.rw lr → u.den B = v.den C) :
    Leaf ⟨P, w, K, r0, n0, b0⟩ (CPost A lr [r] v w) hp rows u := ⟨fun B w' hm => by
  subst hK
  obtain ⟨h1, h2⟩ := hm.row k r hk
  obtain ⟨h3, h4⟩ := h2 ho
  refine ⟨[B.rw k], rfl, ?_, hm.kept.below, fun i r' h hi hh => ?_, fun i j h h' a b hij hi hj => ?_⟩
  · rw [huv B (A.setRws lr [B.rw k]) (by simp [Asg.setRws])]
  · cases i with
    | zero =>
      simp at hi hh
      subst hi; subst hh
      refine ⟨ho, h3, fun a ha => ?_⟩
      have := h4 a ha
      simp only at this
      omega
    | succ i => simp at hi
  · cases i with
    | zero => cases j with
      | zero => exact absurd rfl hij
      | succ j => simp at hj
    | succ i => simp at hi⟩

end Go.Proofs.Ytlplngafncobkaa.Fw
