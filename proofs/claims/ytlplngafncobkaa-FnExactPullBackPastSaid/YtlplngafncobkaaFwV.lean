/- Loops at whose head rows are told that were nil before. -/
import Derived.Test.YtlplngafncobkaaFwY
namespace Go.Proofs.Ytlplngafncobkaa.Fw
open Go Go.RowKit
set_option linter.unusedVariables false
set_option linter.unusedSimpArgs false

def pushAllK {α : Type _} : List α → List α → (List α → Prop) → Prop
  | [], l, k => k l
  | x :: xs, l, k => pushK l x fun l' => pushAllK xs l' k
theorem pushAllK_eq {α : Type _} : ∀ (xs l : List α) (k : List α → Prop), pushAllK xs l k = k (l ++ xs)
  | [], l, k => by simp [pushAllK]
  | x :: xs, l, k => by simp only [pushAllK, pushK_eq, pushAllK_eq xs, List.append_assoc, List.singleton_append]
def headP (σ : St) (js : List Nat) (vs : List (Nat × AVal)) (hs : List (Nat × List AVal)) (rs : List (Nat × Option Row)) (nr : List (Option Row)) (k : St → Prop) : Prop :=
  headK σ js vs hs rs fun σ => match σ with | ⟨fr, hp, rows⟩ => pushAllK nr rows fun rows => k ⟨fr, hp, rows⟩
theorem headP_eq (σ : St) (js : List Nat) (vs : List (Nat × AVal)) (hs : List (Nat × List AVal)) (rs : List (Nat × Option Row)) (nr : List (Option Row)) (k : St → Prop) :
    headP σ js vs hs rs nr k = k ⟨(σ.head js vs hs rs).fr, (σ.head js vs hs rs).hp, (σ.head js vs hs rs).rows ++ nr⟩ := by
  simp only [headP, headK_eq, pushAllK_eq]

/-- A loop; new rows at its head are told behind the others. -/
theorem V_loopP {E : Env} {c : Code} {kN : St → Prop} {kE : Nat → St → Prop} {kR : St → Prop} {σ : St} {γ : Type} (Inv : γ → Prop) (μ : γ → Nat) (vs : γ → List (Nat × AVal)) (hs : γ → List (Nat × List AVal)) (rs : γ → List (Nat × Option Row)) (nr : γ → List (Option Row))
    (g0 : γ) (h0 : Inv g0) (hle : headP σ (mods c) (vs g0) (hs g0) (rs g0) (nr g0) fun σh => LeG E σ σh)
    (hb : ∀ g, Inv g → headP σ (mods c) (vs g) (hs g) (rs g) (nr g) fun σh => V E c (fun σ' => ∃ g', Inv g' ∧ μ g' < μ g ∧ headP σ (mods c) (vs g') (hs g') (rs g') (nr g') fun σh' => LeG E σ' σh') kE kR σh) : V E (.loop c) kN kE kR σ := by
  simp only [headP_eq] at hle hb
  exact V_loop (fun g => ⟨(σ.head (mods c) (vs g) (hs g) (rs g)).fr, (σ.head (mods c) (vs g) (hs g) (rs g)).hp, (σ.head (mods c) (vs g) (hs g) (rs g)).rows ++ nr g⟩) Inv μ g0 h0 hle hb

end Go.Proofs.Ytlplngafncobkaa.Fw
