/- Contracts: what a minor leaf pulls back, the reference. -/
import Derived.Test.YtmbfflckgmdncaaV5
namespace Go.Proofs.Ytmbfflckgmdncaa.Fw
open Go Go.RowKit
set_option linter.unusedVariables false
set_option linter.unusedSimpArgs false
set_option maxRecDepth 100000
set_option maxHeartbeats 2000000

/-- The two ways in which a leaf may be pulled back. -/
def bk1 (l : Lf) : List Lf := sTwoL (leafOf (halfA l.1) (halfA l.2)) (leafOf (half2A l.1) (half2A l.2))
def bk2 (l : Lf) : List Lf := sTwoL (leafOf (halfA l.1) (half2A l.2)) (leafOf (half2A l.1) (halfA l.2))
@[irreducible] def bkO (l : Lf) (ms : List Lf) : List Lf × Int :=
  if okHalf l.1 ∧ okHalf l.2 then
    (if frB (bk1 l) ms = false ∧ frB (bk2 l) ms = false then ([], 5)
     else if frB (bk1 l) ms = true ∧ (frB (bk2 l) ms = false ∨ slB (bk1 l) (bk2 l) = true) then (bk1 l, 0) else (bk2 l, 0))
  else ([], 3)
theorem bkO_3 {l : Lf} {ms : List Lf} (h : ¬ (okHalf l.1 ∧ okHalf l.2)) : bkO l ms = ([], 3) := by unfold bkO; rw [if_neg h]
theorem bkO_5 {l : Lf} {ms : List Lf} (h : okHalf l.1 ∧ okHalf l.2) (h1 : frB (bk1 l) ms = false) (h2 : frB (bk2 l) ms = false) : bkO l ms = ([], 5) := by unfold bkO; rw [if_pos h, if_pos ⟨h1, h2⟩]
theorem bkO_1 {l : Lf} {ms : List Lf} (h : okHalf l.1 ∧ okHalf l.2) (h1 : frB (bk1 l) ms = true) (h2 : frB (bk2 l) ms = false ∨ slB (bk1 l) (bk2 l) = true) : bkO l ms = (bk1 l, 0) := by
  unfold bkO; rw [if_pos h, if_neg (fun h' => by rw [h1] at h'; cases h'.1), if_pos ⟨h1, h2⟩]
theorem bkO_2 {l : Lf} {ms : List Lf} (h : okHalf l.1 ∧ okHalf l.2) (h0 : ¬ (frB (bk1 l) ms = false ∧ frB (bk2 l) ms = false)) (h1 : ¬ (frB (bk1 l) ms = true ∧ (frB (bk2 l) ms = false ∨ slB (bk1 l) (bk2 l) = true))) : bkO l ms = (bk2 l, 0) := by
  unfold bkO; rw [if_pos h, if_neg h0, if_neg h1]
theorem sTwo_mem {l m x : Lf} (h : x ∈ sTwoL l m) : x = l ∨ x = m := by
  unfold sTwoL at h
  split at h
  · simp at h; exact h.symm
  · simpa using h
theorem bk1_ok {l : Lf} (h : IsL l) : (bk1 l).length = 2 ∧ ∀ x ∈ bk1 l, SmL x := ⟨sTwo_len _ _, fun x hx => by
  rcases sTwo_mem hx with rfl | rfl
  · exact leafOf_sm (Sm.half h.1) (Sm.half h.2.1)
  · exact leafOf_sm (Sm.half2 h.1) (Sm.half2 h.2.1)⟩
theorem bk2_ok {l : Lf} (h : IsL l) : (bk2 l).length = 2 ∧ ∀ x ∈ bk2 l, SmL x := ⟨sTwo_len _ _, fun x hx => by
  rcases sTwo_mem hx with rfl | rfl
  · exact leafOf_sm (Sm.half h.1) (Sm.half2 h.2.1)
  · exact leafOf_sm (Sm.half2 h.1) (Sm.half h.2.1)⟩
abbrev GBk := (GOk.nil : GOk Try.prog [])
end Go.Proofs.Ytmbfflckgmdncaa.Fw
-- %intro
