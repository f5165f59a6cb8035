/- Contracts: what a minor leaf pulls back, the program. -/
import Derived.Test.YtmbfflckgmdncaaV6
namespace Go.Proofs.Ytmbfflckgmdncaa.Fw
open Go Go.RowKit
set_option linter.unusedVariables false
set_option linter.unusedSimpArgs false
set_option maxRecDepth 100000
set_option maxHeartbeats 2000000

@[irreducible] def ibO (l : Lf) (ms : List Lf) : List Lf × Int :=
  if (wayL l).all limAY = true then
    (if haveL (wayL l) ms = true ∧ haveL (way2L l) ms = true then ([], 5)
     else if haveL (wayL l) ms = false ∧ (haveL (way2L l) ms = true ∨ ltS (wayL l) (way2L l) = true) then (wayL l, 0) else (way2L l, 0))
  else ([], 3)
theorem ibO_3 {l : Lf} {ms : List Lf} (h : (wayL l).all limAY = false) : ibO l ms = ([], 3) := by unfold ibO; rw [if_neg (by rw [h]; decide)]
theorem ibO_5 {l : Lf} {ms : List Lf} (h : (wayL l).all limAY = true) (h1 : haveL (wayL l) ms = true) (h2 : haveL (way2L l) ms = true) : ibO l ms = ([], 5) := by unfold ibO; rw [if_pos h, if_pos ⟨h1, h2⟩]
theorem ibO_1 {l : Lf} {ms : List Lf} (h : (wayL l).all limAY = true) (h1 : haveL (wayL l) ms = false) (h2 : haveL (way2L l) ms = true ∨ ltS (wayL l) (way2L l) = true) : ibO l ms = (wayL l, 0) := by
  unfold ibO; rw [if_pos h, if_neg (fun h' => by rw [h1] at h'; cases h'.1), if_pos ⟨h1, h2⟩]
theorem ibO_2 {l : Lf} {ms : List Lf} (h : (wayL l).all limAY = true) (h0 : ¬ (haveL (wayL l) ms = true ∧ haveL (way2L l) ms = true)) (h1 : ¬ (haveL (wayL l) ms = false ∧ (haveL (way2L l) ms = true ∨ ltS (wayL l) (way2L l) = true))) : ibO l ms = (way2L l, 0) := by
  unfold ibO; rw [if_pos h, if_neg h0, if_neg h1]
theorem two_len (l m : Lf) : (twoL l m).length = 2 := by unfold twoL; split <;> rfl
theorem way_ok {l : Lf} (h : IsL l) : (wayL l).length = 2 ∧ ∀ x ∈ wayL l, SmL x := ⟨two_len _ _, way_sm h⟩
theorem way2_ok {l : Lf} (h : IsL l) : (way2L l).length = 2 ∧ ∀ x ∈ way2L l, SmL x := ⟨two_len _ _, fun x hx => by
  rcases two_mem hx with rfl | rfl
  · exact leafOf_sm (Sm.half h.1) (Sm.half2 h.2.1)
  · exact leafOf_sm (Sm.half2 h.1) (Sm.half h.2.1)⟩
abbrev GIb := (GOk.nil : GOk Try.prog [])
end Go.Proofs.Ytmbfflckgmdncaa.Fw
-- %intro
