/- Contracts: a minor leaf that is asked for. -/
import Derived.Test.YtmbfflckgmdncaaE8
namespace Go.Proofs.Ytmbfflckgmdncaa.Fw
open Go Go.RowKit
set_option linter.unusedVariables false
set_option linter.unusedSimpArgs false
set_option maxRecDepth 100000
set_option maxHeartbeats 2000000

def miZ (c : Int) : Mi := ⟨((0, 0), (0, 0)), [], [], 0, c⟩
@[irreducible] def mlR (ok : Bool) (m : Lf) : Mi := if ok = true then (if (miR m).c = 0 then (if (miR m).f = 0 then miR m else miZ 5) else miZ (miR m).c) else miZ 1
theorem mlR_1 {ok : Bool} {m : Lf} (h : ok = false) : mlR ok m = miZ 1 := by unfold mlR; rw [h]; rfl
theorem mlR_2 {ok : Bool} {m : Lf} (h : ok = true) (h2 : ¬ (miR m).c = 0) : mlR ok m = miZ (miR m).c := by unfold mlR; rw [if_pos h, if_neg h2]
theorem mlR_3 {ok : Bool} {m : Lf} (h : ok = true) (h2 : (miR m).c = 0) (h3 : ¬ (miR m).f = 0) : mlR ok m = miZ 5 := by unfold mlR; rw [if_pos h, if_pos h2, if_neg h3]
theorem mlR_4 {ok : Bool} {m : Lf} (h : ok = true) (h2 : (miR m).c = 0) (h3 : (miR m).f = 0) : mlR ok m = miR m := by unfold mlR; rw [if_pos h, if_pos h2, if_pos h3]
theorem ifl {b : Bool} (h : (if b = true then (0 : Int) else 1) = 0) : b = true := by cases b <;> simp_all
theorem ifl' {b : Bool} (h : ¬ (if b = true then (0 : Int) else 1) = 0) : b = false := by cases b <;> simp_all
abbrev GMl := (GOk.nil : GOk Try.prog [])
end Go.Proofs.Ytmbfflckgmdncaa.Fw
-- %intro
