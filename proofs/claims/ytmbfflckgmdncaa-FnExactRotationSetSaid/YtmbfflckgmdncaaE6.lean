/- Contracts: the reference's majors of a leaf; the law, walked. -/
import Derived.Test.YtmbfflckgmdncaaHC
import Derived.Test.YtmbfflckgmdncaaE5
namespace Go.Proofs.Ytmbfflckgmdncaa.Fw
open Go Go.RowKit
set_option linter.unusedVariables false
set_option linter.unusedSimpArgs false
set_option maxRecDepth 100000
set_option maxHeartbeats 2000000

def sFwdC : PCtr := fun _ _ _ vals k => match vals with
  | [.agg [.int .i64 n, .int .i64 d], .agg [.int .i64 m, .int .i64 e]] => (Sm (n, d) ∧ Sm (m, e)) ∧ k [] (aV (minusA (m, e) (n, d)))
  | _ => False
theorem size_isF {l : Lf} (h : IsL l) : IsF (sizeL l) := dist_f h.1.f h.2.1.f
def longB (l : Lf) : Bool := decide (¬ ShortL l)
def sLongC : PCtr := fun _ _ _ vals k => match vals with
  | [.agg [.int .i64 n, .int .i64 d, .int .i64 m, .int .i64 e]] => IsL ((n, d), (m, e)) ∧ k [] (.bool (longB ((n, d), (m, e))))
  | _ => False
def sEndsC : PCtr := fun _ _ _ vals k => match vals with
  | [.agg [.int .i64 n, .int .i64 d, .int .i64 m, .int .i64 e]] => IsL ((n, d), (m, e)) ∧ k [] (.tup [aV (sEndsA ((n, d), (m, e))).1, aV (sEndsA ((n, d), (m, e))).2])
  | _ => False
def okE (l : Lf) : Bool := decide (okHalf (sEndsA l).1 ∧ okHalf (sEndsA l).2)
def sMajO (l : Lf) : List Lf := if okE l = true then sMajL l else []
abbrev GSM := (GOk.nil : GOk Try.prog [])
theorem sEnds_isA {l : Lf} (h : IsL l) : IsA (sEndsA l).1 ∧ IsA (sEndsA l).2 := by rw [← ends_eq h]; exact ends_isA h
theorem majO_eq {l : Lf} (h : IsL l) : majO l = sMajO l ∧ (majN l = if okE l = true then 0 else 3) := by
  have hl := maj_lim h
  have hl : (majL l).all limAY = true ↔ okE l = true := by unfold okE; rw [decide_eq_true_iff]; exact hl
  unfold majO sMajO majN
  by_cases hc : okE l = true
  · rw [if_pos (hl.2 hc), if_pos hc, if_pos (hl.2 hc), if_pos hc, maj_eq h]; exact ⟨rfl, rfl⟩
  · rw [if_neg (fun h => hc (hl.1 h)), if_neg hc, if_neg (fun h => hc (hl.1 h)), if_neg hc]; exact ⟨rfl, rfl⟩

abbrev GSMO := (GOk.nil : GOk Try.prog [])
theorem majsO_len (l : Lf) : ((majsO l).length : Int) ≤ 64 := by
  unfold majsO majO majL twoL
  (repeat' split) <;> simp
def lawMC : PCtr := fun _ _ _ vals k => match vals with
  | [.agg [.int .i64 n, .int .i64 d, .int .i64 m, .int .i64 e]] => True ∧ k [] (.bool true)
  | _ => False
abbrev GLM := (GOk.nil : GOk Try.prog [])
end Go.Proofs.Ytmbfflckgmdncaa.Fw
