/- Contracts: the program's majors of a leaf. -/
import Derived.Test.YtmbfflckgmdncaaHC
import Derived.Test.YtmbfflckgmdncaaHB
namespace Go.Proofs.Ytmbfflckgmdncaa.Fw
open Go Go.RowKit
set_option linter.unusedVariables false
set_option linter.unusedSimpArgs false
set_option maxRecDepth 100000
set_option maxHeartbeats 2000000

theorem dist_bd {a b : Ang} (ha : Sm a) (hb : Sm b) : Bd (distA a b) := by
  unfold distA; split
  · exact ha.minus hb
  · exact hb.minus ha
theorem third_bd : Bd (1, 3) := by unfold Bd; omega
def shortC : PCtr := fun _ _ _ vals k => match vals with
  | [.agg [.int .i64 n, .int .i64 d, .int .i64 m, .int .i64 e]] => SmL ((n, d), (m, e)) ∧ k [] (.bool (decide (ShortL ((n, d), (m, e)))))
  | _ => False
def majO (l : Lf) : List Lf := if (majL l).all limAY = true then majL l else []
def majN (l : Lf) : Int := if (majL l).all limAY = true then 0 else 3
theorem maj_sw {l : Lf} (h : ¬ minusA l.2 l.1 = sizeL l) : majL l = twoL (leafOf (halfA l.1) (half2A l.2)) (leafOf (halfA l.2) (half2A l.1)) := by
  unfold majL endsA; rw [if_neg h]
theorem maj_st {l : Lf} (h : minusA l.2 l.1 = sizeL l) : majL l = twoL (leafOf (halfA l.2) (half2A l.1)) (leafOf (halfA l.1) (half2A l.2)) := by
  unfold majL endsA; rw [if_pos h]
abbrev GM := (GOk.nil : GOk Try.prog [])
def ShortP (l : Lf) : Prop := ShortL l
def majsO (l : Lf) : List Lf := if IsL l ∧ ShortL l then majO l else []
def majsN (l : Lf) : Int := if IsL l then (if ShortL l then majN l else 5) else 1
abbrev GMO := (GOk.nil : GOk Try.prog [])
end Go.Proofs.Ytmbfflckgmdncaa.Fw
