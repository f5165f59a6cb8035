/- Contracts: sums of lengths, which pair is shorter. -/
import Derived.Test.YtmbfflckgmdncaaV2
namespace Go.Proofs.Ytmbfflckgmdncaa.Fw
open Go Go.RowKit
set_option linter.unusedVariables false
set_option linter.unusedSimpArgs false
set_option maxRecDepth 100000
set_option maxHeartbeats 2000000

theorem size_bd {l : Lf} (h : SmL l) : Bd (sizeL l) := by
  unfold sizeL distA
  split
  · exact Sm.minus h.1 h.2
  · exact Sm.minus h.2 h.1
/-- The sum of the lengths of two leaves. -/
@[irreducible] def sumP (xs : List Lf) : Int × Int := ((sizeL (xs.getD 0 lT.dflt)).1 * (sizeL (xs.getD 1 lT.dflt)).2 + (sizeL (xs.getD 1 lT.dflt)).1 * (sizeL (xs.getD 0 lT.dflt)).2, (sizeL (xs.getD 0 lT.dflt)).2 * (sizeL (xs.getD 1 lT.dflt)).2)
def sumC : PCtr := fun _ rg _ vals k => match vals with
  | [.row i] => rowC lT (rg i) fun xs => (List.length (α := Lf) xs = 2 ∧ ∀ x ∈ (xs : List Lf), SmL x) ∧ ∀ q : Int × Int, q = sumP xs → k [] (.tup [.int .i64 q.1, .int .i64 q.2])
  | _ => False
theorem sumP_bd {xs : List Lf} (hl : xs.length = 2) (hs : ∀ x ∈ xs, SmL x) : (0 ≤ (sumP xs).1 ∧ (sumP xs).1 ≤ 2305843009213693952) ∧ 1 ≤ (sumP xs).2 ∧ (sumP xs).2 ≤ 1152921504606846976 := by
  have b0 := size_bd (hs _ (getD_mem (i := 0) (d := lT.dflt) (by omega)))
  have b1 := size_bd (hs _ (getD_mem (i := 1) (d := lT.dflt) (by omega)))
  unfold sumP
  simp only
  generalize sizeL (xs.getD 0 lT.dflt) = p at *
  generalize sizeL (xs.getD 1 lT.dflt) = q at *
  unfold Bd at b0 b1
  have m1 : 0 ≤ p.1 * q.2 ∧ p.1 * q.2 ≤ 1073741824 * 1073741824 := ⟨Int.mul_nonneg (by omega) (by omega), Int.mul_le_mul (by omega) (by omega) (by omega) (by decide)⟩
  have m2 : 0 ≤ q.1 * p.2 ∧ q.1 * p.2 ≤ 1073741824 * 1073741824 := ⟨Int.mul_nonneg (by omega) (by omega), Int.mul_le_mul (by omega) (by omega) (by omega) (by decide)⟩
  have m3 : 1 ≤ p.2 * q.2 ∧ p.2 * q.2 ≤ 1073741824 * 1073741824 := ⟨mulPos (by omega) (by omega), Int.mul_le_mul (by omega) (by omega) (by omega) (by decide)⟩
  omega
def ltS (xs ys : List Lf) : Bool := decide ((sumP xs).1 * (sumP ys).2 < (sumP ys).1 * (sumP xs).2)
def lsLC : PCtr := fun _ rg _ vals k => match vals with
  | [.row i, .row j] => rowC lT (rg i) fun xs => rowC lT (rg j) fun ys => ((List.length (α := Lf) xs = 2 ∧ ∀ x ∈ (xs : List Lf), SmL x) ∧ List.length (α := Lf) ys = 2 ∧ ∀ x ∈ (ys : List Lf), SmL x) ∧ k [] (.bool (ltS xs ys))
  | _ => False
abbrev GIl := (GOk.nil : GOk Try.prog [])
end Go.Proofs.Ytmbfflckgmdncaa.Fw
-- %intro
