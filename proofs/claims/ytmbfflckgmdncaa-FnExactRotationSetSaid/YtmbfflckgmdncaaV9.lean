/- Plain laws: pulling back by a minor leaf, joined. -/
import Derived.Test.YtmbfflckgmdncaaV8
namespace Go.Proofs.Ytmbfflckgmdncaa.Fw
open Go Go.RowKit
set_option linter.unusedVariables false
set_option linter.unusedSimpArgs false
set_option maxRecDepth 100000

theorem lt_sl {l : Lf} (h : IsL l) (ho : okHalf l.1 ∧ okHalf l.2) : ltS (bk1 l) (bk2 l) = slB (bk1 l) (bk2 l) := by
  obtain ⟨⟨s, fs, hs⟩, t, ft, ht⟩ := bk_len h
  have l1 := bk1_ok h
  have l2 := bk2_ok h
  have L := bk_isL h ho
  have m10 : (bk1 l).getD 0 lT.dflt ∈ bk1 l := getD_mem (by omega)
  have m11 : (bk1 l).getD 1 lT.dflt ∈ bk1 l := getD_mem (by omega)
  have m20 : (bk2 l).getD 0 lT.dflt ∈ bk2 l := getD_mem (by omega)
  have m21 : (bk2 l).getD 1 lT.dflt ∈ bk2 l := getD_mem (by omega)
  have e1 : sumP (bk1 l) = (s.1 * s.2 + s.1 * s.2, s.2 * s.2) := by unfold sumP; rw [hs _ m10, hs _ m11]
  have e2 : sumP (bk2 l) = (t.1 * t.2 + t.1 * t.2, t.2 * t.2) := by unfold sumP; rw [ht _ m20, ht _ m21]
  have i1 := L.1 _ m10
  have i2 := L.2 _ m20
  have d1 : sDistA ((bk1 l).getD 0 lT.dflt).1 ((bk1 l).getD 0 lT.dflt).2 = s := (sDist_eq i1.1 i1.2.1).trans (hs _ m10)
  have d2 : sDistA ((bk2 l).getD 0 lT.dflt).1 ((bk2 l).getD 0 lT.dflt).2 = t := (sDist_eq i2.1 i2.2.1).trans (ht _ m20)
  unfold ltS slB
  rw [e1, e2, d1, d2, decide_eq_decide]
  unfold lessA
  simp only
  have hp : 0 < 2 * (s.2 * t.2) := by
    have := mulPos fs.1 ft.1
    omega
  have q1 : (s.1 * s.2 + s.1 * s.2) * (t.2 * t.2) = (s.1 * t.2) * (2 * (s.2 * t.2)) := by grind
  have q2 : (t.1 * t.2 + t.1 * t.2) * (s.2 * s.2) = (t.1 * s.2) * (2 * (s.2 * t.2)) := by grind
  rw [q1, q2]
  exact Int.mul_lt_mul_right hp
/-- Program and reference pull a leaf back alike. -/
theorem ib_bk {l : Lf} {ms : List Lf} (h : IsL l) (hm : ∀ x ∈ ms, IsL x) (lm : ms.length = 2) : ibO l ms = bkO l ms := by
  by_cases ho : okHalf l.1 ∧ okHalf l.2
  · have hw : (wayL l).all limAY = true := (way_lim l).2 ho
    have L := bk_isL h ho
    have f1 := have_frB L.1 hm (bk1_ok h).1 lm
    have f2 := have_frB L.2 hm (bk2_ok h).1 lm
    have f3 := lt_sl h ho
    rw [← way_bk1 h] at f1 f3
    rw [← way_bk2 h] at f2 f3
    unfold ibO bkO
    rw [if_pos hw, if_pos ho, f1, f2, f3, way_bk1 h, way_bk2 h]
    cases frB (bk1 l) ms <;> cases frB (bk2 l) ms <;> cases slB (bk1 l) (bk2 l) <;> simp
  · rw [bkO_3 ho]
    refine ibO_3 ?_
    cases hc : (wayL l).all limAY with
    | false => rfl
    | true => exact absurd ((way_lim l).1 hc) ho
end Go.Proofs.Ytmbfflckgmdncaa.Fw
