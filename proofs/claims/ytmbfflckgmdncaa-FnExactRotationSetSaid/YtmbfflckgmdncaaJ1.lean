/- Plain laws: what is pulled back past a diameter. -/
import Derived.Test.YtmbfflckgmdncaaHC
namespace Go.Proofs.Ytmbfflckgmdncaa.Fw
open Go Go.RowKit
set_option linter.unusedVariables false
set_option linter.unusedSimpArgs false
set_option maxRecDepth 100000

theorem leafOf_lt {a b : Ang} (ha : IsF a) (hb : IsF b) (h : vA a < vA b) : leafOf a b = (a, b) := by
  unfold leafOf
  rw [if_neg]
  intro hc
  have := (lessA_v hb ha).1 ((cmpA_more a b).1 hc)
  grind
theorem leafOf_gt {a b : Ang} (ha : IsF a) (hb : IsF b) (h : vA b < vA a) : leafOf a b = (b, a) := by
  unfold leafOf
  rw [if_pos]
  exact (cmpA_more a b).2 ((lessA_v hb ha).2 h)
theorem dbl_half {a : Ang} (h : IsF a) : doubleA (halfA a) = a := by
  refine (eq_v (double_f (half_f h)) h).2 ?_
  have e : vA (halfA a) = vA a / 2 := v_half h
  have r := v_rng h
  rw [v_double (half_f h), e, if_pos (by grind)]
  grind
theorem dbl_half2 {a : Ang} (h : IsF a) : doubleA (half2A a) = a := by
  refine (eq_v (double_f (half2_f h)) h).2 ?_
  have e : vA (half2A a) = vA a / 2 + 1 / 2 := v_half2 h
  have r := v_rng h
  rw [v_double (half2_f h), e, if_neg (by grind)]
  grind
theorem IsF.a {a : Ang} (h : IsF a) (hl : a.2 ≤ 8191) : IsA a := ⟨⟨h.1, hl⟩, ⟨h.2.1, by have := h.2.2.1; omega⟩, by rw [h.2.2.2]; rfl⟩
/-- One of two leaves pulled back. -/
def PbOk (l d p : Lf) : Prop := IsL p ∧ sDiaL p = false ∧ imageL p = l ∧ sCrossL p d = false
theorem pb_of {l d : Lf} (hl : IsL l) (hd : IsL d) {p q : Ang} (hp : IsF p) (hq : IsF q) (h : vA p < vA q) (l1 : p.2 ≤ 8191) (l2 : q.2 ≤ 8191)
    (e : (doubleA p = l.1 ∧ doubleA q = l.2) ∨ (doubleA p = l.2 ∧ doubleA q = l.1))
    (hx : ¬ ((vA p < vA d.1 ∧ vA d.1 < vA q ∧ vA q < vA d.2) ∨ (vA d.1 < vA p ∧ vA p < vA d.2 ∧ vA d.2 < vA q))) : PbOk l d (p, q) := by
  have v1 := (lessA_v hl.1.f hl.2.1.f).1 hl.2.2
  have v2 := (lessA_v hd.1.f hd.2.1.f).1 hd.2.2
  have hP : IsL (p, q) := ⟨hp.a l1, hq.a l2, (lessA_v hp hq).2 h⟩
  refine ⟨hP, ?_, ?_, ?_⟩
  · unfold sDiaL
    refine decide_eq_false fun he => ?_
    have he : doubleA p = doubleA q := he
    rcases e with ⟨e1, e2⟩ | ⟨e1, e2⟩
    · rw [e1, e2] at he; rw [he] at v1; exact Rat.lt_irrefl v1
    · rw [e1, e2] at he; rw [he] at v1; exact Rat.lt_irrefl v1
  · unfold imageL
    rcases e with ⟨e1, e2⟩ | ⟨e1, e2⟩
    · rw [e1, e2]; exact leafOf_lt hl.1.f hl.2.1.f v1
    · rw [e1, e2]; exact leafOf_gt hl.2.1.f hl.1.f v1
  · cases hc : sCrossL (p, q) d with
    | false => rfl
    | true => exact absurd ((sCross_v hP.f hd.f h v2).1 hc) hx
theorem past_two {l d : Lf} (hl : IsL l) (hd : IsL d) (hp : PastP l d) (ho : okHalf l.1 ∧ okHalf l.2) :
    ∃ p q : Lf, sPastW l d = sTwoL p q ∧ PbOk l d p ∧ PbOk l d q ∧ sCrossL p q = false ∧ sCrossL q p = false := by
  obtain ⟨e1, e2⟩ := dia_v hd hp.1
  have n1 := hp.ne1
  have n2 := hp.ne2
  have v1 := (lessA_v hl.1.f hl.2.1.f).1 hl.2.2
  have v2 := (lessA_v hd.1.f hd.2.1.f).1 hd.2.2
  have fa := hl.1.f
  have fb := hl.2.1.f
  have fx := hd.1.f
  have fy := hd.2.1.f
  rw [ne_eq, eq_v fa (double_f fx), v_double fx, if_pos e2] at n1
  rw [ne_eq, eq_v fb (double_f fx), v_double fx, if_pos e2] at n2
  have r1 := v_rng fa
  have r2 := v_rng fb
  have r3 := v_rng fx
  have va : vA (halfA l.1) = vA l.1 / 2 := v_half fa
  have vb : vA (halfA l.2) = vA l.2 / 2 := v_half fb
  have va2 : vA (half2A l.1) = vA l.1 / 2 + 1 / 2 := v_half2 fa
  have vb2 : vA (half2A l.2) = vA l.2 / 2 + 1 / 2 := v_half2 fb
  have d1 := dbl_half fa
  have d2 := dbl_half fb
  have d3 := dbl_half2 fa
  have d4 := dbl_half2 fb
  have ha := half_f fa
  have hb := half_f fb
  have ha2 := half2_f fa
  have hb2 := half2_f fb
  obtain ⟨⟨o1, o2⟩, o3, o4⟩ := ho
  unfold sPastW
  have hw : (sWithinA (halfA l.1) d.1 d.2 = sWithinA (halfA l.2) d.1 d.2) ↔ ((vA d.1 < vA l.1 / 2 ∧ vA l.1 / 2 < vA d.2) ↔ (vA d.1 < vA l.2 / 2 ∧ vA l.2 / 2 < vA d.2)) := by
    unfold sWithinA
    rw [if_pos hd.2.2, if_pos hd.2.2]
    simp only [lessA_v fx ha, lessA_v ha fy, lessA_v fx hb, lessA_v hb fy, va, vb]
    rw [← Bool.decide_and, ← Bool.decide_and, decide_eq_decide]
  by_cases hc : sWithinA (halfA l.1) d.1 d.2 = sWithinA (halfA l.2) d.1 d.2
  · rw [if_pos hc]
    rw [hw] at hc
    rw [leafOf_lt ha hb (by grind), leafOf_lt ha2 hb2 (by grind)]
    have p1 := pb_of hl hd ha hb (by grind) o1 o3 (.inl ⟨d1, d2⟩) (by rw [va, vb, e1]; rw [e1] at hc; clear hw; grind)
    have p2 := pb_of hl hd ha2 hb2 (by grind) o2 o4 (.inl ⟨d3, d4⟩) (by rw [va2, vb2, e1]; rw [e1] at hc; clear hw; grind)
    refine ⟨_, _, rfl, p1, p2, ?_⟩
    have s1 : ¬ sCrossL (halfA l.1, halfA l.2) (half2A l.1, half2A l.2) = true := by
      rw [sCross_v p1.1.f p2.1.f (by simp only; grind) (by simp only; grind)]
      simp only; clear hw hc; grind
    have s2 := sCross_symm p2.1 p1.1
    exact ⟨by simpa using s1, by rw [s2]; simpa using s1⟩
  · rw [if_neg hc]
    rw [hw] at hc
    rw [leafOf_lt ha hb2 (by grind), leafOf_gt ha2 hb (by grind)]
    have p1 := pb_of hl hd ha hb2 (by grind) o1 o4 (.inl ⟨d1, d4⟩) (by rw [va, vb2, e1]; rw [e1] at hc; clear hw; grind)
    have p2 := pb_of hl hd hb ha2 (by grind) o3 o2 (.inr ⟨d2, d3⟩) (by rw [va2, vb, e1]; rw [e1] at hc; clear hw; grind)
    refine ⟨_, _, rfl, p1, p2, ?_⟩
    have s1 : ¬ sCrossL (halfA l.1, half2A l.2) (halfA l.2, half2A l.1) = true := by
      rw [sCross_v p1.1.f p2.1.f (by simp only; grind) (by simp only; grind)]
      simp only; clear hw hc; grind
    have s2 := sCross_symm p2.1 p1.1
    exact ⟨by simpa using s1, by rw [s2]; simpa using s1⟩
/-- What the law asks of the two leaves. -/
theorem past_law {l d : Lf} (h : pastN l d = 0) : IsL l ∧ IsL d ∧ ∃ p q : Lf, pastO l d = [p, q] ∧ PbOk l d p ∧ PbOk l d q ∧ sCrossL p q = false := by
  by_cases hL : IsL l ∧ IsL d
  · by_cases hp : PastP l d
    · by_cases ho : okHalf l.1 ∧ okHalf l.2
      · refine ⟨hL.1, hL.2, ?_⟩
        rw [(past_yes hL hp ho).1]
        obtain ⟨p, q, e, g1, g2, g3, g4⟩ := past_two hL.1 hL.2 hp ho
        rw [e]
        unfold sTwoL
        split
        · exact ⟨q, p, rfl, g2, g1, g4⟩
        · exact ⟨p, q, rfl, g1, g2, g3⟩
      · rw [(past_no hL hp ho).2] at h; exact absurd h (by decide)
    · rw [(past_st hL hp).2] at h; exact absurd h (by decide)
  · rw [(past_bad hL).2] at h; exact absurd h (by decide)
end Go.Proofs.Ytmbfflckgmdncaa.Fw
