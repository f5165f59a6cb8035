/- Plain laws: program and reference pull back by a minor leaf alike. -/
import Derived.Test.YtmbfflckgmdncaaV7
import Derived.Test.YtmbfflckgmdncaaJ1
namespace Go.Proofs.Ytmbfflckgmdncaa.Fw
open Go Go.RowKit
set_option linter.unusedVariables false
set_option linter.unusedSimpArgs false
set_option maxRecDepth 100000

theorem way_bk1 {l : Lf} (h : IsL l) : wayL l = bk1 l := by
  unfold wayL bk1
  exact two_eq (leafOf_f (half_f h.1.f) (half_f h.2.1.f)) (leafOf_f (half2_f h.1.f) (half2_f h.2.1.f))
theorem way_bk2 {l : Lf} (h : IsL l) : way2L l = bk2 l := by
  unfold way2L bk2
  exact two_eq (leafOf_f (half_f h.1.f) (half2_f h.2.1.f)) (leafOf_f (half2_f h.1.f) (half_f h.2.1.f))
theorem way_lim (l : Lf) : (wayL l).all limAY = true ↔ okHalf l.1 ∧ okHalf l.2 := by
  rw [limA_eq]
  unfold wayL okHalf; rw [two_all, Bool.and_eq_true, decide_eq_true_iff, decide_eq_true_iff, lim_leafOf, lim_leafOf]; grind
theorem bk_isL {l : Lf} (h : IsL l) (ho : okHalf l.1 ∧ okHalf l.2) : (∀ x ∈ bk1 l, IsL x) ∧ ∀ x ∈ bk2 l, IsL x := by
  have fa := h.1.f
  have fb := h.2.1.f
  have v := (lessA_v fa fb).1 h.2.2
  have va : vA (halfA l.1) = vA l.1 / 2 := v_half fa
  have vb : vA (halfA l.2) = vA l.2 / 2 := v_half fb
  have va2 : vA (half2A l.1) = vA l.1 / 2 + 1 / 2 := v_half2 fa
  have vb2 : vA (half2A l.2) = vA l.2 / 2 + 1 / 2 := v_half2 fb
  have r1 := v_rng fa
  have r2 := v_rng fb
  have ne : ∀ {p q : Ang}, vA p ≠ vA q → p ≠ q := fun hn e => hn (by rw [e])
  obtain ⟨⟨o1, o2⟩, o3, o4⟩ := ho
  constructor
  · intro x hx
    rcases sTwo_mem hx with rfl | rfl
    · exact leafOf_isL2 (half_f fa) (half_f fb) (ne (by grind)) ((lim_leafOf _ _).2 ⟨o1, o3⟩)
    · exact leafOf_isL2 (half2_f fa) (half2_f fb) (ne (by grind)) ((lim_leafOf _ _).2 ⟨o2, o4⟩)
  · intro x hx
    rcases sTwo_mem hx with rfl | rfl
    · exact leafOf_isL2 (half_f fa) (half2_f fb) (ne (by grind)) ((lim_leafOf _ _).2 ⟨o1, o4⟩)
    · exact leafOf_isL2 (half2_f fa) (half_f fb) (ne (by grind)) ((lim_leafOf _ _).2 ⟨o2, o3⟩)
theorem have_frB {xs ms : List Lf} (hx : ∀ x ∈ xs, IsL x) (hm : ∀ x ∈ ms, IsL x) (lx : xs.length = 2) (lm : ms.length = 2) : haveL xs ms = !frB xs ms := by
  obtain ⟨a, b, rfl⟩ : ∃ a b, xs = [a, b] := by
    match xs, lx with
    | [a, b], _ => exact ⟨a, b, rfl⟩
  obtain ⟨c, d, rfl⟩ : ∃ a b, ms = [a, b] := by
    match ms, lm with
    | [a, b], _ => exact ⟨a, b, rfl⟩
  have e1 := cross_eq (hx a (by simp)) (hm c (by simp))
  have e2 := cross_eq (hx a (by simp)) (hm d (by simp))
  have e3 := cross_eq (hx b (by simp)) (hm c (by simp))
  have e4 := cross_eq (hx b (by simp)) (hm d (by simp))
  show ([a, b].any fun l => [c, d].any (crossL l)) = _
  have hf : frB [a, b] [c, d] = ((!sCrossL a c && !sCrossL a d) && (!sCrossL b c && !sCrossL b d)) := by
    unfold frB
    simp [List.range_succ]
  rw [hf]
  simp only [List.any_cons, List.any_nil, Bool.or_false, e1, e2, e3, e4]
  cases sCrossL a c <;> cases sCrossL a d <;> cases sCrossL b c <;> cases sCrossL b d <;> rfl
theorem v_sizeLt {a b : Ang} (ha : IsF a) (hb : IsF b) (h : vA a < vA b) : vA (sizeL (a, b)) = if 1 - (vA b - vA a) < vA b - vA a then 1 - (vA b - vA a) else vA b - vA a := by
  show vA (distA a b) = _
  rw [v_dist ha hb, v_minus ha hb, v_minus hb ha]
  have r1 := v_rng ha
  have r2 := v_rng hb
  grind
theorem sz_eq {l m : Lf} (hl : IsFL l) (hm : IsFL m) (h : vA (sizeL l) = vA (sizeL m)) : sizeL l = sizeL m := (eq_v (dist_f hl.1 hl.2) (dist_f hm.1 hm.2)).2 h
theorem bk_len {l : Lf} (h : IsL l) : (∃ s : Ang, IsF s ∧ ∀ x ∈ bk1 l, sizeL x = s) ∧ ∃ s : Ang, IsF s ∧ ∀ x ∈ bk2 l, sizeL x = s := by
  have fa := h.1.f
  have fb := h.2.1.f
  have v := (lessA_v fa fb).1 h.2.2
  have va : vA (halfA l.1) = vA l.1 / 2 := v_half fa
  have vb : vA (halfA l.2) = vA l.2 / 2 := v_half fb
  have va2 : vA (half2A l.1) = vA l.1 / 2 + 1 / 2 := v_half2 fa
  have vb2 : vA (half2A l.2) = vA l.2 / 2 + 1 / 2 := v_half2 fb
  have r1 := v_rng fa
  have r2 := v_rng fb
  have ha := half_f fa
  have hb := half_f fb
  have ha2 := half2_f fa
  have hb2 := half2_f fb
  have i1 : leafOf (halfA l.1) (halfA l.2) = (halfA l.1, halfA l.2) := leafOf_lt ha hb (by grind)
  have i2 : leafOf (half2A l.1) (half2A l.2) = (half2A l.1, half2A l.2) := leafOf_lt ha2 hb2 (by grind)
  have i3 : leafOf (halfA l.1) (half2A l.2) = (halfA l.1, half2A l.2) := leafOf_lt ha hb2 (by grind)
  have i4 : leafOf (half2A l.1) (halfA l.2) = (halfA l.2, half2A l.1) := leafOf_gt ha2 hb (by grind)
  have w1 := v_sizeLt ha hb (by grind)
  have w2 := v_sizeLt ha2 hb2 (by grind)
  have w3 := v_sizeLt ha hb2 (by grind)
  have w4 := v_sizeLt hb ha2 (by grind)
  refine ⟨⟨sizeL (halfA l.1, halfA l.2), dist_f ha hb, fun x hx => ?_⟩, sizeL (halfA l.1, half2A l.2), dist_f ha hb2, fun x hx => ?_⟩
  · rcases sTwo_mem hx with rfl | rfl
    · rw [i1]
    · rw [i2]; exact sz_eq ⟨ha2, hb2⟩ ⟨ha, hb⟩ (by rw [w1, w2, va, vb, va2, vb2]; grind)
  · rcases sTwo_mem hx with rfl | rfl
    · rw [i3]
    · rw [i4]; exact sz_eq ⟨hb, ha2⟩ ⟨ha, hb2⟩ (by rw [w3, w4, va, vb, va2, vb2]; grind)
end Go.Proofs.Ytmbfflckgmdncaa.Fw
