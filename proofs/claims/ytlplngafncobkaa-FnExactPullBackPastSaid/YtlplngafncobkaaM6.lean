/- Plain laws: pulling a leaf back past a diameter. No program. -/
import Derived.Test.YtlplngafncobkaaM5
namespace Go.Proofs.Ytlplngafncobkaa.Fw
set_option linter.unusedVariables false
set_option linter.unusedSimpArgs false

def halfA (a : Ang) : Ang := ofQ a.1 (2 * a.2)
def half2A (a : Ang) : Ang := ofQ (a.1 + a.2) (2 * a.2)
def twoL (l m : Lf) : List Lf := if 0 < cmpL l m then [m, l] else [l, m]
def wayL (l : Lf) : List Lf := twoL (leafOf (halfA l.1) (halfA l.2)) (leafOf (half2A l.1) (half2A l.2))
def way2L (l : Lf) : List Lf := twoL (leafOf (halfA l.1) (half2A l.2)) (leafOf (half2A l.1) (halfA l.2))
def LimL (l : Lf) : Prop := l.1.2 ≤ 8191 ∧ l.2.2 ≤ 8191
instance (l : Lf) : Decidable (LimL l) := by unfold LimL; infer_instance
def sTwoL (l m : Lf) : List Lf := if sLessL m l = true then [m, l] else [l, m]
def IsFL (l : Lf) : Prop := IsF l.1 ∧ IsF l.2
theorem IsL.f {l : Lf} (h : IsL l) : IsFL l := ⟨h.1.f, h.2.1.f⟩
theorem half_f {a : Ang} (h : IsF a) : IsF (halfA a) := ofQ_f _ _ (by have := h.1; omega)
theorem half2_f {a : Ang} (h : IsF a) : IsF (half2A a) := ofQ_f _ _ (by have := h.1; omega)
theorem leafOf_f {a b : Ang} (ha : IsF a) (hb : IsF b) : IsFL (leafOf a b) := by
  unfold leafOf; split
  · exact ⟨hb, ha⟩
  · exact ⟨ha, hb⟩

theorem cmpL_more {l m : Lf} (hl : IsFL l) (hm : IsFL m) : 0 < cmpL l m ↔ sLessL m l = true := by
  have he : cmpA l.1 m.1 = 0 ↔ l.1 = m.1 := by
    rw [eq_v hl.1 hm.1]
    have h1 := lessA_v hl.1 hm.1
    have h2 := lessA_v hm.1 hl.1
    have h3 := cmpI_zero (l.1.1 * m.1.2) (m.1.1 * l.1.2)
    unfold lessA at h1 h2
    rw [show cmpA l.1 m.1 = cmpI (l.1.1 * m.1.2) (m.1.1 * l.1.2) from rfl, h3]
    constructor
    · intro h
      have n1 : ¬ vA l.1 < vA m.1 := fun h' => by have := h1.2 h'; omega
      have n2 : ¬ vA m.1 < vA l.1 := fun h' => by have := h2.2 h'; omega
      grind
    · intro h
      rw [h] at h1 h2
      have n1 := mt h1.1 Rat.lt_irrefl
      have n2 := mt h2.1 Rat.lt_irrefl
      omega
  unfold cmpL sLessL
  by_cases h : l.1 = m.1
  · rw [if_pos (he.2 h), if_pos h.symm, decide_eq_true_iff]
    exact cmpA_more _ _
  · rw [if_neg (fun e => h (he.1 e)), if_neg (fun e => h e.symm), decide_eq_true_iff]
    exact cmpA_more _ _

theorem two_eq {l m : Lf} (hl : IsFL l) (hm : IsFL m) : twoL l m = sTwoL l m := by
  unfold twoL sTwoL
  by_cases h : 0 < cmpL l m
  · rw [if_pos h, if_pos ((cmpL_more hl hm).1 h)]
  · rw [if_neg h, if_neg (fun h' => h ((cmpL_more hl hm).2 h'))]
theorem two_any (p : Lf → Bool) (l m : Lf) : (twoL l m).any p = (p l || p m) := by
  unfold twoL; split
  · simp [Bool.or_comm]
  · simp
theorem two_all (p : Lf → Bool) (l m : Lf) : (twoL l m).all p = (p l && p m) := by
  unfold twoL; split
  · simp [Bool.and_comm]
  · simp
theorem cross_leafOf (d : Lf) (a b : Ang) : crossL d (leafOf a b) = crossL d (a, b) := by
  unfold leafOf; split
  · unfold crossL; rw [Int.mul_comm]
  · rfl
theorem lim_leafOf (a b : Ang) : LimL (leafOf a b) ↔ a.2 ≤ 8191 ∧ b.2 ≤ 8191 := by
  unfold leafOf LimL; split
  · exact And.comm
  · rfl

/-- The other end of a diameter lies half a turn away. -/
theorem dia_v {d : Lf} (hd : IsL d) (h : sDiaL d = true) : vA d.2 = vA d.1 + 1 / 2 ∧ vA d.1 < 1 / 2 := by
  obtain ⟨h1, h2, h3⟩ := hd
  unfold sDiaL at h
  rw [decide_eq_true_iff, eq_v (double_f h1.f) (double_f h2.f), v_double h1.f, v_double h2.f] at h
  rw [lessA_v h1.f h2.f] at h3
  have := v_rng h1.f
  have := v_rng h2.f
  grind

theorem side_a {D X d2 : Ang} (h1 : IsF D) (hx : IsF X) (h2 : IsF d2) (e : vA d2 = vA D + 1 / 2) (hd : vA D < 1 / 2) (hX : vA X < 1 / 2) (hn : vA X ≠ vA D) :
    orderA D X d2 = if vA D < vA X then 1 else -1 := by
  rw [order_v h1 hx h2, v_minus hx h1, v_minus h2 h1]
  have := v_rng h1
  have := v_rng hx
  grind
theorem side_b {D X d2 : Ang} (h1 : IsF D) (hx : IsF X) (h2 : IsF d2) (e : vA d2 = vA D + 1 / 2) (hd : vA D < 1 / 2) (hX : 1 / 2 ≤ vA X) (hn : vA X ≠ vA d2) :
    orderA D X d2 = if vA X < vA d2 then 1 else -1 := by
  rw [order_v h1 hx h2, v_minus hx h1, v_minus h2 h1]
  have := v_rng h1
  have := v_rng hx
  grind

theorem past_any {l d : Lf} (hl : IsL l) (hd : IsL d) (hdia : sDiaL d = true) (n1 : l.1 ≠ doubleA d.1) (n2 : l.2 ≠ doubleA d.1) :
    (wayL l).any (crossL d) = !(sWithinA (halfA l.1) d.1 d.2 == sWithinA (halfA l.2) d.1 d.2) := by
  obtain ⟨e1, e2⟩ := dia_v hd hdia
  obtain ⟨a, b⟩ := l
  obtain ⟨x, y⟩ := d
  have ha := hl.1.f
  have hb := hl.2.1.f
  have hx := hd.1.f
  have hy := hd.2.1.f
  simp only at *
  rw [ne_eq, eq_v ha (double_f hx), v_double hx, if_pos e2] at n1
  rw [ne_eq, eq_v hb (double_f hx), v_double hx, if_pos e2] at n2
  have r1 := v_rng ha
  have r2 := v_rng hb
  have r3 := v_rng hx
  have hxy : lessA x y := (lessA_v hx hy).2 (by grind)
  unfold wayL
  have va : vA (halfA a) = vA a / 2 := v_half ha
  have vb : vA (halfA b) = vA b / 2 := v_half hb
  have va2 : vA (half2A a) = vA a / 2 + 1 / 2 := v_half2 ha
  have vb2 : vA (half2A b) = vA b / 2 + 1 / 2 := v_half2 hb
  rw [two_any, cross_leafOf, cross_leafOf]
  unfold crossL sWithinA
  simp only [if_pos hxy]
  rw [side_a hx (half_f ha) hy e1 e2 (by grind) (by grind), side_a hx (half_f hb) hy e1 e2 (by grind) (by grind),
    side_b hx (half2_f ha) hy e1 e2 (by grind) (by grind), side_b hx (half2_f hb) hy e1 e2 (by grind) (by grind)]
  simp only [lessA_v hx (half_f ha), lessA_v (half_f ha) hy, lessA_v hx (half_f hb), lessA_v (half_f hb) hy, va, vb, va2, vb2, e1]
  by_cases c1 : vA x < vA a / 2 <;> by_cases c2 : vA x < vA b / 2 <;>
    by_cases c3 : vA a / 2 + 1 / 2 < vA x + 1 / 2 <;> by_cases c4 : vA b / 2 + 1 / 2 < vA x + 1 / 2 <;>
    by_cases c5 : vA a / 2 < vA x + 1 / 2 <;> by_cases c6 : vA b / 2 < vA x + 1 / 2 <;>
    first
      | (exfalso; clear e1 va vb va2 vb2 hl hd hdia ha hb hx hy hxy; grind)
      | (simp [c1, c2, c3, c4, c5, c6]; done)

/-- What the program pulls back. -/
def pastW (l d : Lf) : List Lf := if (wayL l).any (crossL d) = true then way2L l else wayL l
/-- What the reference pulls back. -/
def sPastW (l d : Lf) : List Lf :=
  if sWithinA (halfA l.1) d.1 d.2 = sWithinA (halfA l.2) d.1 d.2 then sTwoL (leafOf (halfA l.1) (halfA l.2)) (leafOf (half2A l.1) (half2A l.2))
  else sTwoL (leafOf (halfA l.1) (half2A l.2)) (leafOf (half2A l.1) (halfA l.2))
def okHalf (a : Ang) : Prop := (halfA a).2 ≤ 8191 ∧ (half2A a).2 ≤ 8191
instance (a : Ang) : Decidable (okHalf a) := by unfold okHalf; infer_instance

theorem past_eq {l d : Lf} (hl : IsL l) (hd : IsL d) (hdia : sDiaL d = true) (n1 : l.1 ≠ doubleA d.1) (n2 : l.2 ≠ doubleA d.1) : pastW l d = sPastW l d := by
  have fa := half_f hl.1.f
  have fa2 := half2_f hl.1.f
  have fb := half_f hl.2.1.f
  have fb2 := half2_f hl.2.1.f
  unfold pastW sPastW wayL way2L
  have h := past_any hl hd hdia n1 n2
  unfold wayL at h
  rw [h, two_eq (leafOf_f fa fb) (leafOf_f fa2 fb2), two_eq (leafOf_f fa fb2) (leafOf_f fa2 fb)]
  by_cases hc : sWithinA (halfA l.1) d.1 d.2 = sWithinA (halfA l.2) d.1 d.2
  · simp [hc]
  · simp [hc]
theorem past_lim (l d : Lf) : (pastW l d).all (fun l => decide (LimL l)) = true ↔ okHalf l.1 ∧ okHalf l.2 := by
  unfold pastW okHalf
  split
  · unfold way2L; rw [two_all, Bool.and_eq_true, decide_eq_true_iff, decide_eq_true_iff, lim_leafOf, lim_leafOf]; grind
  · unfold wayL; rw [two_all, Bool.and_eq_true, decide_eq_true_iff, decide_eq_true_iff, lim_leafOf, lim_leafOf]; grind

end Go.Proofs.Ytlplngafncobkaa.Fw
