/- Limbs: plain facts for the law over bytes. -/
import Derived.Test.YtadlnnjgocknhabN5
import Derived.Test.YtadlnnjgocknhabA5
import Derived.Test.YtadlnnjgocknhabQ7
namespace Go.Proofs.Ytadlnnjgocknhab.Fw
open Go Go.RowKit
set_option linter.unusedVariables false
set_option linter.unusedSimpArgs false
set_option maxRecDepth 100000
theorem prL {p : Lf} (h : p ∈ prN 7) : IsL p := prN_isL (m := 7) (Nat.le_refl _) p h
/-- What the limb is: of the pairs at whose wake the angle lies, the one that begins first. -/
theorem lim_spec {x : Ang} (hx : IsA x) : ∀ (xs : List Lf) (b : Option Lf), (∀ p ∈ xs, p ∈ prN 7) → (∀ q, b = some q → q ∈ prN 7 ∧ inE x q) →
    ∀ r, xs.foldl (limG x) b = some r → (r ∈ prN 7 ∧ inE x r) ∧ (∀ q, b = some q → vA r.1 ≤ vA q.1) ∧ ∀ q ∈ xs, inE x q → vA r.1 ≤ vA q.1
  | [], b, _, h2, r, h => ⟨h2 r h, fun q hq => by rw [show b = some r from h] at hq; cases hq; exact Rat.le_refl, fun q hq => by cases hq⟩
  | p :: xs, b, h1, h2, r, h => by
    have hp := h1 p (by simp)
    have hpL := prL hp
    rw [List.foldl_cons] at h
    have hst : (∀ q, limG x b p = some q → q ∈ prN 7 ∧ inE x q) ∧ (∀ q, b = some q → ∃ q', limG x b p = some q' ∧ vA q'.1 ≤ vA q.1) ∧ (inE x p → ∃ q', limG x b p = some q' ∧ vA q'.1 ≤ vA p.1) := by
      unfold limG
      by_cases hi : inEB x p = true
      · rw [if_pos hi]
        have hi' := (inE_iff hx hpL).1 hi
        cases b with
        | none => exact ⟨fun q hq => (by cases hq; exact ⟨hp, hi'⟩), fun q hq => (by cases hq), fun _ => ⟨p, rfl, Rat.le_refl⟩⟩
        | some q =>
          have hq := h2 q rfl
          have hqL := prL hq.1
          simp only
          by_cases hl : lessA p.1 q.1
          · rw [if_pos hl]
            have hv := (lessA_v hpL.1.f hqL.1.f).1 hl
            exact ⟨fun q' hq' => (by cases hq'; exact ⟨hp, hi'⟩), fun q' hq' => (by cases hq'; exact ⟨p, rfl, by grind⟩), fun _ => ⟨p, rfl, Rat.le_refl⟩⟩
          · rw [if_neg hl]
            have hv : ¬ vA p.1 < vA q.1 := fun h => hl ((lessA_v hpL.1.f hqL.1.f).2 h)
            exact ⟨fun q' hq' => (by cases hq'; exact hq), fun q' hq' => (by cases hq'; exact ⟨q, rfl, Rat.le_refl⟩), fun _ => ⟨q, rfl, by grind⟩⟩
      · rw [if_neg hi]
        exact ⟨h2, fun q hq => ⟨q, hq, Rat.le_refl⟩, fun h => absurd ((inE_iff hx hpL).2 h) hi⟩
    obtain ⟨s1, s2, s3⟩ := hst
    obtain ⟨r1, r2, r3⟩ := lim_spec hx xs _ (fun q hq => h1 q (by simp [hq])) s1 r h
    refine ⟨r1, fun q hq => ?_, fun q hq hi => ?_⟩
    · obtain ⟨q', e, hle⟩ := s2 q hq
      have := r2 q' e
      grind
    · rcases List.mem_cons.1 hq with rfl | hq
      · obtain ⟨q', e, hle⟩ := s3 hi
        have := r2 q' e
        grind
      · exact r3 q hq hi
theorem limO_spec {x : Ang} (hx : IsA x) {r : Lf} (h : limO x = some r) : r ∈ prN 7 ∧ inE x r ∧ ∀ q ∈ prN 7, inE x q → vA r.1 ≤ vA q.1 := by
  obtain ⟨⟨h1, h2⟩, _, h3⟩ := lim_spec hx (prN 7) none (fun _ h => h) (fun _ h => by cases h) r h
  exact ⟨h1, h2, h3⟩
theorem limO_some {x : Ang} (hx : IsA x) {q : Lf} (hq : q ∈ prN 7) (hi : inE x q) : ∃ r, limO x = some r := by
  have : (limO x).isSome = true := by
    unfold limO
    rw [limG_some]
    simp only [Option.isSome_none, Bool.false_or]
    exact List.any_eq_true.2 ⟨q, hq, (inE_iff hx (prL hq)).2 hi⟩
  exact Option.isSome_iff_exists.1 this
/-- Two pairs about one angle, of which the one begins no later: it ends no earlier, or they are one. -/
theorem out_of {x : Ang} {p q : Lf} (hp : p ∈ prN 7) (hq : q ∈ prN 7) (h1 : inE x p) (h2 : inE x q) (h : vA p.1 ≤ vA q.1) : p = q ∨ (vA p.1 < vA q.1 ∧ vA q.2 < vA p.2) := by
  rcases prN_nest (m := 7) (Nat.le_refl _) p hp q hq with e | hn
  · exact .inl e
  · right
    unfold NestP at hn
    unfold inE at h1 h2
    generalize vA p.1 = a at *
    generalize vA p.2 = b at *
    generalize vA q.1 = c at *
    generalize vA q.2 = d at *
    generalize vA x = y at *
    grind
theorem pr_pos {p : Lf} (hp : p ∈ prN 7) : p.1.1 ≠ 0 := fun e => by
  have hpL := prL hp
  obtain ⟨k, k1, _, k3, _⟩ := prN_per (m := 7) (Nat.le_refl _) p hp
  have h5 := hpL.1.f
  obtain ⟨⟨a, b⟩, c⟩ := p
  simp only at e k3 h5
  subst e
  have : Int.gcd b 0 = 1 := h5.2.2.2
  have hb : b = 1 := by
    rw [Int.gcd_zero_right] at this
    have := h5.1
    simp only at this
    omega
  subst hb
  have : perI (0, 1) = 1 := by decide +kernel
  omega
theorem pr_pos2 {p : Lf} (hp : p ∈ prN 7) : p.2.1 ≠ 0 := fun e => by
  have hpL := prL hp
  have p1 := v_rng hpL.1.f
  have p2 := (lessA_v hpL.1.f hpL.2.1.f).1 hpL.2.2
  have : vA p.2 = 0 := by unfold vA; rw [e]; grind
  grind
theorem mir_mem {p : Lf} (hp : p ∈ prN 7) : mirL p ∈ prN 7 := by
  have hm := List.all_eq_true.1 mir_all p hp
  obtain ⟨q, hq, he⟩ := List.any_eq_true.1 hm
  rw [← of_decide_eq_true he]; exact hq
theorem mirL_v {p : Lf} (hp : p ∈ prN 7) : vA (mirL p).1 = 1 - vA p.2 ∧ vA (mirL p).2 = 1 - vA p.1 :=
  ⟨v_mir (prL hp).2.1.f (pr_pos2 hp), v_mir (prL hp).1.f (pr_pos hp)⟩
theorem mirA_mirA {a : Ang} (h : IsA a) (h0 : a.1 ≠ 0) : mirA (mirA a) = a := by
  have hm := mir_isA h
  have e1 := v_mir h.f h0
  have r1 := v_rng h.f
  have hp : 0 < vA a := by
    rcases Rat.le_iff_lt_or_eq.1 r1.1 with hh | hh
    · exact hh
    · exfalso
      apply h0
      have hz : vA a = vA (0, 1) := by
        rw [← hh]; unfold vA; decide +kernel
      have hz1 : IsF ((0, 1) : Ang) := (show IsA ((0, 1) : Ang) by decide).f
      have := (eq_v h.f hz1).2 hz
      rw [this]
  have h1 : (mirA a).1 ≠ 0 := fun e => by
    have : vA (mirA a) = 0 := by unfold vA; rw [e]; grind
    grind
  refine (eq_v (mir_isA hm).f h.f).2 ?_
  rw [v_mir hm.f h1, e1]
  grind
theorem mirA_zero {a : Ang} (h : IsA a) (h0 : a.1 = 0) : mirA a = a := by
  have hf := h.f
  unfold mirA
  refine (eq_v (ofQ_f _ _ hf.1) hf).2 ?_
  rw [v_ofQ_k _ _ 0 hf.1 (by omega) (by have := hf.1; omega), h0]
  unfold vA
  rw [h0]
  grind
theorem mirA_two {a : Ang} (h : IsA a) : mirA (mirA a) = a := by
  by_cases h0 : a.1 = 0
  · rw [mirA_zero h h0, mirA_zero h h0]
  · exact mirA_mirA h h0
theorem inE_mir {x : Ang} (hx : IsA x) (h0 : x.1 ≠ 0) {p : Lf} (hp : p ∈ prN 7) (h : inE x p) : inE (mirA x) (mirL p) := by
  have e := mirL_v hp
  have e2 := v_mir hx.f h0
  unfold inE at h ⊢
  rw [e.1, e.2, e2]
  grind
theorem lim_zero {x : Ang} (hx : IsA x) (h0 : x.1 = 0) : limO x = none := by
  cases h : limO x with
  | none => rfl
  | some r =>
    exfalso
    obtain ⟨h1, h2, _⟩ := limO_spec hx h
    have hv : vA x = 0 := by unfold vA; rw [h0]; grind
    have p1 := v_rng (prL h1).1.f
    unfold inE at h2
    have hz : vA r.1 = 0 := by grind
    have hz1 : IsF ((0, 1) : Ang) := (show IsA ((0, 1) : Ang) by decide).f
    have := (eq_v (prL h1).1.f hz1).2 (by rw [hz]; unfold vA; decide +kernel)
    exact pr_pos h1 (by rw [this])
/-- The limb of the opposite angle is the limb's mirror image. -/
theorem lim_mir1 {x : Ang} (hx : IsA x) {r : Lf} (h : limO x = some r) : limO (mirA x) = some (mirL r) := by
  by_cases h0 : x.1 = 0
  · rw [lim_zero hx h0] at h; cases h
  · obtain ⟨h1, h2, h3⟩ := limO_spec hx h
    have hm := mir_isA hx
    obtain ⟨s, hs⟩ := limO_some hm (mir_mem h1) (inE_mir hx h0 h1 h2)
    obtain ⟨g1, g2, g3⟩ := limO_spec hm hs
    have hle := g3 _ (mir_mem h1) (inE_mir hx h0 h1 h2)
    rcases out_of g1 (mir_mem h1) g2 (inE_mir hx h0 h1 h2) hle with e | e
    · rw [hs, e]
    · exfalso
      have m1 : (mirA x).1 ≠ 0 := fun e9 => by
        rw [lim_zero hm e9] at hs; cases hs
      have w := inE_mir hm m1 g1 g2
      rw [mirA_two hx] at w
      have hle2 := h3 _ (mir_mem g1) w
      have e1 := mirL_v g1
      have e2 := mirL_v h1
      rw [e2.1, e2.2] at e
      rw [e1.1] at hle2
      grind
theorem obs_sym1 {t u : Ang} (ht : IsA t) (hu : IsA u) (h : obsB t u = true) : obsB u t = true := by
  unfold obsB at h ⊢
  rw [if_pos ⟨ht, hu⟩] at h
  rw [if_pos ⟨hu, ht⟩]
  simp only [Bool.and_eq_true, decide_eq_true_iff] at h ⊢
  obtain ⟨⟨h1, h2⟩, h3⟩ := h
  obtain ⟨p, hp⟩ := Option.isSome_iff_exists.1 h1
  obtain ⟨q, hq⟩ := Option.isSome_iff_exists.1 h2
  have hpq : p = q := by rw [hp, hq] at h3; exact h3
  subst hpq
  have e1 := lim_mir1 ht hp
  have e2 := lim_mir1 (mir_isA hu) hq
  rw [mirA_two hu] at e2
  rw [e1, e2]
  exact ⟨⟨rfl, rfl⟩, rfl⟩
theorem obs_sym {t u : Ang} (ht : IsA t) (hu : IsA u) : obsB u t = obsB t u := by
  rw [Bool.eq_iff_iff]
  exact ⟨fun h => obs_sym1 hu ht h, fun h => obs_sym1 ht hu h⟩
/-! ### an angle and its opposite make a whole -/
theorem plus_mir {a : Ang} (h : IsA a) : plusA a (mirA a) = (0, 1) := by
  have hm := mir_isA h
  have hb := ofQ_bd (-a.1) a.2 h.1.1
  have hc := ofQ_cross (-a.1) a.2 h.1.1
  have ha := h.1.1
  have hd : 1 ≤ a.2 * (mirA a).2 := Int.mul_pos (by omega) (by unfold mirA; omega)
  unfold plusA
  have e1 : (a.1 * (mirA a).2 + (mirA a).1 * a.2) % (a.2 * (mirA a).2) = 0 := by
    unfold mirA
    rw [hc]
    apply Int.emod_eq_zero_of_dvd
    have e2 : -a.1 % a.2 = -a.1 - a.2 * (-a.1 / a.2) := by have := Int.emod_add_mul_ediv (-a.1) a.2; omega
    rw [e2]
    refine ⟨-(-a.1 / a.2), ?_⟩
    grind
  unfold ofQ
  have hn : ((a.2 * (mirA a).2).natAbs : Int) = a.2 * (mirA a).2 := Int.natAbs_of_nonneg (by omega)
  rw [e1, Int.gcd_zero_right, hn, Int.ediv_self (by omega), Int.zero_ediv]
end Go.Proofs.Ytadlnnjgocknhab.Fw
