/- Plain laws: wakes about angles, in order. No program. -/
import Derived.Test.YtadlnnjgocknhabN4
namespace Go.Proofs.Ytadlnnjgocknhab.Fw
set_option linter.unusedVariables false
set_option linter.unusedSimpArgs false
def NestP (p q : Lf) : Prop := vA p.2 < vA q.1 ∨ vA q.2 < vA p.1 ∨ (vA p.1 < vA q.1 ∧ vA q.2 < vA p.2) ∨ (vA q.1 < vA p.1 ∧ vA p.2 < vA q.2)
theorem prN_nest {m : Nat} (hm : m ≤ 7) : ∀ p ∈ prN m, ∀ q ∈ prN m, p = q ∨ NestP p q := by
  intro p hp q hq
  have hL : ∀ x ∈ prN m, IsL x := prN_isL hm
  have h1 := prN_apart hm
  have h2 := prN_nc m
  obtain ⟨i, hi, rfl⟩ := List.mem_iff_getElem.1 hp
  obtain ⟨j, hj, rfl⟩ := List.mem_iff_getElem.1 hq
  rcases Nat.lt_trichotomy i j with h | h | h
  · exact .inr (nest (hL _ hp) (hL _ hq) (List.pairwise_iff_getElem.1 h1 i j hi hj h) (List.pairwise_iff_getElem.1 h2 i j hi hj h))
  · subst h; exact .inl rfl
  · have h3 := nest (hL _ hq) (hL _ hp) (List.pairwise_iff_getElem.1 h1 j i hj hi h) (List.pairwise_iff_getElem.1 h2 j i hj hi h)
    unfold NestP
    generalize (prN m)[i] = p at *
    generalize (prN m)[j] = q at *
    grind
/-- The end of a wake or what lies in it. -/
def inE (x : Ang) (p : Lf) : Prop := vA p.1 ≤ vA x ∧ vA x ≤ vA p.2
theorem inW_v {x : Ang} {p : Lf} (hx : IsA x) (hp : IsL p) : inW x p = true ↔ vA p.1 < vA x ∧ vA x < vA p.2 := by
  unfold inW
  rw [Bool.and_eq_true, decide_eq_true_iff, decide_eq_true_iff, lessA_v hp.1.f hx.f, lessA_v hx.f hp.2.1.f]
theorem wide_lt {m : Nat} (hm : m ≤ 7) {x : Ang} {p q : Lf} (hp : p ∈ prN m) (hq : q ∈ prN m) (h1 : inE x p) (h2 : inE x q) : vA p.1 < vA q.1 ↔ vA (widthA q) < vA (widthA p) := by
  rw [v_width (prN_isL hm p hp), v_width (prN_isL hm q hq)]
  rcases prN_nest hm p hp q hq with rfl | h
  · grind
  · unfold NestP at h
    unfold inE at h1 h2
    clear hp hq
    generalize vA p.1 = a at *
    generalize vA p.2 = b at *
    generalize vA q.1 = c at *
    generalize vA q.2 = d at *
    generalize vA x = y at *
    grind
theorem lessA_w {p q : Lf} (hp : IsL p) (hq : IsL q) : lessA (widthA p) (widthA q) ↔ vA (widthA p) < vA (widthA q) := by
  unfold widthA
  exact lessA_v (minus_f hp.2.1.f hp.1.f) (minus_f hq.2.1.f hq.1.f)
def widF (p q : Lf) : Int := cmpA (widthA q) (widthA p)
/-! ### limbs -/
instance (x : Ang) (p : Lf) : Decidable (inE x p) := by unfold inE; infer_instance
def inEB (x : Ang) (p : Lf) : Bool := inW x p || decide (p.1 = x) || decide (p.2 = x)
theorem inE_iff {x : Ang} {p : Lf} (hx : IsA x) (hp : IsL p) : inEB x p = true ↔ inE x p := by
  unfold inEB inE
  rw [Bool.or_eq_true, Bool.or_eq_true, inW_v hx hp, decide_eq_true_iff, decide_eq_true_iff, eq_v hp.1.f hx.f, eq_v hp.2.1.f hx.f]
  have := (lessA_v hp.1.f hp.2.1.f).1 hp.2.2
  grind
/-- The limb as the program looks for it: the widest one. -/
def limF (x : Ang) (b : Option Lf) (p : Lf) : Option Lf := if inEB x p = true then (match b with | none => some p | some q => if widF p q < 0 then some p else some q) else b
/-- .. as the reference does: the one that begins first. -/
def limG (x : Ang) (b : Option Lf) (p : Lf) : Option Lf := if inEB x p = true then (match b with | none => some p | some q => if lessA p.1 q.1 then some p else some q) else b
theorem lim_eq {m : Nat} (hm : m ≤ 7) {x : Ang} (hx : IsA x) : ∀ (xs : List Lf) (b : Option Lf), (∀ p ∈ xs, p ∈ prN m) → (∀ q, b = some q → q ∈ prN m ∧ inE x q) → xs.foldl (limF x) b = xs.foldl (limG x) b
  | [], _, _, _ => rfl
  | p :: xs, b, h1, h2 => by
    have hL : ∀ x ∈ prN m, IsL x := prN_isL hm
    have hp := h1 p (by simp)
    have e : limF x b p = limG x b p := by
      unfold limF limG
      split
      · rename_i hi
        cases b with
        | none => rfl
        | some q =>
          obtain ⟨hq1, hq2⟩ := h2 q rfl
          have hi := (inE_iff hx (hL p hp)).1 hi
          have : widF p q < 0 ↔ lessA p.1 q.1 := by
            unfold widF
            rw [cmpA_neg, lessA_w (hL q hq1) (hL p hp), lessA_v (hL p hp).1.f (hL q hq1).1.f]
            exact (wide_lt hm hp hq1 hi hq2).symm
          simp only [this]
      · rfl
    rw [List.foldl_cons, List.foldl_cons, e]
    refine lim_eq hm hx xs _ (fun q hq => h1 q (by simp [hq])) fun q hq => ?_
    unfold limG at hq
    split at hq
    · rename_i hi
      have hi := (inE_iff hx (hL p hp)).1 hi
      cases b with
      | none => cases hq; exact ⟨hp, hi⟩
      | some r =>
        simp only at hq
        split at hq
        · cases hq; exact ⟨hp, hi⟩
        · exact h2 q hq
    · exact h2 q hq
def limO (x : Ang) : Option Lf := (prN 7).foldl (limG x) none
theorem lim_fg {x : Ang} (hx : IsA x) : (prN 7).foldl (limF x) none = limO x := lim_eq (m := 7) (Nat.le_refl _) hx _ _ (fun _ h => h) (fun _ h => by cases h)
theorem limG_some (x : Ang) : ∀ (xs : List Lf) (b : Option Lf), (xs.foldl (limG x) b).isSome = (b.isSome || xs.any (inEB x))
  | [], b => by simp
  | p :: xs, b => by
    rw [List.foldl_cons, limG_some x xs]
    unfold limG
    by_cases h : inEB x p = true
    · rw [if_pos h]
      cases b with
      | none => simp [h]
      | some q => simp only; split <;> simp
    · rw [if_neg h]; simp [h]
/-- The other side of a pair. -/
def mirA (a : Ang) : Ang := ofQ (-a.1) a.2
def mirL (p : Lf) : Lf := (mirA p.2, mirA p.1)
theorem mir_all : (prN 7).all (fun p => (prN 7).any fun q => decide (q = mirL p)) = true := by decide +kernel
theorem v_mir {a : Ang} (h : IsF a) (h0 : a.1 ≠ 0) : vA (mirA a) = 1 - vA a := by
  unfold mirA
  have h1 := h.2.1
  have h2 := h.2.2.1
  rw [v_ofQ_k (-a.1) a.2 (-1) h.1 (by omega) (by omega)]
  have h3 := rne h.1
  rw [Rat.intCast_neg, vA_mul h]
  have : ((-1 : Int) : Rat) = -1 := by decide +kernel
  rw [this]
  grind
theorem mir_lim {u : Ang} (hu : IsA u) (h : (limO (mirA u)).isSome = true) : (limO u).isSome = true := by
  unfold limO at h ⊢
  rw [limG_some] at h ⊢
  simp only [Option.isSome_none, Bool.false_or] at h ⊢
  obtain ⟨p, hp, hi⟩ := List.any_eq_true.1 h
  have hpL := prN_isL (m := 7) (Nat.le_refl _) p hp
  have hm := List.all_eq_true.1 mir_all p hp
  obtain ⟨q, hq, he⟩ := List.any_eq_true.1 hm
  have he := of_decide_eq_true he
  have hqL := prN_isL (m := 7) (Nat.le_refl _) q hq
  have hmu : IsA (mirA u) := by
    unfold mirA; exact ofQ_isA _ _ hu.1.1 hu.1.2
  have hi := (inE_iff hmu hpL).1 hi
  by_cases h0 : u.1 = 0
  · have e : mirA u = u := by
      have hf := hu.f
      unfold mirA
      refine (eq_v (ofQ_f _ _ hf.1) hf).2 ?_
      rw [v_ofQ_k _ _ 0 hf.1 (by omega) (by have := hf.1; omega), h0]
      unfold vA
      rw [h0]
      grind
    rw [e] at hi
    exact List.any_eq_true.2 ⟨p, hp, (inE_iff hu hpL).2 hi⟩
  · refine List.any_eq_true.2 ⟨q, hq, (inE_iff hu hqL).2 ?_⟩
    have e1 : vA (mirA u) = 1 - vA u := v_mir hu.f h0
    have p1 := v_rng hpL.1.f
    have p2 := (lessA_v hpL.1.f hpL.2.1.f).1 hpL.2.2
    have z1 : p.1.1 ≠ 0 := fun e => by
      obtain ⟨k, k1, _, k3, _⟩ := prN_per (m := 7) (Nat.le_refl _) p hp
      have h5 := hpL.1.f
      obtain ⟨⟨a, b⟩, c⟩ := p
      simp only at e k3 h5
      subst e
      have : Int.gcd b 0 = 1 := h5.2.2.2
      have hb : b = 1 := by
        rw [Int.gcd_zero_right] at this
        have := h5.1
        simp only at this
        omega
      subst hb
      have : perI (0, 1) = 1 := by decide +kernel
      omega
    have z2 : p.2.1 ≠ 0 := fun e => by
      have : vA p.2 = 0 := by unfold vA; rw [e]; grind
      grind
    have e2 := v_mir hpL.1.f z1
    have e3 := v_mir hpL.2.1.f z2
    unfold inE at hi ⊢
    rw [he]
    show vA (mirA p.2) ≤ vA u ∧ vA u ≤ vA (mirA p.1)
    grind
end Go.Proofs.Ytadlnnjgocknhab.Fw
