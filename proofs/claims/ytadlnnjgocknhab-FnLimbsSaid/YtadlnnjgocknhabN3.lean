/- Plain laws: the ray pairs of the periods up to 8. No program. -/
import Derived.Test.YtadlnnjgocknhabN2
namespace Go.Proofs.Ytadlnnjgocknhab.Fw
set_option linter.unusedVariables false
set_option linter.unusedSimpArgs false
set_option maxRecDepth 100000
/-- Every angle of a period up to 8 finds another one. -/
theorem ok_all : (List.range 7).all (fun m => okG freeQ 256 (prN m) (angsN (m + 2))) = true := by decide +kernel
theorem ok_at {m : Nat} (h : m < 7) : okG freeQ 256 (prN m) (angsN (m + 2)) = true := List.all_eq_true.1 ok_all m (List.mem_range.2 h)
/-- The pairs of one period. -/
def newN (m : Nat) : List Lf := (prN (m + 1)).drop (prN m).length
theorem prN_succ {m : Nat} (h : m < 7) : prN (m + 1) = prN m ++ newN m ∧ (∀ x ∈ newN m, perI x.1 = ((m + 2 : Nat) : Int) ∧ perI x.2 = ((m + 2 : Nat) : Int)) ∧ (newN m).Pairwise (fun x y => lessA x.1 y.1) ∧
    (∀ a, IsA a → perI a = ((m + 2 : Nat) : Int) → ∃ x ∈ newN m, x.1 = a ∨ x.2 = a) := by
  have ha := angs_asc (n := m + 2) (by omega) (by omega)
  obtain ⟨new, h1, h2, h3, h4⟩ := gr_mem (p := freeQ) 256 (prN m) (angsN (m + 2)) ha
  have e : prN (m + 1) = prN m ++ new := h1
  have en : newN m = new := by unfold newN; rw [e]; simp
  rw [en]
  refine ⟨e, fun x hx => ?_, h3, fun a hA hp => h4 (ok_at h) a ((angs_mem (by omega) (by omega) hA).2 hp)⟩
  have h5 := h2 x hx
  exact ⟨(angs_mem (by omega) (by omega) (ha.isA _ h5.1)).1 h5.1, (angs_mem (by omega) (by omega) (ha.isA _ h5.2)).1 h5.2⟩
theorem prN_per : ∀ {m : Nat}, m ≤ 7 → ∀ p ∈ prN m, ∃ k : Nat, 2 ≤ k ∧ k ≤ m + 1 ∧ perI p.1 = (k : Int) ∧ perI p.2 = (k : Int)
  | 0, _, p, hp => by simp [prN] at hp
  | m + 1, h, p, hp => by
    obtain ⟨h1, h2, _⟩ := prN_succ (m := m) (by omega)
    rw [h1] at hp
    rcases List.mem_append.1 hp with h3 | h3
    · obtain ⟨k, q1, q2, q3⟩ := prN_per (m := m) (by omega) p h3
      exact ⟨k, q1, by omega, q3⟩
    · exact ⟨m + 2, by omega, by omega, (h2 p h3).1, (h2 p h3).2⟩
theorem lessA_asymm (a b : Ang) (h : lessA a b) : ¬ lessA b a := by unfold lessA at *; omega
/-! ### wakes -/
def inW (x : Ang) (p : Lf) : Bool := decide (lessA p.1 x) && decide (lessA x p.2)
theorem order_in {x : Ang} {p : Lf} (hx : IsA x) (hp : IsL p) : decide (orderA p.1 x p.2 = 1) = inW x p := by
  have h1 := (lessA_v hp.1.f hp.2.1.f).1 hp.2.2
  rw [order_v hp.1.f hx.f hp.2.1.f, v_minus hx.f hp.1.f, v_minus hp.2.1.f hp.1.f]
  unfold inW
  rw [Bool.eq_iff_iff, decide_eq_true_iff, Bool.and_eq_true, decide_eq_true_iff, decide_eq_true_iff, lessA_v hp.1.f hx.f, lessA_v hx.f hp.2.1.f]
  have := v_rng hp.1.f
  have := v_rng hp.2.1.f
  have := v_rng hx.f
  grind
theorem within_in {x : Ang} {p : Lf} (hp : IsL p) : sWithinA x p.1 p.2 = inW x p := by
  unfold sWithinA inW
  rw [if_pos hp.2.2]
/-- What the pairs up to 8 are to each other. -/
def Apart (p q : Lf) : Prop := p.1 ≠ q.1 ∧ p.1 ≠ q.2 ∧ p.2 ≠ q.1 ∧ p.2 ≠ q.2
theorem gr_apart {p : List Lf → Ang → Ang → Bool} : ∀ (f : Nat) (out : List Lf) (l : List Ang), Asc l → (∀ x ∈ out, ∀ a ∈ l, x.1 ≠ a ∧ x.2 ≠ a) → out.Pairwise Apart → (gr p f out l).Pairwise Apart
  | 0, out, l, _, _, h => h
  | f + 1, out, [], _, _, h => h
  | f + 1, out, a :: l, hl, ho, h => by
    rw [gr]
    have hne : ∀ b ∈ l, a ≠ b := fun b hb e => by
      have := (List.pairwise_cons.1 hl.asc).1 b hb
      subst e
      exact lessA_asymm _ _ this this
    split
    · rename_i b l' hp
      have hq := popP_some hp
      have hsub := hq.2.2.2.1
      have hn : ∀ c ∈ l', b ≠ c := fun c hc e => by
        subst e
        -- b stands twice in an ascending list
        have h5 : ∀ (l : List Ang) (l' : List Ang), popP (p out a) l = some (b, l') → l.Pairwise lessA → b ∉ l' := fun l => by
          induction l with
          | nil => intro l' h; cases h
          | cons y l ih =>
            intro l' h hpw
            rw [popP] at h
            split at h
            · simp only [Option.some.injEq, Prod.mk.injEq] at h
              obtain ⟨rfl, rfl⟩ := h
              intro hb
              have := (List.pairwise_cons.1 hpw).1 _ hb
              exact lessA_asymm _ _ this this
            · cases hz : popP (p out a) l with
              | none => rw [hz] at h; cases h
              | some z =>
                obtain ⟨b0, l0⟩ := z
                rw [hz] at h
                simp only [Option.map_some, Option.some.injEq, Prod.mk.injEq] at h
                obtain ⟨rfl, rfl⟩ := h
                intro hb
                rcases List.mem_cons.1 hb with rfl | hb
                · have := (List.pairwise_cons.1 hpw).1 _ (popP_some hz).2.1
                  exact lessA_asymm _ _ this this
                · exact ih l0 hz (List.pairwise_cons.1 hpw).2 hb
        exact h5 l l' hp (List.pairwise_cons.1 hl.asc).2 hc
      refine gr_apart f _ _ (hl.tail.sub hsub) (fun x hx c hc => ?_) (List.pairwise_append.2 ⟨h, by simp, fun x hx y hy => ?_⟩)
      · rcases List.mem_append.1 hx with h1 | h1
        · exact ho x h1 c (by simp [hsub.subset hc])
        · rw [List.mem_singleton.1 h1]
          exact ⟨hne c (hsub.subset hc), hn c hc⟩
      · rw [List.mem_singleton.1 hy]
        have h1 := ho x hx a (by simp)
        have h2 := ho x hx b (by simp [hq.2.1])
        exact ⟨h1.1, h2.1, h1.2, h2.2⟩
    · exact gr_apart f _ _ hl.tail (fun x hx c hc => ho x hx c (by simp [hc])) h
theorem prN_apart : ∀ {m : Nat}, m ≤ 7 → (prN m).Pairwise Apart
  | 0, _ => List.Pairwise.nil
  | m + 1, h => by
    have ha := angs_asc (n := m + 2) (by omega) (by omega)
    refine gr_apart _ _ _ ha (fun x hx a hm => ?_) (prN_apart (m := m) (by omega))
    obtain ⟨k, _, q2, q3, q4⟩ := prN_per (m := m) (by omega) x hx
    have h1 := (angs_mem (by omega) (by omega) (ha.isA a hm)).1 hm
    exact ⟨fun e => by rw [e, h1] at q3; omega, fun e => by rw [e, h1] at q4; omega⟩
/-- Around both or apart: the sizes of two pairs. -/
theorem nest {p q : Lf} (hp : IsL p) (hq : IsL q) (ha : Apart p q) (hc : crossQ q p = false) :
    vA p.2 < vA q.1 ∨ vA q.2 < vA p.1 ∨ (vA p.1 < vA q.1 ∧ vA q.2 < vA p.2) ∨ (vA q.1 < vA p.1 ∧ vA p.2 < vA q.2) := by
  unfold crossQ at hc
  have h1 := (lessA_v hp.1.f hp.2.1.f).1 hp.2.2
  have h2 := (lessA_v hq.1.f hq.2.1.f).1 hq.2.2
  unfold Apart at ha
  rw [ne_eq, ne_eq, ne_eq, ne_eq, eq_v hp.1.f hq.1.f, eq_v hp.1.f hq.2.1.f, eq_v hp.2.1.f hq.1.f, eq_v hp.2.1.f hq.2.1.f] at ha
  rw [Bool.or_eq_false_iff, Bool.and_eq_false_iff, Bool.and_eq_false_iff, Bool.and_eq_false_iff, Bool.and_eq_false_iff, decide_eq_false_iff_not, decide_eq_false_iff_not, decide_eq_false_iff_not, decide_eq_false_iff_not, decide_eq_false_iff_not, decide_eq_false_iff_not,
    lessA_v hq.1.f hp.1.f, lessA_v hp.1.f hq.2.1.f, lessA_v hq.2.1.f hp.2.1.f, lessA_v hp.1.f hq.1.f, lessA_v hq.1.f hp.2.1.f, lessA_v hp.2.1.f hq.2.1.f] at hc
  obtain ⟨n1, n2, n3, n4⟩ := ha
  obtain ⟨c1, c2⟩ := hc
  clear hp hq
  generalize vA p.1 = a at *
  generalize vA p.2 = b at *
  generalize vA q.1 = c at *
  generalize vA q.2 = d at *
  simp only [Rat.not_lt] at c1 c2
  rcases (Rat.le_total : a ≤ c ∨ c ≤ a) with h5 | h5 <;> rcases (Rat.le_total : b ≤ d ∨ d ≤ b) with h6 | h6 <;> rcases c1 with c1 | c1 | c1 <;> rcases c2 with c2 | c2 | c2 <;> grind
/-- The width of a wake. -/
def widthA (p : Lf) : Ang := minusA p.2 p.1
theorem v_width {p : Lf} (hp : IsL p) : vA (widthA p) = vA p.2 - vA p.1 := by
  have h1 := (lessA_v hp.1.f hp.2.1.f).1 hp.2.2
  unfold widthA
  rw [v_minus hp.2.1.f hp.1.f, if_pos (by grind)]
end Go.Proofs.Ytadlnnjgocknhab.Fw
