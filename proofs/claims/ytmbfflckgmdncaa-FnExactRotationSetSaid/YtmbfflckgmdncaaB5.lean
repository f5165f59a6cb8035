/- Plain laws: where a leaf belongs in a lamination. -/
import Derived.Test.YtmbfflckgmdncaaHC
namespace Go.Proofs.Ytmbfflckgmdncaa.Fw
set_option linter.unusedVariables false
set_option linter.unusedSimpArgs false

theorem sLess_v {l m : Lf} (hl : IsFL l) (hm : IsFL m) : sLessL l m = true ↔ vA l.1 < vA m.1 ∨ (vA l.1 = vA m.1 ∧ vA l.2 < vA m.2) := by
  unfold sLessL
  split
  · rename_i h
    rw [decide_eq_true_iff, lessA_v hl.2 hm.2, h]
    constructor
    · exact fun h => .inr ⟨rfl, h⟩
    · rintro (h | h)
      · exact absurd h (Rat.lt_irrefl)
      · exact h.2
  · rename_i h
    have hne : vA l.1 ≠ vA m.1 := fun e => h ((eq_v hl.1 hm.1).2 e)
    rw [decide_eq_true_iff, lessA_v hl.1 hm.1]
    constructor
    · exact .inl
    · rintro (h | h)
      · exact h
      · exact absurd h.1 hne
theorem sLess_trans {a b c : Lf} (ha : IsFL a) (hb : IsFL b) (hc : IsFL c) (h1 : sLessL a b = true) (h2 : sLessL b c = true) : sLessL a c = true := by
  rw [sLess_v ha hb] at h1
  rw [sLess_v hb hc] at h2
  rw [sLess_v ha hc]
  grind
theorem sLess_eq {a b : Lf} (ha : IsFL a) (hb : IsFL b) (h1 : ¬ sLessL a b = true) (h2 : ¬ sLessL b a = true) : a = b := by
  rw [sLess_v ha hb] at h1
  rw [sLess_v hb ha] at h2
  have e1 : vA a.1 = vA b.1 := by grind
  have e2 : vA a.2 = vA b.2 := by grind
  exact Prod.ext ((eq_v ha.1 hb.1).2 e1) ((eq_v ha.2 hb.2).2 e2)
theorem sLess_irr {a : Lf} (ha : IsFL a) : ¬ sLessL a a = true := by rw [sLess_v ha ha]; grind
theorem cmpL_neg {l m : Lf} (hl : IsL l) (hm : IsL m) : cmpL l m < 0 ↔ sLessL l m = true := by
  have h := cmpL_less hl hm
  constructor
  · intro h1
    rw [decide_eq_false (by omega)] at h
    cases hs : sLessL l m with
    | true => rfl
    | false => rw [hs] at h; cases h
  · intro h1
    rw [h1] at h
    have : ¬ 0 ≤ cmpL l m := of_decide_eq_false h
    omega
theorem cmpL_zero {l m : Lf} (hl : IsL l) (hm : IsL m) : cmpL l m = 0 ↔ l = m := by
  constructor
  · intro h
    refine sLess_eq hl.f hm.f (fun h1 => ?_) (fun h1 => ?_)
    · have := (cmpL_neg hl hm).2 h1; omega
    · have := (cmpL_more hl.f hm.f).2 h1; omega
  · intro h
    subst h
    have h1 : ¬ cmpL l l < 0 := fun h => sLess_irr hl.f ((cmpL_neg hl hl).1 h)
    have h2 : ¬ 0 < cmpL l l := fun h => sLess_irr hl.f ((cmpL_more hl.f hl.f).1 h)
    omega

/-- A lamination is in order. -/
theorem lam_sorted {xs : List Lf} (h : lamL xs = true) : ∀ i j, i < j → j < xs.length → sLessL (xs.getD i dL) (xs.getD j dL) = true := by
  have hL : ∀ x ∈ xs, IsL x := lam_all h
  have hg : ∀ j, j < xs.length → IsL (xs.getD j dL) := fun j hj => hL _ (getD_mem hj)
  have h1 : ∀ j, 0 < j → j < xs.length → sLessL (xs.getD (j - 1) dL) (xs.getD j dL) = true := fun j h0 hj => by
    unfold lamL at h
    simp only [Bool.and_eq_true, List.all_eq_true] at h
    have := h.2.2 j (List.mem_range.2 hj)
    unfold okAt at this
    simp only [Bool.not_eq_true', Bool.or_eq_false_iff, Bool.and_eq_false_iff, decide_eq_false_iff_not] at this
    have h2 : ¬ 0 ≤ cmpL (xs.getD (j - 1) lT.dflt) (xs.getD j lT.dflt) := this.1.resolve_left (by omega)
    exact (cmpL_neg (hg _ (by omega)) (hg _ hj)).1 (by show cmpL (xs.getD (j - 1) lT.dflt) (xs.getD j lT.dflt) < 0; omega)
  intro i j
  induction j with
  | zero => intro h; omega
  | succ j ih =>
    intro hij hj
    have h2 := h1 (j + 1) (by omega) hj
    rw [Nat.add_sub_cancel] at h2
    by_cases e : i = j
    · subst e; exact h2
    · exact sLess_trans (hg _ (by omega)).f (hg _ (by omega)).f (hg _ hj).f (ih (by omega) (by omega)) h2
/-- How many leaves come before a leaf. -/
def posL (xs : List Lf) (l : Lf) : Nat := (xs.takeWhile fun x => sLessL x l).length
theorem posL_le (xs : List Lf) (l : Lf) : posL xs l ≤ xs.length := (List.takeWhile_sublist _).length_le
theorem takeWhile_get {α : Type} (d : α) (p : α → Bool) : ∀ (xs : List α), (∀ t, t < (xs.takeWhile p).length → p (xs.getD t d) = true) ∧ ((xs.takeWhile p).length < xs.length → p (xs.getD (xs.takeWhile p).length d) = false)
  | [] => ⟨fun t h => by simp at h, fun h => by simp at h⟩
  | x :: l => by
    obtain ⟨h1, h2⟩ := takeWhile_get d p l
    cases hp : p x with
    | true =>
      rw [List.takeWhile_cons_of_pos hp]
      refine ⟨fun t ht => ?_, fun h => ?_⟩
      · cases t with
        | zero => exact hp
        | succ t => exact h1 t (by simpa using ht)
      · exact h2 (by simpa using h)
    | false =>
      rw [List.takeWhile_cons_of_neg (by simp [hp])]
      exact ⟨fun t ht => by simp at ht, fun _ => hp⟩
theorem posL_lt {xs : List Lf} {l : Lf} {t : Nat} (h : t < posL xs l) : sLessL (xs.getD t dL) l = true := (takeWhile_get dL _ xs).1 t h
theorem posL_at {xs : List Lf} {l : Lf} (h : posL xs l < xs.length) : sLessL (xs.getD (posL xs l) dL) l = false := (takeWhile_get dL _ xs).2 h
theorem posL_mid {xs : List Lf} {l : Lf} (hx : ∀ x ∈ xs, IsL x) (hl : IsL l) (hs : ∀ i j, i < j → j < xs.length → sLessL (xs.getD i dL) (xs.getD j dL) = true) {t : Nat} (ht : t < xs.length) : t < posL xs l ↔ sLessL (xs.getD t dL) l = true := by
  refine ⟨posL_lt, fun h => ?_⟩
  rcases Nat.lt_or_ge t (posL xs l) with h1 | h1
  · exact h1
  · exfalso
    have hp : posL xs l < xs.length := by omega
    have h2 := posL_at hp
    rcases Nat.eq_or_lt_of_le h1 with e | h3
    · rw [e, h] at h2; cases h2
    · have := sLess_trans (hx _ (getD_mem hp)).f (hx _ (getD_mem ht)).f hl.f (hs _ _ h3 ht) h
      rw [this] at h2; cases h2
/-- The leaves with one more in its place. -/
def putL (xs : List Lf) (l : Lf) : List Lf := if posL xs l < xs.length ∧ xs.getD (posL xs l) dL = l then xs else xs.take (posL xs l) ++ ([l] ++ xs.drop (posL xs l))
theorem putL_len (xs : List Lf) (l : Lf) : (putL xs l).length ≤ xs.length + 1 := by
  unfold putL
  split
  · omega
  · have := posL_le xs l
    simp; omega
theorem cross_sym {l m : Lf} (hl : IsL l) (hm : IsL m) : sCrossL l m = sCrossL m l := by
  obtain ⟨h1, h2, h3⟩ := hl
  obtain ⟨h4, h5, h6⟩ := hm
  have h3' := h3
  have h6' := h6
  rw [lessA_v h1.f h2.f] at h3
  rw [lessA_v h4.f h5.f] at h6
  unfold sCrossL sWithinA
  simp only [eq_v h1.f h4.f, eq_v h1.f h5.f, eq_v h2.f h4.f, eq_v h2.f h5.f, eq_v h4.f h1.f, eq_v h4.f h2.f, eq_v h5.f h1.f, eq_v h5.f h2.f, if_pos h3', if_pos h6', lessA_v h1.f h4.f, lessA_v h1.f h5.f, lessA_v h2.f h4.f, lessA_v h2.f h5.f, lessA_v h4.f h1.f, lessA_v h4.f h2.f, lessA_v h5.f h1.f, lessA_v h5.f h2.f]
  generalize vA l.1 = a at *
  generalize vA l.2 = b at *
  generalize vA m.1 = c at *
  generalize vA m.2 = d at *
  by_cases k1 : a < c <;> by_cases k2 : c < a <;> by_cases k3 : a < d <;> by_cases k4 : d < a <;> by_cases k5 : b < c <;> by_cases k6 : c < b <;> by_cases k7 : b < d <;> by_cases k8 : d < b <;>
    simp only [k1, k2, k3, k4, k5, k6, k7, k8, decide_true, decide_false, Bool.and_true, Bool.and_false, Bool.true_and, Bool.false_and] <;> grind
theorem cross_comm {l m : Lf} (hl : IsL l) (hm : IsL m) : crossL l m = sCrossL m l := by
  rw [cross_eq hl hm]
  exact cross_sym hl hm
/-- What AddLeaf hands back. -/
@[irreducible] def adO (xs : List Lf) (l : Lf) : List Lf × Int :=
  if lamL xs = true ∧ IsL l then (if xs.any (crossL l) = true then ([], 5) else if 200 < (putL xs l).length then ([], 3) else (putL xs l, 0)) else ([], 1)
theorem adO_1 {xs : List Lf} {l : Lf} (h : ¬ (lamL xs = true ∧ IsL l)) : adO xs l = ([], 1) := by unfold adO; rw [if_neg h]
theorem adO_5 {xs : List Lf} {l : Lf} (h : lamL xs = true ∧ IsL l) (h2 : xs.any (crossL l) = true) : adO xs l = ([], 5) := by unfold adO; rw [if_pos h, if_pos h2]
theorem adO_3 {xs : List Lf} {l : Lf} (h : lamL xs = true ∧ IsL l) (h2 : ¬ xs.any (crossL l) = true) (h3 : 200 < (putL xs l).length) : adO xs l = ([], 3) := by unfold adO; rw [if_pos h, if_neg h2, if_pos h3]
theorem adO_0 {xs : List Lf} {l : Lf} (h : lamL xs = true ∧ IsL l) (h2 : ¬ xs.any (crossL l) = true) (h3 : ¬ 200 < (putL xs l).length) : adO xs l = (putL xs l, 0) := by unfold adO; rw [if_pos h, if_neg h2, if_neg h3]
theorem adO_len (xs : List Lf) (l : Lf) : (adO xs l).1.length ≤ 200 := by
  by_cases h : lamL xs = true ∧ IsL l
  · by_cases h2 : xs.any (crossL l) = true
    · rw [adO_5 h h2]; exact Nat.zero_le _
    · by_cases h3 : 200 < (putL xs l).length
      · rw [adO_3 h h2 h3]; exact Nat.zero_le _
      · rw [adO_0 h h2 h3]; exact Nat.le_of_not_lt h3
  · rw [adO_1 h]; exact Nat.zero_le _
end Go.Proofs.Ytmbfflckgmdncaa.Fw
