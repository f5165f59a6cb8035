/- Plain laws: pairs that are found greedily. No program. -/
import Derived.Test.YtadlnnjgocknhabN1
import Derived.Test.YtadlnnjgocknhabHB
namespace Go.Proofs.Ytadlnnjgocknhab.Fw
set_option linter.unusedVariables false
set_option linter.unusedSimpArgs false
/-- The first element that is as told, and the others. -/
def popP {α : Type} (p : α → Bool) : List α → Option (α × List α)
  | [] => none
  | x :: l => if p x = true then some (x, l) else (popP p l).map fun q => (q.1, x :: q.2)
theorem popP_none {α : Type} {p : α → Bool} : ∀ {l : List α}, (∀ x ∈ l, p x = false) → popP p l = none
  | [], _ => rfl
  | x :: l, h => by
    rw [popP, if_neg (by rw [h x (by simp)]; simp), popP_none fun y hy => h y (by simp [hy])]; rfl
theorem popP_app {α : Type} {p : α → Bool} : ∀ {pre : List α} (r : List α), (∀ x ∈ pre, p x = false) → popP p (pre ++ r) = (popP p r).map fun q => (q.1, pre ++ q.2)
  | [], r, _ => by cases h : popP p r <;> simp [h]
  | x :: pre, r, h => by
    rw [List.cons_append, popP, if_neg (by rw [h x (by simp)]; simp), popP_app r fun y hy => h y (by simp [hy])]
    cases popP p r <;> simp
theorem popP_idx {α : Type} {p : α → Bool} (d : α) : ∀ (l : List α), popP p l = if 0 ≤ idxP p l then some (l.getD (idxP p l).toNat d, l.eraseIdx (idxP p l).toNat) else none
  | [] => rfl
  | x :: l => by
    have ih := popP_idx (p := p) d l
    have hge := idxP_ge p l
    rw [popP, ih]
    by_cases hx : p x = true
    · have e : idxP p (x :: l) = 0 := by simp [idxP, hx]
      rw [e]; simp [hx]
    · by_cases h0 : 0 ≤ idxP p l
      · have e : idxP p (x :: l) = idxP p l + 1 := by rw [idxP, if_neg hx, if_neg (by omega)]
        rw [if_neg hx, if_pos h0, e, if_pos (by omega), show (idxP p l + 1).toNat = (idxP p l).toNat + 1 by omega]
        simp
      · have e : idxP p (x :: l) = -1 := by rw [idxP, if_neg hx, if_pos (by omega)]
        rw [if_neg hx, if_neg h0, e, if_neg (by omega)]
        rfl
theorem popP_some {α : Type} {p : α → Bool} : ∀ {l : List α} {b : α} {l' : List α}, popP p l = some (b, l') → p b = true ∧ b ∈ l ∧ l'.length + 1 = l.length ∧ (l'.Sublist l) ∧ ∀ x ∈ l, x = b ∨ x ∈ l'
  | [], b, l', h => by cases h
  | x :: l, b, l', h => by
    rw [popP] at h
    split at h
    · rename_i hx
      simp only [Option.some.injEq, Prod.mk.injEq] at h
      obtain ⟨rfl, rfl⟩ := h
      exact ⟨hx, by simp, by simp, List.sublist_cons_self .., fun y hy => by simpa using hy⟩
    · cases hq : popP p l with
      | none => rw [hq] at h; cases h
      | some q =>
        obtain ⟨b0, l0⟩ := q
        rw [hq] at h
        simp only [Option.map_some, Option.some.injEq, Prod.mk.injEq] at h
        obtain ⟨rfl, rfl⟩ := h
        obtain ⟨h1, h2, h3, h4, h5⟩ := popP_some hq
        exact ⟨h1, by simp [h2], by simp; omega, h4.cons_cons x, fun y hy => by
          rcases List.mem_cons.1 hy with rfl | hy
          · exact .inr (by simp)
          · rcases h5 y hy with h6 | h6
            · exact .inl h6
            · exact .inr (by simp [h6])⟩
theorem popP_congr {α : Type} {p q : α → Bool} : ∀ {l : List α}, (∀ x ∈ l, p x = q x) → popP p l = popP q l
  | [], _ => rfl
  | x :: l, h => by rw [popP, popP, h x (by simp), popP_congr fun y hy => h y (by simp [hy])]
/-- Pairs found greedily: the first angle with the first other one that fits. -/
def gr (p : List Lf → Ang → Ang → Bool) : Nat → List Lf → List Ang → List Lf
  | 0, out, _ => out
  | _ + 1, out, [] => out
  | f + 1, out, a :: l => match popP (p out a) l with
    | some (b, l') => gr p f (out ++ [(a, b)]) l'
    | none => gr p f out l
/-- Each angle finds another one. -/
def okG (p : List Lf → Ang → Ang → Bool) : Nat → List Lf → List Ang → Bool
  | 0, _, l => l.isEmpty
  | _ + 1, _, [] => true
  | f + 1, out, a :: l => match popP (p out a) l with
    | some (b, l') => okG p f (out ++ [(a, b)]) l'
    | none => false
theorem gr_fuel (p : List Lf → Ang → Ang → Bool) : ∀ (f g : Nat) (out : List Lf) (l : List Ang), l.length ≤ f → l.length ≤ g → gr p f out l = gr p g out l
  | 0, 0, out, l, _, _ => rfl
  | 0, g + 1, out, [], _, _ => rfl
  | 0, g + 1, out, a :: l, h, _ => by simp at h
  | f + 1, 0, out, [], _, _ => rfl
  | f + 1, 0, out, a :: l, _, h => by simp at h
  | f + 1, g + 1, out, [], _, _ => rfl
  | f + 1, g + 1, out, a :: l, h1, h2 => by
    simp only [List.length_cons] at h1 h2
    rw [gr, gr]
    split
    · rename_i b l' h
      have := (popP_some h).2.2.1
      exact gr_fuel p f g _ _ (by omega) (by omega)
    · exact gr_fuel p f g _ _ (by omega) (by omega)
theorem okG_fuel (p : List Lf → Ang → Ang → Bool) : ∀ (f g : Nat) (out : List Lf) (l : List Ang), l.length ≤ f → l.length ≤ g → okG p f out l = okG p g out l
  | 0, 0, out, l, _, _ => rfl
  | 0, g + 1, out, [], _, _ => rfl
  | 0, g + 1, out, a :: l, h, _ => by simp at h
  | f + 1, 0, out, [], _, _ => rfl
  | f + 1, 0, out, a :: l, _, h => by simp at h
  | f + 1, g + 1, out, [], _, _ => rfl
  | f + 1, g + 1, out, a :: l, h1, h2 => by
    simp only [List.length_cons] at h1 h2
    rw [okG, okG]
    split
    · rename_i b l' h
      have := (popP_some h).2.2.1
      exact okG_fuel p f g _ _ (by omega) (by omega)
    · rfl
/-- What an ascending list of angles is. -/
structure Asc (l : List Ang) : Prop where
  isA : ∀ x ∈ l, IsA x
  asc : l.Pairwise lessA
theorem Asc.sub {l l' : List Ang} (h : Asc l) (hs : l'.Sublist l) : Asc l' := ⟨fun x hx => h.isA x (hs.subset hx), h.asc.sublist hs⟩
theorem Asc.tail {a : Ang} {l : List Ang} (h : Asc (a :: l)) : Asc l := h.sub (List.sublist_cons_self ..)
theorem Asc.isL {a b : Ang} {l : List Ang} (h : Asc (a :: l)) (hb : b ∈ l) : IsL (a, b) :=
  ⟨h.isA a (by simp), h.isA b (by simp [hb]), (List.pairwise_cons.1 h.asc).1 b hb⟩
theorem snoc_isL {out : List Lf} {l : Lf} (h : ∀ x ∈ out, IsL x) (hl : IsL l) : ∀ x ∈ out ++ [l], IsL x := fun x hx => by
  rcases List.mem_append.1 hx with h1 | h1
  · exact h x h1
  · rw [List.mem_singleton.1 h1]; exact hl
theorem gr_congr {p q : List Lf → Ang → Ang → Bool} (hpq : ∀ out a b, (∀ x ∈ out, IsL x) → IsL (a, b) → p out a b = q out a b) : ∀ (f : Nat) (out : List Lf) (l : List Ang), (∀ x ∈ out, IsL x) → Asc l → gr p f out l = gr q f out l ∧ okG p f out l = okG q f out l
  | 0, out, l, _, _ => ⟨rfl, rfl⟩
  | f + 1, out, [], _, _ => ⟨rfl, rfl⟩
  | f + 1, out, a :: l, ho, hl => by
    rw [gr, gr, okG, okG, popP_congr fun b hb => hpq out a b ho (hl.isL hb)]
    split
    · rename_i b l' h
      have h1 := popP_some h
      have hs := hl.tail.sub h1.2.2.2.1
      exact gr_congr hpq f _ _ (snoc_isL ho (hl.isL h1.2.1)) hs
    · exact ⟨(gr_congr hpq f _ _ ho hl.tail).1, rfl⟩
theorem gr_isL {p : List Lf → Ang → Ang → Bool} : ∀ (f : Nat) (out : List Lf) (l : List Ang), (∀ x ∈ out, IsL x) → Asc l → ∀ x ∈ gr p f out l, IsL x
  | 0, out, l, h, _ => h
  | f + 1, out, [], h, _ => h
  | f + 1, out, a :: l, h, hl => by
    rw [gr]
    split
    · rename_i b l' hp
      have h1 := popP_some hp
      exact gr_isL f _ _ (snoc_isL h (hl.isL h1.2.1)) (hl.tail.sub h1.2.2.2.1)
    · exact gr_isL f _ _ h hl.tail
/-- What is found was there, or has both ends in the list, the pairs that are found later behind. -/
theorem gr_mem {p : List Lf → Ang → Ang → Bool} : ∀ (f : Nat) (out : List Lf) (l : List Ang), Asc l → ∃ new, gr p f out l = out ++ new ∧ (∀ x ∈ new, x.1 ∈ l ∧ x.2 ∈ l) ∧ new.Pairwise (fun x y => lessA x.1 y.1) ∧ (okG p f out l = true → ∀ a ∈ l, ∃ x ∈ new, x.1 = a ∨ x.2 = a)
  | 0, out, l, hl => ⟨[], by rw [gr]; simp, by simp, by simp, fun h a ha => by
    rw [okG, List.isEmpty_iff] at h; rw [h] at ha; simp at ha⟩
  | f + 1, out, [], hl => ⟨[], by rw [gr]; simp, by simp, by simp, fun _ a ha => by simp at ha⟩
  | f + 1, out, a :: l, hl => by
    have ha := (List.pairwise_cons.1 hl.asc).1
    rw [gr, okG]
    cases hp : popP (p out a) l with
    | none =>
      obtain ⟨new, h1, h2, h3, h4⟩ := gr_mem (p := p) f out l hl.tail
      exact ⟨new, h1, fun x hx => ⟨by simp [(h2 x hx).1], by simp [(h2 x hx).2]⟩, h3, fun h => by cases h⟩
    | some q =>
      obtain ⟨b, l'⟩ := q
      have hq := popP_some hp
      obtain ⟨new, h1, h2, h3, h4⟩ := gr_mem (p := p) f (out ++ [(a, b)]) l' (hl.tail.sub hq.2.2.2.1)
      have hsub := hq.2.2.2.1.subset
      refine ⟨(a, b) :: new, by simp only; rw [h1, List.append_assoc]; rfl, fun x hx => ?_, List.pairwise_cons.2 ⟨fun x hx => ha x.1 (hsub (h2 x hx).1), h3⟩, fun h c hc => ?_⟩
      · rcases List.mem_cons.1 hx with rfl | hx
        · exact ⟨by simp, by simp [hq.2.1]⟩
        · exact ⟨by simp [hsub (h2 x hx).1], by simp [hsub (h2 x hx).2]⟩
      · rcases List.mem_cons.1 hc with rfl | hc
        · exact ⟨(c, b), by simp, .inl rfl⟩
        · rcases hq.2.2.2.2 c hc with h5 | h5
          · exact ⟨(a, b), by simp, .inr h5.symm⟩
          · obtain ⟨x, hx, h6⟩ := h4 h c h5
            exact ⟨x, by simp [hx], h6⟩
/-- Crossing, by sizes. -/
def crossQ (l m : Lf) : Bool := (decide (lessA l.1 m.1) && (decide (lessA m.1 l.2) && decide (lessA l.2 m.2))) || (decide (lessA m.1 l.1) && (decide (lessA l.1 m.2) && decide (lessA m.2 l.2)))
theorem crossQ_eq {l m : Lf} (hl : IsL l) (hm : IsL m) : crossL l m = crossQ l m := by
  rw [cross_eq hl hm, Bool.eq_iff_iff, sCross_v hl.f hm.f ((lessA_v hl.1.f hl.2.1.f).1 hl.2.2) ((lessA_v hm.1.f hm.2.1.f).1 hm.2.2)]
  unfold crossQ
  simp only [Bool.or_eq_true, Bool.and_eq_true, decide_eq_true_iff, lessA_v hl.1.f hm.1.f, lessA_v hm.1.f hl.2.1.f, lessA_v hl.2.1.f hm.2.1.f, lessA_v hm.1.f hl.1.f, lessA_v hl.1.f hm.2.1.f, lessA_v hm.2.1.f hl.2.1.f]
def freeI (out : List Lf) (a b : Ang) : Bool := out.all fun p => !crossL (a, b) p
def freeS (out : List Lf) (a b : Ang) : Bool := out.all fun p => !sCrossL (a, b) p
def freeQ (out : List Lf) (a b : Ang) : Bool := out.all fun p => !crossQ (a, b) p
theorem all_congr {xs : List Lf} {p q : Lf → Bool} (h : ∀ x ∈ xs, p x = q x) : xs.all p = xs.all q := by
  rw [Bool.eq_iff_iff, List.all_eq_true, List.all_eq_true]
  exact ⟨fun h2 x hx => by rw [← h x hx]; exact h2 x hx, fun h2 x hx => by rw [h x hx]; exact h2 x hx⟩
theorem freeI_Q (out : List Lf) (a b : Ang) (ho : ∀ x ∈ out, IsL x) (h : IsL (a, b)) : freeI out a b = freeQ out a b := all_congr fun x hx => by rw [crossQ_eq h (ho x hx)]
theorem freeS_Q (out : List Lf) (a b : Ang) (ho : ∀ x ∈ out, IsL x) (h : IsL (a, b)) : freeS out a b = freeQ out a b := all_congr fun x hx => by rw [← cross_eq h (ho x hx), crossQ_eq h (ho x hx)]
/-- Pairs none of which crosses another one. -/
def NC (out : List Lf) : Prop := out.Pairwise fun x y => crossQ y x = false
theorem gr_nc : ∀ (f : Nat) (out : List Lf) (l : List Ang), NC out → NC (gr freeQ f out l)
  | 0, out, l, h => h
  | f + 1, out, [], h => h
  | f + 1, out, a :: l, h => by
    rw [gr]
    split
    · rename_i b l' hp
      refine gr_nc f _ _ ?_
      have h1 := (popP_some hp).1
      unfold freeQ at h1
      rw [List.all_eq_true] at h1
      refine List.pairwise_append.2 ⟨h, by simp, fun x hx y hy => ?_⟩
      rw [List.mem_singleton.1 hy]
      simpa using h1 x hx
    · exact gr_nc f _ _ h
/-- The angles of a period. -/
def angsN (n : Nat) : List Ang := ((List.range (2 ^ n - 1)).map fun k : Nat => ofQ (k : Int) (2 ^ n - 1)).filter fun a => decide (perI a = n)
theorem pow_rng {n : Nat} (h : n ≤ 8) (h1 : 0 < n) : (1 : Int) ≤ 2 ^ n - 1 ∧ (2 : Int) ^ n - 1 ≤ 255 := by
  have : n = 1 ∨ n = 2 ∨ n = 3 ∨ n = 4 ∨ n = 5 ∨ n = 6 ∨ n = 7 ∨ n = 8 := by omega
  rcases this with rfl | rfl | rfl | rfl | rfl | rfl | rfl | rfl <;> decide
theorem pow_cast {n : Nat} : (((2 ^ n - 1 : Nat)) : Int) = 2 ^ n - 1 := by
  have : 1 ≤ 2 ^ n := Nat.one_le_two_pow
  rw [Int.natCast_sub this]; simp
theorem angs_asc {n : Nat} (h : n ≤ 8) (h1 : 0 < n) : Asc (angsN n) := by
  have hp := pow_rng h h1
  refine ⟨fun x hx => ?_, ?_⟩
  · obtain ⟨h2, _⟩ := List.mem_filter.1 hx
    obtain ⟨k, _, rfl⟩ := List.mem_map.1 h2
    exact ofQ_isA _ _ hp.1 (by omega)
  · refine List.Pairwise.filter _ ?_
    rw [List.pairwise_map]
    refine List.Pairwise.imp_of_mem (R := (· < ·)) (fun {a b} ha hb hab => ?_) List.pairwise_lt_range
    have ha := List.mem_range.1 ha
    have hb := List.mem_range.1 hb
    have e := @pow_cast n
    rw [cmp_ofQ _ _ _ _ hp.1 hp.1, Int.emod_eq_of_lt (by omega) (by omega), Int.emod_eq_of_lt (by omega) (by omega)]
    exact Int.mul_lt_mul_of_pos_right (by omega) (by omega)
theorem angs_mem {n : Nat} (h : n ≤ 8) (h1 : 0 < n) {x : Ang} (hx : IsA x) : x ∈ angsN n ↔ perI x = n := by
  constructor
  · intro h2
    have := (List.mem_filter.1 h2).2
    exact of_decide_eq_true this
  · intro h2
    rcases perI_cases x with ⟨m, h3, h4, h5, h6, h7⟩ | ⟨h3, h4⟩
    · have e : m = n := by omega
      subst e
      obtain ⟨k, hk, hq⟩ := per_ofQ hx h3 h5
      refine List.mem_filter.2 ⟨List.mem_map.2 ⟨k, List.mem_range.2 ?_, hq⟩, decide_eq_true h2⟩
      have := @pow_cast m
      omega
    · omega
/-- The ray pairs of the periods 2, 3 and so on, so many periods. -/
def prN : Nat → List Lf
  | 0 => []
  | m + 1 => gr freeQ 256 (prN m) (angsN (m + 2))
theorem prN_isL : ∀ {m : Nat}, m ≤ 7 → ∀ x ∈ prN m, IsL x
  | 0, _ => by simp [prN]
  | m + 1, h => gr_isL _ _ _ (prN_isL (by omega)) (angs_asc (by omega) (by omega))
theorem prN_nc : ∀ (m : Nat), NC (prN m)
  | 0 => List.Pairwise.nil
  | m + 1 => gr_nc _ _ _ (prN_nc m)
theorem angs_len (n : Nat) (h : n ≤ 8) : (angsN n).length ≤ 256 := by
  have h1 : (angsN n).length ≤ 2 ^ n - 1 := by
    refine Nat.le_trans (List.length_filter_le ..) ?_
    simp
  have : 2 ^ n ≤ 2 ^ 8 := Nat.pow_le_pow_right (by omega) h
  omega
end Go.Proofs.Ytadlnnjgocknhab.Fw
