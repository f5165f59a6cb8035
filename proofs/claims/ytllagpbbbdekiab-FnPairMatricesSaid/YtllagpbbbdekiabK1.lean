/- Plain laws of pair matrices: pairs of numbers, places in an orbit, rows. -/
import Derived.Test.YtllagpbbbdekiabL4
namespace Go.Proofs.Ytllagpbbbdekiab.Fw
set_option linter.unusedVariables false
set_option linter.unusedSimpArgs false
theorem mem_prI {i a : Int} {p : List Int} : ∀ {g : Nat}, p ∈ prI i a g ↔ ∃ c : Nat, c < g ∧ p = [i, a + c]
  | 0 => by simp [prI]
  | g + 1 => by
    rw [prI, List.mem_append, mem_prI]
    simp only [List.mem_singleton]
    constructor
    · rintro (⟨c, h1, h2⟩ | h)
      · exact ⟨c, by omega, h2⟩
      · exact ⟨g, by omega, h⟩
    · rintro ⟨c, h1, h2⟩
      by_cases h : c < g
      · exact .inl ⟨c, h, h2⟩
      · obtain rfl : c = g := by omega
        exact .inr h2
theorem mem_prJ {m : Int} {p : List Int} : ∀ {g : Nat}, p ∈ prJ m g ↔ ∃ i k : Int, p = [i, k] ∧ 1 ≤ i ∧ i ≤ g ∧ i < k ∧ k ≤ m
  | 0 => by
    simp only [prJ, List.not_mem_nil, false_iff]
    rintro ⟨i, k, _, h1, h2, _⟩; omega
  | g + 1 => by
    rw [prJ, List.mem_append, mem_prJ, mem_prI]
    constructor
    · rintro (⟨i, k, h1, h2, h3, h4⟩ | ⟨c, h1, h2⟩)
      · exact ⟨i, k, h1, h2, by omega, h4⟩
      · exact ⟨_, _, h2, by omega, by omega, by omega, by omega⟩
    · rintro ⟨i, k, h1, h2, h3, h4, h5⟩
      by_cases h : i ≤ g
      · exact .inl ⟨i, k, h1, h2, h, h4, h5⟩
      · obtain rfl : i = g + 1 := by omega
        exact .inr ⟨(k - (g + 2)).toNat, by omega, by rw [h1]; congr 2; omega⟩
theorem nodup_prI (i a : Int) : ∀ g, (prI i a g).Nodup
  | 0 => List.nodup_nil
  | g + 1 => by
    rw [prI, List.nodup_append]
    refine ⟨nodup_prI i a g, by simp, fun x hx y hy e => ?_⟩
    obtain ⟨c, h1, h2⟩ := mem_prI.1 hx
    simp only [List.mem_singleton] at hy
    subst e
    rw [h2] at hy
    simp only [List.cons.injEq, true_and, and_true] at hy
    omega
theorem nodup_prJ (m : Int) : ∀ g, (prJ m g).Nodup
  | 0 => List.nodup_nil
  | g + 1 => by
    rw [prJ, List.nodup_append]
    refine ⟨nodup_prJ m g, nodup_prI _ _ _, fun x hx y hy e => ?_⟩
    obtain ⟨i, k, h1, h2, h3, _⟩ := mem_prJ.1 hx
    obtain ⟨c, h4, h5⟩ := mem_prI.1 hy
    subst e
    rw [h1] at h5
    simp only [List.cons.injEq, and_true] at h5
    omega
def isP (a b : Int) (p : List Int) : Bool := decide (p.getD 0 0 = min a b ∧ p.getD 1 0 = max a b)
def addP (prs : List (List Int)) (row : List Int) (a b : Int) : List Int := (List.range row.length).map fun k => row.getD k 0 + (if isP a b (prs.getD k []) = true then 1 else 0)
theorem addP_len (prs : List (List Int)) (row : List Int) (a b : Int) : (addP prs row a b).length = row.length := by simp [addP]
theorem list_eq {α : Type} {l m : List α} (d : α) (h : l.length = m.length) (he : ∀ i, i < l.length → l.getD i d = m.getD i d) : l = m := by
  refine List.ext_getElem h fun i h1 h2 => ?_
  have := he i h1
  rwa [List.getD_eq_getElem?_getD, List.getD_eq_getElem?_getD, List.getElem?_eq_getElem h1, List.getElem?_eq_getElem h2] at this
theorem addP_get {prs : List (List Int)} {row : List Int} {a b : Int} {k : Nat} (h : k < row.length) : (addP prs row a b).getD k 0 = row.getD k 0 + (if isP a b (prs.getD k []) = true then 1 else 0) := by
  unfold addP
  rw [List.getD_eq_getElem?_getD, List.getElem?_map, List.getElem?_range h]; rfl
theorem isP_mem {m : Int} {g : Nat} {p : List Int} {a b : Int} (hp : p ∈ prJ m g) : isP a b p = true ↔ p = [min a b, max a b] := by
  obtain ⟨i, k, rfl, _⟩ := mem_prJ.1 hp
  simp [isP]
theorem addP_same {m : Int} {g : Nat} {row : List Int} {a : Int} (h : row.length ≤ (prJ m g).length) : addP (prJ m g) row a a = row := by
  refine list_eq 0 (addP_len _ _ _ _) fun k hk => ?_
  rw [addP_len] at hk
  rw [addP_get hk, if_neg, Int.add_zero]
  intro hh
  have hm : (prJ m g).getD k [] ∈ prJ m g := getD_mem (by omega)
  rw [isP_mem hm] at hh
  obtain ⟨i, j, h1, _, _, h2, _⟩ := mem_prJ.1 hm
  rw [h1] at hh
  simp only [List.cons.injEq, and_true] at hh
  omega
theorem place_pr {m : Int} {g : Nat} {a b : Int} (ha : 1 ≤ a) (hb : 1 ≤ b) (hne : a ≠ b) (ham : a ≤ m) (hbm : b ≤ m) (hag : a ≤ g) (hbg : b ≤ g) :
    ∃ n : Nat, idxP (isP a b) (prJ m g) = (n : Int) ∧ n < (prJ m g).length ∧ ∀ row : List Int, row.length = (prJ m g).length → addP (prJ m g) row a b = row.set n (row.getD n 0 + 1) := by
  have hex : [min a b, max a b] ∈ prJ m g := mem_prJ.2 ⟨_, _, rfl, by omega, by omega, by omega, by omega⟩
  rcases idxP_cases (isP a b) [] (prJ m g) with ⟨_, h2⟩ | ⟨n, h1, h2, h3, h4⟩
  · have := h2 _ hex
    have h3 : isP a b [min a b, max a b] = true := by simp [isP]
    rw [h3] at this; cases this
  · refine ⟨n, h1, h2, fun row hrow => list_eq 0 (by rw [addP_len, List.length_set]) fun k hk => ?_⟩
    rw [addP_len] at hk
    rw [addP_get hk]
    by_cases hkn : k = n
    · subst hkn
      rw [if_pos h3, getD_set (by omega)]
    · have hno : ¬ isP a b ((prJ m g).getD k []) = true := fun hh => by
        have hm1 : (prJ m g).getD k [] ∈ prJ m g := getD_mem (by omega)
        have hm2 : (prJ m g).getD n [] ∈ prJ m g := getD_mem h2
        rw [isP_mem hm1] at hh
        rw [isP_mem hm2] at h3
        have e : (prJ m g).getD k [] = (prJ m g).getD n [] := hh.trans h3.symm
        rw [List.getD_eq_getElem?_getD, List.getD_eq_getElem?_getD, List.getElem?_eq_getElem (by omega : k < (prJ m g).length), List.getElem?_eq_getElem h2] at e
        have hnd := List.pairwise_iff_getElem.1 (nodup_prJ m g)
        have e' : (prJ m g)[k]'(by omega) = (prJ m g)[n] := e
        rcases Nat.lt_or_gt_of_ne hkn with h | h
        · exact hnd k n _ h2 h e'
        · exact hnd n k h2 _ h e'.symm
      rw [if_neg hno, Int.add_zero]
      have e2 : (row.set n (row.getD n 0 + 1))[k]? = row[k]? := List.getElem?_set_ne (fun e => hkn e.symm)
      rw [List.getD_eq_getElem?_getD, List.getD_eq_getElem?_getD, e2]
def plA (xs : List Ang) (x : Ang) : Int := idxP (eqA x) xs + 1
theorem plA_rng (xs : List Ang) (x : Ang) (h : x ∈ xs) : 1 ≤ plA xs x ∧ plA xs x ≤ xs.length ∧ xs.getD (plA xs x - 1).toNat (0, 0) = x := by
  unfold plA
  rcases idxP_cases (eqA x) (0, 0) xs with ⟨_, h2⟩ | ⟨n, h1, h2, h3, _⟩
  · have := h2 x h
    simp [eqA] at this
  · have h3 : x = xs.getD n (0, 0) := of_decide_eq_true h3
    refine ⟨by omega, by omega, ?_⟩
    rw [h1, show ((n : Int) + 1 - 1).toNat = n by omega]; exact h3.symm
theorem plA_inj {xs : List Ang} {x y : Ang} (hx : x ∈ xs) (hy : y ∈ xs) (h : plA xs x = plA xs y) : x = y := by
  rw [← (plA_rng xs x hx).2.2, ← (plA_rng xs y hy).2.2, h]
theorem plA_head {x : Ang} {l : List Ang} : plA (x :: l) x = 1 := by
  unfold plA; simp [idxP, eqA]
structure Orb (xs : List Ang) : Prop where
  isA : ∀ x ∈ xs, IsA x
  dbl : ∀ x ∈ xs, doubleA x ∈ xs
  len : (xs.length : Int) ≤ 7
  pos : 1 ≤ (xs.length : Int)
theorem orbX_dbl {a : Ang} (h : IsA a) : ∀ x ∈ orbX a, doubleA x ∈ orbX a := by
  intro x hx
  unfold orbX at hx ⊢
  cases hl : lenA a with
  | none => rw [hl] at hx; simp at hx
  | some n =>
    rw [hl] at hx
    obtain ⟨j, hj, rfl⟩ := List.mem_map.1 hx
    have hj := List.mem_range.1 hj
    obtain ⟨_, h2, _⟩ := lenA_inv hl
    unfold stopA at h2
    rw [Bool.and_eq_true, decide_eq_true_iff, decide_eq_true_iff] at h2
    have e : doubleA (itA a j) = itA a (j + 1) := rfl
    rw [e]
    by_cases hjn : j + 1 < n
    · exact List.mem_map.2 ⟨j + 1, List.mem_range.2 hjn, rfl⟩
    · have : j + 1 = n := by omega
      rw [this, h2.2]
      exact List.mem_map.2 ⟨_, List.mem_range.2 h2.1, rfl⟩
theorem orbX_pos {a : Ang} (h : orbB a = true) : 1 ≤ (orbX a).length := by
  unfold orbB at h
  unfold orbX
  cases hl : lenA a with
  | none => rw [hl] at h; cases h
  | some n =>
    obtain ⟨_, h2, _⟩ := lenA_inv hl
    unfold stopA at h2
    rw [Bool.and_eq_true, decide_eq_true_iff, decide_eq_true_iff] at h2
    simp; omega
theorem orb8_orb {a : Ang} (h : IsA a ∧ ok8 a) : Orb (orb8 a) := by
  have e : orb8 a = orbX a := if_pos h
  rw [e]
  exact ⟨orbX_isA h.1, orbX_dbl h.1, h.2.2, by have := orbX_pos h.2.1; omega⟩
theorem orb8_N {a : Ang} (h : orbN8 a = 0) : IsA a ∧ ok8 a := by
  unfold orbN8 at h
  split at h
  · split at h
    · exact ⟨by assumption, by assumption⟩
    · cases h
  · cases h
def rowP (xs : List Ang) (p : List Int) : List Int :=
  let prs := prJ xs.length xs.length
  let x := xs.getD (p.getD 0 0 - 1).toNat (0, 0)
  let y := xs.getD (p.getD 1 0 - 1).toNat (0, 0)
  let z := List.replicate prs.length (0 : Int)
  if apB x y (xs.getD 0 (0, 0)) = true then addP prs (addP prs z (plA xs (doubleA x)) 1) (plA xs (doubleA y)) 1
  else addP prs z (plA xs (doubleA x)) (plA xs (doubleA y))
def matP (xs : List Ang) : List (List Int) := (prJ xs.length xs.length).map (rowP xs)
theorem rowP_len (xs : List Ang) (p : List Int) : (rowP xs p).length = (prJ xs.length xs.length).length := by
  unfold rowP; simp only; split <;> simp [addP_len]
theorem matP_len (xs : List Ang) : (matP xs).length = (prJ xs.length xs.length).length := by simp [matP]
theorem matP_sq (xs : List Ang) : ∀ r ∈ matP xs, r.length = (matP xs).length := by
  intro r hr
  obtain ⟨p, _, rfl⟩ := List.mem_map.1 hr
  rw [rowP_len, matP_len]
theorem prJ7 : ∀ n : Nat, n ≤ 7 → (prJ (n : Int) n).length ≤ 21 := by
  intro n hn
  have : ∀ n : Nat, n < 8 → (prJ (n : Int) n).length ≤ 21 := by decide +kernel
  exact this n (by omega)
def sumI : List Int → Int
  | [] => 0
  | x :: l => x + sumI l
theorem sumI_append : ∀ l m : List Int, sumI (l ++ m) = sumI l + sumI m
  | [], m => by simp [sumI]
  | x :: l, m => by simp only [List.cons_append, sumI, sumI_append l m]; omega
theorem sumI_set : ∀ (l : List Int) (n : Nat) (x : Int), n < l.length → sumI (l.set n x) = sumI l + x - l.getD n 0
  | [], n, x, h => by simp at h
  | y :: l, 0, x, h => by simp [sumI]; omega
  | y :: l, n + 1, x, h => by
    have := sumI_set l n x (by simpa using h)
    simp only [List.set_cons_succ, sumI, this, List.getD_cons_succ]; omega
theorem sumI_zero : ∀ n, sumI (List.replicate n 0) = 0
  | 0 => rfl
  | n + 1 => by rw [List.replicate_succ, sumI, sumI_zero n]; rfl
def Nn (s : Int) (r : List Int) : Prop := (∀ x ∈ r, 0 ≤ x) ∧ sumI r ≤ s
theorem Nn.le {s : Int} : ∀ {r : List Int}, Nn s r → ∀ x ∈ r, x ≤ s
  | [], _, x, hx => by simp at hx
  | y :: l, h, x, hx => by
    have hs : ∀ l : List Int, (∀ x ∈ l, 0 ≤ x) → 0 ≤ sumI l := fun l => by
      induction l with
      | nil => intro _; exact Int.le_refl _
      | cons z l ih => intro h; have := ih fun x hx => h x (by simp [hx]); have := h z (by simp); simp only [sumI]; omega
    have h1 := h.2
    simp only [sumI] at h1
    have h2 := hs l fun x hx => h.1 x (by simp [hx])
    have h3 := h.1 y (by simp)
    rcases List.mem_cons.1 hx with rfl | hx
    · omega
    · exact Nn.le (r := l) ⟨fun x hx => h.1 x (by simp [hx]), by omega⟩ x hx
theorem addP_nn {xs : List Ang} {row : List Int} {a b s : Int} (hr : row.length = (prJ xs.length xs.length).length) (ha : 1 ≤ a) (hb : 1 ≤ b) (ham : a ≤ xs.length) (hbm : b ≤ xs.length) (h : Nn s row) : Nn (s + 1) (addP (prJ xs.length xs.length) row a b) := by
  by_cases hne : a = b
  · subst hne
    rw [addP_same (by omega)]
    exact ⟨h.1, by have := h.2; omega⟩
  · obtain ⟨n, h1, h2, h3⟩ := place_pr (m := xs.length) (g := xs.length) ha hb hne ham hbm ham hbm
    rw [h3 row hr]
    have hmem : row.getD n 0 ∈ row := getD_mem (by omega)
    refine ⟨fun x hx => ?_, ?_⟩
    · rcases List.mem_or_eq_of_mem_set hx with hx | rfl
      · exact h.1 x hx
      · have := h.1 _ hmem; omega
    · rw [sumI_set _ _ _ (by omega)]
      have := h.2; omega
theorem rowP_nn {xs : List Ang} (ho : Orb xs) {p : List Int} (hp : p ∈ prJ xs.length xs.length) : Nn 2 (rowP xs p) := by
  obtain ⟨i, k, rfl, h1, h2, h3, h4⟩ := mem_prJ.1 hp
  have hx : xs.getD (i - 1).toNat (0, 0) ∈ xs := getD_mem (by omega)
  have hy : xs.getD (k - 1).toNat (0, 0) ∈ xs := getD_mem (by omega)
  obtain ⟨a1, a2, _⟩ := plA_rng xs _ (ho.dbl _ hx)
  obtain ⟨b1, b2, _⟩ := plA_rng xs _ (ho.dbl _ hy)
  have hz : Nn 0 (List.replicate (prJ xs.length xs.length).length (0 : Int)) := ⟨fun x hx => by rw [(List.mem_replicate.1 hx).2]; exact Int.le_refl _, by rw [sumI_zero]; exact Int.le_refl _⟩
  have hpos := ho.pos
  unfold rowP
  simp only [List.getD_cons_zero, List.getD_cons_succ]
  split
  · exact addP_nn (by rw [addP_len, List.length_replicate]) b1 (by omega) b2 (by omega) (addP_nn (by rw [List.length_replicate]) a1 (by omega) a2 (by omega) hz)
  · have := addP_nn (by rw [List.length_replicate]) a1 b1 a2 b2 hz
    exact ⟨this.1, by have := this.2; omega⟩
theorem matP_nn {xs : List Ang} (ho : Orb xs) : ∀ r ∈ matP xs, Nn 2 r := by
  intro r hr
  obtain ⟨p, hp, rfl⟩ := List.mem_map.1 hr
  exact rowP_nn ho hp
end Go.Proofs.Ytllagpbbbdekiab.Fw
