/- Plain laws: which classes hold a number, images of classes, cycles. No program. -/
import Derived.Test.YtllagpbbbdekiacT1
namespace Go.Proofs.Ytllagpbbbdekiac.Fw
set_option linter.unusedVariables false
set_option linter.unusedSimpArgs false
def eqN (x y : Int) : Bool := decide (x = y)
def hasN (x : Int) (S : List Int) : Bool := S.any (eqN x)
def bothN (x y : Int) (S : List Int) : Bool := hasN x S && hasN y S
theorem mem_own {n : Nat} {c : List Int} {g : Nat} {x : Int} : hasN x (ownL c g n) = true ↔ (0 ≤ x ∧ x < n) ∧ lab c x.toNat = (g : Int) := by
  unfold hasN ownL
  rw [List.any_eq_true]
  constructor
  · rintro ⟨y, hy, e⟩
    have e := of_decide_eq_true e
    subst e
    obtain ⟨l, hl, rfl⟩ := List.mem_map.1 hy
    obtain ⟨h1, h2⟩ := List.mem_filter.1 hl
    rw [List.mem_range] at h1
    exact ⟨by omega, of_decide_eq_true h2⟩
  · rintro ⟨⟨h1, h2⟩, h3⟩
    refine ⟨x, List.mem_map.2 ⟨x.toNat, List.mem_filter.2 ⟨List.mem_range.2 (by omega), decide_eq_true h3⟩, by omega⟩, decide_eq_true rfl⟩
theorem joined_law {n : Nat} {c : List Int} (h : Can n c) {k l : Int} (hk : 0 ≤ k ∧ k < n) (hl : 0 ≤ l ∧ l < n) : (clsL n c).any (bothN k l) = decide (lab c k.toNat = lab c l.toNat) := by
  rw [Bool.eq_iff_iff, List.any_eq_true, decide_eq_true_iff]
  unfold clsL clsG
  constructor
  · rintro ⟨S, hS, e⟩
    obtain ⟨g, _, rfl⟩ := List.mem_map.1 hS
    unfold bothN at e
    rw [Bool.and_eq_true, mem_own, mem_own] at e
    rw [e.1.2, e.2.2]
  · intro e
    have h1 := h.lt (i := k.toNat) (by omega)
    have h2 := h.nn k.toNat (by omega)
    refine ⟨_, List.mem_map.2 ⟨(lab c k.toNat).toNat, List.mem_filter.2 ⟨List.mem_range.2 h1, decide_eq_true ?_⟩, rfl⟩, ?_⟩
    · rw [h.idem _ (by omega)]; omega
    · unfold bothN
      rw [Bool.and_eq_true, mem_own, mem_own]
      exact ⟨⟨hk, by omega⟩, hl, by omega⟩
def rootsL (n : Nat) (c : List Int) : List Nat := (List.range n).filter fun k => decide (lab c k = (k : Int))
theorem clsL_roots (n : Nat) (c : List Int) : clsL n c = (rootsL n c).map fun k => ownL c k n := rfl
theorem roots_mem {n : Nat} {c : List Int} {k : Nat} : k ∈ rootsL n c ↔ k < n ∧ lab c k = (k : Int) := by
  unfold rootsL
  rw [List.mem_filter, List.mem_range, decide_eq_true_iff]
theorem roots_nodup (n : Nat) (c : List Int) : (rootsL n c).Nodup := List.Pairwise.filter _ List.nodup_range
theorem own_head {n : Nat} {c : List Int} (h : Can n c) {k : Nat} (hk : k < n) (he : lab c k = (k : Int)) : (ownL c k n).getD 0 0 = (k : Int) := by
  have step : ∀ m, k < m → m ≤ n → (ownL c k m).getD 0 0 = (k : Int) ∧ ownL c k m ≠ [] := fun m => by
    induction m with
    | zero => intro hm; omega
    | succ m ih =>
      intro hm hn
      rw [ownL_next]
      rcases Nat.lt_or_ge k m with h1 | h1
      · obtain ⟨h2, h3⟩ := ih h1 (by omega)
        split
        · refine ⟨?_, by simp⟩
          cases hl : ownL c k m with
          | nil => exact absurd hl h3
          | cons y l => rw [hl] at h2; exact h2
        · exact ⟨h2, h3⟩
      · obtain rfl : m = k := by omega
        rw [if_pos he, ownL_low h _ (Nat.le_refl _) (by omega)]
        exact ⟨rfl, by simp⟩
  exact (step n hk (Nat.le_refl _)).1
theorem cls_one {n : Nat} {c : List Int} (h : Can n c) {x : Int} (hx : 0 ≤ x ∧ x < n) :
    ∃ j0, j0 < (clsL n c).length ∧ ∀ j, j < (clsL n c).length → (hasN x ((clsL n c).getD j []) = true ↔ j = j0) ∧ (((clsL n c).getD j []).getD 0 0 = lab c x.toNat ↔ j = j0) := by
  have hr : (lab c x.toNat).toNat ∈ rootsL n c := roots_mem.2 ⟨h.lt (by omega), by rw [h.idem _ (by omega)]; have := h.nn x.toNat (by omega); omega⟩
  obtain ⟨j0, hj0, e0⟩ := List.getElem_of_mem hr
  have hlen : (clsL n c).length = (rootsL n c).length := by rw [clsL_roots, List.length_map]
  refine ⟨j0, by omega, fun j hj => ?_⟩
  rw [hlen] at hj
  have e1 : (clsL n c).getD j [] = ownL c ((rootsL n c)[j]) n := by
    rw [clsL_roots, List.getD_eq_getElem?_getD, List.getElem?_map, List.getElem?_eq_getElem hj]; rfl
  obtain ⟨m1, m2⟩ := roots_mem.1 (List.getElem_mem hj)
  have nn := h.nn x.toNat (by omega)
  have uniq : (lab c x.toNat = ((rootsL n c)[j] : Int)) ↔ j = j0 := by
    constructor
    · intro e
      have : (rootsL n c)[j] = (rootsL n c)[j0] := by rw [e0]; omega
      exact (List.getElem_inj (roots_nodup n c)).1 this
    · rintro rfl
      rw [e0]; omega
  rw [e1]
  refine ⟨?_, ?_⟩
  · rw [mem_own, ← uniq]
    exact ⟨fun e => e.2, fun e => ⟨hx, e⟩⟩
  · rw [own_head h m1 m2, ← uniq]
    exact ⟨fun e => e.symm, fun e => e.symm⟩
def dblN (n : Int) (S : List Int) : Int := Int.tmod (2 * S.getD 0 0) n
def imgG (L : List (List Int)) (n : Int) (g : Nat) : List Int := (L.take g).map fun S => idxP (hasN (dblN n S)) L
theorem imgG_len (L : List (List Int)) (n : Int) (g : Nat) : (imgG L n g).length ≤ g := by unfold imgG; rw [List.length_map, List.length_take]; omega
theorem imgG_next (L : List (List Int)) (n : Int) {g : Nat} (h : g < L.length) : imgG L n (g + 1) = imgG L n g ++ [idxP (hasN (dblN n (L.getD g []))) L] := by
  unfold imgG
  rw [List.take_add_one, List.map_append, List.getElem?_eq_getElem h, List.getD_eq_getElem?_getD, List.getElem?_eq_getElem h]; rfl
def occG (L : List (List Int)) (r : Int) (j : Nat) : List Int := ((List.range j).filter fun j => decide ((L.getD j []).getD 0 0 = r)).map fun (j : Nat) => (j : Int)
theorem occG_next (L : List (List Int)) (r : Int) (j : Nat) : occG L r (j + 1) = if (L.getD j []).getD 0 0 = r then occG L r j ++ [(j : Int)] else occG L r j := by
  unfold occG
  rw [List.range_succ, List.filter_append, List.map_append]
  split
  · rename_i e
    rw [List.filter_cons, if_pos (decide_eq_true e)]; rfl
  · rename_i e
    rw [List.filter_cons, if_neg (fun h => e (of_decide_eq_true h))]; simp
theorem occG_len (L : List (List Int)) (r : Int) (j : Nat) : (occG L r j).length ≤ j := by
  unfold occG
  rw [List.length_map]
  exact Nat.le_trans (List.length_filter_le _ _) (by simp)
theorem occ_all {n : Nat} {c : List Int} (h : Can n c) {x : Int} (hx : 0 ≤ x ∧ x < n) : occG (clsL n c) (lab c x.toNat) (clsL n c).length = [idxP (hasN x) (clsL n c)] := by
  obtain ⟨j0, h0, hj⟩ := cls_one h hx
  have e1 : idxP (hasN x) (clsL n c) = (j0 : Int) := idxP_found (hasN x) (clsL n c) j0 [] h0 (fun j hlt => by
    cases hb : hasN x ((clsL n c).getD j []) with
    | false => rfl
    | true => have := ((hj j (by omega)).1).1 hb; omega) (((hj j0 h0).1).2 rfl)
  have e2 : ∀ j, j ≤ (clsL n c).length → occG (clsL n c) (lab c x.toNat) j = if j0 < j then [(j0 : Int)] else [] := fun j => by
    induction j with
    | zero => intro _; rfl
    | succ j ih =>
      intro hle
      have hi := (hj j (by omega)).2
      rw [occG_next, ih (by omega)]
      by_cases e : j = j0
      · subst e
        rw [if_pos (hi.2 rfl), if_neg (Nat.lt_irrefl _), if_pos (Nat.lt_succ_self _)]; rfl
      · rw [if_neg (fun h => e (hi.1 h))]
        by_cases hlt : j0 < j
        · rw [if_pos hlt, if_pos (by omega)]
        · rw [if_neg hlt, if_neg (by omega)]
  rw [e2 _ (Nat.le_refl _), if_pos h0, e1]
theorem cls_head {n : Nat} {c : List Int} (h : Can n c) {j : Nat} (hj : j < (clsL n c).length) : ∃ k : Nat, k < n ∧ ((clsL n c).getD j []).getD 0 0 = (k : Int) ∧ ((clsL n c).getD j []).length ≠ 0 := by
  have hlen : (clsL n c).length = (rootsL n c).length := by rw [clsL_roots, List.length_map]
  rw [hlen] at hj
  have e1 : (clsL n c).getD j [] = ownL c ((rootsL n c)[j]) n := by
    rw [clsL_roots, List.getD_eq_getElem?_getD, List.getElem?_map, List.getElem?_eq_getElem hj]; rfl
  obtain ⟨m1, m2⟩ := roots_mem.1 (List.getElem_mem hj)
  refine ⟨_, m1, by rw [e1, own_head h m1 m2], ?_⟩
  rw [e1]
  exact fun e => (ownL_ne h m1).2 m2 (List.eq_nil_of_length_eq_zero e)
theorem dblN_in {n : Nat} {c : List Int} (h : Can n c) {j : Nat} (hj : j < (clsL n c).length) : 0 ≤ dblN n ((clsL n c).getD j []) ∧ dblN n ((clsL n c).getD j []) < n := by
  obtain ⟨k, h1, h2, _⟩ := cls_head h hj
  unfold dblN
  rw [h2]
  exact ⟨Int.tmod_nonneg _ (by omega), Int.tmod_lt_of_pos _ (by omega)⟩
theorem img_in {n : Nat} {c : List Int} (h : Can n c) {i : Nat} (hi : i < (clsL n c).length) : 0 ≤ idxP (hasN (dblN n ((clsL n c).getD i []))) (clsL n c) ∧ idxP (hasN (dblN n ((clsL n c).getD i []))) (clsL n c) < (clsL n c).length := by
  obtain ⟨j0, h0, hj⟩ := cls_one h (dblN_in h hi)
  rw [idxP_found _ (clsL n c) j0 [] h0 (fun j hlt => by
    cases hb : hasN (dblN n ((clsL n c).getD i [])) ((clsL n c).getD j []) with
    | false => rfl
    | true => have := ((hj j (by omega)).1).1 hb; omega) (((hj j0 h0).1).2 rfl)]
  omega
def itN (f : Nat → Nat) : Nat → Nat → Nat
  | 0, i => i
  | k + 1, i => f (itN f k i)
theorem itN_add (f : Nat → Nat) (a b i : Nat) : itN f (a + b) i = itN f a (itN f b i) := by
  induction a with
  | zero => rw [Nat.zero_add]; rfl
  | succ a ih => rw [Nat.add_right_comm]; exact congrArg f ih
def pthG (f : Nat → Nat) (i r : Nat) : List Int := (List.range r).map fun k => (itN f k i : Int)
theorem pthG_len (f : Nat → Nat) (i r : Nat) : (pthG f i r).length = r := by unfold pthG; simp
theorem pthG_next (f : Nat → Nat) (i r : Nat) : pthG f i (r + 1) = pthG f i r ++ [(itN f r i : Int)] := by unfold pthG; rw [List.range_succ, List.map_append]; rfl
theorem pthG_at (f : Nat → Nat) (i : Nat) {r k : Nat} (h : k < r) : (pthG f i r).getD k 0 = (itN f k i : Int) := by
  unfold pthG
  rw [List.getD_eq_getElem?_getD, List.getElem?_map, List.getElem?_range h]; rfl
theorem pthG_has (f : Nat → Nat) (i r : Nat) (y : Nat) : hasN (y : Int) (pthG f i r) = true ↔ ∃ k, k < r ∧ itN f k i = y := by
  unfold hasN pthG
  rw [List.any_eq_true]
  constructor
  · rintro ⟨z, hz, e⟩
    obtain ⟨k, hk, rfl⟩ := List.mem_map.1 hz
    have e := of_decide_eq_true e
    exact ⟨k, List.mem_range.1 hk, by omega⟩
  · rintro ⟨k, hk, rfl⟩
    exact ⟨_, List.mem_map.2 ⟨k, List.mem_range.2 hk, rfl⟩, decide_eq_true rfl⟩
def Dst (f : Nat → Nat) (i r : Nat) : Prop := ∀ a b, a < b → b < r → itN f a i ≠ itN f b i
theorem Dst.next {f : Nat → Nat} {i r : Nat} (h : Dst f i r) (hn : ∀ k, k < r → itN f k i ≠ itN f r i) : Dst f i (r + 1) := fun a b hab hb => by
  rcases Nat.lt_or_ge b r with h1 | h1
  · exact h a b hab h1
  · obtain rfl : b = r := by omega
    exact hn a hab
structure IsPer (f : Nat → Nat) (i p : Nat) : Prop where
  pos : 0 < p
  back : itN f p i = i
  least : ∀ q, 0 < q → q < p → itN f q i ≠ i
theorem IsPer.uniq {f : Nat → Nat} {i p q : Nat} (h : IsPer f i p) (h' : IsPer f i q) : p = q := by
  rcases Nat.lt_trichotomy p q with hl | rfl | hl
  · exact absurd h.back (h'.least p h.pos hl)
  · rfl
  · exact absurd h'.back (h.least q h'.pos hl)
theorem IsPer.dst {f : Nat → Nat} {i p : Nat} (h : IsPer f i p) : Dst f i p := fun a b hab hb e => by
  have e1 : itN f (p - b + a) i = itN f (p - b + b) i := by rw [itN_add, itN_add, e]
  rw [show p - b + b = p by omega, h.back] at e1
  exact h.least (p - b + a) (by omega) (by omega) e1
theorem nodup_len : ∀ (n : Nat) (l : List Nat), l.Nodup → (∀ x ∈ l, x < n) → l.length ≤ n
  | 0, l, _, h => by
    cases l with
    | nil => exact Nat.le_refl _
    | cons x l => exact absurd (h x (by simp)) (Nat.not_lt_zero _)
  | n + 1, l, hd, h => by
    by_cases hm : n ∈ l
    · have h1 := nodup_len n (l.erase n) (hd.erase _) fun x hx => by
        have h2 := h x (List.mem_of_mem_erase hx)
        have h3 : x ≠ n := fun e => by
          subst e
          exact (List.Nodup.not_mem_erase hd) hx
        omega
      rw [List.length_erase_of_mem hm] at h1
      omega
    · have := nodup_len n l hd fun x hx => by
        have h2 := h x hx
        have h3 : x ≠ n := fun e => hm (e ▸ hx)
        omega
      omega
theorem itN_lt {f : Nat → Nat} {N i : Nat} (hf : ∀ k, k < N → f k < N) (hi : i < N) : ∀ k, itN f k i < N
  | 0 => hi
  | k + 1 => hf _ (itN_lt hf hi k)
theorem Dst.le {f : Nat → Nat} {i r N : Nat} (h : Dst f i r) (hf : ∀ k, k < N → f k < N) (hi : i < N) : r ≤ N := by
  have h1 := nodup_len N ((List.range r).map fun k => itN f k i) (by
    rw [List.Nodup, List.pairwise_map]
    refine List.Pairwise.imp_of_mem ?_ (List.pairwise_lt_range (n := r))
    intro a b ha hb hab
    exact h a b hab (List.mem_range.1 hb)) (fun x hx => by
    obtain ⟨k, _, rfl⟩ := List.mem_map.1 hx
    exact itN_lt hf hi k)
  simpa using h1
theorem per_end {f : Nat → Nat} {i r : Nat} (hr : 0 < r) (h : Dst f i r) (hs : ∃ k, k < r ∧ itN f k i = itN f r i) : (itN f r i = i → IsPer f i r) ∧ (itN f r i ≠ i → ∀ p, ¬ IsPer f i p) := by
  refine ⟨fun e => ⟨hr, e, fun q h1 h2 e2 => h 0 q h1 h2 e2.symm⟩, fun hne p hp => ?_⟩
  rcases Nat.lt_trichotomy p r with hl | rfl | hl
  · exact h 0 p hp.pos hl hp.back.symm
  · exact hne hp.back
  · obtain ⟨s, h1, h2⟩ := hs
    exact hp.dst s r h1 hl h2
open Classical in
noncomputable def cycO (f : Nat → Nat) (i : Nat) : List (List Int) := if h : ∃ p, IsPer f i p then (if ∀ k, k < h.choose → i ≤ itN f k i then [pthG f i h.choose] else []) else []
theorem cycO_none {f : Nat → Nat} {i : Nat} (h : ∀ p, ¬ IsPer f i p) : cycO f i = [] := by
  unfold cycO
  rw [dif_neg fun ⟨p, hp⟩ => h p hp]
theorem cycO_some {f : Nat → Nat} {i p : Nat} (h : IsPer f i p) (hm : ∀ k, k < p → i ≤ itN f k i) : cycO f i = [pthG f i p] := by
  unfold cycO
  have hex : ∃ p, IsPer f i p := ⟨p, h⟩
  rw [dif_pos hex]
  have e : hex.choose = p := hex.choose_spec.uniq h
  rw [e, if_pos hm]
theorem cycO_low {f : Nat → Nat} {i p : Nat} (h : IsPer f i p) (hm : ¬ ∀ k, k < p → i ≤ itN f k i) : cycO f i = [] := by
  unfold cycO
  have hex : ∃ p, IsPer f i p := ⟨p, h⟩
  rw [dif_pos hex]
  have e : hex.choose = p := hex.choose_spec.uniq h
  rw [e, if_neg hm]
theorem cycO_len (f : Nat → Nat) (i : Nat) : (cycO f i).length ≤ 1 := by
  unfold cycO
  split
  · split <;> simp
  · simp
noncomputable def cycG (f : Nat → Nat) : Nat → List (List Int)
  | 0 => []
  | g + 1 => cycG f g ++ cycO f g
theorem cycG_len (f : Nat → Nat) : ∀ g, (cycG f g).length ≤ g
  | 0 => Nat.le_refl _
  | g + 1 => by
    have h1 := cycG_len f g
    have h2 := cycO_len f g
    simp only [cycG, List.length_append]
    omega
theorem cycO_row {f : Nat → Nat} {i N : Nat} (hf : ∀ k, k < N → f k < N) (hi : i < N) : ∀ r ∈ cycO f i, r.length ≤ N := fun r hr => by
  unfold cycO at hr
  split at hr
  · rename_i h
    split at hr
    · rw [List.mem_singleton] at hr
      subst hr
      rw [pthG_len]
      exact h.choose_spec.dst.le hf hi
    · cases hr
  · cases hr
theorem cycG_row {f : Nat → Nat} {N : Nat} (hf : ∀ k, k < N → f k < N) : ∀ g, g ≤ N → ∀ r ∈ cycG f g, r.length ≤ N
  | 0, _, r, hr => by cases hr
  | g + 1, hg, r, hr => by
    rcases List.mem_append.1 hr with h | h
    · exact cycG_row hf g (by omega) r h
    · exact cycO_row hf (by omega) r h
end Go.Proofs.Ytllagpbbbdekiac.Fw
