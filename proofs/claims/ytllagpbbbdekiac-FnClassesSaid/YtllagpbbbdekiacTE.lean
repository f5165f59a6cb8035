/- Plain laws: classes hold each number once, with equal letters; their images; joined classes are made of classes. -/
import Derived.Test.YtllagpbbbdekiacTD
import Derived.Test.YtllagpbbbdekiacTB
import Derived.Test.YtllagpbbbdekiacT10
import Derived.Test.YtllagpbbbdekiacT11
namespace Go.Proofs.Ytllagpbbbdekiac.Fw
set_option linter.unusedVariables false
set_option linter.unusedSimpArgs false
theorem part_canR {n : Nat} {c0 : List Int} (q : Nat → Sq) (h : Can n c0) : Part n c0 (fun x y => q x = q y) (canR n c0 q) (fun x y => q x = q y) := by
  have step : ∀ k, k ≤ n → ∃ c, StP n c0 q k c := fun k => by
    induction k with
    | zero => intro _; exact ⟨c0, StP.start q h⟩
    | succ k ih =>
      intro hk
      obtain ⟨c, hc⟩ := ih (by omega)
      by_cases hh : ∃ l, l < k ∧ q l = q k
      · obtain ⟨l, h1, h2⟩ := hh
        exact ⟨_, hc.known (by omega) h1 h2⟩
      · exact ⟨c, hc.new fun l hl e => hh ⟨l, hl, e⟩⟩
  obtain ⟨c, hc⟩ := step n (Nat.le_refl _)
  rw [← hc.done]
  exact hc.mono fun x y hx hy e => hc.eq x y hx hy ⟨hx, hy, e⟩
theorem lab1_iff (t : Ang) (n : Int) {x y : Nat} (hx : x < n.toNat) (hy : y < n.toNat) : lab (lab1 t n) x = lab (lab1 t n) y ↔ qI t n 1 x = qI t n 1 y := by
  have h := part_canR (qI t n 1) (rngI_can n.toNat)
  refine ⟨fun e => h.min (fun x y => qI t n 1 x = qI t n 1 y) ⟨fun _ => rfl, fun e => e.symm, fun e f => e.trans f⟩ (fun a b ha hb e2 => ?_) (fun _ _ _ _ e => e) x y hx hy e, fun e => h.eq x y hx hy e⟩
  rw [rngI_lab ha, rngI_lab hb] at e2
  have : a = b := by omega
  rw [this]
theorem lab2_old (t u : Ang) (n : Int) {x y : Nat} (hx : x < n.toNat) (hy : y < n.toNat) (h : lab (lab1 t n) x = lab (lab1 t n) y) : lab (lab2 t u n) x = lab (lab2 t u n) y :=
  (part_canR (qI u n (-1)) (lab1_can t n)).old x y hx hy h
theorem dbl_part (k n : Int) (hn : 1 ≤ n) : doubleA (ofQ k n) = ofQ (2 * k % n) n := by
  have hf := ofQ_f k n hn
  have hf2 := ofQ_f (2 * k % n) n hn
  refine (eq_v (double_f hf) hf2).2 ?_
  rw [v_double hf, v_ofQ _ _ hn, v_ofQ _ _ hn]
  have hr : (0 : Rat) < (n : Rat) := rpos hn
  have h0 : 0 ≤ k % n := Int.emod_nonneg _ (by omega)
  have h1 : k % n < n := Int.emod_lt_of_pos _ (by omega)
  obtain ⟨m, hm⟩ : ∃ m, m = k % n := ⟨_, rfl⟩
  have e0 : 2 * k % n % n = (2 * m) % n := by
    rw [Int.emod_emod_of_dvd _ (Int.dvd_refl n), hm, Int.mul_emod 2 k n, Int.mul_emod 2 (k % n) n, Int.emod_emod_of_dvd _ (Int.dvd_refl n)]
  rw [e0, ← hm]
  rw [← hm] at h0 h1
  have hlt : (m : Rat) / (n : Rat) < 1 / 2 ↔ 2 * m < n := by
    have := div_lt_div (n := m) (m := 1) (d := n) (e := 2) hn (by omega)
    simp only [Rat.intCast_one] at this
    rw [show ((2 : Int) : Rat) = 2 from rfl] at this
    rw [this]
    omega
  have hne : (n : Rat) ≠ 0 := rne hn
  by_cases h2 : 2 * m < n
  · rw [if_pos (hlt.2 h2), Int.emod_eq_of_lt (by omega) h2, Rat.intCast_mul]
    show 2 * ((m : Rat) / n) = 2 * (m : Rat) / n
    grind
  · rw [if_neg (fun h => h2 (hlt.1 h)), ← Int.sub_emod_right, Int.emod_eq_of_lt (by omega) (by omega), Rat.intCast_sub, Rat.intCast_mul]
    show 2 * ((m : Rat) / n) - 1 = (2 * (m : Rat) - n) / n
    grind
theorem qI_part (t : Ang) (n : Int) (k : Nat) : qI t n 1 k = itR (ofQ (k : Int) n) t := by unfold qI; rw [Int.one_mul]
theorem lab1_dbl (t : Ang) {n : Int} (hn : OkN n) {x y : Nat} (hx : x < n.toNat) (hy : y < n.toNat) (h : lab (lab1 t n) x = lab (lab1 t n) y) : lab (lab1 t n) (2 * (x : Int) % n).toNat = lab (lab1 t n) (2 * (y : Int) % n).toNat := by
  have hr : ∀ z : Int, 0 ≤ z % n ∧ z % n < n := fun z => ⟨Int.emod_nonneg _ (by have := hn.1; omega), Int.emod_lt_of_pos _ (by have := hn.1; omega)⟩
  have h1 := hr (2 * (x : Int))
  have h2 := hr (2 * (y : Int))
  rw [lab1_iff t n hx hy, qI_part, qI_part] at h
  rw [lab1_iff t n (by omega) (by omega), qI_part, qI_part]
  have c1 : (((2 * (x : Int) % n).toNat : Nat) : Int) = 2 * (x : Int) % n := by omega
  have c2 : (((2 * (y : Int) % n).toNat : Nat) : Int) = 2 * (y : Int) % n := by omega
  rw [c1, c2, ← dbl_part _ _ hn.1, ← dbl_part _ _ hn.1]
  have o := fun z : Int => (part_isA z n hn.1 hn.2).2
  exact itR_dbl (o _) (o _) (by rw [dbl_part _ _ hn.1]; exact o _) (by rw [dbl_part _ _ hn.1]; exact o _) h
theorem lab1_let (t : Ang) {n : Int} (hn : OkN n) {x y : Nat} (hx : x < n.toNat) (hy : y < n.toNat) (h : lab (lab1 t n) x = lab (lab1 t n) y) : lb (ofQ (x : Int) n) t = lb (ofQ (y : Int) n) t := by
  rw [lab1_iff t n hx hy, qI_part, qI_part] at h
  exact itR_let (part_isA _ n hn.1 hn.2).2 (part_isA _ n hn.1 hn.2).2 h
def cix (L : List (List Int)) (x : Int) : Int := idxP (hasN x) L
theorem cls_row {n : Nat} {c : List Int} (h : Can n c) {i : Nat} (hi : i < (clsL n c).length) : ∃ k, k < n ∧ lab c k = (k : Int) ∧ (clsL n c).getD i [] = ownL c k n := by
  have hlen : (clsL n c).length = (rootsL n c).length := by rw [clsL_roots, List.length_map]
  rw [hlen] at hi
  obtain ⟨m1, m2⟩ := roots_mem.1 (List.getElem_mem hi)
  exact ⟨_, m1, m2, by rw [clsL_roots, List.getD_eq_getElem?_getD, List.getElem?_map, List.getElem?_eq_getElem hi]; rfl⟩
theorem has_get {S : List Int} {j : Nat} (h : j < S.length) : hasN (S.getD j 0) S = true := by
  unfold hasN
  exact List.any_eq_true.2 ⟨_, getD_mem h, decide_eq_true rfl⟩
theorem has_inv {S : List Int} {x : Int} (h : hasN x S = true) : ∃ j, j < S.length ∧ S.getD j 0 = x := by
  unfold hasN at h
  obtain ⟨y, hy, e⟩ := List.any_eq_true.1 h
  obtain ⟨j, hj, rfl⟩ := List.mem_iff_getElem.1 hy
  exact ⟨j, hj, by rw [List.getD_eq_getElem?_getD, List.getElem?_eq_getElem hj]; exact (of_decide_eq_true e).symm⟩
theorem cls_at {n : Nat} {c : List Int} (h : Can n c) {i j : Nat} (hi : i < (clsL n c).length) (hj : j < ((clsL n c).getD i []).length) :
    (0 ≤ ((clsL n c).getD i []).getD j 0 ∧ ((clsL n c).getD i []).getD j 0 < n) ∧ cix (clsL n c) (((clsL n c).getD i []).getD j 0) = (i : Int) ∧ lab c (((clsL n c).getD i []).getD j 0).toNat = ((clsL n c).getD i []).getD 0 0 := by
  have hh := has_get hj
  obtain ⟨k, k1, k2, k3⟩ := cls_row h hi
  have hm := hh
  rw [k3, mem_own] at hm
  rw [← k3] at hm
  obtain ⟨hr, hl⟩ := hm
  refine ⟨hr, ?_, ?_⟩
  · obtain ⟨j0, h0, hj0⟩ := cls_one h hr
    have e : i = j0 := ((hj0 i hi).1).1 hh
    subst e
    exact idxP_found _ (clsL n c) i [] h0 (fun j' hlt => by
      cases hb : hasN (((clsL n c).getD i []).getD j 0) ((clsL n c).getD j' []) with
      | false => rfl
      | true => have := ((hj0 j' (by omega)).1).1 hb; omega) hh
  · rw [hl, k3, own_head h k1 k2]
theorem cls_of {n : Nat} {c : List Int} (h : Can n c) {x : Nat} (hx : x < n) : ∃ i j : Nat, i < (clsL n c).length ∧ cix (clsL n c) x = (i : Int) ∧ j < ((clsL n c).getD i []).length ∧ ((clsL n c).getD i []).getD j 0 = (x : Int) ∧ ((clsL n c).getD i []).getD 0 0 = lab c x := by
  obtain ⟨j0, h0, hj0⟩ := cls_one h (x := (x : Int)) ⟨by omega, by omega⟩
  have hh := ((hj0 j0 h0).1).2 rfl
  obtain ⟨j, hj, e⟩ := has_inv hh
  refine ⟨j0, j, h0, ?_, hj, e, ?_⟩
  · have := (cls_at h h0 hj).2.1
    rw [e] at this
    exact this
  · have := ((hj0 j0 h0).2).2 rfl
    simpa using this
theorem cix_lab {n : Nat} {c : List Int} (h : Can n c) {x y : Nat} (hx : x < n) (hy : y < n) (e : lab c x = lab c y) : cix (clsL n c) x = cix (clsL n c) y := by
  obtain ⟨j0, h0, hj0⟩ := cls_one h (x := (x : Int)) ⟨by omega, by omega⟩
  obtain ⟨i, j, i1, i2, i3, i4, i5⟩ := cls_of h hy
  obtain ⟨i', j', i1', i2', i3', i4', i5'⟩ := cls_of h hx
  have a := ((hj0 i i1).2).1 (by rw [i5, ← e]; simp)
  have b := ((hj0 i' i1').2).1 (by rw [i5']; simp)
  rw [i2, i2', a, b]
def totG (L : List (List Int)) (g : Nat) : Nat := ((L.take g).map List.length).sum
theorem totG_next (L : List (List Int)) {g : Nat} (h : g < L.length) : totG L (g + 1) = totG L g + (L.getD g []).length := by
  unfold totG
  rw [List.take_add_one, List.map_append, List.sum_append, List.getElem?_eq_getElem h, List.getD_eq_getElem?_getD, List.getElem?_eq_getElem h]; simp
theorem count_split (c : List Int) (g : Nat) : ∀ l : List Nat, (l.filter fun x => decide (lab c x < ((g + 1 : Nat) : Int))).length = (l.filter fun x => decide (lab c x < (g : Int))).length + (l.filter fun x => decide (lab c x = (g : Int))).length
  | [] => rfl
  | x :: l => by
    have ih := count_split c g l
    simp only [List.filter_cons]
    by_cases h1 : lab c x < (g : Int)
    · rw [if_pos (decide_eq_true (show lab c x < ((g + 1 : Nat) : Int) by omega)), if_pos (decide_eq_true h1), if_neg (by simp; omega)]
      simp only [List.length_cons]; omega
    · by_cases h2 : lab c x = (g : Int)
      · rw [if_pos (decide_eq_true (show lab c x < ((g + 1 : Nat) : Int) by omega)), if_neg (by simpa using h1), if_pos (decide_eq_true h2)]
        simp only [List.length_cons]; omega
      · rw [if_neg (by simp; omega), if_neg (by simpa using h1), if_neg (by simpa using h2)]
        exact ih
theorem cls_total {n : Nat} {c : List Int} (h : Can n c) : totG (clsL n c) (clsL n c).length = n := by
  have key : ∀ g, g ≤ n → ((clsG n c g).map List.length).sum = ((List.range n).filter fun x => decide (lab c x < (g : Int))).length := fun g => by
    induction g with
    | zero =>
      intro _
      rw [List.filter_eq_nil_iff.2 (fun x hx => by
        have := h.nn x (List.mem_range.1 hx)
        simp; omega)]
      rfl
    | succ g ih =>
      intro hg
      rw [count_split, ← ih (by omega), clsG_next]
      have eo : (ownL c g n).length = ((List.range n).filter fun x => decide (lab c x = (g : Int))).length := by unfold ownL; rw [List.length_map]
      split
      · rw [List.map_append, List.sum_append]; simp [eo]
      · rename_i hne
        have : ownL c g n = [] := Classical.byContradiction fun hn => hne ((ownL_ne h (by omega)).1 hn)
        rw [← eo, this]; rfl
  unfold totG
  rw [List.take_length]
  unfold clsL
  rw [key n (Nat.le_refl _), List.filter_eq_self.2 (fun x hx => decide_eq_true (by
    have h1 := List.mem_range.1 hx
    have := h.le x h1
    omega))]
  simp
structure WhI (L : List (List Int)) (N i j : Nat) (w : List Int) : Prop where
  len : w.length = N
  old : ∀ x : Nat, x < N → (cix L x < (i : Int) ∨ ∃ j', j' < j ∧ (L.getD i []).getD j' 0 = (x : Int)) → w.getD x 0 = cix L x
theorem WhI.start (L : List (List Int)) (N : Nat) (hL : ∀ x : Nat, x < N → 0 ≤ cix L x) : WhI L N 0 0 (List.replicate N 0) :=
  ⟨List.length_replicate, fun x hx h => by
    rcases h with h | ⟨_, h, _⟩
    · have := hL x hx; omega
    · omega⟩
theorem WhI.step {n : Nat} {c : List Int} (hC : Can n c) {i j : Nat} {w : List Int} (h : WhI (clsL n c) n i j w) (hi : i < (clsL n c).length) (hj : j < ((clsL n c).getD i []).length) : WhI (clsL n c) n i (j + 1) (w.set (((clsL n c).getD i []).getD j 0).toNat (i : Int)) := by
  obtain ⟨h1, h2, _⟩ := cls_at hC hi hj
  refine ⟨by rw [List.length_set, h.len], fun x hx hor => ?_⟩
  by_cases e : (((clsL n c).getD i []).getD j 0).toNat = x
  · subst e
    rw [getD_set (by rw [h.len]; exact hx), Int.toNat_of_nonneg h1.1, h2]
  · rw [List.getD_eq_getElem?_getD, List.getElem?_set_ne e, ← List.getD_eq_getElem?_getD]
    refine h.old x hx ?_
    rcases hor with hor | ⟨j', hj', e'⟩
    · exact .inl hor
    · refine .inr ⟨j', ?_, e'⟩
      rcases Nat.lt_or_ge j' j with h3 | h3
      · exact h3
      · obtain rfl : j' = j := by omega
        rw [e'] at e
        simp at e
theorem WhI.next {n : Nat} {c : List Int} (hC : Can n c) {i : Nat} {w : List Int} (h : WhI (clsL n c) n i ((clsL n c).getD i []).length w) (hi : i < (clsL n c).length) : WhI (clsL n c) n (i + 1) 0 w :=
  ⟨h.len, fun x hx hor => by
    rcases hor with hor | ⟨_, h0, _⟩
    · refine h.old x hx ?_
      obtain ⟨i', j', a1, a2, a3, a4, _⟩ := cls_of hC hx
      rcases Nat.lt_or_ge i' i with h1 | h1
      · exact .inl (by omega)
      · obtain rfl : i' = i := by omega
        exact .inr ⟨j', a3, a4⟩
    · omega⟩
theorem WhI.done {n : Nat} {c : List Int} (hC : Can n c) {w : List Int} (h : WhI (clsL n c) n (clsL n c).length 0 w) : ∀ x : Nat, x < n → w.getD x 0 = cix (clsL n c) x := fun x hx => by
  obtain ⟨i', j', a1, a2, _⟩ := cls_of hC hx
  exact h.old x hx (.inl (by omega))
theorem img_law (t : Ang) {n : Int} (hn : OkN n) {w : List Int} (h : ∀ x : Nat, x < n.toNat → w.getD x 0 = cix (cls1 t n) x) {x : Nat} (hx : x < n.toNat) :
    w.getD (2 * (x : Int) % n).toNat 0 = (imgA t n).getD (w.getD x 0).toNat 0 ∧ (0 ≤ w.getD x 0 ∧ w.getD x 0 < (imgA t n).length) := by
  have hC := lab1_can t n
  have e : cls1 t n = clsL n.toNat (lab1 t n) := by unfold cls1; rfl
  have hnn : ((n.toNat : Nat) : Int) = n := by have := hn.1; omega
  have hr : ∀ z : Int, 0 ≤ z % n ∧ z % n < n := fun z => ⟨Int.emod_nonneg _ (by have := hn.1; omega), Int.emod_lt_of_pos _ (by have := hn.1; omega)⟩
  have h2 := hr (2 * (x : Int))
  rw [h _ (by omega), h x hx]
  unfold imgA
  rw [imgG_full]
  rw [e]
  obtain ⟨i, j, a1, a2, a3, a4, a5⟩ := cls_of hC hx
  rw [a2]
  refine ⟨?_, by omega, by omega⟩
  rw [Int.toNat_natCast, imgG_at _ _ a1]
  show _ = cix (clsL n.toNat (lab1 t n)) (dblN n ((clsL n.toNat (lab1 t n)).getD i []))
  have hlr := hC.lt hx
  have hl0 := hC.nn x hx
  have hd : dblN n ((clsL n.toNat (lab1 t n)).getD i []) = (((2 * (((lab (lab1 t n) x).toNat : Nat) : Int) % n).toNat : Nat) : Int) := by
    unfold dblN
    rw [a5, Int.tmod_eq_emod_of_nonneg (by omega), show (((lab (lab1 t n) x).toNat : Nat) : Int) = lab (lab1 t n) x by omega]
    have := hr (2 * lab (lab1 t n) x)
    omega
  rw [hd, show (2 * (x : Int) % n) = (((2 * (x : Int) % n).toNat : Nat) : Int) by omega, Int.toNat_natCast]
  have h3 := hr (2 * (((lab (lab1 t n) x).toNat : Nat) : Int))
  exact cix_lab hC (by omega) (by omega) (lab1_dbl t hn hx hlr (by rw [hC.idem x hx]))
theorem filter_len_le {p q : Nat → Bool} : ∀ l : List Nat, (∀ x ∈ l, p x = true → q x = true) → (l.filter p).length ≤ (l.filter q).length
  | [], _ => Nat.le_refl _
  | x :: l, h => by
    have ih := filter_len_le l fun y hy => h y (by simp [hy])
    simp only [List.filter_cons]
    cases hp : p x with
    | true => rw [h x (by simp) hp]; simp only [if_true, List.length_cons]; omega
    | false => cases q x <;> simp only [if_true, Bool.false_eq_true, if_false, List.length_cons] <;> omega
theorem joined_len (t u : Ang) (n : Int) : (cls2 t u n).length ≤ (cls1 t n).length := by
  unfold cls2 cls1
  have e : ∀ c, (clsL n.toNat c).length = (rootsL n.toNat c).length := fun c => by rw [clsL_roots, List.length_map]
  rw [e, e]
  unfold rootsL
  refine filter_len_le _ fun k hk h => ?_
  have hk := List.mem_range.1 hk
  have h := of_decide_eq_true h
  have h1 := lab1_can t n
  have h2 := lab2_can t u n
  refine decide_eq_true ?_
  have a1 := h1.le k hk
  have a2 := h1.nn k hk
  have a3 := h1.lt hk
  have a4 := lab2_old t u n a3 hk (h1.idem k hk)
  have a5 := h2.le _ a3
  omega
theorem joined_ends (t u : Ang) {n : Int} (hA : IsA t ∧ IsA u) (hn : OkN n) {i : Nat} (hi : i < (cls1 t n).length) : ((cls1 t n).getD i []).length ≠ 0 ∧ ajR t u n (((cls1 t n).getD i []).getD 0 0) (((cls1 t n).getD i []).getD (((cls1 t n).getD i []).length - 1) 0) = (true, 0) := by
  have hC := lab1_can t n
  have e : cls1 t n = clsL n.toNat (lab1 t n) := by unfold cls1; rfl
  rw [e] at hi ⊢
  have hnn : ((n.toNat : Nat) : Int) = n := by have := hn.1; omega
  obtain ⟨_, _, _, hne⟩ := cls_head hC hi
  obtain ⟨a1, _, a3⟩ := cls_at hC hi (j := 0) (by omega)
  obtain ⟨b1, _, b3⟩ := cls_at hC hi (j := ((clsL n.toNat (lab1 t n)).getD i []).length - 1) (by omega)
  refine ⟨hne, ?_⟩
  rw [ajR_t hA ⟨hn, ⟨a1.1, by omega⟩, ⟨b1.1, by omega⟩⟩]
  rw [decide_eq_true (lab2_old t u n (by omega) (by omega) (a3.trans b3.symm))]
theorem cyc_row {f : Nat → Nat} : ∀ {g : Nat} {r : List Int}, r ∈ cycG f g → ∃ i p, i < g ∧ IsPer f i p ∧ r = pthG f i p
  | 0, r, h => by cases h
  | g + 1, r, h => by
    rcases List.mem_append.1 h with h | h
    · obtain ⟨i, p, h1, h2⟩ := cyc_row h
      exact ⟨i, p, by omega, h2⟩
    · unfold cycO at h
      split at h
      · rename_i hex
        split at h
        · rw [List.mem_singleton] at h
          exact ⟨g, _, Nat.lt_succ_self _, hex.choose_spec, h⟩
        · cases h
      · cases h
theorem cyc_law {im : List Int} (hN : Nums im) {r : List Int} (hr : r ∈ cycG (nxF im) im.length) {j : Nat} (hj : j < r.length) : (0 ≤ r.getD j 0 ∧ r.getD j 0 < im.length) ∧ im.getD (r.getD j 0).toNat 0 = r.getD ((j + 1) % r.length) 0 := by
  obtain ⟨i, p, hi, hp, rfl⟩ := cyc_row hr
  rw [pthG_len] at hj ⊢
  have hlt := itN_lt hN.lt hi j
  rw [pthG_at _ _ hj]
  refine ⟨⟨by omega, by omega⟩, ?_⟩
  rw [Int.toNat_natCast, hN.step hi]
  by_cases e : j + 1 = p
  · rw [e, Nat.mod_self, pthG_at _ _ hp.pos, hp.back]; rfl
  · rw [Nat.mod_eq_of_lt (by omega), pthG_at _ _ (by omega)]
end Go.Proofs.Ytllagpbbbdekiac.Fw
