/- Plain laws of matrices: products, powers, sums, traces. -/
import Derived.Test.YtllagpbbbdekiabK1
namespace Go.Proofs.Ytllagpbbbdekiab.Fw
set_option linter.unusedVariables false
set_option linter.unusedSimpArgs false
def sumN (f : Nat → Int) : Nat → Int
  | 0 => 0
  | n + 1 => sumN f n + f n
theorem sumN_congr {f g : Nat → Int} : ∀ {n : Nat}, (∀ i, i < n → f i = g i) → sumN f n = sumN g n
  | 0, _ => rfl
  | n + 1, h => by rw [sumN, sumN, sumN_congr fun i hi => h i (by omega), h n (by omega)]
theorem sumN_nn {f : Nat → Int} : ∀ {n : Nat}, (∀ i, i < n → 0 ≤ f i) → 0 ≤ sumN f n
  | 0, _ => Int.le_refl _
  | n + 1, h => by have := sumN_nn (n := n) fun i hi => h i (by omega); have := h n (by omega); rw [sumN]; omega
theorem sumN_le {f g : Nat → Int} : ∀ {n : Nat}, (∀ i, i < n → f i ≤ g i) → sumN f n ≤ sumN g n
  | 0, _ => Int.le_refl _
  | n + 1, h => by have := sumN_le (n := n) fun i hi => h i (by omega); have := h n (by omega); rw [sumN, sumN]; omega
def abI (x : Int) : Int := if 0 ≤ x then x else -x
theorem abI_nn (x : Int) : 0 ≤ abI x := by unfold abI; split <;> omega
theorem abI_le (x : Int) : -abI x ≤ x ∧ x ≤ abI x := by unfold abI; split <;> omega
theorem abI_pos {x : Int} (h : 0 ≤ x) : abI x = x := if_pos h
theorem sumN_ab {f : Nat → Int} : ∀ {k n : Nat}, k ≤ n → -sumN (fun i => abI (f i)) n ≤ sumN f k ∧ sumN f k ≤ sumN (fun i => abI (f i)) n
  | 0, n, _ => by
    have := sumN_nn (f := fun i => abI (f i)) (n := n) fun i _ => abI_nn _
    simp only [sumN]; omega
  | k + 1, n, h => by
    have key : ∀ k, -sumN (fun i => abI (f i)) k ≤ sumN f k ∧ sumN f k ≤ sumN (fun i => abI (f i)) k := fun k => by
      induction k with
      | zero => simp [sumN]
      | succ k ih => have := abI_le (f k); simp only [sumN]; omega
    have mono : ∀ n, k + 1 ≤ n → sumN (fun i => abI (f i)) (k + 1) ≤ sumN (fun i => abI (f i)) n := fun n => by
      induction n with
      | zero => intro h; omega
      | succ n ih =>
        intro h
        by_cases he : k + 1 ≤ n
        · have := ih he; have := abI_nn (f n)
          show _ ≤ sumN (fun i => abI (f i)) n + abI (f n)
          omega
        · obtain rfl : n = k := by omega
          exact Int.le_refl _
    have := key (k + 1); have := mono n h; omega
theorem sumN_one {f : Nat → Int} {k n : Nat} (h : k < n) : abI (f k) ≤ sumN (fun i => abI (f i)) n := by
  induction n with
  | zero => omega
  | succ n ih =>
    rw [sumN]
    by_cases he : k < n
    · have := ih he; have := abI_nn (f n); omega
    · obtain rfl : k = n := by omega
      have := sumN_nn (f := fun i => abI (f i)) (n := k) fun i _ => abI_nn _
      omega
def ent (a : List (List Int)) (i j : Nat) : Int := (a.getD i []).getD j 0
def dotN (r : List Int) (b : List (List Int)) (j k : Nat) : Int := sumN (fun q => r.getD q 0 * ent b q j) k
def rowM (r : List Int) (b : List (List Int)) (w k : Nat) : List Int := (List.range w).map fun j => dotN r b j k
def mulM (a b : List (List Int)) (w : Nat) : List (List Int) := a.map fun r => rowM r b w r.length
theorem rowM_len (r : List Int) (b : List (List Int)) (w k : Nat) : (rowM r b w k).length = w := by simp [rowM]
theorem rowM_get {r : List Int} {b : List (List Int)} {w k j : Nat} (h : j < w) : (rowM r b w k).getD j 0 = dotN r b j k := by
  unfold rowM; rw [List.getD_eq_getElem?_getD, List.getElem?_map, List.getElem?_range h]; rfl
theorem rowM_zero (r : List Int) (b : List (List Int)) (w : Nat) : rowM r b w 0 = List.replicate w 0 := by
  refine list_eq 0 (by simp [rowM]) fun j hj => ?_
  rw [rowM_len] at hj
  rw [rowM_get hj]
  simp [dotN, sumN, List.getD_eq_getElem?_getD, List.getElem?_replicate, hj]
def midM (r : List Int) (b : List (List Int)) (w k j : Nat) : List Int := (rowM r b w (k + 1)).take j ++ (rowM r b w k).drop j
theorem midM_len {r : List Int} {b : List (List Int)} {w k j : Nat} (h : j ≤ w) : (midM r b w k j).length = w := by
  simp [midM, rowM_len]; omega
theorem midM_zero (r : List Int) (b : List (List Int)) (w k : Nat) : midM r b w k 0 = rowM r b w k := by simp [midM]
theorem midM_all (r : List Int) (b : List (List Int)) (w k : Nat) : midM r b w k w = rowM r b w (k + 1) := by
  unfold midM
  rw [List.take_of_length_le (by rw [rowM_len]; omega), List.drop_of_length_le (by rw [rowM_len]; omega), List.append_nil]
theorem midM_get {r : List Int} {b : List (List Int)} {w k j : Nat} (h : j < w) : (midM r b w k j).getD j 0 = dotN r b j k := by
  unfold midM
  rw [List.getD_eq_getElem?_getD, List.getElem?_append_right (by simp [rowM_len]; omega), List.length_take, rowM_len, List.getElem?_drop, show j + (j - min j w) = j by omega, ← List.getD_eq_getElem?_getD, rowM_get h]
theorem midM_step {r : List Int} {b : List (List Int)} {w k j : Nat} (h : j < w) : (midM r b w k j).set j (dotN r b j k + r.getD k 0 * ent b k j) = midM r b w k (j + 1) := by
  refine list_eq 0 (by rw [List.length_set, midM_len (by omega), midM_len (by omega)]) fun i hi => ?_
  rw [List.length_set, midM_len (by omega)] at hi
  have e1 : (midM r b w k (j + 1)).getD i 0 = if i < j + 1 then dotN r b i (k + 1) else dotN r b i k := by
    unfold midM
    split
    · rename_i hij
      rw [List.getD_eq_getElem?_getD, List.getElem?_append_left (by simp [rowM_len]; omega), List.getElem?_take, if_pos hij, ← List.getD_eq_getElem?_getD, rowM_get hi]
    · rename_i hij
      rw [List.getD_eq_getElem?_getD, List.getElem?_append_right (by simp [rowM_len]; omega), List.length_take, rowM_len, List.getElem?_drop, show j + 1 + (i - min (j + 1) w) = i by omega, ← List.getD_eq_getElem?_getD, rowM_get hi]
  have e2 : (midM r b w k j).getD i 0 = if i < j then dotN r b i (k + 1) else dotN r b i k := by
    unfold midM
    split
    · rename_i hij
      rw [List.getD_eq_getElem?_getD, List.getElem?_append_left (by simp [rowM_len]; omega), List.getElem?_take, if_pos hij, ← List.getD_eq_getElem?_getD, rowM_get hi]
    · rename_i hij
      rw [List.getD_eq_getElem?_getD, List.getElem?_append_right (by simp [rowM_len]; omega), List.length_take, rowM_len, List.getElem?_drop, show j + (i - min j w) = i by omega, ← List.getD_eq_getElem?_getD, rowM_get hi]
  rw [e1]
  by_cases hij : i = j
  · subst hij
    rw [getD_set (by rw [midM_len (by omega)]; exact h), if_pos (by omega)]
    rfl
  · rw [List.getD_eq_getElem?_getD, List.getElem?_set_ne (fun e => hij e.symm), ← List.getD_eq_getElem?_getD, e2]
    by_cases h' : i < j
    · rw [if_pos h', if_pos (by omega)]
    · rw [if_neg h', if_neg (by omega)]
theorem rowM_skip {r : List Int} {b : List (List Int)} {w k : Nat} (h : r.getD k 0 = 0) : rowM r b w (k + 1) = rowM r b w k := by
  refine list_eq 0 (by rw [rowM_len, rowM_len]) fun i hi => ?_
  rw [rowM_len] at hi
  rw [rowM_get hi, rowM_get hi]
  unfold dotN
  rw [sumN, h, Int.zero_mul, Int.add_zero]
structure PrOk (a b : List (List Int)) (w : Nat) : Prop where
  la : a.length ≤ 1000
  lb : b.length ≤ 1000
  lw : w ≤ 1000
  ra : ∀ r ∈ a, r.length = b.length
  rb : ∀ r ∈ b, r.length = w
  bd : ∀ r ∈ a, ∀ j, j < w → sumN (fun q => abI (r.getD q 0 * ent b q j)) b.length ≤ 9223372036854775807
theorem PrOk.dot {a b : List (List Int)} {w : Nat} (h : PrOk a b w) {r : List Int} (hr : r ∈ a) {j k : Nat} (hj : j < w) (hk : k < b.length) :
    (-9223372036854775807 ≤ r.getD k 0 * ent b k j ∧ r.getD k 0 * ent b k j ≤ 9223372036854775807) ∧ (-9223372036854775807 ≤ dotN r b j k + r.getD k 0 * ent b k j ∧ dotN r b j k + r.getD k 0 * ent b k j ≤ 9223372036854775807) := by
  have h1 := h.bd r hr j hj
  have h2 := sumN_one (f := fun q => r.getD q 0 * ent b q j) hk
  have h3 := abI_le (r.getD k 0 * ent b k j)
  have h4 := sumN_ab (f := fun q => r.getD q 0 * ent b q j) (k := k + 1) (n := b.length) (by omega)
  have h5 : dotN r b j k + r.getD k 0 * ent b k j = sumN (fun q => r.getD q 0 * ent b q j) (k + 1) := rfl
  rw [h5]
  omega
theorem sumI_rowM_step (r : List Int) (b : List (List Int)) (w k : Nat) (hb : (b.getD k []).length = w) : sumI (rowM r b w (k + 1)) = sumI (rowM r b w k) + r.getD k 0 * sumI (b.getD k []) := by
  have key : ∀ (f g : Nat → Int) (c : Int) (l : List Nat), sumI (l.map fun j => f j + c * g j) = sumI (l.map f) + c * sumI (l.map g) := fun f g c l => by
    induction l with
    | nil => simp [sumI]
    | cons x l ih => simp only [List.map_cons, sumI, ih, Int.mul_add]; omega
  have e1 : rowM r b w (k + 1) = (List.range w).map fun j => dotN r b j k + r.getD k 0 * ent b k j := rfl
  have e2 : (List.range w).map (fun j => ent b k j) = b.getD k [] := by
    refine list_eq 0 (by rw [List.length_map, List.length_range, hb]) fun j hj => ?_
    simp only [List.length_map, List.length_range] at hj
    rw [List.getD_eq_getElem?_getD, List.getElem?_map, List.getElem?_range hj]; rfl
  rw [e1, key (fun j => dotN r b j k) (fun j => ent b k j), e2]; rfl
theorem sumI_take_succ (r : List Int) (k : Nat) (h : k < r.length) : sumI (r.take (k + 1)) = sumI (r.take k) + r.getD k 0 := by
  rw [List.take_add_one, sumI_append, List.getElem?_eq_getElem h, List.getD_eq_getElem?_getD, List.getElem?_eq_getElem h]
  simp [sumI]
theorem sumI_nn {l : List Int} (h : ∀ x ∈ l, 0 ≤ x) : 0 ≤ sumI l := by
  induction l with
  | nil => exact Int.le_refl _
  | cons z l ih => have := ih fun x hx => h x (by simp [hx]); have := h z (by simp); simp only [sumI]; omega
theorem getD_nn {l : List Int} (h : ∀ x ∈ l, 0 ≤ x) (k : Nat) : 0 ≤ l.getD k 0 := by
  rcases Nat.lt_or_ge k l.length with hk | hk
  · exact h _ (getD_mem hk)
  · rw [List.getD_eq_getElem?_getD, List.getElem?_eq_none hk]; exact Int.le_refl _
theorem ent_nn {b : List (List Int)} (h : ∀ r ∈ b, ∀ x ∈ r, 0 ≤ x) (q j : Nat) : 0 ≤ ent b q j := by
  unfold ent
  rcases Nat.lt_or_ge q b.length with hk | hk
  · exact getD_nn (h _ (getD_mem hk)) j
  · rw [List.getD_eq_getElem?_getD (l := b), List.getElem?_eq_none hk]; simp
theorem rowM_nn {r : List Int} {b : List (List Int)} {w : Nat} {s : Int} (hr : Nn s r) (hl : r.length = b.length) (hb : ∀ r ∈ b, Nn 2 r) (hw : ∀ r ∈ b, r.length = w) :
    ∀ k, k ≤ b.length → (∀ x ∈ rowM r b w k, 0 ≤ x) ∧ sumI (rowM r b w k) ≤ 2 * sumI (r.take k) := by
  intro k
  induction k with
  | zero => intro _; rw [rowM_zero]; exact ⟨fun x hx => by rw [(List.mem_replicate.1 hx).2]; exact Int.le_refl _, by rw [sumI_zero]; simp [sumI]⟩
  | succ k ih =>
    intro hk
    obtain ⟨h1, h2⟩ := ih (by omega)
    have hm : b.getD k [] ∈ b := getD_mem (by omega)
    have hx := getD_nn hr.1 k
    refine ⟨fun x hx => ?_, ?_⟩
    · unfold rowM at hx
      obtain ⟨j, _, rfl⟩ := List.mem_map.1 hx
      refine sumN_nn fun q _ => Int.mul_nonneg (getD_nn hr.1 q) (ent_nn (fun r hr => (hb r hr).1) q j)
    · rw [sumI_rowM_step r b w k (hw _ hm), sumI_take_succ r k (by omega)]
      have := Int.mul_le_mul_of_nonneg_left (hb _ hm).2 hx
      omega
theorem mulM_nn {a b : List (List Int)} {w : Nat} {s : Int} (ha : ∀ r ∈ a, Nn s r) (hl : ∀ r ∈ a, r.length = b.length) (hb : ∀ r ∈ b, Nn 2 r) (hw : ∀ r ∈ b, r.length = w) : ∀ r ∈ mulM a b w, Nn (2 * s) r := by
  intro r hr
  obtain ⟨q, hq, rfl⟩ := List.mem_map.1 hr
  obtain ⟨h1, h2⟩ := rowM_nn (ha q hq) (hl q hq) hb hw q.length (by rw [hl q hq]; omega)
  rw [List.take_length] at h2
  exact ⟨h1, by have := (ha q hq).2; omega⟩
theorem mulM_len (a b : List (List Int)) (w : Nat) : (mulM a b w).length = a.length := by simp [mulM]
theorem mulM_row (a b : List (List Int)) (w : Nat) : ∀ r ∈ mulM a b w, r.length = w := by
  intro r hr
  obtain ⟨q, hq, rfl⟩ := List.mem_map.1 hr
  exact rowM_len _ _ _ _
theorem mul_row_le {r : List Int} {b : List (List Int)} {w : Nat} {s : Int} (hr : Nn s r) (hl : r.length = b.length) (hb : ∀ r ∈ b, Nn 2 r) (hw : ∀ r ∈ b, r.length = w) {j : Nat} (hj : j < w) : sumN (fun q => abI (r.getD q 0 * ent b q j)) b.length ≤ 2 * s := by
  have e : sumN (fun q => abI (r.getD q 0 * ent b q j)) b.length = dotN r b j b.length := sumN_congr fun q _ => abI_pos (Int.mul_nonneg (getD_nn hr.1 q) (ent_nn (fun r hr => (hb r hr).1) q j))
  obtain ⟨h1, h2⟩ := rowM_nn hr hl hb hw b.length (Nat.le_refl _)
  rw [e, ← rowM_get hj]
  have hn : Nn (2 * s) (rowM r b w b.length) := ⟨h1, by rw [← hl, List.take_length] at h2; rw [← hl]; have := hr.2; omega⟩
  exact hn.le _ (getD_mem (by rw [rowM_len]; exact hj))
theorem prOk_nn {a b : List (List Int)} {w : Nat} {s : Int} (h1 : a.length ≤ 1000) (h2 : b.length ≤ 1000) (h3 : w ≤ 1000) (ha : ∀ r ∈ a, Nn s r) (hl : ∀ r ∈ a, r.length = b.length) (hb : ∀ r ∈ b, Nn 2 r) (hw : ∀ r ∈ b, r.length = w) (hs : 2 * s ≤ 9223372036854775807) : PrOk a b w :=
  ⟨h1, h2, h3, hl, hw, fun r hr j hj => Int.le_trans (mul_row_le (ha r hr) (hl r hr) hb hw hj) hs⟩
def unitM (n : Nat) : List (List Int) := (List.range n).map fun i => (List.replicate n (0 : Int)).set i 1
def powM (a : List (List Int)) : Nat → List (List Int)
  | 0 => unitM a.length
  | k + 1 => mulM (powM a k) a a.length
theorem unitM_len (n : Nat) : (unitM n).length = n := by simp [unitM]
theorem unitM_row (n : Nat) : ∀ r ∈ unitM n, r.length = n := by
  intro r hr
  obtain ⟨i, _, rfl⟩ := List.mem_map.1 hr
  simp
theorem unitM_nn (n : Nat) : ∀ r ∈ unitM n, Nn 1 r := by
  intro r hr
  obtain ⟨i, hi, rfl⟩ := List.mem_map.1 hr
  have hi := List.mem_range.1 hi
  refine ⟨fun x hx => ?_, ?_⟩
  · rcases List.mem_or_eq_of_mem_set hx with hx | rfl
    · rw [(List.mem_replicate.1 hx).2]; exact Int.le_refl _
    · omega
  · rw [sumI_set _ _ _ (by simpa using hi), sumI_zero, List.getD_eq_getElem?_getD, List.getElem?_replicate, if_pos hi]
    simp
theorem powM_len (a : List (List Int)) : ∀ k, (powM a k).length = a.length
  | 0 => unitM_len _
  | k + 1 => by rw [powM, mulM_len, powM_len a k]
theorem powM_row (a : List (List Int)) : ∀ k, ∀ r ∈ powM a k, r.length = a.length
  | 0 => unitM_row _
  | k + 1 => mulM_row _ _ _
theorem powM_nn {a : List (List Int)} (hb : ∀ r ∈ a, Nn 2 r) (hw : ∀ r ∈ a, r.length = a.length) : ∀ k, ∀ r ∈ powM a k, Nn (2 ^ k) r
  | 0 => unitM_nn _
  | k + 1 => by
    have := mulM_nn (powM_nn hb hw k) (powM_row a k) hb hw
    rw [Int.pow_succ, Int.mul_comm (2 ^ k) 2]; exact this
theorem pow40 : ∀ k : Nat, k ≤ 40 → (2 : Int) ^ k ≤ 1099511627776 := by
  intro k hk
  have : ∀ k, k < 41 → (2 : Int) ^ k ≤ 1099511627776 := by decide +kernel
  exact this k (by omega)
theorem powM_ok {a : List (List Int)} (hl : a.length ≤ 1000) (hb : ∀ r ∈ a, Nn 2 r) (hw : ∀ r ∈ a, r.length = a.length) {k : Nat} (hk : k ≤ 40) : PrOk (powM a k) a a.length :=
  prOk_nn (by rw [powM_len]; exact hl) hl hl (powM_nn hb hw k) (powM_row a k) hb hw (by have := pow40 k hk; omega)
def trM (a : List (List Int)) : Int := sumN (fun i => ent a i i) a.length
def allM (a : List (List Int)) : Int := sumN (fun i => sumN (fun j => ent a i j) (a.getD i []).length) a.length
theorem sumN_list (r : List Int) : ∀ k, k ≤ r.length → sumN (fun j => r.getD j 0) k = sumI (r.take k)
  | 0, _ => by simp [sumN, sumI]
  | k + 1, h => by rw [sumN, sumN_list r k (by omega), sumI_take_succ r k (by omega)]
theorem row_part {r : List Int} {s : Int} (h : Nn s r) {k : Nat} (hk : k ≤ r.length) : 0 ≤ sumN (fun j => r.getD j 0) k ∧ sumN (fun j => r.getD j 0) k ≤ s := by
  refine ⟨sumN_nn fun i _ => getD_nn h.1 i, ?_⟩
  have e : sumI r = sumI (r.take k) + sumI (r.drop k) := by rw [← sumI_append, List.take_append_drop]
  have := sumI_nn (l := r.drop k) fun x hx => h.1 x (List.mem_of_mem_drop hx)
  rw [sumN_list r k hk]
  have := h.2; omega
theorem all_part {a : List (List Int)} {s : Int} (h : ∀ r ∈ a, Nn s r) {k : Nat} (hk : k ≤ a.length) : 0 ≤ sumN (fun i => sumN (fun j => ent a i j) (a.getD i []).length) k ∧ sumN (fun i => sumN (fun j => ent a i j) (a.getD i []).length) k ≤ s * k := by
  induction k with
  | zero => simp [sumN]
  | succ k ih =>
    have := ih (by omega)
    have hm : a.getD k [] ∈ a := getD_mem (by omega)
    have h2 := row_part (h _ hm) (Nat.le_refl _)
    have e : s * ((k + 1 : Nat) : Int) = s * k + s := by simp only [Int.natCast_add, Int.natCast_one, Int.mul_add, Int.mul_one]
    rw [sumN, e]
    have e2 : sumN (fun j => ent a k j) (a.getD k []).length = sumN (fun j => (a.getD k []).getD j 0) (a.getD k []).length := rfl
    rw [e2]
    omega
theorem tr_part {a : List (List Int)} {s : Int} (h : ∀ r ∈ a, Nn s r) (hs : 0 ≤ s) {k : Nat} (hk : k ≤ a.length) : 0 ≤ sumN (fun i => ent a i i) k ∧ sumN (fun i => ent a i i) k ≤ s * k := by
  induction k with
  | zero => simp [sumN]
  | succ k ih =>
    have := ih (by omega)
    have hm : a.getD k [] ∈ a := getD_mem (by omega)
    have h1 := getD_nn (h _ hm).1 k
    have h2 : (a.getD k []).getD k 0 ≤ s := by
      rcases Nat.lt_or_ge k (a.getD k []).length with h' | h'
      · exact (h _ hm).le _ (getD_mem h')
      · rw [List.getD_eq_getElem?_getD (l := a.getD k []), List.getElem?_eq_none h']; exact hs
    have e : s * ((k + 1 : Nat) : Int) = s * k + s := by simp only [Int.natCast_add, Int.natCast_one, Int.mul_add, Int.mul_one]
    rw [sumN, e]
    have e2 : ent a k k = (a.getD k []).getD k 0 := rfl
    rw [e2]
    omega
end Go.Proofs.Ytllagpbbbdekiab.Fw
