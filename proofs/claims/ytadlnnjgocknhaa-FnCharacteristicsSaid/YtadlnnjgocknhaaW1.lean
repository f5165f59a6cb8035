/- Plain laws of matrices whose sums wrap around: products, traces, polynomials. -/
import Derived.Test.YtadlnnjgocknhaaK12
namespace Go.Proofs.Ytadlnnjgocknhaa.Fw
open Go Go.RowKit
set_option linter.unusedVariables false
set_option linter.unusedSimpArgs false
theorem wrap_mod (x : Int) : IntKind.i64.wrap x = (x + 9223372036854775808) % 18446744073709551616 - 9223372036854775808 := by
  simp [IntKind.wrap, IntKind.bits, IntKind.signed]
  try omega
theorem wrap_rng (x : Int) : -9223372036854775808 ≤ IntKind.i64.wrap x ∧ IntKind.i64.wrap x ≤ 9223372036854775807 := by
  rw [wrap_mod]; omega
theorem wrap_id {x : Int} (h1 : -9223372036854775808 ≤ x) (h2 : x ≤ 9223372036854775807) : IntKind.i64.wrap x = x := wrap_of_rng ⟨h1, h2⟩
theorem wrap_wrap (x : Int) : IntKind.i64.wrap (IntKind.i64.wrap x) = IntKind.i64.wrap x := by
  have := wrap_rng x
  exact wrap_id this.1 this.2
def dotW (r : List Int) (b : List (List Int)) (j : Nat) : Nat → Int
  | 0 => 0
  | k + 1 => IntKind.i64.wrap (dotW r b j k + IntKind.i64.wrap (r.getD k 0 * ent b k j))
theorem dotW_wrap (r : List Int) (b : List (List Int)) (j : Nat) : ∀ k, IntKind.i64.wrap (dotW r b j k) = dotW r b j k
  | 0 => by rw [dotW]; exact wrap_id (by decide) (by decide)
  | k + 1 => by rw [dotW, wrap_wrap]
def rowW (r : List Int) (b : List (List Int)) (w k : Nat) : List Int := (List.range w).map fun j => dotW r b j k
def mulW (a b : List (List Int)) (w : Nat) : List (List Int) := a.map fun r => rowW r b w r.length
theorem rowW_len (r : List Int) (b : List (List Int)) (w k : Nat) : (rowW r b w k).length = w := by simp [rowW]
theorem rowW_get {r : List Int} {b : List (List Int)} {w k j : Nat} (h : j < w) : (rowW r b w k).getD j 0 = dotW r b j k := by
  unfold rowW; rw [List.getD_eq_getElem?_getD, List.getElem?_map, List.getElem?_range h]; rfl
theorem rowW_zero (r : List Int) (b : List (List Int)) (w : Nat) : rowW r b w 0 = List.replicate w 0 := by
  refine list_eq 0 (by simp [rowW]) fun j hj => ?_
  rw [rowW_len] at hj
  rw [rowW_get hj]
  simp [dotW, List.getD_eq_getElem?_getD, List.getElem?_replicate, hj]
/-- what is added while the term k comes to the row, j of its numbers done -/
def midW (r : List Int) (b : List (List Int)) (w k j : Nat) : List Int := (rowW r b w (k + 1)).take j ++ (rowW r b w k).drop j
theorem midW_len {r : List Int} {b : List (List Int)} {w k j : Nat} (h : j ≤ w) : (midW r b w k j).length = w := by
  simp [midW, rowW_len]; omega
theorem midW_zero (r : List Int) (b : List (List Int)) (w k : Nat) : midW r b w k 0 = rowW r b w k := by simp [midW]
theorem midW_all (r : List Int) (b : List (List Int)) (w k : Nat) : midW r b w k w = rowW r b w (k + 1) := by
  unfold midW
  rw [List.take_of_length_le (by rw [rowW_len]; omega), List.drop_of_length_le (by rw [rowW_len]; omega), List.append_nil]
theorem midW_get {r : List Int} {b : List (List Int)} {w k j : Nat} (h : j < w) : (midW r b w k j).getD j 0 = dotW r b j k := by
  unfold midW
  rw [List.getD_eq_getElem?_getD, List.getElem?_append_right (by simp [rowW_len]; omega), List.length_take, rowW_len, List.getElem?_drop, show j + (j - min j w) = j by omega, ← List.getD_eq_getElem?_getD, rowW_get h]
theorem midW_step {r : List Int} {b : List (List Int)} {w k j : Nat} (h : j < w) : (midW r b w k j).set j (IntKind.i64.wrap (dotW r b j k + IntKind.i64.wrap (r.getD k 0 * ent b k j))) = midW r b w k (j + 1) := by
  refine list_eq 0 (by rw [List.length_set, midW_len (by omega), midW_len (by omega)]) fun i hi => ?_
  rw [List.length_set, midW_len (by omega)] at hi
  have e1 : (midW r b w k (j + 1)).getD i 0 = if i < j + 1 then dotW r b i (k + 1) else dotW r b i k := by
    unfold midW
    split
    · rename_i hij
      rw [List.getD_eq_getElem?_getD, List.getElem?_append_left (by simp [rowW_len]; omega), List.getElem?_take, if_pos hij, ← List.getD_eq_getElem?_getD, rowW_get hi]
    · rename_i hij
      rw [List.getD_eq_getElem?_getD, List.getElem?_append_right (by simp [rowW_len]; omega), List.length_take, rowW_len, List.getElem?_drop, show j + 1 + (i - min (j + 1) w) = i by omega, ← List.getD_eq_getElem?_getD, rowW_get hi]
  have e2 : (midW r b w k j).getD i 0 = if i < j then dotW r b i (k + 1) else dotW r b i k := by
    unfold midW
    split
    · rename_i hij
      rw [List.getD_eq_getElem?_getD, List.getElem?_append_left (by simp [rowW_len]; omega), List.getElem?_take, if_pos hij, ← List.getD_eq_getElem?_getD, rowW_get hi]
    · rename_i hij
      rw [List.getD_eq_getElem?_getD, List.getElem?_append_right (by simp [rowW_len]; omega), List.length_take, rowW_len, List.getElem?_drop, show j + (i - min j w) = i by omega, ← List.getD_eq_getElem?_getD, rowW_get hi]
  rw [e1]
  by_cases hij : i = j
  · subst hij
    rw [getD_set (by rw [midW_len (by omega)]; exact h), if_pos (by omega)]
    rfl
  · rw [List.getD_eq_getElem?_getD, List.getElem?_set_ne (fun e => hij e.symm), ← List.getD_eq_getElem?_getD, e2]
    by_cases h' : i < j
    · rw [if_pos h', if_pos (by omega)]
    · rw [if_neg h', if_neg (by omega)]
/-- a term with the number 0 changes nothing -/
theorem rowW_skip {r : List Int} {b : List (List Int)} {w k : Nat} (h : r.getD k 0 = 0) : rowW r b w (k + 1) = rowW r b w k := by
  refine list_eq 0 (by rw [rowW_len, rowW_len]) fun i hi => ?_
  rw [rowW_len] at hi
  rw [rowW_get hi, rowW_get hi, dotW, h, Int.zero_mul, show IntKind.i64.wrap 0 = 0 from wrap_id (by decide) (by decide), Int.add_zero, dotW_wrap]
theorem midW_skip {r : List Int} {b : List (List Int)} {w k j : Nat} (h : r.getD k 0 = 0) : midW r b w k j = rowW r b w (k + 1) := by
  unfold midW; rw [rowW_skip h, List.take_append_drop]
theorem mulW_len (a b : List (List Int)) (w : Nat) : (mulW a b w).length = a.length := by simp [mulW]
theorem mulW_row (a b : List (List Int)) (w : Nat) : ∀ r ∈ mulW a b w, r.length = w := by
  intro r hr
  obtain ⟨q, hq, rfl⟩ := List.mem_map.1 hr
  exact rowW_len _ _ _ _
/-- What a product needs: sizes. -/
structure MzOk (a b : List (List Int)) (w : Nat) : Prop where
  la : a.length ≤ 1000
  lb : b.length ≤ 1000
  lw : w ≤ 1000
  ra : ∀ r ∈ a, r.length = b.length
  rb : ∀ r ∈ b, r.length = w
/-- the product, n of its rows done -/
def outW (a b : List (List Int)) (w n : Nat) : List (List Int) := (a.take n).map (fun r => rowW r b w r.length) ++ List.replicate (a.length - n) []
theorem outW_len {a b : List (List Int)} {w n : Nat} (h : n ≤ a.length) : (outW a b w n).length = a.length := by
  unfold outW; simp; omega
theorem outW_zero (a b : List (List Int)) (w : Nat) : outW a b w 0 = List.replicate a.length [] := by simp [outW]
theorem outW_all (a b : List (List Int)) (w : Nat) : outW a b w a.length = mulW a b w := by simp [outW, mulW]
theorem outW_set {a b : List (List Int)} {w n : Nat} (h : n < a.length) : (outW a b w n).set n (rowW (a.getD n []) b w (a.getD n []).length) = outW a b w (n + 1) := by
  have h1 : a.length - n = (a.length - (n + 1)) + 1 := by omega
  have h2 : ((a.take n).map (fun r => rowW r b w r.length)).length = n := by simp; omega
  unfold outW
  rw [h1, List.replicate_succ, List.set_append_right _ _ (by omega), h2, Nat.sub_self, List.set_cons_zero, take_map_snoc (fun r => rowW r b w r.length) a [] n h, List.append_assoc]; rfl
/-! ### traces, polynomials -/
def trW (a : List (List Int)) : Nat → Int
  | 0 => 0
  | k + 1 => IntKind.i64.wrap (trW a k + ent a k k)
/-- a number added to the places of the diagonal -/
def dgR (m : List (List Int)) (c : Int) (i : Nat) : List Int := (m.getD i []).set i (IntKind.i64.wrap (ent m i i + c))
def dgW (m : List (List Int)) (c : Int) : List (List Int) := (List.range m.length).map (dgR m c)
/-- n of its rows done -/
def dgK (m : List (List Int)) (c : Int) (n : Nat) : List (List Int) := (List.range n).map (dgR m c) ++ m.drop n
theorem dgK_zero (m : List (List Int)) (c : Int) : dgK m c 0 = m := by simp [dgK]
theorem dgK_all (m : List (List Int)) (c : Int) : dgK m c m.length = dgW m c := by simp [dgK, dgW]
theorem dgK_len {m : List (List Int)} {c : Int} {n : Nat} (h : n ≤ m.length) : (dgK m c n).length = m.length := by simp [dgK]; omega
theorem dgK_get {m : List (List Int)} {c : Int} {n : Nat} (h : n < m.length) : (dgK m c n).getD n [] = m.getD n [] := by
  unfold dgK
  rw [List.getD_eq_getElem?_getD, List.getElem?_append_right (by simp), List.length_map, List.length_range, List.getElem?_drop, Nat.sub_self, Nat.add_zero, ← List.getD_eq_getElem?_getD]
theorem dgK_step {m : List (List Int)} {c : Int} {n : Nat} (h : n < m.length) : (dgK m c n).set n (dgR m c n) = dgK m c (n + 1) := mark_step (dgR m c) m n h
theorem dgW_len (m : List (List Int)) (c : Int) : (dgW m c).length = m.length := by simp [dgW]
theorem dgR_len (m : List (List Int)) (c : Int) (i : Nat) : (dgR m c i).length = (m.getD i []).length := by simp [dgR]
theorem dgW_row {m : List (List Int)} {c : Int} {w : Nat} (h : ∀ r ∈ m, r.length = w) : ∀ r ∈ dgW m c, r.length = w := by
  intro r hr
  obtain ⟨i, hi, rfl⟩ := List.mem_map.1 hr
  rw [dgR_len]
  exact h _ (getD_mem (List.mem_range.1 hi))
def coW (k : Nat) (m : List (List Int)) : Int := IntKind.i64.wrap ((IntKind.i64.wrap (-(trW m m.length))).tdiv (k : Int))
/-- the matrices on the way to the polynomial -/
def chM (a : List (List Int)) : Nat → List (List Int)
  | 0 => unitM a.length
  | k + 1 => dgW (mulW a (chM a k) a.length) (coW (k + 1) (mulW a (chM a k) a.length))
def chC (a : List (List Int)) : Nat → Int
  | 0 => 1
  | k + 1 => coW (k + 1) (mulW a (chM a k) a.length)
def chF (a : List (List Int)) (k i : Nat) : Int := if a.length - i ≤ k then chC a (a.length - i) else 0
def outC (a : List (List Int)) (k : Nat) : List Int := (List.range (a.length + 1)).map (chF a k)
/-- the polynomial -/
def chP (a : List (List Int)) : List Int := outC a a.length
theorem chM_len (a : List (List Int)) : ∀ k, (chM a k).length = a.length
  | 0 => unitM_len _
  | k + 1 => by rw [chM, dgW_len, mulW_len]
theorem chM_row (a : List (List Int)) : ∀ k, ∀ r ∈ chM a k, r.length = a.length
  | 0 => unitM_row _
  | k + 1 => dgW_row (mulW_row _ _ _)
theorem outC_len (a : List (List Int)) (k : Nat) : (outC a k).length = a.length + 1 := by simp [outC]
theorem outC_get {a : List (List Int)} {k i : Nat} (h : i ≤ a.length) : (outC a k).getD i 0 = chF a k i := by
  unfold outC; rw [List.getD_eq_getElem?_getD, List.getElem?_map, List.getElem?_range (by omega)]; rfl
theorem hd_lenW {a : List (List Int)} (h : ∀ r ∈ a, r.length = a.length) : (a.getD 0 []).length = a.length := by
  cases a with
  | nil => rfl
  | cons r l => exact h r (by simp)
theorem outC_at {a : List (List Int)} {k g : Nat} (h : g ≤ k) (hg : g ≤ a.length) : (outC a k).getD (a.length - g) 0 = chC a g := by
  rw [outC_get (by omega)]
  unfold chF
  rw [if_pos (by omega), show a.length - (a.length - g) = g by omega]
theorem outC_zero (a : List (List Int)) : outC a 0 = (List.replicate (a.length + 1) (0 : Int)).set a.length 1 := by
  refine list_eq 0 (by simp [outC]) fun i hi => ?_
  rw [outC_len] at hi
  rw [outC_get (by omega)]
  by_cases h : i = a.length
  · subst h
    rw [getD_set (by simp)]
    simp [chF, chC]
  · rw [List.getD_eq_getElem?_getD, List.getElem?_set_ne (fun e => h e.symm), List.getElem?_replicate, if_pos hi]
    unfold chF
    rw [if_neg (by omega)]; rfl
theorem outC_step {a : List (List Int)} {k : Nat} (h : k < a.length) : (outC a k).set (a.length - (k + 1)) (chC a (k + 1)) = outC a (k + 1) := by
  refine list_eq 0 (by simp [outC]) fun i hi => ?_
  rw [List.length_set, outC_len] at hi
  rw [outC_get (by omega)]
  by_cases e : i = a.length - (k + 1)
  · subst e
    rw [getD_set (by rw [outC_len]; omega)]
    unfold chF
    rw [if_pos (by omega), show a.length - (a.length - (k + 1)) = k + 1 by omega]
  · rw [List.getD_eq_getElem?_getD, List.getElem?_set_ne (fun q => e q.symm), ← List.getD_eq_getElem?_getD, outC_get (by omega)]
    unfold chF
    by_cases h2 : a.length - i ≤ k
    · rw [if_pos h2, if_pos (by omega)]
    · rw [if_neg h2, if_neg (by omega)]
/-- the reference's matrices, one step behind -/
def snM (a : List (List Int)) : Nat → List (List Int)
  | 0 => unitV a.length 0
  | k + 1 => chM a k
theorem unitV_zero_ent (n i j : Nat) : ent (unitV n 0) i j = 0 := by
  unfold ent unitV
  rcases Nat.lt_or_ge i n with h | h
  · have e : ((List.range n).map (unitR n 0)).getD i [] = unitR n 0 i := by
      rw [List.getD_eq_getElem?_getD, List.getElem?_map, List.getElem?_range h]; rfl
    rw [e]
    unfold unitR
    rw [List.getD_eq_getElem?_getD, List.getElem?_set]
    simp only [List.getElem?_replicate, List.length_replicate]
    (repeat' split) <;> rfl
  · have e : (List.map (unitR n 0) (List.range n)).getD i [] = [] := by
      rw [List.getD_eq_getElem?_getD, List.getElem?_eq_none (by simpa using h)]; rfl
    rw [e]; rfl
theorem dotW_zero {r : List Int} {b : List (List Int)} {j : Nat} (h : ∀ q, ent b q j = 0) : ∀ k, dotW r b j k = 0
  | 0 => rfl
  | k + 1 => by rw [dotW, dotW_zero h k, h k, Int.mul_zero, show IntKind.i64.wrap 0 = 0 from wrap_id (by decide) (by decide)]; exact wrap_id (by decide) (by decide)
theorem mulW_zero {a : List (List Int)} : mulW a (unitV a.length 0) a.length = List.replicate a.length (List.replicate a.length 0) := by
  unfold mulW
  refine list_eq [] (by simp) fun i hi => ?_
  rw [List.length_map] at hi
  rw [List.getD_eq_getElem?_getD, List.getElem?_map, List.getElem?_eq_getElem hi, List.getD_eq_getElem?_getD, List.getElem?_replicate, if_pos hi]
  refine list_eq 0 (by simp [rowW_len]) fun j hj => ?_
  simp only [Option.map_some, Option.getD_some, rowW_len] at hj ⊢
  rw [rowW_get hj, dotW_zero fun q => unitV_zero_ent _ q j, List.getD_eq_getElem?_getD, List.getElem?_replicate, if_pos hj]; rfl
theorem dgW_zero (n : Nat) : dgW (List.replicate n (List.replicate n 0)) 1 = unitM n := by
  unfold dgW unitM
  rw [List.length_replicate]
  refine List.map_congr_left fun i hi => ?_
  have hi := List.mem_range.1 hi
  have e : (List.replicate n (List.replicate n (0 : Int))).getD i [] = List.replicate n 0 := by
    rw [List.getD_eq_getElem?_getD, List.getElem?_replicate, if_pos hi]; rfl
  unfold dgR ent
  rw [e]
  have e2 : (List.replicate n (0 : Int)).getD i 0 = 0 := by rw [List.getD_eq_getElem?_getD, List.getElem?_replicate, if_pos hi]; rfl
  rw [e2, show IntKind.i64.wrap (0 + 1) = 1 from wrap_id (by decide) (by decide)]
theorem snM_step (a : List (List Int)) (k : Nat) : dgW (mulW a (snM a k) a.length) (chC a k) = snM a (k + 1) := by
  cases k with
  | zero => rw [snM, mulW_zero, chC, dgW_zero]; rfl
  | succ k => rfl
theorem snM_len (a : List (List Int)) : ∀ k, (snM a k).length = a.length
  | 0 => by simp [snM, unitV]
  | k + 1 => chM_len a k
theorem snM_row (a : List (List Int)) : ∀ k, ∀ r ∈ snM a k, r.length = a.length
  | 0 => fun r hr => by
    obtain ⟨i, _, rfl⟩ := List.mem_map.1 hr
    simp [unitR]
  | k + 1 => chM_row a k
end Go.Proofs.Ytadlnnjgocknhaa.Fw
