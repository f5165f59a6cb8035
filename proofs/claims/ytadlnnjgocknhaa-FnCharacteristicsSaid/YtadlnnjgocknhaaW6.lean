/- Plain law: the program's polynomial of a small matrix is that of whole numbers that do not wrap around. -/
import Derived.Test.YtadlnnjgocknhaaW1
import Derived.Test.YtadlnnjgocknhaaW5
namespace Go.Proofs.Ytadlnnjgocknhaa.Fw
open Go Go.RowKit
set_option linter.unusedVariables false
set_option linter.unusedSimpArgs false
theorem wrap_ex (x : Int) : ∃ t, IntKind.i64.wrap x = x + 18446744073709551616 * t := ⟨-((x + 9223372036854775808) / 18446744073709551616), by rw [wrap_mod]; omega⟩
theorem wrap_mul_add (x t : Int) : IntKind.i64.wrap (x + 18446744073709551616 * t) = IntKind.i64.wrap x := by rw [wrap_mod, wrap_mod]; omega
theorem wrap_addl (x y : Int) : IntKind.i64.wrap (IntKind.i64.wrap x + y) = IntKind.i64.wrap (x + y) := by
  obtain ⟨t, ht⟩ := wrap_ex x
  rw [ht, show x + 18446744073709551616 * t + y = (x + y) + 18446744073709551616 * t by omega, wrap_mul_add]
theorem wrap_addr (x y : Int) : IntKind.i64.wrap (x + IntKind.i64.wrap y) = IntKind.i64.wrap (x + y) := by
  rw [Int.add_comm, wrap_addl, Int.add_comm]
theorem wrap_mulr (x y : Int) : IntKind.i64.wrap (x * IntKind.i64.wrap y) = IntKind.i64.wrap (x * y) := by
  obtain ⟨t, ht⟩ := wrap_ex y
  rw [ht, Int.mul_add, Int.mul_left_comm, wrap_mul_add]
theorem wrap_mull (x y : Int) : IntKind.i64.wrap (IntKind.i64.wrap x * y) = IntKind.i64.wrap (x * y) := by
  rw [Int.mul_comm, wrap_mulr, Int.mul_comm]
theorem wrap_zero : IntKind.i64.wrap 0 = 0 := wrap_id (by decide) (by decide)
theorem dotW_eq (r : List Int) (b : List (List Int)) (j : Nat) : ∀ k, dotW r b j k = IntKind.i64.wrap (sumN (fun q => r.getD q 0 * ent b q j) k)
  | 0 => by simp only [dotW, sumN]; exact wrap_zero.symm
  | k + 1 => by rw [dotW, dotW_eq r b j k, wrap_addl, wrap_addr]; rfl
theorem trW_eq (a : List (List Int)) : ∀ k, trW a k = IntKind.i64.wrap (sumN (fun i => ent a i i) k)
  | 0 => by simp only [trW, sumN]; exact wrap_zero.symm
  | k + 1 => by rw [trW, trW_eq a k, wrap_addl]; rfl
theorem mulW_ent {a b : List (List Int)} {w i j : Nat} (hi : i < a.length) (hj : j < w) : ent (mulW a b w) i j = IntKind.i64.wrap (sumN (fun q => ent a i q * ent b q j) (a.getD i []).length) := by
  have e : (mulW a b w).getD i [] = rowW (a.getD i []) b w (a.getD i []).length := by
    unfold mulW
    rw [List.getD_eq_getElem?_getD, List.getElem?_map, List.getElem?_eq_getElem hi, List.getD_eq_getElem?_getD, List.getElem?_eq_getElem hi]; rfl
  unfold ent
  rw [e, rowW_get hj, dotW_eq]; rfl
theorem dgW_ent {m : List (List Int)} {c : Int} {i j : Nat} (hi : i < m.length) (hl : (m.getD i []).length = m.length) : ent (dgW m c) i j = if i = j then IntKind.i64.wrap (ent m i i + c) else ent m i j := by
  have e : (dgW m c).getD i [] = dgR m c i := by
    unfold dgW
    rw [List.getD_eq_getElem?_getD, List.getElem?_map, List.getElem?_range hi]; rfl
  unfold ent
  rw [e]
  unfold dgR
  by_cases h : i = j
  · subst h; rw [if_pos rfl, getD_set (by omega)]; rfl
  · rw [if_neg h, getD_set_ne' (fun e => h e.symm)]
theorem unitM_ent {n i j : Nat} (hi : i < n) (hj : j < n) : ent (unitM n) i j = dl i j := by
  have e : (unitM n).getD i [] = (List.replicate n (0 : Int)).set i 1 := by
    unfold unitM
    rw [List.getD_eq_getElem?_getD, List.getElem?_map, List.getElem?_range hi]; rfl
  unfold ent dl
  rw [e]
  by_cases h : j = i
  · subst h; rw [if_pos rfl, getD_set (by simpa using hi)]
  · rw [if_neg h, getD_set_ne' h, List.getD_eq_getElem?_getD, List.getElem?_replicate, if_pos hj]; rfl
theorem tdiv_bd {x B : Int} {k : Nat} (h1 : -B ≤ x) (h2 : x ≤ B) : -B ≤ x.tdiv ((k + 1 : Nat) : Int) ∧ x.tdiv ((k + 1 : Nat) : Int) ≤ B := by
  have hp : ∀ y : Int, 0 ≤ y → 0 ≤ y.tdiv ((k + 1 : Nat) : Int) ∧ y.tdiv ((k + 1 : Nat) : Int) ≤ y := fun y hy => by
    rw [Int.tdiv_eq_ediv_of_nonneg hy]
    exact ⟨Int.ediv_nonneg hy (by omega), Int.ediv_le_self _ hy⟩
  by_cases hx : 0 ≤ x
  · have := hp x hx; omega
  · have := hp (-x) (by omega)
    rw [Int.neg_tdiv] at this
    omega
/-- A matrix of small numbers. -/
structure Sml (a : List (List Int)) : Prop where
  len : a.length ≤ 10
  sq : ∀ r ∈ a, r.length = a.length
  nn : ∀ r ∈ a, Nn 2 r
theorem Sml.ent {a : List (List Int)} (h : Sml a) (i j : Nat) : 0 ≤ ent a i j := ent_nn (fun r hr => (h.nn r hr).1) i j
theorem Sml.row {a : List (List Int)} (h : Sml a) {i : Nat} (hi : i < a.length) : sumN (fun j => Fw.ent a i j) a.length ≤ 2 := by
  have hm : a.getD i [] ∈ a := getD_mem hi
  have e := sumN_list (a.getD i []) a.length (by rw [h.sq _ hm]; exact Nat.le_refl _)
  have e2 : sumN (fun j => Fw.ent a i j) a.length = sumI (a.getD i []) := by
    rw [← List.take_length (l := a.getD i []), h.sq _ hm, ← e]
    rfl
  rw [e2]; exact (h.nn _ hm).2
theorem Sml.mA {a : List (List Int)} (h : Sml a) {M : Nat → Nat → Int} {B : Int} (hB : 0 ≤ B) {p q : Nat} (hp : p < a.length) (hM : ∀ s, s < a.length → -B ≤ M s q ∧ M s q ≤ B) :
    -(2 * B) ≤ Fw.mA a.length (Fw.ent a) M p q ∧ Fw.mA a.length (Fw.ent a) M p q ≤ 2 * B := by
  have hr := h.row hp
  have h0 : 0 ≤ sumN (fun j => Fw.ent a p j) a.length := sumN_nn fun i _ => h.ent p i
  have hb := Int.mul_le_mul_of_nonneg_left hr hB
  have u := sumN_le (f := fun s => Fw.ent a p s * M s q) (g := fun s => B * Fw.ent a p s) (n := a.length) fun s hs => by
    have := Int.mul_le_mul_of_nonneg_left (hM s hs).2 (h.ent p s)
    show Fw.ent a p s * M s q ≤ B * Fw.ent a p s
    rw [Int.mul_comm B]; exact this
  have l := sumN_le (f := fun s => (-B) * Fw.ent a p s) (g := fun s => Fw.ent a p s * M s q) (n := a.length) fun s hs => by
    have := Int.mul_le_mul_of_nonneg_left (hM s hs).1 (h.ent p s)
    show (-B) * Fw.ent a p s ≤ Fw.ent a p s * M s q
    rw [Int.mul_comm (-B)]; exact this
  have eu : sumN (fun s => B * Fw.ent a p s) a.length = B * sumN (fun j => Fw.ent a p j) a.length := sumN_mul B (fun j => Fw.ent a p j) _
  have el : sumN (fun s => (-B) * Fw.ent a p s) a.length = (-B) * sumN (fun j => Fw.ent a p j) a.length := sumN_mul (-B) (fun j => Fw.ent a p j) _
  rw [eu] at u
  rw [el, Int.neg_mul] at l
  unfold Fw.mA
  omega
theorem sumN_bd {f : Nat → Int} {B : Int} : ∀ {n : Nat}, (∀ i, i < n → -B ≤ f i ∧ f i ≤ B) → -(B * n) ≤ sumN f n ∧ sumN f n ≤ B * n
  | 0, _ => by simp [sumN]
  | n + 1, h => by
    have h1 := sumN_bd (n := n) fun i hi => h i (by omega)
    have h2 := h n (by omega)
    have e : B * ((n + 1 : Nat) : Int) = B * n + B := by simp only [Int.natCast_add, Int.natCast_one, Int.mul_add, Int.mul_one]
    rw [e, sumN]; omega
theorem pow22 : ∀ k : Nat, k ≤ 10 → 0 ≤ (22 : Int) ^ k ∧ (22 : Int) ^ k ≤ 26559922791424 := by
  have : ∀ k, k < 11 → 0 ≤ (22 : Int) ^ k ∧ (22 : Int) ^ k ≤ 26559922791424 := by decide +kernel
  exact fun k hk => this k (by omega)
theorem chM_fM {a : List (List Int)} (h : Sml a) : ∀ k, k ≤ a.length → (chC a k = fC a.length (ent a) k) ∧ ∀ i j, i < a.length → j < a.length → ent (chM a k) i j = fM a.length (ent a) k i j ∧ -(22 : Int) ^ k ≤ ent (chM a k) i j ∧ ent (chM a k) i j ≤ 22 ^ k
  | 0, _ => ⟨rfl, fun i j hi hj => by
    rw [chM, unitM_ent hi hj]
    refine ⟨rfl, ?_⟩
    unfold dl; split <;> decide⟩
  | k + 1, hk => by
    obtain ⟨_, ih⟩ := chM_fM h k (by omega)
    have hn := h.len
    obtain ⟨hB0, hB⟩ := pow22 k (by omega)
    generalize hB' : (22 : Int) ^ k = B at ih hB0 hB
    have ih2 : ∀ s q, s < a.length → q < a.length → -B ≤ fM a.length (ent a) k s q ∧ fM a.length (ent a) k s q ≤ B := fun s q hs hq => by
      rw [← (ih s q hs hq).1]; exact (ih s q hs hq).2
    have hm : ∀ i j, i < a.length → j < a.length → ent (mulW a (chM a k) a.length) i j = mA a.length (ent a) (fM a.length (ent a) k) i j ∧ -(2 * B) ≤ mA a.length (ent a) (fM a.length (ent a) k) i j ∧ mA a.length (ent a) (fM a.length (ent a) k) i j ≤ 2 * B := fun i j hi hj => by
      have hb := h.mA hB0 hi (M := fM a.length (ent a) k) (q := j) fun s hs => ih2 s j hs hj
      refine ⟨?_, hb⟩
      have e : sumN (fun q => ent a i q * ent (chM a k) q j) a.length = mA a.length (ent a) (fM a.length (ent a) k) i j := sumN_congr fun q hq => by rw [(ih q j hq hj).1]
      rw [mulW_ent hi hj, h.sq _ (getD_mem hi), e]
      exact wrap_id (by omega) (by omega)
    have ht : trW (mulW a (chM a k) a.length) a.length = trA a.length (ent a) (fM a.length (ent a) k) ∧ -(20 * B) ≤ trA a.length (ent a) (fM a.length (ent a) k) ∧ trA a.length (ent a) (fM a.length (ent a) k) ≤ 20 * B := by
      have e : sumN (fun i => ent (mulW a (chM a k) a.length) i i) a.length = trA a.length (ent a) (fM a.length (ent a) k) := sumN_congr fun i hi => (hm i i hi hi).1
      have hb : -(20 * B) ≤ trA a.length (ent a) (fM a.length (ent a) k) ∧ trA a.length (ent a) (fM a.length (ent a) k) ≤ 20 * B := by
        have := sumN_bd (f := fun i => mA a.length (ent a) (fM a.length (ent a) k) i i) (B := 2 * B) (n := a.length) fun i hi => (hm i i hi hi).2
        have h20 : 2 * B * (a.length : Int) ≤ 2 * B * 10 := Int.mul_le_mul_of_nonneg_left (by omega) (by omega)
        unfold trA
        omega
      refine ⟨?_, hb⟩
      rw [trW_eq, e]
      exact wrap_id (by omega) (by omega)
    have hc : coW (k + 1) (mulW a (chM a k) a.length) = (- trA a.length (ent a) (fM a.length (ent a) k)).tdiv ((k + 1 : Nat) : Int) ∧ -(20 * B) ≤ (- trA a.length (ent a) (fM a.length (ent a) k)).tdiv ((k + 1 : Nat) : Int) ∧ (- trA a.length (ent a) (fM a.length (ent a) k)).tdiv ((k + 1 : Nat) : Int) ≤ 20 * B := by
      have hb := tdiv_bd (k := k) (x := - trA a.length (ent a) (fM a.length (ent a) k)) (B := 20 * B) (by omega) (by omega)
      refine ⟨?_, hb⟩
      unfold coW
      rw [mulW_len, ht.1, wrap_id (x := - trA a.length (ent a) (fM a.length (ent a) k)) (by omega) (by omega)]
      exact wrap_id (by omega) (by omega)
    refine ⟨hc.1, fun i j hi hj => ?_⟩
    have e22 : (22 : Int) ^ (k + 1) = 22 * B := by rw [Int.pow_succ, hB', Int.mul_comm]
    have hml : ((mulW a (chM a k) a.length).getD i []).length = (mulW a (chM a k) a.length).length := by
      rw [mulW_row a (chM a k) a.length _ (getD_mem (by rw [mulW_len]; exact hi)), mulW_len]
    rw [chM, dgW_ent (by rw [mulW_len]; exact hi) hml, hc.1, fM, e22]
    have hmij := hm i j hi hj
    by_cases hij : i = j
    · subst hij
      rw [if_pos rfl, hmij.1, wrap_id (by omega) (by omega)]
      have e1 : dl i i = 1 := if_pos rfl
      rw [e1, Int.mul_one]
      omega
    · rw [if_neg hij, hmij.1]
      have e1 : dl i j = 0 := if_neg fun e => hij e.symm
      rw [e1, Int.mul_zero]
      omega
theorem chP_len (a : List (List Int)) : (chP a).length = a.length + 1 := outC_len a _
theorem chP_get {a : List (List Int)} {i : Nat} (h : i ≤ a.length) : (chP a).getD i 0 = chC a (a.length - i) := by
  unfold chP; rw [outC_get h]; unfold chF; rw [if_pos (by omega)]
theorem chP_last (a : List (List Int)) : (chP a).getD a.length 0 = 1 := by rw [chP_get (Nat.le_refl _), Nat.sub_self]; rfl
/-- The sum of the polynomial's numbers times the powers. -/
theorem chP_zero {a : List (List Int)} (h : Sml a) {p q : Nat} (hp : p < a.length) (hq : q < a.length) : sumN (fun j => (chP a).getD j 0 * pW a.length (ent a) j p q) (a.length + 1) = 0 := by
  refine Eq.trans (sumN_congr fun j hj => ?_) (zero_of a.length (ent a) p q hp hq)
  rw [chP_get (by omega), (chM_fM h _ (by omega)).1]
/-- The second number is the opposite of the trace. -/
theorem chC_one {a : List (List Int)} (hsq : ∀ r ∈ a, r.length = a.length) (hr : -9223372036854775807 ≤ sumN (fun i => ent a i i) a.length ∧ sumN (fun i => ent a i i) a.length ≤ 9223372036854775807)
    (he : ∀ i j, i < a.length → j < a.length → -9223372036854775808 ≤ ent a i j ∧ ent a i j ≤ 9223372036854775807) : chC a 1 = -sumN (fun i => ent a i i) a.length := by
  have e1 : ∀ i, i < a.length → ent (mulW a (unitM a.length) a.length) i i = ent a i i := fun i hi => by
    rw [mulW_ent hi hi, hsq _ (getD_mem hi)]
    have : sumN (fun q => ent a i q * ent (unitM a.length) q i) a.length = sumN (fun q => dl i q * ent a i q) a.length := sumN_congr fun q hq => by
      rw [unitM_ent hq hi, dl_comm, Int.mul_comm]
    rw [this, sumN_dl, if_pos hi]
    exact wrap_id (he i i hi hi).1 (he i i hi hi).2
  have e2 : sumN (fun i => ent (mulW a (unitM a.length) a.length) i i) a.length = sumN (fun i => ent a i i) a.length := sumN_congr e1
  show coW 1 (mulW a (unitM a.length) a.length) = _
  unfold coW
  rw [mulW_len, trW_eq, e2, wrap_id (x := sumN (fun i => ent a i i) a.length) (by omega) (by omega), wrap_id (x := -sumN (fun i => ent a i i) a.length) (by omega) (by omega)]
  show IntKind.i64.wrap ((-sumN (fun i => ent a i i) a.length).tdiv 1) = _
  rw [Int.tdiv_one]
  exact wrap_id (by omega) (by omega)
end Go.Proofs.Ytadlnnjgocknhaa.Fw
