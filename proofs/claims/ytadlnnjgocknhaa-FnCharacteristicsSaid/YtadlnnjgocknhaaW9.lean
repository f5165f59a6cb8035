/- Characteristic polynomials: plain facts for the law over bytes. -/
import Derived.Test.YtadlnnjgocknhaaW7
namespace Go.Proofs.Ytadlnnjgocknhaa.Fw
open Go Go.RowKit
set_option linter.unusedVariables false
set_option linter.unusedSimpArgs false
set_option maxRecDepth 100000
/-! ### lists by their elements, a beginning of them already turned -/
def mk9 (f : Nat → Int) (r : Nat) : List Int := (List.range r).map f
theorem mk9_len (f : Nat → Int) (r : Nat) : (mk9 f r).length = r := by simp [mk9]
theorem mk9_get {f : Nat → Int} {r s : Nat} (h : s < r) : (mk9 f r).getD s 0 = f s := by simp [mk9, h]
theorem mk9_ext {l : List Int} {f : Nat → Int} {r : Nat} (h : l.length = r) (he : ∀ s, s < r → l.getD s 0 = f s) : l = mk9 f r := by
  refine List.ext_getElem (by rw [h, mk9_len]) fun i h1 h2 => ?_
  have := he i (by omega)
  rw [List.getD_eq_getElem?_getD, List.getElem?_eq_getElem h1] at this
  simp only [mk9, List.getElem_map, List.getElem_range]
  exact this
theorem mk9_congr {f g : Nat → Int} {r : Nat} (h : ∀ s, s < r → f s = g s) : mk9 f r = mk9 g r := mk9_ext (mk9_len f r) fun s hs => by rw [mk9_get hs, h s hs]
theorem mk9_zero (r : Nat) : List.replicate r (0 : Int) = mk9 (fun _ => 0) r := mk9_ext (by simp) fun s hs => by simp [List.getD_eq_getElem?_getD, List.getElem?_replicate, hs]
theorem mk9_unit {r i : Nat} : (List.replicate r (0 : Int)).set i 1 = mk9 (fun s => dl i s) r := mk9_ext (by simp) fun s hs => by
  rw [List.getD_eq_getElem?_getD, List.getElem?_set, List.length_replicate]
  unfold dl
  by_cases e : i = s
  · subst e; simp [hs]
  · rw [if_neg e, if_neg (fun h => e h.symm)]; simp [List.getElem?_replicate, hs]
def mix9 (f g : Nat → Int) (r p : Nat) : List Int := mk9 (fun s => if s < p then g s else f s) r
theorem mix9_len (f g : Nat → Int) (r p : Nat) : (mix9 f g r p).length = r := mk9_len _ _
theorem mix9_zero (f g : Nat → Int) (r : Nat) : mix9 f g r 0 = mk9 f r := mk9_congr fun s _ => if_neg (by omega)
theorem mix9_all (f g : Nat → Int) (r : Nat) : mix9 f g r r = mk9 g r := mk9_congr fun s hs => if_pos hs
theorem mix9_get {f g : Nat → Int} {r p : Nat} (h : p < r) : (mix9 f g r p).getD p 0 = f p := by unfold mix9; rw [mk9_get h, if_neg (by omega)]
theorem mix9_step {f g : Nat → Int} {r p : Nat} (h : p < r) : (mix9 f g r p).set p (g p) = mix9 f g r (p + 1) := mk9_ext (by rw [List.length_set, mix9_len]) fun s hs => by
  by_cases e : s = p
  · subst e
    rw [getD_set (by rw [mix9_len]; exact hs), if_pos (by omega)]
  · rw [List.getD_eq_getElem?_getD, List.getElem?_set_ne (fun h => e h.symm), ← List.getD_eq_getElem?_getD]
    unfold mix9
    rw [mk9_get hs]
    by_cases e2 : s < p
    · rw [if_pos e2, if_pos (by omega)]
    · rw [if_neg e2, if_neg (by omega)]
/-! ### powers applied to a unit row, and what they add up to -/
abbrev wr (x : Int) : Int := IntKind.i64.wrap x
def rw9 (a : List (List Int)) (i k p : Nat) : Int := wr (pW a.length (ent a) k i p)
def nx9 (a : List (List Int)) (i k p s : Nat) : Int := wr (sumN (fun t => pW a.length (ent a) k i t * ent a t s) p)
def to9 (a : List (List Int)) (i k p : Nat) : Int := wr (sumN (fun j => (chP a).getD j 0 * pW a.length (ent a) j i p) k)
theorem wr_ma (x y z : Int) : wr (wr x + wr (y * wr z)) = wr (x + y * z) := by
  unfold wr; rw [wrap_addl, wrap_addr, ← wrap_addr, wrap_mulr, wrap_addr]
theorem wr_ma2 (x y z : Int) : wr (wr x + wr (wr y * z)) = wr (x + y * z) := by
  unfold wr; rw [wrap_addl, wrap_addr, ← wrap_addr, wrap_mull, wrap_addr]
theorem to9_step (a : List (List Int)) (i k p : Nat) : wr (to9 a i k p + wr ((chP a).getD k 0 * rw9 a i k p)) = to9 a i (k + 1) p := wr_ma _ _ _
theorem nx9_step (a : List (List Int)) (i k p s : Nat) : wr (nx9 a i k p s + wr (rw9 a i k p * ent a p s)) = nx9 a i k (p + 1) s := wr_ma2 _ _ _
theorem to9_zero (a : List (List Int)) (i p : Nat) : to9 a i 0 p = 0 := wrap_zero
theorem nx9_zero (a : List (List Int)) (i k s : Nat) : nx9 a i k 0 s = 0 := wrap_zero
theorem rw9_zero (a : List (List Int)) (i p : Nat) : rw9 a i 0 p = dl i p := by
  show IntKind.i64.wrap (dl i p) = _
  unfold dl; split <;> exact wrap_id (by decide) (by decide)
theorem to9_all {a : List (List Int)} (h : Sml a) {i p : Nat} (hi : i < a.length) (hp : p < a.length) : to9 a i (a.length + 1) p = 0 := by
  unfold to9; rw [chP_zero h hi hp]; exact wrap_zero
/-! ### what is told of the rows -/
theorem matP_21' {xs : List Ang} (ho : Orb xs) : (matP xs).length ≤ 21 := by
  have := ho.len
  rw [matP_len]; exact prJ7 _ (by omega)
theorem sq_lenEq {a : List (List Int)} (h : ∀ r ∈ a, r.length = a.length) : a.all (lenEq a) = true := by
  rw [List.all_eq_true]
  intro r hr
  exact decide_eq_true (by rw [h r hr])
theorem okRow_Nn {x : List Int} : okRow x = true ↔ Nn 2 x := by
  constructor
  · intro h
    unfold okRow at h
    rw [Bool.and_eq_true] at h
    obtain ⟨h1, h2⟩ := h
    rw [List.all_eq_true] at h1
    exact ⟨fun v hv => (of_decide_eq_true (h1 v hv)).1, of_decide_eq_true h2⟩
  · intro h
    unfold okRow
    rw [Bool.and_eq_true, List.all_eq_true]
    exact ⟨fun v hv => decide_eq_true ⟨h.1 v hv, h.le v hv⟩, decide_eq_true h.2⟩
theorem coR_case (a : List (List Int)) : ((coR a).1 = [] ∧ (coR a).2 ≠ 0) ∨ (coR a = (chP a, 0) ∧ (∀ r ∈ a, r.length = a.length) ∧ a.length ≤ 21 ∧ ∀ r ∈ a, Nn 2 r) := by
  by_cases h : a.all (lenEq a) = true
  · by_cases h2 : a.length ≤ 21 ∧ a.all okRow = true
    · refine .inr ⟨coR_0 h h2, lenEq_sq h, h2.1, fun r hr => okRow_Nn.1 (List.all_eq_true.1 h2.2 r hr)⟩
    · rw [coR_2 h h2]; exact .inl ⟨rfl, by decide⟩
  · rw [coR_1 h]; exact .inl ⟨rfl, by decide⟩
theorem coR_mat {x : Ang} (h : orbN8 x = 0) : coR (pmO x) = (ppO x, 0) := by
  have hO := orb8_orb (orb8_N h)
  have e1 : pmO x = matP (orb8 x) := by unfold pmO; rw [if_pos h]
  have e2 : ppO x = chP (matP (orb8 x)) := by unfold ppO; rw [if_pos h]
  rw [e1, e2]
  exact coR_0 (sq_lenEq (matP_sq _)) ⟨matP_21' hO, by rw [List.all_eq_true]; exact fun r hr => okRow_Nn.2 (matP_nn hO r hr)⟩
theorem pmO_sh (x : Ang) : (pmO x).length ≤ 900 ∧ ∀ r ∈ pmO x, shR r := by
  by_cases h : orbN8 x = 0
  · have hO := orb8_orb (orb8_N h)
    have e1 : pmO x = matP (orb8 x) := by unfold pmO; rw [if_pos h]
    have := matP_21' hO
    rw [e1]
    exact ⟨by omega, fun r hr => by unfold shR; rw [matP_sq _ r hr]; omega⟩
  · have e1 : pmO x = [] := by unfold pmO; rw [if_neg h]
    rw [e1]; exact ⟨Nat.zero_le _, fun r hr => by cases hr⟩
theorem coR_len (a : List (List Int)) (h : a.length ≤ 900) : (coR a).1.length ≤ 1000 := by
  rcases coR_case a with h1 | h1
  · rw [h1.1]; exact Nat.zero_le _
  · rw [h1.1, chP_len]; omega
theorem ent_2 {a : List (List Int)} (hn : ∀ r ∈ a, Nn 2 r) (i j : Nat) : 0 ≤ ent a i j ∧ ent a i j ≤ 2 := by
  unfold ent
  by_cases hi : i < a.length
  · have hm : a.getD i [] ∈ a := getD_mem hi
    by_cases hj : j < (a.getD i []).length
    · have hm2 : (a.getD i []).getD j 0 ∈ a.getD i [] := getD_mem hj
      exact ⟨(hn _ hm).1 _ hm2, (hn _ hm).le _ hm2⟩
    · rw [List.getD_eq_getElem?_getD (l := a.getD i []), List.getElem?_eq_none (by omega)]; decide
  · have e : a.getD i [] = [] := by rw [List.getD_eq_getElem?_getD, List.getElem?_eq_none (by omega)]; rfl
    rw [e]; simp
theorem tr_bd {a : List (List Int)} (hn : ∀ r ∈ a, Nn 2 r) : ∀ k, 0 ≤ sumN (fun i => ent a i i) k ∧ sumN (fun i => ent a i i) k ≤ 2 * k
  | 0 => ⟨Int.le_refl _, Int.le_refl _⟩
  | k + 1 => by
    have h1 := tr_bd hn k
    have h2 := ent_2 hn k k
    simp only [sumN]
    omega
theorem chP_tr {a : List (List Int)} (hsq : ∀ r ∈ a, r.length = a.length) (hl : a.length ≤ 21) (hn : ∀ r ∈ a, Nn 2 r) (h0 : 0 < a.length) : (chP a).getD (a.length - 1) 0 = wr (-trW a a.length) := by
  have hb := tr_bd hn a.length
  rw [chP_get (by omega), show a.length - (a.length - 1) = 1 by omega, chC_one hsq (by omega) (fun i j _ _ => by have := ent_2 hn i j; omega), trW_eq, wrap_id (x := sumN _ _) (by omega) (by omega)]
  exact (wrap_id (by omega) (by omega)).symm
end Go.Proofs.Ytadlnnjgocknhaa.Fw
