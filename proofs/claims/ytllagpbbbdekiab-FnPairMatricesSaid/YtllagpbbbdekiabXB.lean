/- Contracts for the law of pair matrices: angles' code, GrowsFaster. -/
import Derived.Test.YtllagpbbbdekiabXA
import Derived.Test.YtllagpbbbdekiabY5
import Derived.Test.YtllagpbbbdekiabU3
import Derived.Test.YtllagpbbbdekiabU4
namespace Go.Proofs.Ytllagpbbbdekiab.Fw
open Go Go.RowKit
set_option linter.unusedVariables false
set_option linter.unusedSimpArgs false
set_option maxRecDepth 100000
set_option maxHeartbeats 2000000
def codeA2 : PCtr := fun hg rg _ vals k => match vals with
  | [.row i] => rowC aT (rg i) fun xs => True ∧ k [] (.int .i64 (if (xs : List Ang).all allAY = true then 0 else 1))
  | _ => False
theorem anglesCode2_ok : PCtrOk Try.prog 47 codeA2 where
  enter := enter_ok Try.func47 (by kernel_rfl) rfl
  calls := by
    intro hg rg lr vals k h
    unfold codeA2 at h
    split at h
    case h_2 => exact h.elim
    rename_i i
    obtain ⟨e, own, xs, hi, h⟩ : ∃ e own, ∃ (xs : List Ang), _ := rowC_inv h
    have hk := h.2
    refine ⟨_, _, hk, fun A w hB hR => ?_⟩
    refine enter T_ok (GOk.cons allA_ok .nil) Try.func47 rfl (K := (· < w.heap.size)) (fun _ h => h) (A := A.pick [] [i]) (vals := [.row 0]) (n0 := 0) (b0 := 0) (rows := [some ⟨aT, e, false, xs⟩]) (hp := []) rfl (Nat.zero_le _) no_box rfl (one_row (hR i _ hi)) rfl rfl (Nat.le_of_ble_eq_true rfl) ?_
    conv => whnf
    repeat (refine V_step T_ok (GOk.cons allA_ok .nil) rfl ?_; conv => whnf)
    repeat (any_goals (first
      | (refine V_step T_ok (GOk.cons allA_ok .nil) rfl ?_; conv => whnf)
      | (refine V_drawA T_ok (GOk.cons allA_ok .nil) mixed (by kernel_rfl) ?_; conv => whnf)
      | (refine bcond_split (fun hc => ?_) (fun hc => ?_) <;> (try simp only [decide_eq_true_eq, decide_eq_false_iff_not, Bool.not_eq_true', Bool.not_eq_false', Bool.and_eq_true, Bool.or_eq_true, Bool.and_eq_false_imp, Bool.or_eq_false_iff, ne_eq, Decidable.not_not] at hc) <;> conv => whnf)
      | (intro ysK hysK; have hysl := congrArg List.length hysK; (try simp only [List.length_set, List.length_append, List.length_cons, List.length_nil, List.length_take, List.length_drop, List.length_replicate] at hysl); conv => whnf)
      | (intro bK hbK; have hbl := congrArg ByteArray.size hbK; conv => whnf)
      | (intro sK hsK; conv => whnf)
      | (refine And.intro (by first | exact True.intro | (with_reducible assumption) | omega | (simp only [Rng]; omega) | exact Nat.le_of_ble_eq_true rfl | exact True.intro | exact ⟨rfl, True.intro, fun _ _ => rfl⟩ | exact Nat.le_of_ble_eq_true rfl | (refine ⟨by (try simp only [List.length_cons, List.length_nil]); omega, Int.le_trans (Int.mul_le_mul_of_nonneg_left (show (TInfo.bytes _ : Int) ≤ 64 from Int.ofNat_le.2 (Nat.le_of_ble_eq_true rfl)) (by omega)) (by (try simp only [List.length_cons, List.length_nil]); omega)⟩)) ?_; conv => whnf)))
    · have hc : (xs : List Ang).all allAY = false := hc
      exact leaf0 rfl (by rw [hc]; rfl) rfl
    · have hc : (xs : List Ang).all allAY = true := hc
      exact leaf0 rfl (by rw [hc]; rfl) rfl
theorem two_isA (a b : Ang) : (if [a, b].all allAY = true then (0 : Int) else 1) = 0 ↔ IsA a ∧ IsA b := by
  by_cases h : IsA a <;> by_cases h' : IsA b <;> simp [allAY, h, h']
theorem two_isA' {a b : Ang} (h : ¬ (IsA a ∧ IsA b)) : (if [a, b].all allAY = true then (0 : Int) else 1) = 1 := by
  by_cases h1 : IsA a <;> by_cases h2 : IsA b <;> simp_all [allAY]
@[irreducible] def gfR (t u : Ang) (q : Int) : Bool × Int := if IsA t ∧ IsA u then (if pcN t q = 0 ∧ pcN u q = 0 then (decide (pcV u q < pcV t q), 0) else (false, 2)) else (false, 1)
theorem gfR_1 {t u : Ang} {q : Int} (h : ¬ (IsA t ∧ IsA u)) : gfR t u q = (false, 1) := by unfold gfR; rw [if_neg h]
theorem gfR_2 {t u : Ang} {q : Int} (h : IsA t ∧ IsA u) (h2 : ¬ (pcN t q = 0 ∧ pcN u q = 0)) : gfR t u q = (false, 2) := by unfold gfR; rw [if_pos h, if_neg h2]
theorem gfR_0 {t u : Ang} {q : Int} (h : IsA t ∧ IsA u) (h2 : pcN t q = 0 ∧ pcN u q = 0) : gfR t u q = (decide (pcV u q < pcV t q), 0) := by unfold gfR; rw [if_pos h, if_pos h2]
def gfC : PCtr := fun _ _ _ vals k => match vals with
  | [.agg [.int .i64 n, .int .i64 d], .agg [.int .i64 m, .int .i64 e], .int .i64 q] => True ∧ ∀ z : Bool × Int, z = gfR (n, d) (m, e) q → k [] (.tup [.bool z.1, .int .i64 z.2])
  | _ => False
abbrev GGf := (GOk.cons anglesCode2_ok (GOk.cons pc_ok .nil))
theorem gf_ok : PCtrOk Try.prog 19 gfC where
  enter := enter_ok Try.func19 (by kernel_rfl) rfl
  calls := by
    intro hg rg lr vals k h
    unfold gfC at h
    split at h
    case h_2 => exact h.elim
    rename_i n d m e q
    obtain ⟨_, hk⟩ := h
    replace hk := hk _ rfl
    refine ⟨_, _, hk, fun A w _ _ => ?_⟩
    refine enter T_ok GGf Try.func19 rfl (K := (· < w.heap.size)) (fun _ h => h) (A := A) (n0 := 0) (b0 := 0) (rows := []) (hp := []) rfl (Nat.zero_le _) (fun k r h => by cases h) rfl (fun k r h => by cases h) rfl rfl (Nat.le_of_ble_eq_true rfl) ?_
    conv => whnf
    repeat (refine V_step T_ok GGf rfl ?_; conv => whnf)
    repeat (any_goals (first
      | (refine V_step T_ok GGf rfl ?_; conv => whnf)
      | (refine V_drawA T_ok GGf mixed (by kernel_rfl) ?_; conv => whnf)
      | (refine bcond_split (fun hc => ?_) (fun hc => ?_) <;> (try simp only [decide_eq_true_eq, decide_eq_false_iff_not, Bool.not_eq_true', Bool.not_eq_false', Bool.and_eq_true, Bool.or_eq_true, Bool.and_eq_false_imp, Bool.or_eq_false_iff, ne_eq, Decidable.not_not] at hc) <;> conv => whnf)
      | (intro ysK hysK; have hysl := congrArg List.length hysK; (try simp only [List.length_set, List.length_append, List.length_cons, List.length_nil, List.length_take, List.length_drop, List.length_replicate] at hysl); conv => whnf)
      | (intro bK hbK; have hbl := congrArg ByteArray.size hbK; conv => whnf)
      | (intro sK hsK; conv => whnf)
      | (refine And.intro (by first | exact True.intro | (with_reducible assumption) | omega | (simp only [Rng]; omega) | exact Nat.le_of_ble_eq_true rfl | exact True.intro | exact ⟨rfl, True.intro, fun _ _ => rfl⟩ | exact Nat.le_of_ble_eq_true rfl | (refine ⟨by (try simp only [List.length_cons, List.length_nil]); omega, Int.le_trans (Int.mul_le_mul_of_nonneg_left (show (TInfo.bytes _ : Int) ≤ 64 from Int.ofNat_le.2 (Nat.le_of_ble_eq_true rfl)) (by omega)) (by (try simp only [List.length_cons, List.length_nil]); omega)⟩)) ?_; conv => whnf)))
    · have hn : ¬ (IsA (n, d) ∧ IsA (m, e)) := fun h => hc ((two_isA _ _).2 h)
      have e1 := two_isA' hn
      exact leaf0 rfl (by rw [gfR_1 hn]; exact congrArg (fun z => AVal.tup [.bool false, .int .i64 z]) e1) rfl
    · have hA := (two_isA _ _).1 (by assumption)
      exact leaf0 rfl (by rw [gfR_2 hA fun h => hc h.1]) rfl
    · have hA := (two_isA _ _).1 (by assumption)
      exact leaf0 rfl (by rw [gfR_2 hA fun h => hc h.2]) rfl
    · have hA := (two_isA _ _).1 (by assumption)
      exact leaf0 rfl (by rw [gfR_0 hA ⟨by assumption, by assumption⟩]) rfl
abbrev GsGf := (GOk.cons sIs_ok (GOk.cons sLen_ok (GOk.cons sPaths_ok .nil)))
theorem sGf_ok : PCtrOk Try.prog 20 gfC where
  enter := enter_ok Try.func20 (by kernel_rfl) rfl
  calls := by
    intro hg rg lr vals k h
    unfold gfC at h
    split at h
    case h_2 => exact h.elim
    rename_i n d m e q
    obtain ⟨_, hk⟩ := h
    replace hk := hk _ rfl
    refine ⟨_, _, hk, fun A w _ _ => ?_⟩
    refine enter T_ok GsGf Try.func20 rfl (K := (· < w.heap.size)) (fun _ h => h) (A := A) (n0 := 0) (b0 := 0) (rows := []) (hp := []) rfl (Nat.zero_le _) (fun k r h => by cases h) rfl (fun k r h => by cases h) rfl rfl (Nat.le_of_ble_eq_true rfl) ?_
    conv => whnf
    repeat (refine V_step T_ok GsGf rfl ?_; conv => whnf)
    have hpre1 : ∀ ys : List Ang, ys = orb8 (n, d) → parN (n, d) (decide (0 ≤ q ∧ q ≤ 40)) = 0 → Orb ys ∧ 0 ≤ q ∧ q ≤ 40 := fun ys h h0 => by rw [h]; exact pcN_0 h0
    have hpre2 : ∀ ys : List Ang, ys = orb8 (m, e) → parN (m, e) (decide (0 ≤ q ∧ q ≤ 40)) = 0 → Orb ys ∧ 0 ≤ q ∧ q ≤ 40 := fun ys h h0 => by rw [h]; exact pcN_0 h0
    repeat (any_goals (first
      | (refine V_step T_ok GsGf rfl ?_; conv => whnf)
      | (refine V_drawA T_ok GsGf mixed (by kernel_rfl) ?_; conv => whnf)
      | (refine bcond_split (fun hc => ?_) (fun hc => ?_) <;> (try simp only [decide_eq_true_eq, decide_eq_false_iff_not, Bool.not_eq_true', Bool.not_eq_false', Bool.and_eq_true, Bool.or_eq_true, Bool.and_eq_false_imp, Bool.or_eq_false_iff, ne_eq, Decidable.not_not] at hc) <;> conv => whnf)
      | (intro ysK hysK; have hysl := congrArg List.length hysK; (try simp only [List.length_set, List.length_append, List.length_cons, List.length_nil, List.length_take, List.length_drop, List.length_replicate] at hysl); conv => whnf)
      | (intro bK hbK; have hbl := congrArg ByteArray.size hbK; conv => whnf)
      | (intro sK hsK; conv => whnf)
      | (refine And.intro (by first | (first | exact True.intro | exact hpre1 _ (by assumption) (by assumption) | exact hpre2 _ (by assumption) (by assumption)) | exact True.intro | exact ⟨rfl, True.intro, fun _ _ => rfl⟩ | exact Nat.le_of_ble_eq_true rfl | (refine ⟨by (try simp only [List.length_cons, List.length_nil]); omega, Int.le_trans (Int.mul_le_mul_of_nonneg_left (show (TInfo.bytes _ : Int) ≤ 64 from Int.ofNat_le.2 (Nat.le_of_ble_eq_true rfl)) (by omega)) (by (try simp only [List.length_cons, List.length_nil]); omega)⟩)) ?_; conv => whnf)))
    · exact leaf0 rfl (by rw [gfR_1 fun h => hc h.1]) rfl
    · exact leaf0 rfl (by rw [gfR_1 fun h => hc h.2]) rfl
    · exact leaf0 rfl (by rw [gfR_2 ⟨by assumption, by assumption⟩ fun h => hc h.1]) rfl
    · exact leaf0 rfl (by rw [gfR_2 ⟨by assumption, by assumption⟩ fun h => hc h.2]) rfl
    · rename_i y1 h1 _ h3 s1 h4
      have h2 : pcN (m, e) q = 0 := hc
      have h3 : pcN (n, d) q = 0 := h3
      have e1 : pcV (n, d) q = s1 := by rw [pcV, if_pos h3, h4, h1]
      have e2 : pcV (m, e) q = sK := by rw [pcV, if_pos h2, hsK, hysK]
      exact leaf0 rfl (by rw [gfR_0 ⟨by assumption, by assumption⟩ ⟨h3, h2⟩, e1, e2]) rfl
def bigC : PCtr := fun _ rg _ vals k => match vals with
  | [.row i] => rowC bT (rg i) fun xs => True ∧ k [] (.bool (decide (4096 < (List.length (α := Int) xs : Int))))
  | _ => False
theorem big_ok : PCtrOk Try.prog 4 bigC where
  enter := enter_ok Try.func4 (by kernel_rfl) rfl
  calls := by
    intro hg rg lr vals k h
    unfold bigC at h
    split at h
    case h_2 => exact h.elim
    rename_i i
    obtain ⟨e, own, xs, hi, h⟩ : ∃ e own, ∃ (xs : List Int), _ := rowC_inv h
    have hk := h.2
    refine ⟨_, _, hk, fun A w hB hR => ?_⟩
    refine enter T_ok .nil Try.func4 rfl (K := (· < w.heap.size)) (fun _ h => h) (A := A.pick [] [i]) (vals := [.row 0]) (n0 := 0) (b0 := 0) (rows := [some ⟨bT, e, false, xs⟩]) (hp := []) rfl (Nat.zero_le _) no_box rfl (one_row (hR i _ hi)) rfl rfl (Nat.le_of_ble_eq_true rfl) ?_
    conv => whnf
    repeat (refine V_step T_ok .nil rfl ?_; conv => whnf)
    repeat (any_goals (first
      | (refine V_step T_ok .nil rfl ?_; conv => whnf)
      | (refine V_drawA T_ok .nil mixed (by kernel_rfl) ?_; conv => whnf)
      | (refine bcond_split (fun hc => ?_) (fun hc => ?_) <;> (try simp only [decide_eq_true_eq, decide_eq_false_iff_not, Bool.not_eq_true', Bool.not_eq_false', Bool.and_eq_true, Bool.or_eq_true, Bool.and_eq_false_imp, Bool.or_eq_false_iff, ne_eq, Decidable.not_not] at hc) <;> conv => whnf)
      | (intro ysK hysK; have hysl := congrArg List.length hysK; (try simp only [List.length_set, List.length_append, List.length_cons, List.length_nil, List.length_take, List.length_drop, List.length_replicate] at hysl); conv => whnf)
      | (intro bK hbK; have hbl := congrArg ByteArray.size hbK; conv => whnf)
      | (intro sK hsK; conv => whnf)
      | (refine And.intro (by first | exact True.intro | (with_reducible assumption) | omega | (simp only [Rng]; omega) | exact Nat.le_of_ble_eq_true rfl | exact True.intro | exact ⟨rfl, True.intro, fun _ _ => rfl⟩ | exact Nat.le_of_ble_eq_true rfl | (refine ⟨by (try simp only [List.length_cons, List.length_nil]); omega, Int.le_trans (Int.mul_le_mul_of_nonneg_left (show (TInfo.bytes _ : Int) ≤ 64 from Int.ofNat_le.2 (Nat.le_of_ble_eq_true rfl)) (by omega)) (by (try simp only [List.length_cons, List.length_nil]); omega)⟩)) ?_; conv => whnf)))
    all_goals exact leaf0 rfl rfl rfl
end Go.Proofs.Ytllagpbbbdekiab.Fw
