/- Contracts: SeparatedPairs, the program. -/
import Derived.Test.YtllagpbbbdekiabX9
namespace Go.Proofs.Ytllagpbbbdekiab.Fw
open Go Go.RowKit
set_option linter.unusedVariables false
set_option linter.unusedSimpArgs false
set_option maxRecDepth 100000
set_option maxHeartbeats 2000000
theorem preS_all {xs : List Ang} (ho : Orb xs) : ∀ p ∈ prJ (xs.length : Int) xs.length, PreS xs p := fun p hp => by
  obtain ⟨i, k, rfl, h1, h2, h3, h4⟩ := mem_prJ.1 hp
  have := ho.len
  have q0 : ([i, k] : List Int).getD 0 0 = i := rfl
  have q1 : ([i, k] : List Int).getD 1 0 = k := rfl
  exact ⟨ho.isA, by rw [q0]; omega, by rw [q1]; omega, Nat.le_refl _, by omega⟩
abbrev GSs := GOk.bcons par_ok (GOk.mcons dsd_ok .nil)
theorem ss_ok : PCtrOk Try.prog 11 spC where
  enter := enter_ok Try.func11 (by kernel_rfl) rfl
  calls := by
    intro hg rg lr vals k h
    unfold spC at h
    split at h
    case h_2 => exact h.elim
    rename_i n d
    obtain ⟨_, hk⟩ := h
    replace hk := hk _ rfl
    refine ⟨_, _, hk, fun A w _ _ => ?_⟩
    refine enter T_ok GSs Try.func11 rfl (K := (· < w.heap.size)) (fun _ h => h) (A := A) (n0 := 0) (b0 := 0) (rows := []) (hp := []) rfl (Nat.zero_le _) (fun k r h => by cases h) rfl (fun k r h => by cases h) rfl rfl (Nat.le_of_ble_eq_true rfl) ?_
    conv => whnf
    repeat (refine V_step T_ok GSs rfl ?_; conv => whnf)
    repeat (any_goals (first
      | (refine V_step T_ok GSs rfl ?_; conv => whnf)
      | (refine V_drawA T_ok GSs mixed (by kernel_rfl) ?_; conv => whnf)
      | (refine bcond_split (fun hc => ?_) (fun hc => ?_) <;> (try simp only [decide_eq_true_eq, decide_eq_false_iff_not, Bool.not_eq_true', Bool.not_eq_false', Bool.and_eq_true, Bool.or_eq_true, Bool.and_eq_false_imp, Bool.or_eq_false_iff, ne_eq, Decidable.not_not] at hc) <;> conv => whnf)
      | (intro ysK hysK; have hysl := congrArg List.length hysK; (try simp only [List.length_set, List.length_append, List.length_cons, List.length_nil, List.length_take, List.length_drop, List.length_replicate] at hysl); conv => whnf)
      | (refine And.intro (by first | exact True.intro | (with_reducible assumption) | omega | (simp only [Rng]; omega) | exact Nat.le_of_ble_eq_true rfl | exact True.intro | exact ⟨rfl, True.intro, fun _ _ => rfl⟩ | exact Nat.le_of_ble_eq_true rfl | (refine ⟨by (try simp only [List.length_cons, List.length_nil]); omega, Int.le_trans (Int.mul_le_mul_of_nonneg_left (show (TInfo.bytes _ : Int) ≤ 64 from Int.ofNat_le.2 (Nat.le_of_ble_eq_true rfl)) (by omega)) (by (try simp only [List.length_cons, List.length_nil]); omega)⟩)) ?_; conv => whnf)))
    refine ⟨fun h1 => ?_, fun h2 => ?_, fun h0 xs prs hxs hprs => ?_⟩ <;> conv => whnf
    · skip
      repeat (any_goals (first
        | (refine V_step T_ok GSs rfl ?_; conv => whnf)
        | (refine V_drawA T_ok GSs mixed (by kernel_rfl) ?_; conv => whnf)
        | (refine bcond_split (fun hc => ?_) (fun hc => ?_) <;> (try simp only [decide_eq_true_eq, decide_eq_false_iff_not, Bool.not_eq_true', Bool.not_eq_false', Bool.and_eq_true, Bool.or_eq_true, Bool.and_eq_false_imp, Bool.or_eq_false_iff, ne_eq, Decidable.not_not] at hc) <;> conv => whnf)
        | (intro ysK hysK; have hysl := congrArg List.length hysK; (try simp only [List.length_set, List.length_append, List.length_cons, List.length_nil, List.length_take, List.length_drop, List.length_replicate] at hysl); conv => whnf)
        | (refine And.intro (by first | exact True.intro | (with_reducible assumption) | omega | (simp only [Rng]; omega) | exact Nat.le_of_ble_eq_true rfl | exact True.intro | exact ⟨rfl, True.intro, fun _ _ => rfl⟩ | exact Nat.le_of_ble_eq_true rfl | (refine ⟨by (try simp only [List.length_cons, List.length_nil]); omega, Int.le_trans (Int.mul_le_mul_of_nonneg_left (show (TInfo.bytes _ : Int) ≤ 64 from Int.ofNat_le.2 (Nat.le_of_ble_eq_true rfl)) (by omega)) (by (try simp only [List.length_cons, List.length_nil]); omega)⟩)) ?_; conv => whnf)))
      rw [parN_orbN8] at h1
      refine leafN rfl (by unfold spO; rw [if_neg (by omega)]) (fun B C h => ?_)
      simp [AVal.den, dens, h, h1, Hdr.val]
    · skip
      repeat (any_goals (first
        | (refine V_step T_ok GSs rfl ?_; conv => whnf)
        | (refine V_drawA T_ok GSs mixed (by kernel_rfl) ?_; conv => whnf)
        | (refine bcond_split (fun hc => ?_) (fun hc => ?_) <;> (try simp only [decide_eq_true_eq, decide_eq_false_iff_not, Bool.not_eq_true', Bool.not_eq_false', Bool.and_eq_true, Bool.or_eq_true, Bool.and_eq_false_imp, Bool.or_eq_false_iff, ne_eq, Decidable.not_not] at hc) <;> conv => whnf)
        | (intro ysK hysK; have hysl := congrArg List.length hysK; (try simp only [List.length_set, List.length_append, List.length_cons, List.length_nil, List.length_take, List.length_drop, List.length_replicate] at hysl); conv => whnf)
        | (refine And.intro (by first | exact True.intro | (with_reducible assumption) | omega | (simp only [Rng]; omega) | exact Nat.le_of_ble_eq_true rfl | exact True.intro | exact ⟨rfl, True.intro, fun _ _ => rfl⟩ | exact Nat.le_of_ble_eq_true rfl | (refine ⟨by (try simp only [List.length_cons, List.length_nil]); omega, Int.le_trans (Int.mul_le_mul_of_nonneg_left (show (TInfo.bytes _ : Int) ≤ 64 from Int.ofNat_le.2 (Nat.le_of_ble_eq_true rfl)) (by omega)) (by (try simp only [List.length_cons, List.length_nil]); omega)⟩)) ?_; conv => whnf)))
      rw [parN_orbN8] at h2
      refine leafN rfl (by unfold spO; rw [if_neg (by omega)]) (fun B C h => ?_)
      simp [AVal.den, dens, h, h2, Hdr.val]
    · rw [parN_orbN8] at h0
      have hO := orb8_orb (orb8_N h0)
      rw [← hxs] at hO
      have hpa := preS_all hO
      rw [← hprs] at hpa
      have hln : List.length (α := List Int) prs ≤ 1000 := by
        have h1 := hO.len
        have h2 : (prJ (xs.length : Int) xs.length).length ≤ 21 := prJ7 _ (by omega)
        rw [hprs]
        exact Nat.le_trans h2 (by decide)
      have hH : (¬ (1 : Nat) = 0 ∧ List.length (α := List Int) prs ≤ 1000 ∧ ∀ p ∈ prs, PreS xs p) := ⟨by decide, hln, hpa⟩
      repeat (any_goals (first
        | (refine V_step T_ok GSs rfl ?_; conv => whnf)
        | (refine V_drawA T_ok GSs mixed (by kernel_rfl) ?_; conv => whnf)
        | (refine bcond_split (fun hc => ?_) (fun hc => ?_) <;> (try simp only [decide_eq_true_eq, decide_eq_false_iff_not, Bool.not_eq_true', Bool.not_eq_false', Bool.and_eq_true, Bool.or_eq_true, Bool.and_eq_false_imp, Bool.or_eq_false_iff, ne_eq, Decidable.not_not] at hc) <;> conv => whnf)
        | (intro ysK hysK; have hysl := congrArg List.length hysK; (try simp only [List.length_set, List.length_append, List.length_cons, List.length_nil, List.length_take, List.length_drop, List.length_replicate] at hysl); conv => whnf)
        | (refine And.intro (by first | (first | exact True.intro | exact hH) | exact True.intro | exact ⟨rfl, True.intro, fun _ _ => rfl⟩ | exact Nat.le_of_ble_eq_true rfl | (refine ⟨by (try simp only [List.length_cons, List.length_nil]); omega, Int.le_trans (Int.mul_le_mul_of_nonneg_left (show (TInfo.bytes _ : Int) ≤ 64 from Int.ofNat_le.2 (Nat.le_of_ble_eq_true rfl)) (by omega)) (by (try simp only [List.length_cons, List.length_nil]); omega)⟩)) ?_; conv => whnf)))
      have e : prs.filter (fun p => !notS xs p) = spO (n, d) := by
        unfold spO
        rw [if_pos h0, ← hxs, ← hprs]
        refine List.filter_congr fun p _ => ?_
        unfold notS
        rw [Bool.not_not]
      exact leaf1 2 rfl rfl (congrArg (fun ys => (⟨rT, 43, true, ys⟩ : Row)) e) rfl (fun B C h => by simp [AVal.den, dens, h, h0])
end Go.Proofs.Ytllagpbbbdekiab.Fw
