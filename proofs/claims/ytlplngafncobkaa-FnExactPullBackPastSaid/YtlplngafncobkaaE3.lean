/- Contracts: the reference pulls a leaf back past a diameter; the law, walked. -/
import Derived.Test.YtlplngafncobkaaE2
namespace Go.Proofs.Ytlplngafncobkaa.Fw
open Go Go.RowKit
set_option linter.unusedVariables false
set_option linter.unusedSimpArgs false
set_option maxRecDepth 100000
set_option maxHeartbeats 2000000

def sHalvesC : PCtr := fun _ _ _ vals k => match vals with
  | [.agg [.int .i64 n, .int .i64 d]] => Sm (n, d) ∧ k [] (.tup [aV (halfA (n, d)), aV (half2A (n, d)), .bool (decide (okHalf (n, d)))])
  | _ => False
theorem sHalves_ok : PCtrOk Try.prog 103 sHalvesC where
  enter := enter_ok Try.func103 (by kernel_rfl) rfl
  calls := by
    intro hg rg lr vals k h
    unfold sHalvesC at h
    split at h
    case h_2 => exact h.elim
    rename_i n d
    obtain ⟨hn, hk⟩ := h
    refine ⟨_, _, hk, fun A w _ _ => ?_⟩
    refine enter T_ok (GOk.cons sOf_ok .nil) Try.func103 rfl (K := (· < w.heap.size)) (fun _ h => h) (A := A) (n0 := 0) (b0 := 0) (rows := []) (hp := []) rfl (Nat.zero_le _) (fun k r h => by cases h) rfl (fun k r h => by cases h) rfl rfl (Nat.le_of_ble_eq_true rfl) ?_
    conv => whnf
    repeat (refine V_step T_ok (GOk.cons sOf_ok .nil) rfl ?_; conv => whnf)
    obtain ⟨⟨h1, h2⟩, ⟨h3, h4⟩⟩ := hn
    simp only at h1 h2 h3 h4
    repeat (any_goals (first
      | (refine V_step T_ok (GOk.cons sOf_ok .nil) rfl ?_; conv => whnf)
      | (refine V_drawS T_ok (GOk.cons sOf_ok .nil) mixed (by kernel_rfl) ?_; conv => whnf)
      | (refine bcond_split (fun hc => ?_) (fun hc => ?_) <;> (try simp only [decide_eq_true_eq, decide_eq_false_iff_not, Bool.not_eq_true', Bool.not_eq_false', Bool.and_eq_true, Bool.or_eq_true, Bool.and_eq_false_imp, Bool.or_eq_false_iff, ne_eq, Decidable.not_not] at hc) <;> conv => whnf)
      | (intro ysK hysK; have hysl := congrArg List.length hysK; (try simp only [List.length_set, List.length_append, List.length_cons, List.length_nil] at hysl); conv => whnf)
      | (refine And.intro (by first | (first | exact True.intro | omega | (simp only [Rng]; omega)) | exact True.intro | exact Nat.le_of_ble_eq_true rfl | (refine ⟨by (try simp only [List.length_cons, List.length_nil]); omega, Int.le_trans (Int.mul_le_mul_of_nonneg_left (show (TInfo.bytes _ : Int) ≤ 64 from Int.ofNat_le.2 (Nat.le_of_ble_eq_true rfl)) (by omega)) (by (try simp only [List.length_cons, List.length_nil]); omega)⟩)) ?_; conv => whnf)))
    all_goals refine leaf0 rfl ?_ rfl
    all_goals congr 5
    all_goals (simp only [okHalf, halfA, half2A] at *; grind)

abbrev GSP := GOk.cons sIsL_ok (GOk.cons sDouble_ok (GOk.cons sDia_ok (GOk.cons sHalves_ok (GOk.cons sWithin_ok (GOk.cons sLeafOf_ok (GOk.cons sLessL_ok .nil))))))
theorem sPast_ok : PCtrOk Try.prog 27 pastC where
  enter := enter_ok Try.func27 (by kernel_rfl) rfl
  calls := by
    intro hg rg lr vals k h
    unfold pastC at h
    split at h
    case h_2 => exact h.elim
    rename_i n d m e n' d' m' e'
    obtain ⟨_, hk⟩ := h
    refine ⟨_, _, hk, fun A w _ _ => ?_⟩
    refine enter T_ok GSP Try.func27 rfl (K := (· < w.heap.size)) (fun _ h => h) (A := A) (n0 := 0) (b0 := 0) (rows := []) (hp := []) rfl (Nat.zero_le _) (fun k r h => by cases h) rfl (fun k r h => by cases h) rfl rfl (Nat.le_of_ble_eq_true rfl) ?_
    conv => whnf
    repeat (refine V_step T_ok GSP rfl ?_; conv => whnf)
    have i1 : IsL ((n, d), (m, e)) → SmL ((n, d), (m, e)) ∧ (Sm (halfA (n, d)) ∧ Sm (half2A (n, d))) ∧ (Sm (halfA (m, e)) ∧ Sm (half2A (m, e))) := fun h => ⟨h.sm, ⟨Sm.half h.1, Sm.half2 h.1⟩, ⟨Sm.half h.2.1, Sm.half2 h.2.1⟩⟩
    have i2 : IsL ((n', d'), (m', e')) → SmL ((n', d'), (m', e')) := fun h => h.sm
    repeat (any_goals (first
      | (refine V_step T_ok GSP rfl ?_; conv => whnf)
      | (refine V_drawA T_ok GSP mixed (by kernel_rfl) ?_; conv => whnf)
      | (refine bcond_split (fun hc => ?_) (fun hc => ?_) <;> (try simp only [decide_eq_true_eq, decide_eq_false_iff_not, Bool.not_eq_true', Bool.not_eq_false', Bool.and_eq_true, Bool.or_eq_true, Bool.and_eq_false_imp, Bool.or_eq_false_iff, ne_eq, Decidable.not_not] at hc) <;> conv => whnf)
      | (intro ysK hysK; have hysl := congrArg List.length hysK; (try simp only [List.length_set, List.length_append, List.length_cons, List.length_nil] at hysl); conv => whnf)
      | (refine And.intro (by first | (first | exact True.intro | exact i2 (by assumption) | exact (i2 (by assumption)).1 | exact (i2 (by assumption)).1.bd | exact (i1 (by assumption)).1.1 | exact (i1 (by assumption)).1.2 | (obtain ⟨q0, ⟨q3, q4⟩, q5, q6⟩ := i1 (by assumption); obtain ⟨q8, q9⟩ := i2 (by assumption); first | exact ⟨q3.bd, q8.bd, q9.bd⟩ | exact ⟨q5.bd, q8.bd, q9.bd⟩ | exact ⟨q3.bd, q5.bd⟩ | exact ⟨q4.bd, q6.bd⟩ | exact ⟨q3.bd, q6.bd⟩ | exact ⟨q4.bd, q5.bd⟩ | exact ⟨(leafOf_sm q4 q6).bd, (leafOf_sm q3 q5).bd⟩ | exact ⟨(leafOf_sm q4 q5).bd, (leafOf_sm q3 q6).bd⟩)) | exact True.intro | exact Nat.le_of_ble_eq_true rfl | (refine ⟨by (try simp only [List.length_cons, List.length_nil]); omega, Int.le_trans (Int.mul_le_mul_of_nonneg_left (show (TInfo.bytes _ : Int) ≤ 64 from Int.ofNat_le.2 (Nat.le_of_ble_eq_true rfl)) (by omega)) (by (try simp only [List.length_cons, List.length_nil]); omega)⟩)) ?_; conv => whnf)))
    · have hb := past_bad (l := ((n, d), (m, e))) (d := ((n', d'), (m', e'))) (fun h => hc h.1)
      refine leafN rfl hb.1 (fun B C h => ?_)
      simp [AVal.den, dens, h, hb.2, Hdr.val]
    · have hb := past_bad (l := ((n, d), (m, e))) (d := ((n', d'), (m', e'))) (fun h => hc h.2)
      refine leafN rfl hb.1 (fun B C h => ?_)
      simp [AVal.den, dens, h, hb.2, Hdr.val]
    · rename_i k0 k1
      have hb := past_st ⟨k0, k1⟩ (fun h => by have h1 := h.1; rw [hc] at h1; cases h1)
      refine leafN rfl hb.1 (fun B C h => ?_)
      simp [AVal.den, dens, h, hb.2, Hdr.val]
    · rename_i k0 k1 k2
      have hb := past_st ⟨k0, k1⟩ (fun h => h.2 (.inl (Prod.ext hc.1.symm hc.2.symm)))
      refine leafN rfl hb.1 (fun B C h => ?_)
      simp [AVal.den, dens, h, hb.2, Hdr.val]
    · rename_i k0 k1 k2 k3
      have hb := past_st ⟨k0, k1⟩ (fun h => h.2 (.inr (Prod.ext hc.1.symm hc.2.symm)))
      refine leafN rfl hb.1 (fun B C h => ?_)
      simp [AVal.den, dens, h, hb.2, Hdr.val]
    all_goals have hp : IsL ((n, d), (m, e)) → PastP ((n, d), (m, e)) ((n', d'), (m', e')) := fun _ => ⟨by assumption, fun h => by
      rcases h with h | h
      · have : n = (doubleA (n', d')).1 ∧ d = (doubleA (n', d')).2 := ⟨(congrArg Prod.fst h).symm, (congrArg Prod.snd h).symm⟩
        exact absurd this.2 ((show n = (doubleA (n', d')).1 → ¬ d = (doubleA (n', d')).2 by assumption) this.1)
      · have : m = (doubleA (n', d')).1 ∧ e = (doubleA (n', d')).2 := ⟨(congrArg Prod.fst h).symm, (congrArg Prod.snd h).symm⟩
        exact absurd this.2 ((show m = (doubleA (n', d')).1 → ¬ e = (doubleA (n', d')).2 by assumption) this.1)⟩
    · rename_i k0 k1 k2 k3 k4
      have hb := past_no ⟨k0, k1⟩ (hp k0) (fun h => hc h.1)
      refine leafN rfl hb.1 (fun B C h => ?_)
      simp [AVal.den, dens, h, hb.2, Hdr.val]
    · rename_i k0 k1 k2 k3 k4 k5
      have hb := past_no ⟨k0, k1⟩ (hp k0) (fun h => hc h.2)
      refine leafN rfl hb.1 (fun B C h => ?_)
      simp [AVal.den, dens, h, hb.2, Hdr.val]
    · rename_i k0 k1 k2 k3 k4 k5 k6 k7
      have hb := past_yes ⟨k0, k1⟩ (hp k0) ⟨k5, k6⟩
      have hw : ¬ sWithinA (halfA (n, d)) (n', d') (m', e') = sWithinA (halfA (m, e)) (n', d') (m', e') := by simpa using k7
      have hl : sLessL (leafOf (half2A (n, d)) (halfA (m, e))) (leafOf (halfA (n, d)) (half2A (m, e))) = true := hc
      refine leaf1 0 rfl rfl (by rw [hb.1, sPastW, if_neg hw, sTwoL, if_pos hl]) rfl (fun B C h => ?_)
      simp [AVal.den, dens, h, hb.2]
    · rename_i k0 k1 k2 k3 k4 k5 k6 k7
      have hb := past_yes ⟨k0, k1⟩ (hp k0) ⟨k5, k6⟩
      have hw : ¬ sWithinA (halfA (n, d)) (n', d') (m', e') = sWithinA (halfA (m, e)) (n', d') (m', e') := by simpa using k7
      have hl : ¬ sLessL (leafOf (half2A (n, d)) (halfA (m, e))) (leafOf (halfA (n, d)) (half2A (m, e))) = true := by
        have : sLessL (leafOf (half2A (n, d)) (halfA (m, e))) (leafOf (halfA (n, d)) (half2A (m, e))) = false := hc
        rw [this]; simp
      refine leaf1 0 rfl rfl (by rw [hb.1, sPastW, if_neg hw, sTwoL, if_neg hl]) rfl (fun B C h => ?_)
      simp [AVal.den, dens, h, hb.2]
    · rename_i k0 k1 k2 k3 k4 k5 k6 k7
      have hb := past_yes ⟨k0, k1⟩ (hp k0) ⟨k5, k6⟩
      have hw : sWithinA (halfA (n, d)) (n', d') (m', e') = sWithinA (halfA (m, e)) (n', d') (m', e') := by simpa using k7
      have hl : sLessL (leafOf (half2A (n, d)) (half2A (m, e))) (leafOf (halfA (n, d)) (halfA (m, e))) = true := hc
      refine leaf1 0 rfl rfl (by rw [hb.1, sPastW, if_pos hw, sTwoL, if_pos hl]) rfl (fun B C h => ?_)
      simp [AVal.den, dens, h, hb.2]
    · rename_i k0 k1 k2 k3 k4 k5 k6 k7
      have hb := past_yes ⟨k0, k1⟩ (hp k0) ⟨k5, k6⟩
      have hw : sWithinA (halfA (n, d)) (n', d') (m', e') = sWithinA (halfA (m, e)) (n', d') (m', e') := by simpa using k7
      have hl : ¬ sLessL (leafOf (half2A (n, d)) (half2A (m, e))) (leafOf (halfA (n, d)) (halfA (m, e))) = true := by
        have : sLessL (leafOf (half2A (n, d)) (half2A (m, e))) (leafOf (halfA (n, d)) (halfA (m, e))) = false := hc
        rw [this]; simp
      refine leaf1 0 rfl rfl (by rw [hb.1, sPastW, if_pos hw, sTwoL, if_neg hl]) rfl (fun B C h => ?_)
      simp [AVal.den, dens, h, hb.2]

end Go.Proofs.Ytlplngafncobkaa.Fw
