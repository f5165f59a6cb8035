/- The law of the pairs of a period. -/
import Derived.Test.YtlplngafncobkabQ13
namespace Go.Proofs.Ytlplngafncobkab.Fw
open Go Go.RowKit
set_option linter.unusedVariables false
set_option linter.unusedSimpArgs false
set_option maxRecDepth 100000
set_option maxHeartbeats 2000000

abbrev GLP2 := GOk.cons sPop_ok (GOk.cons pop_ok (GOk.cons eqPs_ok (GOk.mcons mkPM_ok (GOk.cons mkPH_ok .nil))))
theorem lawPop_ok : PCtrOk Try.prog 7 lawNC where
  enter := enter_ok Try.func7 (by kernel_rfl) rfl
  calls := by
    intro hg rg lr vals k h
    unfold lawNC at h
    split at h
    case h_2 => exact h.elim
    rename_i n
    obtain ⟨_, hk⟩ := h
    refine ⟨_, _, hk, fun A w _ _ => ?_⟩
    refine enter T_ok GLP2 Try.func7 rfl (K := (· < w.heap.size)) (fun _ h => h) (A := A) (n0 := 0) (b0 := 0) (rows := []) (hp := []) rfl (Nat.zero_le _) (fun k r h => by cases h) rfl (fun k r h => by cases h) rfl rfl (Nat.le_of_ble_eq_true rfl) ?_
    conv => whnf
    repeat (refine V_step T_ok GLP2 rfl ?_; conv => whnf)
    have hb := popL_len n
    have hpd := pop_drop n
    have hpn := pop_len n
    repeat (any_goals (first
      | (refine V_step T_ok GLP2 rfl ?_; conv => whnf)
      | (refine V_drawA T_ok GLP2 mixed (by kernel_rfl) ?_; conv => whnf)
      | (refine bcond_split (fun hc => ?_) (fun hc => ?_) <;> (try simp only [decide_eq_true_eq, decide_eq_false_iff_not, Bool.not_eq_true', Bool.not_eq_false', Bool.and_eq_true, Bool.or_eq_true, Bool.and_eq_false_imp, Bool.or_eq_false_iff, ne_eq, Decidable.not_not] at hc) <;> conv => whnf)
      | (intro ysK hysK; have hysl := congrArg List.length hysK; (try simp only [List.length_set, List.length_append, List.length_cons, List.length_nil, List.length_take, List.length_drop, List.length_replicate] at hysl); conv => whnf)
      | (refine And.intro (by first | exact True.intro | (with_reducible assumption) | omega | (simp only [Rng]; omega) | exact Nat.le_of_ble_eq_true rfl | exact True.intro | exact Nat.le_of_ble_eq_true rfl | (refine ⟨by (try simp only [List.length_cons, List.length_nil]); omega, Int.le_trans (Int.mul_le_mul_of_nonneg_left (show (TInfo.bytes _ : Int) ≤ 64 from Int.ofNat_le.2 (Nat.le_of_ble_eq_true rfl)) (by omega)) (by (try simp only [List.length_cons, List.length_nil]); omega)⟩)) ?_; conv => whnf)))
    intro a ha l hl
    conv => whnf
    rw [← hysK, ← ha] at hpd hpn
    rw [← hl] at hpn
    have hyl : List.length (α := Lf) ysK = a + l := hpn
    have hpl : (List.drop (α := Lf) a ysK).take l = popL n := by rw [hpd, hl]; exact List.take_length
    have heq : eqPs (popL n) ((List.drop (α := Lf) a ysK).take l) = true := by unfold eqPs; rw [hpl]; exact decide_eq_true rfl
    have hyk : List.length (α := Lf) ysK ≤ 100000 := by
      rw [hysK]
      unfold popA
      split
      · exact Nat.le_trans (prN_len (by omega)) (by omega)
      · exact Nat.zero_le _
    clear hysl hysK ha
    have hwl : (List.length (α := Lf) (popL n) : Int) ≤ 2000 := by omega
    repeat (any_goals (first
      | (refine V_step T_ok GLP2 rfl ?_; conv => whnf)
      | (refine V_drawA T_ok GLP2 mixed (by kernel_rfl) ?_; conv => whnf)
      | (refine bcond_split (fun hc => ?_) (fun hc => ?_) <;> (try simp only [decide_eq_true_eq, decide_eq_false_iff_not, Bool.not_eq_true', Bool.not_eq_false', Bool.and_eq_true, Bool.or_eq_true, Bool.and_eq_false_imp, Bool.or_eq_false_iff, ne_eq, Decidable.not_not] at hc) <;> conv => whnf)
      | (intro ysK hysK; have hysl := congrArg List.length hysK; (try simp only [List.length_set, List.length_append, List.length_cons, List.length_nil, List.length_take, List.length_drop, List.length_replicate] at hysl); conv => whnf)
      | (refine And.intro (by first | (first | exact True.intro | omega | exact ⟨hyl.symm, hyk⟩ | exact ⟨by omega, Int.le_trans hwl (by omega)⟩ | exact ⟨by omega, by rw [List.length_map, List.length_range]; exact Int.le_trans hwl (by omega), by rw [List.length_map, List.length_range]⟩) | exact True.intro | exact Nat.le_of_ble_eq_true rfl | (refine ⟨by (try simp only [List.length_cons, List.length_nil]); omega, Int.le_trans (Int.mul_le_mul_of_nonneg_left (show (TInfo.bytes _ : Int) ≤ 64 from Int.ofNat_le.2 (Nat.le_of_ble_eq_true rfl)) (by omega)) (by (try simp only [List.length_cons, List.length_nil]); omega)⟩)) ?_; conv => whnf)))
    all_goals first
      | exact leaf0 rfl rfl rfl
      | (simp at hc; done)
      | (exact absurd trivial hc)
      | (rw [heq] at hc; cases hc)
      | (simp [heq] at hc; done)
      | trace_state
end Go.Proofs.Ytlplngafncobkab.Fw
