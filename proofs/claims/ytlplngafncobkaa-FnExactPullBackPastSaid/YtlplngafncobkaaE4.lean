/- The law of leaves that are pulled back past a diameter, walked. -/
import Derived.Test.YtlplngafncobkaaE3
namespace Go.Proofs.Ytlplngafncobkaa.Fw
open Go Go.RowKit
set_option linter.unusedVariables false
set_option linter.unusedSimpArgs false
set_option maxRecDepth 100000
set_option maxHeartbeats 2000000

theorem sTwo_len (l m : Lf) : (sTwoL l m).length = 2 := by unfold sTwoL; split <;> rfl
theorem pastO_len (l d : Lf) : ((pastO l d).length : Int) ≤ 64 := by
  unfold pastO sPastW
  (repeat' split) <;> simp [sTwo_len]

def lawPC : PCtr := fun _ _ _ vals k => match vals with
  | [.agg [.int .i64 n, .int .i64 d, .int .i64 m, .int .i64 e], .agg [.int .i64 n', .int .i64 d', .int .i64 m', .int .i64 e']] => True ∧ k [] (.bool true)
  | _ => False
abbrev GLP := GOk.cons toLeaf_ok (GOk.cons sPast_ok (GOk.cons past_ok (GOk.cons eqLs_ok (GOk.mcons mkLM_ok (GOk.cons mkLH_ok .nil)))))
theorem lawP_ok : PCtrOk Try.prog 6 lawPC where
  enter := enter_ok Try.func6 (by kernel_rfl) rfl
  calls := by
    intro hg rg lr vals k h
    unfold lawPC at h
    split at h
    case h_2 => exact h.elim
    rename_i n d m e n' d' m' e'
    obtain ⟨_, hk⟩ := h
    refine ⟨_, _, hk, fun A w _ _ => ?_⟩
    refine enter T_ok GLP Try.func6 rfl (K := (· < w.heap.size)) (fun _ h => h) (A := A) (n0 := 0) (b0 := 0) (rows := []) (hp := []) rfl (Nat.zero_le _) (fun k r h => by cases h) rfl (fun k r h => by cases h) rfl rfl (Nat.le_of_ble_eq_true rfl) ?_
    conv => whnf
    repeat (refine V_step T_ok GLP rfl ?_; conv => whnf)
    have hb := pastO_len ((n, d), (m, e)) ((n', d'), (m', e'))
    repeat (any_goals (first
      | (refine V_step T_ok GLP rfl ?_; conv => whnf)
      | (refine V_drawA T_ok GLP mixed (by kernel_rfl) ?_; conv => whnf)
      | (refine bcond_split (fun hc => ?_) (fun hc => ?_) <;> (try simp only [decide_eq_true_eq, decide_eq_false_iff_not, Bool.not_eq_true', Bool.not_eq_false', Bool.and_eq_true, Bool.or_eq_true, Bool.and_eq_false_imp, Bool.or_eq_false_iff, ne_eq, Decidable.not_not] at hc) <;> conv => whnf)
      | (intro ysK hysK; have hysl := congrArg List.length hysK; (try simp only [List.length_set, List.length_append, List.length_cons, List.length_nil] at hysl); conv => whnf)
      | (refine And.intro (by first | (first | exact True.intro | omega | exact ⟨by omega, Int.le_trans hb (by omega)⟩ | exact ⟨by omega, by rw [List.length_map, List.length_range]; exact Int.le_trans hb (by omega), by rw [List.length_map, List.length_range]⟩) | exact True.intro | exact Nat.le_of_ble_eq_true rfl | (refine ⟨by (try simp only [List.length_cons, List.length_nil]); omega, Int.le_trans (Int.mul_le_mul_of_nonneg_left (show (TInfo.bytes _ : Int) ≤ 64 from Int.ofNat_le.2 (Nat.le_of_ble_eq_true rfl)) (by omega)) (by (try simp only [List.length_cons, List.length_nil]); omega)⟩)) ?_; conv => whnf)))
    all_goals first
      | exact leaf0 rfl rfl rfl
      | (simp at hc; done)
      | (exact absurd trivial hc)
      | (simp [eqLs] at hc; done)

end Go.Proofs.Ytlplngafncobkaa.Fw
