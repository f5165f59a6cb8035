/- Contracts: leaves crossing. -/
import Derived.Test.YtlplngafncobkaaC2
namespace Go.Proofs.Ytlplngafncobkaa.Fw
open Go Go.RowKit
set_option linter.unusedVariables false
set_option linter.unusedSimpArgs false
set_option maxRecDepth 100000
set_option maxHeartbeats 2000000

def crossC : PCtr := fun _ _ _ vals k => match vals with
  | [.agg [.int .i64 n, .int .i64 d, .int .i64 m, .int .i64 e], .agg [.int .i64 n', .int .i64 d', .int .i64 m', .int .i64 e']] =>
    (SmL ((n, d), (m, e)) ∧ SmL ((n', d'), (m', e'))) ∧ k [] (.bool (crossL ((n, d), (m, e)) ((n', d'), (m', e'))))
  | _ => False

theorem cross_ok : PCtrOk Try.prog 111 crossC where
  enter := enter_ok Try.func111 (by kernel_rfl) rfl
  calls := by
    intro hg rg lr vals k h
    unfold crossC at h
    split at h
    case h_2 => exact h.elim
    rename_i n d m e n' d' m' e'
    obtain ⟨⟨⟨h1, h2⟩, ⟨h3, h4⟩⟩, hk⟩ := h
    refine ⟨_, _, hk, fun A w _ _ => ?_⟩
    refine enter T_ok (GOk.cons order_ok G2) Try.func111 rfl (K := (· < w.heap.size)) (fun _ h => h) (A := A) (n0 := 0) (b0 := 0) (rows := []) (hp := []) rfl (Nat.zero_le _) (fun k r h => by cases h) rfl (fun k r h => by cases h) rfl rfl (Nat.le_of_ble_eq_true rfl) ?_
    conv => whnf
    repeat (refine V_step T_ok (GOk.cons order_ok G2) rfl ?_; conv => whnf)
    have o1 := orderA_rng (n, d) (n', d') (m, e)
    have o2 := orderA_rng (n, d) (m', e') (m, e)
    have o3 : -1 ≤ orderA (n, d) (n', d') (m, e) * orderA (n, d) (m', e') (m, e) ∧ orderA (n, d) (n', d') (m, e) * orderA (n, d) (m', e') (m, e) ≤ 1 := by
      generalize orderA (n, d) (n', d') (m, e) = x at *
      generalize orderA (n, d) (m', e') (m, e) = y at *
      have hx : x = -1 ∨ x = 0 ∨ x = 1 := by omega
      rcases hx with rfl | rfl | rfl <;> omega
    repeat (any_goals (first
      | (refine V_step T_ok (GOk.cons order_ok G2) rfl ?_; conv => whnf)
      | (refine V_drawA T_ok (GOk.cons order_ok G2) mixed (by kernel_rfl) ?_; conv => whnf)
      | (refine bcond_split (fun hc => ?_) (fun hc => ?_) <;> (try simp only [decide_eq_true_eq, decide_eq_false_iff_not, Bool.not_eq_true', Bool.not_eq_false', Bool.and_eq_true, Bool.or_eq_true, Bool.and_eq_false_imp, Bool.or_eq_false_iff, ne_eq, Decidable.not_not] at hc) <;> conv => whnf)
      | (intro ysK hysK; have hysl := congrArg List.length hysK; (try simp only [List.length_set, List.length_append, List.length_cons, List.length_nil] at hysl); conv => whnf)
      | (refine And.intro (by first | (first | exact ⟨h1, h3, h2⟩ | exact ⟨h1, h4, h2⟩ | (simp only [Rng]; omega)) | exact True.intro | exact Nat.le_of_ble_eq_true rfl | (refine ⟨by (try simp only [List.length_cons, List.length_nil]); omega, Int.le_trans (Int.mul_le_mul_of_nonneg_left (show (TInfo.bytes _ : Int) ≤ 64 from Int.ofNat_le.2 (Nat.le_of_ble_eq_true rfl)) (by omega)) (by (try simp only [List.length_cons, List.length_nil]); omega)⟩)) ?_; conv => whnf)))
    all_goals exact leaf0 rfl rfl rfl

end Go.Proofs.Ytlplngafncobkaa.Fw
