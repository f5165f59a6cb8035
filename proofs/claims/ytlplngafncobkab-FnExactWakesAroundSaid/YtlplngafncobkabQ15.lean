/- The law of the wakes about an angle. -/
import Derived.Test.YtlplngafncobkabQ11
import Derived.Test.YtlplngafncobkabQ12
namespace Go.Proofs.Ytlplngafncobkab.Fw
open Go Go.RowKit
set_option linter.unusedVariables false
set_option linter.unusedSimpArgs false
set_option maxRecDepth 100000
set_option maxHeartbeats 2000000

def lawAIC : PCtr := fun _ _ _ vals k => match vals with
  | [.agg [.int .i64 n, .int .i64 d], .int .i64 m] => True ∧ k [] (.bool true)
  | _ => False
theorem wakO_len (x : Ang) (n : Int) : (wakO x n).length ≤ 2000 := by
  unfold wakO
  split
  · rename_i h; exact wakL_len h.2 _
  · exact Nat.zero_le _
theorem eqPs_same {a b c : List Lf} (h : eqPs a b = false) (h1 : a = c) (h2 : b = c) : False := by
  subst h1; subst h2
  simp [eqPs] at h
abbrev GLW := GOk.cons toAngle_ok (GOk.cons sWakO_ok (GOk.cons wakO_ok (GOk.cons eqPs_ok (GOk.mcons mkPM_ok (GOk.cons mkPH_ok .nil)))))
theorem lawWak_ok : PCtrOk Try.prog 3 lawAIC where
  enter := enter_ok Try.func3 (by kernel_rfl) rfl
  calls := by
    intro hg rg lr vals k h
    unfold lawAIC at h
    split at h
    case h_2 => exact h.elim
    rename_i n d m
    obtain ⟨_, hk⟩ := h
    refine ⟨_, _, hk, fun A w _ _ => ?_⟩
    refine enter T_ok GLW Try.func3 rfl (K := (· < w.heap.size)) (fun _ h => h) (A := A) (n0 := 0) (b0 := 0) (rows := []) (hp := []) rfl (Nat.zero_le _) (fun k r h => by cases h) rfl (fun k r h => by cases h) rfl rfl (Nat.le_of_ble_eq_true rfl) ?_
    conv => whnf
    repeat (refine V_step T_ok GLW rfl ?_; conv => whnf)
    have hb := wakO_len (n, d) m
    have hq : ∀ ys : List Lf, ys = wakO (n, d) m → (List.length (α := Lf) ys : Int) ≤ 2000 := fun ys h => by rw [h]; omega
    repeat (any_goals (first
      | (refine V_step T_ok GLW rfl ?_; conv => whnf)
      | (refine V_drawA T_ok GLW mixed (by kernel_rfl) ?_; conv => whnf)
      | (refine bcond_split (fun hc => ?_) (fun hc => ?_) <;> (try simp only [decide_eq_true_eq, decide_eq_false_iff_not, Bool.not_eq_true', Bool.not_eq_false', Bool.and_eq_true, Bool.or_eq_true, Bool.and_eq_false_imp, Bool.or_eq_false_iff, ne_eq, Decidable.not_not] at hc) <;> conv => whnf)
      | (intro ysK hysK; have hysl := congrArg List.length hysK; (try simp only [List.length_set, List.length_append, List.length_cons, List.length_nil, List.length_take, List.length_drop, List.length_replicate] at hysl); conv => whnf)
      | (refine And.intro (by first | (first | exact True.intro | omega | exact ⟨by omega, Int.le_trans (hq _ (by assumption)) (by omega)⟩ | exact ⟨by omega, by rw [List.length_map, List.length_range]; exact Int.le_trans (hq _ (by assumption)) (by omega), by rw [List.length_map, List.length_range]⟩) | exact True.intro | exact Nat.le_of_ble_eq_true rfl | (refine ⟨by (try simp only [List.length_cons, List.length_nil]); omega, Int.le_trans (Int.mul_le_mul_of_nonneg_left (show (TInfo.bytes _ : Int) ≤ 64 from Int.ofNat_le.2 (Nat.le_of_ble_eq_true rfl)) (by omega)) (by (try simp only [List.length_cons, List.length_nil]); omega)⟩)) ?_; conv => whnf)))
    all_goals first
      | exact leaf0 rfl rfl rfl
      | (simp at hc; done)
      | (exact absurd trivial hc)
      | (exact absurd rfl hc)
      | exact (eqPs_same hc (by assumption) (by assumption)).elim
      | trace_state
end Go.Proofs.Ytlplngafncobkab.Fw
