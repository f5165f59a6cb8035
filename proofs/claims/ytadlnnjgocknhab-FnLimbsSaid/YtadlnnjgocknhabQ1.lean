/- Contracts: the program's ray pairs of a period, the pair of an angle. -/
import Derived.Test.YtadlnnjgocknhabP4
import Derived.Test.YtadlnnjgocknhabP7
import Derived.Test.YtadlnnjgocknhabO2
namespace Go.Proofs.Ytadlnnjgocknhab.Fw
open Go Go.RowKit
set_option linter.unusedVariables false
set_option linter.unusedSimpArgs false
set_option maxRecDepth 100000
set_option maxHeartbeats 2000000
def codeAC : PCtr := fun hg rg _ vals k => match vals with
  | [.row i] => rowC aT (rg i) fun xs => True ∧ k [] (.int .i64 (if (xs : List Ang).all allAY = true then 0 else 1))
  | _ => False
theorem anglesCode_ok : PCtrOk Try.prog 55 codeAC where
  enter := enter_ok Try.func55 (by kernel_rfl) rfl
  calls := by
    intro hg rg lr vals k h
    unfold codeAC at h
    split at h
    case h_2 => exact h.elim
    rename_i i
    obtain ⟨e, own, xs, hi, h⟩ : ∃ e own, ∃ (xs : List Ang), _ := rowC_inv h
    have hk := h.2
    refine ⟨_, _, hk, fun A w hB hR => ?_⟩
    refine enter T_ok (GOk.cons allA_ok .nil) Try.func55 rfl (K := (· < w.heap.size)) (fun _ h => h) (A := A.pick [] [i]) (vals := [.row 0]) (n0 := 0) (b0 := 0) (rows := [some ⟨aT, e, false, xs⟩]) (hp := []) rfl (Nat.zero_le _) no_box rfl (one_row (hR i _ hi)) rfl rfl (Nat.le_of_ble_eq_true rfl) ?_
    conv => whnf
    repeat (refine V_step T_ok (GOk.cons allA_ok .nil) rfl ?_; conv => whnf)
    repeat (any_goals (first
      | (refine V_step T_ok (GOk.cons allA_ok .nil) rfl ?_; conv => whnf)
      | (refine V_drawA T_ok (GOk.cons allA_ok .nil) mixed (by kernel_rfl) ?_; conv => whnf)
      | (refine bcond_split (fun hc => ?_) (fun hc => ?_) <;> (try simp only [decide_eq_true_eq, decide_eq_false_iff_not, Bool.not_eq_true', Bool.not_eq_false', Bool.and_eq_true, Bool.or_eq_true, Bool.and_eq_false_imp, Bool.or_eq_false_iff, ne_eq, Decidable.not_not] at hc) <;> conv => whnf)
      | (intro ysK hysK; have hysl := congrArg List.length hysK; (try simp only [List.length_set, List.length_append, List.length_cons, List.length_nil, List.length_take, List.length_drop, List.length_replicate] at hysl); conv => whnf)
      | (refine And.intro (by first | exact True.intro | (with_reducible assumption) | omega | (simp only [Rng]; omega) | exact Nat.le_of_ble_eq_true rfl | exact True.intro | exact ⟨rfl, True.intro, fun _ _ => rfl⟩ | exact Nat.le_of_ble_eq_true rfl | (refine ⟨by (try simp only [List.length_cons, List.length_nil]); omega, Int.le_trans (Int.mul_le_mul_of_nonneg_left (show (TInfo.bytes _ : Int) ≤ 64 from Int.ofNat_le.2 (Nat.le_of_ble_eq_true rfl)) (by omega)) (by (try simp only [List.length_cons, List.length_nil]); omega)⟩)) ?_; conv => whnf)))
    · have hc : (xs : List Ang).all allAY = false := hc
      exact leaf0 rfl (by rw [hc]; rfl) rfl
    · have hc : (xs : List Ang).all allAY = true := hc
      exact leaf0 rfl (by rw [hc]; rfl) rfl
theorem one_isA (a : Ang) : (if [a].all allAY = true then (0 : Int) else 1) = 0 ↔ IsA a := by
  by_cases h : IsA a <;> simp [allAY, h]
theorem one_isA' {a : Ang} (h : ¬ IsA a) : (if [a].all allAY = true then (0 : Int) else 1) = 1 := by simp [allAY, h]
end Go.Proofs.Ytadlnnjgocknhab.Fw
