/- Contracts: a minor leaf pulled back by itself: its majors. -/
import Derived.Test.YtllagpbbbdekiaaV9
namespace Go.Proofs.Ytllagpbbbdekiaa.Fw
open Go Go.RowKit
set_option linter.unusedVariables false
set_option linter.unusedSimpArgs false
set_option maxRecDepth 100000
set_option maxHeartbeats 2000000

def bkEC : PCtr := fun _ rg lr vals k => match vals with
  | [.agg [.int .i64 n, .int .i64 d, .int .i64 m, .int .i64 e], .agg [.int .i64 n', .int .i64 d', .int .i64 m', .int .i64 e'], .row i] => rowC lT (rg i) fun ms => (((n, d), (m, e)) : Lf) = ((n', d'), (m', e')) ∧ k [] (.tup [.row i, .int .i64 0])
  | _ => False
theorem bkE_ok : PCtrOk Try.prog 23 bkEC where
  enter := enter_ok Try.func23 (by kernel_rfl) rfl
  calls := by
    intro hg rg lr vals k h
    unfold bkEC at h
    split at h
    case h_2 => exact h.elim
    rename_i n d m e n' d' m' e' i
    obtain ⟨e0, own, ms, hi, h⟩ : ∃ e own, ∃ (xs : List Lf), _ := rowC_inv h
    obtain ⟨heq, hk⟩ := h
    refine ⟨_, _, hk, fun A w hB hR => ?_⟩
    refine enter T_ok GBk Try.func23 rfl (K := (· < w.heap.size)) (fun _ h => h) (A := A.pick [] [i]) (vals := [.agg [.int .i64 n, .int .i64 d, .int .i64 m, .int .i64 e], .agg [.int .i64 n', .int .i64 d', .int .i64 m', .int .i64 e'], .row 0]) (n0 := 1) (b0 := 0) (rows := [some ⟨lT, e0, false, ms⟩]) (hp := []) rfl (Nat.le_refl _) no_box rfl (one_row (hR i _ hi)) rfl rfl (Nat.le_of_ble_eq_true rfl) ?_
    conv => whnf
    repeat (refine V_step T_ok GBk rfl ?_; conv => whnf)
    refine bcond_split (fun hc => ?_) (fun hc => ?_) <;> conv => whnf
    · repeat (refine V_step T_ok GBk rfl ?_; conv => whnf)
      refine leafS rfl fun B h => ?_
      have h0 := h 0 (Nat.le_of_ble_eq_true rfl)
      simp [AVal.den, dens, h0, Asg.pick, nthN]
    · exfalso
      simp only [Prod.mk.injEq] at heq
      simp [heq] at hc
def ibEC : PCtr := fun _ rg lr vals k => match vals with
  | [.agg [.int .i64 n', .int .i64 d', .int .i64 m', .int .i64 e', .row i, .row j, .int .i64 f], .agg [.int .i64 n, .int .i64 d, .int .i64 m, .int .i64 e]] => rowC lT (rg i) fun im => rowC lT (rg j) fun ms => (((n, d), (m, e)) : Lf) = ((n', d'), (m', e')) ∧ k [] (.tup [.row j, .int .i64 0])
  | _ => False
theorem ibE_ok : PCtrOk Try.prog 26 ibEC where
  enter := enter_ok Try.func26 (by kernel_rfl) rfl
  calls := by
    intro hg rg lr vals k h
    unfold ibEC at h
    split at h
    case h_2 => exact h.elim
    rename_i n' d' m' e' i j f n d m e
    obtain ⟨e0, own, im, hi, h⟩ : ∃ e own, ∃ (xs : List Lf), _ := rowC_inv h
    obtain ⟨e1, own1, ms, hj, h⟩ : ∃ e own, ∃ (xs : List Lf), _ := rowC_inv h
    obtain ⟨heq, hk⟩ := h
    refine ⟨_, _, hk, fun A w hB hR => ?_⟩
    refine enter T_ok GIb Try.func26 rfl (K := (· < w.heap.size)) (fun _ h => h) (A := A.pick [] [i, j]) (vals := [.agg [.int .i64 n', .int .i64 d', .int .i64 m', .int .i64 e', .row 0, .row 1, .int .i64 f], .agg [.int .i64 n, .int .i64 d, .int .i64 m, .int .i64 e]]) (n0 := 2) (b0 := 0) (rows := [some ⟨lT, e0, false, im⟩, some ⟨lT, e1, false, ms⟩]) (hp := []) rfl (Nat.le_refl _) no_box rfl (two_rows (hR i _ hi) (hR j _ hj)) rfl rfl (Nat.le_of_ble_eq_true rfl) ?_
    conv => whnf
    repeat (refine V_step T_ok GIb rfl ?_; conv => whnf)
    refine bcond_split (fun hc => ?_) (fun hc => ?_) <;> conv => whnf
    · repeat (refine V_step T_ok GIb rfl ?_; conv => whnf)
      refine leafS rfl fun B h => ?_
      have h0 := h 1 (Nat.le_of_ble_eq_true rfl)
      simp [AVal.den, dens, h0, Asg.pick, nthN]
    · exfalso
      simp only [Prod.mk.injEq] at heq
      simp [heq] at hc
end Go.Proofs.Ytllagpbbbdekiaa.Fw
-- %intro
