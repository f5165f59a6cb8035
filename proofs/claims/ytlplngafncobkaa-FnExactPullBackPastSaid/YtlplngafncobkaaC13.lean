/- The law of laminations that are carried, walked. -/
import Derived.Test.YtlplngafncobkaaM4
namespace Go.Proofs.Ytlplngafncobkaa.Fw
open Go Go.RowKit
set_option linter.unusedVariables false
set_option linter.unusedSimpArgs false
set_option maxRecDepth 100000
set_option maxHeartbeats 2000000

theorem carriedS_ok : PCtrOk Try.prog 25 carriedC := sCarried_ok.congr fun hg rg lr vals k h => by
  unfold carriedC at h
  split at h
  case h_2 => exact h.elim
  rename_i i
  obtain ⟨e, own, xs, hi, h⟩ : ∃ e own, ∃ (xs : List Lf), _ := rowC_inv h
  show rowC lT (rg i) _
  rw [hi]
  have h2 : k [] (.tup [.bool (crB xs), .int .i64 (crC xs)]) := h.2
  rw [(carried_eq xs).1, (carried_eq xs).2] at h2
  exact ⟨trivial, h2⟩

abbrev GC := GOk.cons sz_ok (GOk.cons toLs_ok (GOk.cons carried_ok (GOk.cons carriedS_ok (GOk.cons eqLs_ok .nil))))
theorem lawCar_ok : PCtrOk Try.prog 5 lawC where
  enter := enter_ok Try.func5 (by kernel_rfl) rfl
  calls := by
    intro hg rg lr vals k h
    unfold lawC at h
    split at h
    case h_2 => exact h.elim
    rename_i i
    obtain ⟨e, own, xs, hi, h⟩ : ∃ e own, ∃ (xs : List Lf), _ := rowC_inv h
    have hk := h.2
    refine ⟨_, _, hk, fun A w hB hR => ?_⟩
    refine enter T_ok GC Try.func5 rfl (K := (· < w.heap.size)) (fun _ h => h) (A := A.pick [] [i]) (vals := [.row 0]) (n0 := 0) (b0 := 0) (rows := [some ⟨lT, e, false, xs⟩]) (hp := []) rfl (Nat.zero_le _) no_box rfl (one_row (hR i _ hi)) rfl rfl (Nat.le_of_ble_eq_true rfl) ?_
    conv => whnf
    repeat (refine V_step T_ok GC rfl ?_; conv => whnf)
    repeat (any_goals (first
      | (refine V_step T_ok GC rfl ?_; conv => whnf)
      | (refine V_drawA T_ok GC mixed (by kernel_rfl) ?_; conv => whnf)
      | (refine bcond_split (fun hc => ?_) (fun hc => ?_) <;> (try simp only [decide_eq_true_eq, decide_eq_false_iff_not, Bool.not_eq_true', Bool.not_eq_false', Bool.and_eq_true, Bool.or_eq_true, Bool.and_eq_false_imp, Bool.or_eq_false_iff, ne_eq, Decidable.not_not] at hc) <;> conv => whnf)
      | (intro ysK hysK; have hysl := congrArg List.length hysK; (try simp only [List.length_set, List.length_append, List.length_cons, List.length_nil] at hysl); conv => whnf)
      | (refine And.intro (by first | exact True.intro | (with_reducible assumption) | omega | (simp only [Rng]; omega) | exact Nat.le_of_ble_eq_true rfl | exact True.intro | exact Nat.le_of_ble_eq_true rfl | (refine ⟨by (try simp only [List.length_cons, List.length_nil]); omega, Int.le_trans (Int.mul_le_mul_of_nonneg_left (show (TInfo.bytes _ : Int) ≤ 64 from Int.ofNat_le.2 (Nat.le_of_ble_eq_true rfl)) (by omega)) (by (try simp only [List.length_cons, List.length_nil]); omega)⟩)) ?_; conv => whnf)))
    all_goals first
      | exact leaf0 rfl rfl rfl
      | (simp at hc; done)
      | (exact absurd trivial hc)
      | (simp [eqLs] at hc; done)

end Go.Proofs.Ytlplngafncobkaa.Fw
