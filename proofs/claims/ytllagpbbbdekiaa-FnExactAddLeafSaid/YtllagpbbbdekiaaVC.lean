/- Contracts: slices.Clone over leaves. -/
import Derived.Test.YtllagpbbbdekiaaVB
namespace Go.Proofs.Ytllagpbbbdekiaa.Fw
open Go Go.RowKit
set_option linter.unusedVariables false
set_option linter.unusedSimpArgs false
set_option maxRecDepth 100000
set_option maxHeartbeats 2000000

def clnC : PCtr := fun _ rg lr vals k => match vals with
  | [.row i] => rowC lT (rg i) fun xs => List.length (α := Lf) xs ≤ 1000 ∧ ∀ ys : List Lf, ys = xs → k [⟨lT, 31, true, ys⟩] (.row lr)
  | _ => False
theorem cln_ok : PCtrOk Try.prog 27 clnC where
  enter := enter_ok Try.func27 (by kernel_rfl) rfl
  calls := by
    intro hg rg lr vals k h
    unfold clnC at h
    split at h
    case h_2 => exact h.elim
    rename_i i
    obtain ⟨e, own, xs, hi, h⟩ : ∃ e own, ∃ (xs : List Lf), _ := rowC_inv h
    obtain ⟨hl, hk⟩ := h
    replace hk := hk _ rfl
    refine ⟨_, _, hk, fun A w hB hR => ?_⟩
    refine enter T_ok .nil Try.func27 rfl (K := (· < w.heap.size)) (fun _ h => h) (A := A.pick [] [i]) (vals := [.row 0]) (n0 := 0) (b0 := 0) (rows := [some ⟨lT, e, false, xs⟩]) (hp := []) rfl (Nat.zero_le _) no_box rfl (one_row (hR i _ hi)) rfl rfl (Nat.le_of_ble_eq_true rfl) ?_
    conv => whnf
    refine V_seq' (V_seq' (V_ops (VO_one T_ok .nil rfl ?_)))
    conv => whnf
    refine VO_nil (R := ⟨lT, e, false, xs⟩) rfl rfl Try.underlying26 (fun b hb => VO_end ?_)
    conv => whnf
    refine V_step T_ok .nil rfl ?_
    cases b with
    | true =>
      have hx0 : xs = [] := List.eq_nil_of_length_eq_zero (hb rfl)
      conv => whnf
      repeat (refine V_step T_ok .nil rfl ?_; conv => whnf)
      exact leafN rfl hx0 (fun B C h => by simp [AVal.den, dens, h, Hdr.val])
    | false =>
      conv => whnf
      repeat (any_goals (first
        | (refine V_step T_ok .nil rfl ?_; conv => whnf)
        | (refine V_drawA T_ok .nil mixed (by kernel_rfl) ?_; conv => whnf)
        | (refine bcond_split (fun hc => ?_) (fun hc => ?_) <;> (try simp only [decide_eq_true_eq, decide_eq_false_iff_not, Bool.not_eq_true', Bool.not_eq_false', Bool.and_eq_true, Bool.or_eq_true, Bool.and_eq_false_imp, Bool.or_eq_false_iff, ne_eq, Decidable.not_not] at hc) <;> conv => whnf)
        | (intro ysK hysK; have hysl := congrArg List.length hysK; (try simp only [List.length_set, List.length_append, List.length_cons, List.length_nil, List.length_take, List.length_drop, List.length_replicate] at hysl); conv => whnf)
        | (intro bK hbK; have hbl := congrArg ByteArray.size hbK; conv => whnf)
        | (intro sK hsK; conv => whnf)
        | (refine And.intro (by first | (first | exact True.intro | omega) | exact True.intro | exact ⟨rfl, True.intro, fun _ _ => rfl⟩ | exact Nat.le_of_ble_eq_true rfl | (refine ⟨by (try simp only [List.length_cons, List.length_nil]); omega, Int.le_trans (Int.mul_le_mul_of_nonneg_left (show (TInfo.bytes _ : Int) ≤ 64 from Int.ofNat_le.2 (Nat.le_of_ble_eq_true rfl)) (by omega)) (by (try simp only [List.length_cons, List.length_nil]); omega)⟩)) ?_; conv => whnf)))
      have hy : ysK = xs := hysK
      subst hy
      exact leaf1 2 rfl rfl rfl rfl (fun B C h => by simp [AVal.den, dens, h])
end Go.Proofs.Ytllagpbbbdekiaa.Fw
-- %intro
