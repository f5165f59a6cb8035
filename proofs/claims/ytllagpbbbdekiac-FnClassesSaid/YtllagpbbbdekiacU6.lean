/- Contracts: two numbers drawn. -/
import Derived.Test.YtllagpbbbdekiacU5
import Derived.Test.YtllagpbbbdekiacFwFl
namespace Go.Proofs.Ytllagpbbbdekiac.Fw
open Go Go.RowKit
set_option linter.unusedVariables false
set_option linter.unusedSimpArgs false
set_option maxRecDepth 100000
set_option maxHeartbeats 2000000
def dAjC : BCtr := fun hg rg lb lr vals k => match vals with
  | [.row i] => rowC bT (rg i) fun code => Bts code ∧ ∀ x : Ang × Ang × Int × Int × Int, True → k none [] (.tup [.agg [.int .i64 x.1.1, .int .i64 x.1.2], .agg [.int .i64 x.2.1.1, .int .i64 x.2.1.2], .int .i64 x.2.2.1, .int .i64 x.2.2.2.1, .int .i64 x.2.2.2.2])
  | _ => False
abbrev GUa := (GOk.rcons from_ok (GOk.rcons dJoc_ok (GOk.xcons next_ok .nil)))
theorem dAj_ok : RCtrOk Try.prog 12 dAjC where
  enter := enter_ok Try.func12 (by kernel_rfl) rfl
  calls := by
    intro hg rg lb lr vals k h
    unfold dAjC at h
    split at h
    case h_2 => exact h.elim
    rename_i i
    obtain ⟨e, own, code, hi, h⟩ : ∃ e own, ∃ (xs : List Int), _ := rowC_inv h
    obtain ⟨hb, hk⟩ := h
    intro A w hB hR
    refine enter T_ok GUa Try.func12 rfl (K := (· < w.heap.size)) (fun _ h => h) (A := A.pick [] [i]) (vals := [.row 0]) (n0 := 1) (b0 := 0) (rows := [some ⟨bT, e, false, code⟩]) (hp := []) rfl (Nat.le_of_ble_eq_true rfl) no_box rfl (one_row (hR i _ hi)) rfl rfl (Nat.le_of_ble_eq_true rfl) ?_
    conv => whnf
    repeat (refine V_step T_ok GUa rfl ?_; conv => whnf)
    repeat (any_goals (first
      | (refine V_step T_ok GUa rfl ?_; conv => whnf)
      | (refine bcond_split (fun hc => ?_) (fun hc => ?_) <;> (try simp only [decide_eq_true_eq, decide_eq_false_iff_not, Bool.not_eq_true', Bool.not_eq_false', Bool.and_eq_true, Bool.or_eq_true, Bool.and_eq_false_imp, Bool.or_eq_false_iff, ne_eq, Decidable.not_not] at hc) <;> conv => whnf)
      | (intro ysK hysK; have hysl := congrArg List.length hysK; (try simp only [List.length_set, List.length_append, List.length_cons, List.length_nil, List.length_take, List.length_drop, List.length_replicate] at hysl); conv => whnf)
      | (intro bK hbK; have hbl := congrArg ByteArray.size hbK; conv => whnf)
      | (intro sK hsK; conv => whnf)
      | (refine And.intro (by first | (first | exact True.intro | exact hb | exact ⟨Int.le_refl _, hb⟩ | exact ⟨hsK, hb⟩ | exact ⟨hsK.2, hb⟩ | (with_reducible assumption) | decide) | exact True.intro | exact ⟨rfl, True.intro, fun _ _ => rfl⟩ | exact Nat.le_of_ble_eq_true rfl | (refine ⟨by (try simp only [List.length_cons, List.length_nil]); omega, Int.le_trans (Int.mul_le_mul_of_nonneg_left (show (TInfo.bytes _ : Int) ≤ 64 from Int.ofNat_le.2 (Nat.le_of_ble_eq_true rfl)) (by omega)) (by (try simp only [List.length_cons, List.length_nil]); omega)⟩)) ?_; conv => whnf)))
    obtain ⟨q, hq⟩ : ∃ q, sK = q := ⟨_, rfl⟩
    rw [hq] at hsK ⊢
    clear hq sK
    have hr1 : ∀ z : Int × Int × Int, (0 ≤ z.1 ∧ (z.1 < 16 ∨ (16 : Int) < 1 ∧ z.1 = 0)) ∧ 0 ≤ z.2.1 → Rng .i64 (z.1.tdiv 15) := fun z hz => by
      have ed : z.1.tdiv 15 = z.1 / 15 := Int.tdiv_eq_ediv_of_nonneg hz.1.1
      simp only [Rng, ed]; omega
    have hr2 : ∀ z : Int × Int × Int, (0 ≤ z.1 ∧ (z.1 < 16 ∨ (16 : Int) < 1 ∧ z.1 = 0)) ∧ 0 ≤ z.2.1 → Rng .i64 ((if 1 > q.2.2 then 1 else q.2.2) + z.1.tdiv 15) := fun z hz => by
      have ed : z.1.tdiv 15 = z.1 / 15 := Int.tdiv_eq_ediv_of_nonneg hz.1.1
      simp only [Rng, ed]; split <;> omega
    repeat (any_goals (first
      | (refine V_step T_ok GUa rfl ?_; conv => whnf)
      | (refine V_float T_ok GUa mixed [true, true, true, true, true, true, false, true, true, true, true, false, false, false, false, false, false, false, false, false] [.agg [.int .i64 q.1.1, .int .i64 q.1.2], .agg [.int .i64 q.2.1.1, .int .i64 q.2.1.2], .int .i64 q.2.2, .loc 2 0, .int .i64 q.2.2, .int .i64 (if 1 > q.2.2 then 1 else q.2.2), .loc 2 0, .int .i64 q.2.2, .int .i64 (if 1 > q.2.2 then 1 else q.2.2), .loc 2 0] (by kernel_rfl) rfl ?_; conv => whnf)
      | (refine bcond_split (fun hc => ?_) (fun hc => ?_) <;> (try simp only [decide_eq_true_eq, decide_eq_false_iff_not, Bool.not_eq_true', Bool.not_eq_false', Bool.and_eq_true, Bool.or_eq_true, Bool.and_eq_false_imp, Bool.or_eq_false_iff, ne_eq, Decidable.not_not] at hc) <;> conv => whnf)
      | (intro ysK hysK; have hysl := congrArg List.length hysK; (try simp only [List.length_set, List.length_append, List.length_cons, List.length_nil, List.length_take, List.length_drop, List.length_replicate] at hysl); conv => whnf)
      | (intro bK hbK; have hbl := congrArg ByteArray.size hbK; conv => whnf)
      | (intro sK hsK; conv => whnf)
      | (refine And.intro (by first | (first | exact ⟨Int.le_refl _, hb⟩ | exact ⟨And.right (by assumption), hb⟩ | exact ⟨hsK.2, hb⟩ | (with_reducible assumption) | decide | exact hr1 _ hsK | exact hr2 _ hsK | (simp only [Rng]; omega) | ((conv => whnf); (repeat (first | exact True.intro | (refine And.intro (by (conv => whnf) <;> rfl) ?_; (conv => whnf)))); done)) | exact True.intro | exact ⟨rfl, True.intro, fun _ _ => rfl⟩ | exact Nat.le_of_ble_eq_true rfl | (refine ⟨by (try simp only [List.length_cons, List.length_nil]); omega, Int.le_trans (Int.mul_le_mul_of_nonneg_left (show (TInfo.bytes _ : Int) ≤ 64 from Int.ofNat_le.2 (Nat.le_of_ble_eq_true rfl)) (by omega)) (by (try simp only [List.length_cons, List.length_nil]); omega)⟩)) ?_; conv => whnf)))
    rename_i y1 hy1 y2 hy2
    exact leafRc (hk (q.1, q.2.1, q.2.2, y1.1, sK.1) True.intro) (leaf0 rfl rfl rfl)
end Go.Proofs.Ytllagpbbbdekiac.Fw
