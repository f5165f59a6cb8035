/- The law of ConditionThatFails, walked: the program. -/
import Derived.Test.YtllagpbbbdekiaaE6
import Derived.Test.YtllagpbbbdekiaaHB
namespace Go.Proofs.Ytllagpbbbdekiaa.Fw
open Go Go.RowKit
set_option linter.unusedVariables false
set_option linter.unusedSimpArgs false
set_option maxRecDepth 100000
set_option maxHeartbeats 2000000

def hvC : PCtr := fun hg rg _ vals k => match vals with
  | [.agg [.int .i64 n, .int .i64 d, .int .i64 m, .int .i64 e], .loc qo 0] => boxR (hg qo) fun ro => rowC lT (rg ro) fun o => ((∀ x ∈ (o : List Lf), SmL x) ∧ SmL ((n, d), (m, e))) ∧ k [] (.bool ((fun l : Lf => List.any (α := Lf) o (crossL l)) ((n, d), (m, e))))
  | _ => False
theorem hv_ok : PCtrOk Try.prog 88 hvC where
  enter := enter_ok Try.func88 (by kernel_rfl) rfl
  calls := by
    intro hg rg lr vals k h
    unfold hvC at h
    split at h
    case h_2 => exact h.elim
    rename_i n d m e qo
    obtain ⟨ro, hqo, h⟩ := boxR_inv h
    obtain ⟨eo, owno, o, hro, h⟩ : ∃ e own, ∃ (xs : List (TyC.α lT)), _ := rowC_inv h
    obtain ⟨⟨hE, hx⟩, hk⟩ := h
    refine ⟨_, _, hk, fun A w hB hR => ?_⟩
    refine enter T_ok (GOk.cons hasCross_ok .nil) Try.func88 rfl (K := (· < w.heap.size)) (fun _ h => h) (A := A.pick [qo] [ro]) (vals := [.agg [.int .i64 n, .int .i64 d, .int .i64 m, .int .i64 e], .loc 0 0]) (n0 := 0) (b0 := 1) (rows := [some ⟨lT, eo, false, o⟩]) (hp := [some [.row 0]]) rfl (Nat.zero_le _) (fun i9 cs h9 => by
      match i9, h9 with
      | 0, h9 => cases h9; exact box_lt (hB qo _ hqo)
      | i9 + 1, h9 => simp [nthj] at h9) rfl (fun i9 r h9 => by
      match i9, h9 with
      | 0, h9 => cases h9; exact ⟨rfl, RowsAt.ro (hR ro _ hro)⟩
      | i9 + 1, h9 => simp [nthj] at h9) rfl rfl (Nat.le_of_ble_eq_true rfl) ?_
    conv => whnf
    repeat (refine V_step T_ok (GOk.cons hasCross_ok .nil) rfl ?_; conv => whnf)

    repeat (any_goals (first
      | (refine V_step T_ok (GOk.cons hasCross_ok .nil) rfl ?_; conv => whnf)
      | (refine V_drawA T_ok (GOk.cons hasCross_ok .nil) mixed (by kernel_rfl) ?_; conv => whnf)
      | (refine bcond_split (fun hc => ?_) (fun hc => ?_) <;> (try simp only [decide_eq_true_eq, decide_eq_false_iff_not, Bool.not_eq_true', Bool.not_eq_false', Bool.and_eq_true, Bool.or_eq_true, Bool.and_eq_false_imp, Bool.or_eq_false_iff, ne_eq, Decidable.not_not] at hc) <;> conv => whnf)
      | (intro ysK hysK; have hysl := congrArg List.length hysK; (try simp only [List.length_set, List.length_append, List.length_cons, List.length_nil, List.length_take, List.length_drop, List.length_replicate] at hysl); conv => whnf)
      | (refine And.intro (by first | (first | exact ⟨hx, hE⟩ | exact True.intro) | exact True.intro | exact ⟨rfl, True.intro, fun _ _ => rfl⟩ | exact Nat.le_of_ble_eq_true rfl | (refine ⟨by (try simp only [List.length_cons, List.length_nil]); omega, Int.le_trans (Int.mul_le_mul_of_nonneg_left (show (TInfo.bytes _ : Int) ≤ 64 from Int.ofNat_le.2 (Nat.le_of_ble_eq_true rfl)) (by omega)) (by (try simp only [List.length_cons, List.length_nil]); omega)⟩)) ?_; conv => whnf)))
    all_goals exact leaf0 rfl rfl rfl
def hvxC : PCtr := fun hg rg _ vals k => match vals with
  | [.row i, .fn f [] [.loc qo 0]] => isF f 88 (rowC lT (rg i) fun xs => boxR (hg qo) fun ro => rowC lT (rg ro) fun o => ((∀ x ∈ (o : List Lf), SmL x) ∧ ∀ x ∈ (xs : List Lf), SmL x) ∧ k [] (.int .i64 (idxP (α := Lf) ((fun l : Lf => List.any (α := Lf) o (crossL l))) xs)))
  | _ => False
theorem hvx_ok : PCtrOk Try.prog 66 hvxC where
  enter := enter_ok Try.func66 (by kernel_rfl) rfl
  calls := by
    intro hg rg lr vals k h
    unfold hvxC at h
    split at h
    case h_2 => exact h.elim
    rename_i i f qo
    obtain ⟨rfl, h⟩ := isF_inv h
    obtain ⟨e, own, xs, hi, h⟩ : ∃ e own, ∃ (xs : List Lf), _ := rowC_inv h
    obtain ⟨ro, hqo, h⟩ := boxR_inv h
    obtain ⟨eo, owno, o, hro, h⟩ : ∃ e own, ∃ (xs : List (TyC.α lT)), _ := rowC_inv h
    obtain ⟨⟨hE, hx⟩, hk⟩ := h
    refine ⟨_, _, hk, fun A w hB hR => ?_⟩
    refine enter T_ok (GOk.cons hv_ok .nil) Try.func66 rfl (K := (· < w.heap.size)) (fun _ h => h) (A := A.pick [qo] [i, ro]) (vals := [.row 0, .fn 88 [] [.loc 0 0]]) (n0 := 0) (b0 := 1) (rows := [some ⟨lT, e, false, xs⟩, some ⟨lT, eo, false, o⟩]) (hp := [some [.row 1]]) rfl (Nat.zero_le _) (fun i9 cs h9 => by
      match i9, h9 with
      | 0, h9 => cases h9; exact box_lt (hB qo _ hqo)
      | i9 + 1, h9 => simp [nthj] at h9) rfl (fun i9 r h9 => by
      match i9, h9 with
      | 0, h9 => cases h9; exact ⟨rfl, RowsAt.ro (hR i _ hi)⟩
      | 1, h9 => cases h9; exact ⟨rfl, RowsAt.ro (hR ro _ hro)⟩
      | i9 + 2, h9 => simp [nthj] at h9) rfl rfl (Nat.le_of_ble_eq_true rfl) ?_
    conv => whnf
    repeat (refine V_step T_ok (GOk.cons hv_ok .nil) rfl ?_; conv => whnf)
    have hcap' : (@List.length (TyC.α lT) xs : Int) ≤ 9223372036854775807 := by
      have h1 := (hR i _ hi).len
      have h2 := (hR i _ hi).cap
      have h3 := (hR i _ hi).max
      simp only at h1
      have : maxLen = 9223372036854775807 := rfl
      omega
    have hcap : (xs.length : Int) ≤ 9223372036854775807 := hcap'
    have hx' : ∀ n : Nat, (n : Int) < (List.length (α := Lf) xs : Nat) → SmL (xs.getD n lT.dflt) := fun n hn => hx _ (getD_mem (by omega))
    refine V_loopH (γ := Nat) (fun n => n ≤ xs.length ∧ ∀ j, j < n → ((fun l : Lf => List.any (α := Lf) o (crossL l))) (xs.getD j lT.dflt) = false) (fun n => xs.length - n)
      (fun n => [(8, .int .i64 n)]) (fun _ => []) (fun _ => []) 0 ⟨Nat.zero_le _, fun j h => absurd h (Nat.not_lt_zero _)⟩ ?_ ?_
    · conv => whnf
      refine ⟨?_, by (conv => whnf); repeat (first | exact True.intro | (refine And.intro rfl ?_; conv => whnf)), by (conv => whnf); repeat (first | exact True.intro | (refine And.intro (by first | rfl | (subst_vars; rfl)) ?_; conv => whnf)), rfl, rfl, rfl, rfl, rfl, rfl, rfl, Nat.le_of_ble_eq_true rfl, Nat.le_of_ble_eq_true rfl⟩
      conv => whnf
      repeat (first | exact True.intro | (refine And.intro (by first | rfl | ((conv => whnf); exact congrArg (AVal.int .i64) (by omega)) | ((conv => whnf); exact congrArg (AVal.int .i64) (by simp only [Int.natCast_add, Int.natCast_one]; omega)) | ((conv => whnf); exact congrArg (AVal.irow _) (by first | omega | assumption | (simp only; omega)))) ?_; conv => whnf))
    · rintro n ⟨h1, h2⟩
      conv => whnf
      refine vcCode_sound T_ok (GOk.cons hv_ok .nil) _ _ _ _ _ ?_
      conv => whnf
      repeat (refine V_step T_ok (GOk.cons hv_ok .nil) rfl ?_; conv => whnf)
      repeat (any_goals (first
        | (refine V_step T_ok (GOk.cons hv_ok .nil) rfl ?_; conv => whnf)
        | (refine V_drawA T_ok (GOk.cons hv_ok .nil) mixed (by kernel_rfl) ?_; conv => whnf)
        | (refine bcond_split (fun hc => ?_) (fun hc => ?_) <;> (try simp only [decide_eq_true_eq, decide_eq_false_iff_not, Bool.not_eq_true', Bool.not_eq_false', Bool.and_eq_true, Bool.or_eq_true, Bool.and_eq_false_imp, Bool.or_eq_false_iff, ne_eq, Decidable.not_not] at hc) <;> conv => whnf)
        | (intro ysK hysK; have hysl := congrArg List.length hysK; (try simp only [List.length_set, List.length_append, List.length_cons, List.length_nil, List.length_take, List.length_drop, List.length_replicate] at hysl); conv => whnf)
        | (refine And.intro (by first | (first | exact True.intro | omega | (simp only [Rng]; omega) | exact ⟨hE, hx' n (by assumption)⟩) | exact True.intro | exact ⟨rfl, True.intro, fun _ _ => rfl⟩ | exact Nat.le_of_ble_eq_true rfl | (refine ⟨by (try simp only [List.length_cons, List.length_nil]); omega, Int.le_trans (Int.mul_le_mul_of_nonneg_left (show (TInfo.bytes _ : Int) ≤ 64 from Int.ofNat_le.2 (Nat.le_of_ble_eq_true rfl)) (by omega)) (by (try simp only [List.length_cons, List.length_nil]); omega)⟩)) ?_; conv => whnf)))
      · rename_i hc0
        have hl : (n : Int) < (xs.length : Nat) := hc0
        exact leaf0 rfl (congrArg (AVal.int .i64) (idxP_found ((fun l : Lf => List.any (α := Lf) o (crossL l))) xs n lT.dflt (by omega) h2 hc).symm) rfl
      · rename_i hc0
        have hl : (n : Int) < (xs.length : Nat) := hc0
        refine ⟨n + 1, ⟨by omega, fun j hj => ?_⟩, by omega, ?_⟩
        · rcases Nat.lt_or_ge j n with h | h
          · exact h2 j h
          · obtain rfl : j = n := by omega
            exact hc
        · conv => whnf
          refine ⟨?_, by (conv => whnf); repeat (first | exact True.intro | (refine And.intro rfl ?_; conv => whnf)), by (conv => whnf); repeat (first | exact True.intro | (refine And.intro (by first | rfl | (subst_vars; rfl)) ?_; conv => whnf)), rfl, rfl, rfl, rfl, rfl, rfl, rfl, Nat.le_of_ble_eq_true rfl, Nat.le_of_ble_eq_true rfl⟩
          conv => whnf
          repeat (first | exact True.intro | (refine And.intro (by first | rfl | ((conv => whnf); exact congrArg (AVal.int .i64) (by omega)) | ((conv => whnf); exact congrArg (AVal.int .i64) (by simp only [Int.natCast_add, Int.natCast_one]; omega)) | ((conv => whnf); exact congrArg (AVal.irow _) (by first | omega | assumption | (simp only; omega)))) ?_; conv => whnf))
      · have hl : ¬ (n : Int) < (xs.length : Nat) := hc
        exact leaf0 rfl (congrArg (AVal.int .i64) (idxP_none ((fun l : Lf => List.any (α := Lf) o (crossL l))) xs lT.dflt (fun j hj => h2 j (by omega))).symm) rfl


def hvcC : PCtr := fun hg rg _ vals k => match vals with
  | [.row i, .fn f [] [.loc qo 0]] => isF f 88 (rowC lT (rg i) fun xs => boxR (hg qo) fun ro => rowC lT (rg ro) fun o => ((∀ x ∈ (o : List Lf), SmL x) ∧ ∀ x ∈ (xs : List Lf), SmL x) ∧ k [] (.bool (List.any (α := Lf) xs ((fun l : Lf => List.any (α := Lf) o (crossL l))))))
  | _ => False
theorem hvc_ok : PCtrOk Try.prog 34 hvcC where
  enter := enter_ok Try.func34 (by kernel_rfl) rfl
  calls := by
    intro hg rg lr vals k h
    unfold hvcC at h
    split at h
    case h_2 => exact h.elim
    rename_i i f qo
    obtain ⟨rfl, h⟩ := isF_inv h
    obtain ⟨e, own, xs, hi, h⟩ : ∃ e own, ∃ (xs : List Lf), _ := rowC_inv h
    obtain ⟨ro, hqo, h⟩ := boxR_inv h
    obtain ⟨eo, owno, o, hro, h⟩ : ∃ e own, ∃ (xs : List (TyC.α lT)), _ := rowC_inv h
    obtain ⟨⟨hE, hx⟩, hk⟩ := h
    refine ⟨_, _, hk, fun A w hB hR => ?_⟩
    refine enter T_ok (GOk.cons hvx_ok .nil) Try.func34 rfl (K := (· < w.heap.size)) (fun _ h => h) (A := A.pick [qo] [i, ro]) (vals := [.row 0, .fn 88 [] [.loc 0 0]]) (n0 := 0) (b0 := 1) (rows := [some ⟨lT, e, false, xs⟩, some ⟨lT, eo, false, o⟩]) (hp := [some [.row 1]]) rfl (Nat.zero_le _) (fun i9 cs h9 => by
      match i9, h9 with
      | 0, h9 => cases h9; exact box_lt (hB qo _ hqo)
      | i9 + 1, h9 => simp [nthj] at h9) rfl (fun i9 r h9 => by
      match i9, h9 with
      | 0, h9 => cases h9; exact ⟨rfl, RowsAt.ro (hR i _ hi)⟩
      | 1, h9 => cases h9; exact ⟨rfl, RowsAt.ro (hR ro _ hro)⟩
      | i9 + 2, h9 => simp [nthj] at h9) rfl rfl (Nat.le_of_ble_eq_true rfl) ?_
    conv => whnf
    repeat (refine V_step T_ok (GOk.cons hvx_ok .nil) rfl ?_; conv => whnf)
    repeat (any_goals (first
      | (refine V_step T_ok (GOk.cons hvx_ok .nil) rfl ?_; conv => whnf)
      | (refine V_drawA T_ok (GOk.cons hvx_ok .nil) mixed (by kernel_rfl) ?_; conv => whnf)
      | (refine bcond_split (fun hc => ?_) (fun hc => ?_) <;> (try simp only [decide_eq_true_eq, decide_eq_false_iff_not, Bool.not_eq_true', Bool.not_eq_false', Bool.and_eq_true, Bool.or_eq_true, Bool.and_eq_false_imp, Bool.or_eq_false_iff, ne_eq, Decidable.not_not] at hc) <;> conv => whnf)
      | (intro ysK hysK; have hysl := congrArg List.length hysK; (try simp only [List.length_set, List.length_append, List.length_cons, List.length_nil, List.length_take, List.length_drop, List.length_replicate] at hysl); conv => whnf)
      | (refine And.intro (by first | (first | exact ⟨hE, hx⟩ | exact True.intro) | exact True.intro | exact ⟨rfl, True.intro, fun _ _ => rfl⟩ | exact Nat.le_of_ble_eq_true rfl | (refine ⟨by (try simp only [List.length_cons, List.length_nil]); omega, Int.le_trans (Int.mul_le_mul_of_nonneg_left (show (TInfo.bytes _ : Int) ≤ 64 from Int.ofNat_le.2 (Nat.le_of_ble_eq_true rfl)) (by omega)) (by (try simp only [List.length_cons, List.length_nil]); omega)⟩)) ?_; conv => whnf)))
    all_goals exact leaf0 rfl (congrArg AVal.bool (idxP_any ((fun l : Lf => List.any (α := Lf) o (crossL l))) xs)) rfl


def haveC : PCtr := fun _ rg _ vals k => match vals with
  | [.row i, .row j] => rowC lT (rg i) fun xs => rowC lT (rg j) fun ys => ((∀ x ∈ (xs : List Lf), SmL x) ∧ ∀ x ∈ (ys : List Lf), SmL x) ∧ k [] (.bool (haveL xs ys))
  | _ => False
theorem have_ok : PCtrOk Try.prog 58 haveC where
  enter := enter_ok Try.func58 (by kernel_rfl) rfl
  calls := by
    intro hg rg lr vals k h
    unfold haveC at h
    split at h
    case h_2 => exact h.elim
    rename_i i j
    obtain ⟨e, own, xs, hi, h⟩ : ∃ e own, ∃ (xs : List Lf), _ := rowC_inv h
    obtain ⟨e', own', ys, hj, h⟩ : ∃ e own, ∃ (xs : List Lf), _ := rowC_inv h
    obtain ⟨⟨hx, hy⟩, hk⟩ := h
    refine ⟨_, _, hk, fun A w hB hR => ?_⟩
    refine enter T_ok (GOk.cons hvc_ok .nil) Try.func58 rfl (K := (· < w.heap.size)) (fun _ h => h) (A := A.pick [] [i, j]) (vals := [.row 0, .row 1]) (n0 := 0) (b0 := 0) (rows := [some ⟨lT, e, false, xs⟩, some ⟨lT, e', false, ys⟩]) (hp := []) rfl (Nat.zero_le _) no_box rfl (two_rows (hR i _ hi) (hR j _ hj)) rfl rfl (Nat.le_of_ble_eq_true rfl) ?_
    conv => whnf
    repeat (refine V_step T_ok (GOk.cons hvc_ok .nil) rfl ?_; conv => whnf)
    repeat (any_goals (first
      | (refine V_step T_ok (GOk.cons hvc_ok .nil) rfl ?_; conv => whnf)
      | (refine V_drawA T_ok (GOk.cons hvc_ok .nil) mixed (by kernel_rfl) ?_; conv => whnf)
      | (refine bcond_split (fun hc => ?_) (fun hc => ?_) <;> (try simp only [decide_eq_true_eq, decide_eq_false_iff_not, Bool.not_eq_true', Bool.not_eq_false', Bool.and_eq_true, Bool.or_eq_true, Bool.and_eq_false_imp, Bool.or_eq_false_iff, ne_eq, Decidable.not_not] at hc) <;> conv => whnf)
      | (intro ysK hysK; have hysl := congrArg List.length hysK; (try simp only [List.length_set, List.length_append, List.length_cons, List.length_nil, List.length_take, List.length_drop, List.length_replicate] at hysl); conv => whnf)
      | (refine And.intro (by first | (first | exact ⟨hy, hx⟩ | exact True.intro) | exact True.intro | exact ⟨rfl, True.intro, fun _ _ => rfl⟩ | exact Nat.le_of_ble_eq_true rfl | (refine ⟨by (try simp only [List.length_cons, List.length_nil]); omega, Int.le_trans (Int.mul_le_mul_of_nonneg_left (show (TInfo.bytes _ : Int) ≤ 64 from Int.ofNat_le.2 (Nat.le_of_ble_eq_true rfl)) (by omega)) (by (try simp only [List.length_cons, List.length_nil]); omega)⟩)) ?_; conv => whnf)))
    all_goals exact leaf0 rfl rfl rfl

def mlC : PCtr := fun hg rg _ vals k => match vals with
  | [.agg [.int .i64 n, .int .i64 d, .int .i64 m, .int .i64 e], .loc qm0 0] => boxLf (hg qm0) fun m0 => ((SmL m0) ∧ SmL ((n, d), (m, e))) ∧ k [] (.bool ((lessLen m0) ((n, d), (m, e))))
  | _ => False
theorem ml_ok : PCtrOk Try.prog 82 mlC where
  enter := enter_ok Try.func82 (by kernel_rfl) rfl
  calls := by
    intro hg rg lr vals k h
    unfold mlC at h
    split at h
    case h_2 => exact h.elim
    rename_i n d m e qm0
    obtain ⟨m0, hqm0, h⟩ := boxLf_inv h
    obtain ⟨⟨hE, hx⟩, hk⟩ := h
    refine ⟨_, _, hk, fun A w hB hR => ?_⟩
    refine enter T_ok (GOk.cons size_ok (GOk.cons cmpA_ok .nil)) Try.func82 rfl (K := (· < w.heap.size)) (fun _ h => h) (A := A.pick [qm0] []) (vals := [.agg [.int .i64 n, .int .i64 d, .int .i64 m, .int .i64 e], .loc 0 0]) (n0 := 0) (b0 := 1) (rows := []) (hp := [some [.int .i64 m0.1.1, .int .i64 m0.1.2, .int .i64 m0.2.1, .int .i64 m0.2.2]]) rfl (Nat.zero_le _) (fun i9 cs h9 => by
      match i9, h9 with
      | 0, h9 => cases h9; exact box_lt (hB qm0 _ hqm0)
      | i9 + 1, h9 => simp [nthj] at h9) rfl no_row rfl rfl (Nat.le_of_ble_eq_true rfl) ?_
    conv => whnf
    repeat (refine V_step T_ok (GOk.cons size_ok (GOk.cons cmpA_ok .nil)) rfl ?_; conv => whnf)

    have b1 := dist_bd hE.1 hE.2
    have b2 := dist_bd hx.1 hx.2
    repeat (any_goals (first
      | (refine V_step T_ok (GOk.cons size_ok (GOk.cons cmpA_ok .nil)) rfl ?_; conv => whnf)
      | (refine V_drawA T_ok (GOk.cons size_ok (GOk.cons cmpA_ok .nil)) mixed (by kernel_rfl) ?_; conv => whnf)
      | (refine bcond_split (fun hc => ?_) (fun hc => ?_) <;> (try simp only [decide_eq_true_eq, decide_eq_false_iff_not, Bool.not_eq_true', Bool.not_eq_false', Bool.and_eq_true, Bool.or_eq_true, Bool.and_eq_false_imp, Bool.or_eq_false_iff, ne_eq, Decidable.not_not] at hc) <;> conv => whnf)
      | (intro ysK hysK; have hysl := congrArg List.length hysK; (try simp only [List.length_set, List.length_append, List.length_cons, List.length_nil, List.length_take, List.length_drop, List.length_replicate] at hysl); conv => whnf)
      | (refine And.intro (by first | (first | exact hx | exact hE | exact ⟨b2, b1⟩ | exact True.intro) | exact True.intro | exact ⟨rfl, True.intro, fun _ _ => rfl⟩ | exact Nat.le_of_ble_eq_true rfl | (refine ⟨by (try simp only [List.length_cons, List.length_nil]); omega, Int.le_trans (Int.mul_le_mul_of_nonneg_left (show (TInfo.bytes _ : Int) ≤ 64 from Int.ofNat_le.2 (Nat.le_of_ble_eq_true rfl)) (by omega)) (by (try simp only [List.length_cons, List.length_nil]); omega)⟩)) ?_; conv => whnf)))
    all_goals exact leaf0 rfl rfl rfl
def mlxC : PCtr := fun hg rg _ vals k => match vals with
  | [.row i, .fn f [] [.loc qm0 0]] => isF f 82 (rowC lT (rg i) fun xs => boxLf (hg qm0) fun m0 => ((SmL m0) ∧ ∀ x ∈ (xs : List Lf), SmL x) ∧ k [] (.int .i64 (idxP (α := Lf) ((lessLen m0)) xs)))
  | _ => False
theorem mlx_ok : PCtrOk Try.prog 66 mlxC where
  enter := enter_ok Try.func66 (by kernel_rfl) rfl
  calls := by
    intro hg rg lr vals k h
    unfold mlxC at h
    split at h
    case h_2 => exact h.elim
    rename_i i f qm0
    obtain ⟨rfl, h⟩ := isF_inv h
    obtain ⟨e, own, xs, hi, h⟩ : ∃ e own, ∃ (xs : List Lf), _ := rowC_inv h
    obtain ⟨m0, hqm0, h⟩ := boxLf_inv h
    obtain ⟨⟨hE, hx⟩, hk⟩ := h
    refine ⟨_, _, hk, fun A w hB hR => ?_⟩
    refine enter T_ok (GOk.cons ml_ok .nil) Try.func66 rfl (K := (· < w.heap.size)) (fun _ h => h) (A := A.pick [qm0] [i]) (vals := [.row 0, .fn 82 [] [.loc 0 0]]) (n0 := 0) (b0 := 1) (rows := [some ⟨lT, e, false, xs⟩]) (hp := [some [.int .i64 m0.1.1, .int .i64 m0.1.2, .int .i64 m0.2.1, .int .i64 m0.2.2]]) rfl (Nat.zero_le _) (fun i9 cs h9 => by
      match i9, h9 with
      | 0, h9 => cases h9; exact box_lt (hB qm0 _ hqm0)
      | i9 + 1, h9 => simp [nthj] at h9) rfl (fun i9 r h9 => by
      match i9, h9 with
      | 0, h9 => cases h9; exact ⟨rfl, RowsAt.ro (hR i _ hi)⟩
      | i9 + 1, h9 => simp [nthj] at h9) rfl rfl (Nat.le_of_ble_eq_true rfl) ?_
    conv => whnf
    repeat (refine V_step T_ok (GOk.cons ml_ok .nil) rfl ?_; conv => whnf)
    have hcap' : (@List.length (TyC.α lT) xs : Int) ≤ 9223372036854775807 := by
      have h1 := (hR i _ hi).len
      have h2 := (hR i _ hi).cap
      have h3 := (hR i _ hi).max
      simp only at h1
      have : maxLen = 9223372036854775807 := rfl
      omega
    have hcap : (xs.length : Int) ≤ 9223372036854775807 := hcap'
    have hx' : ∀ n : Nat, (n : Int) < (List.length (α := Lf) xs : Nat) → SmL (xs.getD n lT.dflt) := fun n hn => hx _ (getD_mem (by omega))
    refine V_loopH (γ := Nat) (fun n => n ≤ xs.length ∧ ∀ j, j < n → ((lessLen m0)) (xs.getD j lT.dflt) = false) (fun n => xs.length - n)
      (fun n => [(8, .int .i64 n)]) (fun _ => []) (fun _ => []) 0 ⟨Nat.zero_le _, fun j h => absurd h (Nat.not_lt_zero _)⟩ ?_ ?_
    · conv => whnf
      refine ⟨?_, by (conv => whnf); repeat (first | exact True.intro | (refine And.intro rfl ?_; conv => whnf)), by (conv => whnf); repeat (first | exact True.intro | (refine And.intro (by first | rfl | (subst_vars; rfl)) ?_; conv => whnf)), rfl, rfl, rfl, rfl, rfl, rfl, rfl, Nat.le_of_ble_eq_true rfl, Nat.le_of_ble_eq_true rfl⟩
      conv => whnf
      repeat (first | exact True.intro | (refine And.intro (by first | rfl | ((conv => whnf); exact congrArg (AVal.int .i64) (by omega)) | ((conv => whnf); exact congrArg (AVal.int .i64) (by simp only [Int.natCast_add, Int.natCast_one]; omega)) | ((conv => whnf); exact congrArg (AVal.irow _) (by first | omega | assumption | (simp only; omega)))) ?_; conv => whnf))
    · rintro n ⟨h1, h2⟩
      conv => whnf
      refine vcCode_sound T_ok (GOk.cons ml_ok .nil) _ _ _ _ _ ?_
      conv => whnf
      repeat (refine V_step T_ok (GOk.cons ml_ok .nil) rfl ?_; conv => whnf)
      repeat (any_goals (first
        | (refine V_step T_ok (GOk.cons ml_ok .nil) rfl ?_; conv => whnf)
        | (refine V_drawA T_ok (GOk.cons ml_ok .nil) mixed (by kernel_rfl) ?_; conv => whnf)
        | (refine bcond_split (fun hc => ?_) (fun hc => ?_) <;> (try simp only [decide_eq_true_eq, decide_eq_false_iff_not, Bool.not_eq_true', Bool.not_eq_false', Bool.and_eq_true, Bool.or_eq_true, Bool.and_eq_false_imp, Bool.or_eq_false_iff, ne_eq, Decidable.not_not] at hc) <;> conv => whnf)
        | (intro ysK hysK; have hysl := congrArg List.length hysK; (try simp only [List.length_set, List.length_append, List.length_cons, List.length_nil, List.length_take, List.length_drop, List.length_replicate] at hysl); conv => whnf)
        | (refine And.intro (by first | (first | exact True.intro | omega | (simp only [Rng]; omega) | exact ⟨hE, hx' n (by assumption)⟩) | exact True.intro | exact ⟨rfl, True.intro, fun _ _ => rfl⟩ | exact Nat.le_of_ble_eq_true rfl | (refine ⟨by (try simp only [List.length_cons, List.length_nil]); omega, Int.le_trans (Int.mul_le_mul_of_nonneg_left (show (TInfo.bytes _ : Int) ≤ 64 from Int.ofNat_le.2 (Nat.le_of_ble_eq_true rfl)) (by omega)) (by (try simp only [List.length_cons, List.length_nil]); omega)⟩)) ?_; conv => whnf)))
      · rename_i hc0
        have hl : (n : Int) < (xs.length : Nat) := hc0
        exact leaf0 rfl (congrArg (AVal.int .i64) (idxP_found ((lessLen m0)) xs n lT.dflt (by omega) h2 hc).symm) rfl
      · rename_i hc0
        have hl : (n : Int) < (xs.length : Nat) := hc0
        refine ⟨n + 1, ⟨by omega, fun j hj => ?_⟩, by omega, ?_⟩
        · rcases Nat.lt_or_ge j n with h | h
          · exact h2 j h
          · obtain rfl : j = n := by omega
            exact hc
        · conv => whnf
          refine ⟨?_, by (conv => whnf); repeat (first | exact True.intro | (refine And.intro rfl ?_; conv => whnf)), by (conv => whnf); repeat (first | exact True.intro | (refine And.intro (by first | rfl | (subst_vars; rfl)) ?_; conv => whnf)), rfl, rfl, rfl, rfl, rfl, rfl, rfl, Nat.le_of_ble_eq_true rfl, Nat.le_of_ble_eq_true rfl⟩
          conv => whnf
          repeat (first | exact True.intro | (refine And.intro (by first | rfl | ((conv => whnf); exact congrArg (AVal.int .i64) (by omega)) | ((conv => whnf); exact congrArg (AVal.int .i64) (by simp only [Int.natCast_add, Int.natCast_one]; omega)) | ((conv => whnf); exact congrArg (AVal.irow _) (by first | omega | assumption | (simp only; omega)))) ?_; conv => whnf))
      · have hl : ¬ (n : Int) < (xs.length : Nat) := hc
        exact leaf0 rfl (congrArg (AVal.int .i64) (idxP_none ((lessLen m0)) xs lT.dflt (fun j hj => h2 j (by omega))).symm) rfl


def mlcC : PCtr := fun hg rg _ vals k => match vals with
  | [.row i, .fn f [] [.loc qm0 0]] => isF f 82 (rowC lT (rg i) fun xs => boxLf (hg qm0) fun m0 => ((SmL m0) ∧ ∀ x ∈ (xs : List Lf), SmL x) ∧ k [] (.bool (List.any (α := Lf) xs ((lessLen m0)))))
  | _ => False
theorem mlc_ok : PCtrOk Try.prog 34 mlcC where
  enter := enter_ok Try.func34 (by kernel_rfl) rfl
  calls := by
    intro hg rg lr vals k h
    unfold mlcC at h
    split at h
    case h_2 => exact h.elim
    rename_i i f qm0
    obtain ⟨rfl, h⟩ := isF_inv h
    obtain ⟨e, own, xs, hi, h⟩ : ∃ e own, ∃ (xs : List Lf), _ := rowC_inv h
    obtain ⟨m0, hqm0, h⟩ := boxLf_inv h
    obtain ⟨⟨hE, hx⟩, hk⟩ := h
    refine ⟨_, _, hk, fun A w hB hR => ?_⟩
    refine enter T_ok (GOk.cons mlx_ok .nil) Try.func34 rfl (K := (· < w.heap.size)) (fun _ h => h) (A := A.pick [qm0] [i]) (vals := [.row 0, .fn 82 [] [.loc 0 0]]) (n0 := 0) (b0 := 1) (rows := [some ⟨lT, e, false, xs⟩]) (hp := [some [.int .i64 m0.1.1, .int .i64 m0.1.2, .int .i64 m0.2.1, .int .i64 m0.2.2]]) rfl (Nat.zero_le _) (fun i9 cs h9 => by
      match i9, h9 with
      | 0, h9 => cases h9; exact box_lt (hB qm0 _ hqm0)
      | i9 + 1, h9 => simp [nthj] at h9) rfl (fun i9 r h9 => by
      match i9, h9 with
      | 0, h9 => cases h9; exact ⟨rfl, RowsAt.ro (hR i _ hi)⟩
      | i9 + 1, h9 => simp [nthj] at h9) rfl rfl (Nat.le_of_ble_eq_true rfl) ?_
    conv => whnf
    repeat (refine V_step T_ok (GOk.cons mlx_ok .nil) rfl ?_; conv => whnf)
    repeat (any_goals (first
      | (refine V_step T_ok (GOk.cons mlx_ok .nil) rfl ?_; conv => whnf)
      | (refine V_drawA T_ok (GOk.cons mlx_ok .nil) mixed (by kernel_rfl) ?_; conv => whnf)
      | (refine bcond_split (fun hc => ?_) (fun hc => ?_) <;> (try simp only [decide_eq_true_eq, decide_eq_false_iff_not, Bool.not_eq_true', Bool.not_eq_false', Bool.and_eq_true, Bool.or_eq_true, Bool.and_eq_false_imp, Bool.or_eq_false_iff, ne_eq, Decidable.not_not] at hc) <;> conv => whnf)
      | (intro ysK hysK; have hysl := congrArg List.length hysK; (try simp only [List.length_set, List.length_append, List.length_cons, List.length_nil, List.length_take, List.length_drop, List.length_replicate] at hysl); conv => whnf)
      | (refine And.intro (by first | (first | exact ⟨hE, hx⟩ | exact True.intro) | exact True.intro | exact ⟨rfl, True.intro, fun _ _ => rfl⟩ | exact Nat.le_of_ble_eq_true rfl | (refine ⟨by (try simp only [List.length_cons, List.length_nil]); omega, Int.le_trans (Int.mul_le_mul_of_nonneg_left (show (TInfo.bytes _ : Int) ≤ 64 from Int.ofNat_le.2 (Nat.le_of_ble_eq_true rfl)) (by omega)) (by (try simp only [List.length_cons, List.length_nil]); omega)⟩)) ?_; conv => whnf)))
    all_goals exact leaf0 rfl (congrArg AVal.bool (idxP_any ((lessLen m0)) xs)) rfl


end Go.Proofs.Ytllagpbbbdekiaa.Fw
