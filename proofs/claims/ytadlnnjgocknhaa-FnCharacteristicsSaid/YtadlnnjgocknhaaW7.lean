/- Contracts: characteristic polynomials of matrices that are told: their errors, both sides. -/
import Derived.Test.YtadlnnjgocknhaaW4
import Derived.Test.YtadlnnjgocknhaaW6
namespace Go.Proofs.Ytadlnnjgocknhaa.Fw
open Go Go.RowKit
set_option linter.unusedVariables false
set_option linter.unusedSimpArgs false
set_option maxRecDepth 100000
set_option maxHeartbeats 2000000
def lenEq (a : List (List Int)) (x : List Int) : Bool := decide ((x.length : Int) = (a.length : Int))
def lnC : PCtr := fun hg rg _ vals k => match vals with
  | [.row i, .loc q 0] => boxR (hg q) fun r => rowC rT (rg r) fun a => rowC iT (rg i) fun x => True ∧ k [] (.bool (lenEq a x))
  | _ => False
theorem ln_ok : PCtrOk Try.prog 59 lnC where
  enter := enter_ok Try.func59 (by kernel_rfl) rfl
  calls := by
    intro hg rg lr vals k h
    unfold lnC at h
    split at h
    case h_2 => exact h.elim
    rename_i i q
    obtain ⟨r, hq, h⟩ := boxR_inv h
    obtain ⟨ea, owna, a, hr, h⟩ : ∃ e own, ∃ (xs : List (List Int)), _ := rowC_inv h
    obtain ⟨e, own, x, hi, h⟩ : ∃ e own, ∃ (xs : List Int), _ := rowC_inv h
    have hk := h.2
    refine ⟨_, _, hk, fun A w hB hR => ?_⟩
    refine enter T_ok .nil Try.func59 rfl (K := (· < w.heap.size)) (fun _ h => h) (A := A.pick [q] [i, r]) (vals := [.row 0, .loc 0 0]) (n0 := 0) (b0 := 1) (rows := [some ⟨iT, e, false, x⟩, some ⟨rT, ea, false, a⟩]) (hp := [some [.row 1]]) rfl (Nat.zero_le _) (one_box (hB q _ hq)) rfl (two_rows (hR i _ hi) (hR r _ hr)) rfl rfl (Nat.le_of_ble_eq_true rfl) ?_
    conv => whnf
    repeat (refine V_step T_ok .nil rfl ?_; conv => whnf)
    repeat (any_goals (first
      | (refine V_step T_ok .nil rfl ?_; conv => whnf)
      | (refine V_drawA T_ok .nil mixed (by kernel_rfl) ?_; conv => whnf)
      | (refine bcond_split (fun hc => ?_) (fun hc => ?_) <;> (try simp only [decide_eq_true_eq, decide_eq_false_iff_not, Bool.not_eq_true', Bool.not_eq_false', Bool.and_eq_true, Bool.or_eq_true, Bool.and_eq_false_imp, Bool.or_eq_false_iff, ne_eq, Decidable.not_not] at hc) <;> conv => whnf)
      | (intro ysK hysK; have hysl := congrArg List.length hysK; (try simp only [List.length_set, List.length_append, List.length_cons, List.length_nil, List.length_take, List.length_drop, List.length_replicate] at hysl); conv => whnf)
      | (refine And.intro (by first | exact True.intro | (with_reducible assumption) | omega | (simp only [Rng]; omega) | exact Nat.le_of_ble_eq_true rfl | exact True.intro | exact ⟨rfl, True.intro, fun _ _ => rfl⟩ | exact Nat.le_of_ble_eq_true rfl | (refine ⟨by (try simp only [List.length_cons, List.length_nil]); omega, Int.le_trans (Int.mul_le_mul_of_nonneg_left (show (TInfo.bytes _ : Int) ≤ 64 from Int.ofNat_le.2 (Nat.le_of_ble_eq_true rfl)) (by omega)) (by (try simp only [List.length_cons, List.length_nil]); omega)⟩)) ?_; conv => whnf)))
    all_goals exact leaf0 rfl rfl rfl
def trueR (x : List Int) : Prop := True
def ln1C : PCtr := fun hg rg _ vals k => match vals with
  | [.row i, .loc j 0] => boxFB (hg j) 59 fun q => boxR (hg q) fun r => rowC rT (rg r) fun a => rowC iT (rg i) fun x => (trueR) x ∧ k [] (.bool (!(lenEq a) x))
  | _ => False
theorem ln1_ok : PCtrOk Try.prog 92 ln1C where
  enter := enter_ok Try.func92 (by kernel_rfl) rfl
  calls := by
    intro hg rg lr vals k h
    unfold ln1C at h
    split at h
    case h_2 => exact h.elim
    rename_i i j
    obtain ⟨q, hj, h⟩ := boxFB_inv h
    obtain ⟨r, hq, h⟩ := boxR_inv h
    obtain ⟨ea, owna, a, hr, h⟩ : ∃ e own, ∃ (xs : List (List Int)), _ := rowC_inv h
    obtain ⟨e, own, x, hi, h⟩ : ∃ e own, ∃ (xs : List Int), _ := rowC_inv h
    obtain ⟨hx, hk⟩ := h
    refine ⟨_, _, hk, fun A w hB hR => ?_⟩
    refine enter T_ok (GOk.cons ln_ok .nil) Try.func92 rfl (K := (· < w.heap.size)) (fun _ h => h) (A := A.pick [j, q] [i, r]) (vals := [.row 0, .loc 0 0]) (n0 := 0) (b0 := 2) (rows := [some ⟨iT, e, false, x⟩, some ⟨rT, ea, false, a⟩]) (hp := [some [.fn 59 [] [.loc 1 0]], some [.row 1]]) rfl (Nat.zero_le _) (fun i9 cs h9 => by
      match i9, h9 with
      | 0, h9 => cases h9; exact box_lt (hB j _ hj)
      | 1, h9 => cases h9; exact box_lt (hB q _ hq)
      | i9 + 2, h9 => simp [nthj] at h9) rfl (fun i9 r h9 => by
      match i9, h9 with
      | 0, h9 => cases h9; exact ⟨rfl, RowsAt.ro (hR i _ hi)⟩
      | 1, h9 => cases h9; exact ⟨rfl, RowsAt.ro (hR r _ hr)⟩
      | i9 + 2, h9 => simp [nthj] at h9) rfl rfl (Nat.le_of_ble_eq_true rfl) ?_
    conv => whnf
    repeat (refine V_step T_ok (GOk.cons ln_ok .nil) rfl ?_; conv => whnf)
    repeat (any_goals (first
      | (refine V_step T_ok (GOk.cons ln_ok .nil) rfl ?_; conv => whnf)
      | (refine V_drawA T_ok (GOk.cons ln_ok .nil) mixed (by kernel_rfl) ?_; conv => whnf)
      | (refine bcond_split (fun hc => ?_) (fun hc => ?_) <;> (try simp only [decide_eq_true_eq, decide_eq_false_iff_not, Bool.not_eq_true', Bool.not_eq_false', Bool.and_eq_true, Bool.or_eq_true, Bool.and_eq_false_imp, Bool.or_eq_false_iff, ne_eq, Decidable.not_not] at hc) <;> conv => whnf)
      | (intro ysK hysK; have hysl := congrArg List.length hysK; (try simp only [List.length_set, List.length_append, List.length_cons, List.length_nil, List.length_take, List.length_drop, List.length_replicate] at hysl); conv => whnf)
      | (refine And.intro (by first | (first | exact True.intro | exact hx) | exact True.intro | exact ⟨rfl, True.intro, fun _ _ => rfl⟩ | exact Nat.le_of_ble_eq_true rfl | (refine ⟨by (try simp only [List.length_cons, List.length_nil]); omega, Int.le_trans (Int.mul_le_mul_of_nonneg_left (show (TInfo.bytes _ : Int) ≤ 64 from Int.ofNat_le.2 (Nat.le_of_ble_eq_true rfl)) (by omega)) (by (try simp only [List.length_cons, List.length_nil]); omega)⟩)) ?_; conv => whnf)))
    all_goals exact leaf0 rfl rfl rfl
def lnxC : PCtr := fun hg rg _ vals k => match vals with
  | [.row i, .fn f [] [.loc j 0]] => isF f 92 (boxFB (hg j) 59 fun q => boxR (hg q) fun r => rowC rT (rg r) fun a => rowC rT (rg i) fun xs => (∀ x ∈ (xs : List (List Int)), (trueR) x) ∧ k [] (.int .i64 (idxP (α := List Int) (fun x => !(lenEq a) x) xs)))
  | _ => False
theorem lnx_ok : PCtrOk Try.prog 82 lnxC where
  enter := enter_ok Try.func82 (by kernel_rfl) rfl
  calls := by
    intro hg rg lr vals k h
    unfold lnxC at h
    split at h
    case h_2 => exact h.elim
    rename_i i f j
    obtain ⟨rfl, h⟩ := isF_inv h
    obtain ⟨q, hj, h⟩ := boxFB_inv h
    obtain ⟨r, hq, h⟩ := boxR_inv h
    obtain ⟨ea, owna, a, hr, h⟩ : ∃ e own, ∃ (xs : List (List Int)), _ := rowC_inv h
    obtain ⟨e, own, xs, hi, h⟩ : ∃ e own, ∃ (xs : List (List Int)), _ := rowC_inv h
    obtain ⟨hx, hk⟩ := h
    refine ⟨_, _, hk, fun A w hB hR => ?_⟩
    refine enter T_ok (GOk.cons ln1_ok .nil) Try.func82 rfl (K := (· < w.heap.size)) (fun _ h => h) (A := A.pick [j, q] [i, r]) (vals := [.row 0, .fn 92 [] [.loc 0 0]]) (n0 := 0) (b0 := 2) (rows := [some ⟨rT, e, false, xs⟩, some ⟨rT, ea, false, a⟩]) (hp := [some [.fn 59 [] [.loc 1 0]], some [.row 1]]) rfl (Nat.zero_le _) (fun i9 cs h9 => by
      match i9, h9 with
      | 0, h9 => cases h9; exact box_lt (hB j _ hj)
      | 1, h9 => cases h9; exact box_lt (hB q _ hq)
      | i9 + 2, h9 => simp [nthj] at h9) rfl (fun i9 r h9 => by
      match i9, h9 with
      | 0, h9 => cases h9; exact ⟨rfl, RowsAt.ro (hR i _ hi)⟩
      | 1, h9 => cases h9; exact ⟨rfl, RowsAt.ro (hR r _ hr)⟩
      | i9 + 2, h9 => simp [nthj] at h9) rfl rfl (Nat.le_of_ble_eq_true rfl) ?_
    conv => whnf
    repeat (refine V_step T_ok (GOk.cons ln1_ok .nil) rfl ?_; conv => whnf)
    have hcap' : (@List.length (List Int) xs : Int) ≤ 9223372036854775807 := by
      have h1 := (hR i _ hi).len
      have h2 := (hR i _ hi).cap
      have h3 := (hR i _ hi).max
      simp only at h1
      have : maxLen = 9223372036854775807 := rfl
      have h1 : (A.rw i).len = @List.length (List Int) xs := h1
      omega
    have hx' : ∀ n : Nat, (n : Int) < (@List.length (List Int) xs : Int) → (trueR) (@List.getD (List Int) xs n []) := fun n hn => hx _ (getD_mem (by omega))
    refine V_loopH (γ := Nat) (fun n => n ≤ List.length (α := List Int) xs ∧ ∀ j, j < n → (fun x => !(lenEq a) x) (xs.getD j []) = false) (fun n => List.length (α := List Int) xs - n)
      (fun n => [(8, .int .i64 n)]) (fun _ => []) (fun _ => []) 0 ⟨Nat.zero_le _, fun j h => absurd h (Nat.not_lt_zero _)⟩ ?_ ?_
    · conv => whnf
      refine ⟨?_, by (conv => whnf); repeat (first | exact True.intro | (refine And.intro rfl ?_; conv => whnf)), by (conv => whnf); repeat (first | exact True.intro | (refine And.intro (by first | rfl | (subst_vars; rfl)) ?_; conv => whnf)), rfl, rfl, rfl, rfl, rfl, rfl, rfl, Nat.le_of_ble_eq_true rfl, Nat.le_of_ble_eq_true rfl⟩
      conv => whnf
      repeat (first | exact True.intro | (refine And.intro (by first | rfl | ((conv => whnf); exact congrArg (AVal.int .i64) (by omega)) | ((conv => whnf); exact congrArg (AVal.int .i64) (by simp only [Int.natCast_add, Int.natCast_one]; omega)) | ((conv => whnf); exact congrArg (AVal.irow _) (by first | omega | assumption | (simp only; omega)))) ?_; conv => whnf))
    · rintro n ⟨h1, h2⟩
      conv => whnf
      refine vcCode_sound T_ok (GOk.cons ln1_ok .nil) _ _ _ _ _ ?_
      conv => whnf
      repeat (refine V_step T_ok (GOk.cons ln1_ok .nil) rfl ?_; conv => whnf)
      repeat (any_goals (first
        | (refine V_step T_ok (GOk.cons ln1_ok .nil) rfl ?_; conv => whnf)
        | (refine V_drawA T_ok (GOk.cons ln1_ok .nil) mixed (by kernel_rfl) ?_; conv => whnf)
        | (refine bcond_split (fun hc => ?_) (fun hc => ?_) <;> (try simp only [decide_eq_true_eq, decide_eq_false_iff_not, Bool.not_eq_true', Bool.not_eq_false', Bool.and_eq_true, Bool.or_eq_true, Bool.and_eq_false_imp, Bool.or_eq_false_iff, ne_eq, Decidable.not_not] at hc) <;> conv => whnf)
        | (intro ysK hysK; have hysl := congrArg List.length hysK; (try simp only [List.length_set, List.length_append, List.length_cons, List.length_nil, List.length_take, List.length_drop, List.length_replicate] at hysl); conv => whnf)
        | (refine And.intro (by first | (first | exact True.intro | exact hx' n (by assumption) | omega | (simp only [Rng]; omega)) | exact True.intro | exact ⟨rfl, True.intro, fun _ _ => rfl⟩ | exact Nat.le_of_ble_eq_true rfl | (refine ⟨by (try simp only [List.length_cons, List.length_nil]); omega, Int.le_trans (Int.mul_le_mul_of_nonneg_left (show (TInfo.bytes _ : Int) ≤ 64 from Int.ofNat_le.2 (Nat.le_of_ble_eq_true rfl)) (by omega)) (by (try simp only [List.length_cons, List.length_nil]); omega)⟩)) ?_; conv => whnf)))
      · rename_i hc0
        have hl : (n : Int) < (List.length (α := List Int) xs : Nat) := hc0
        exact leaf0 rfl (congrArg (AVal.int .i64) (idxP_found (fun x => !(lenEq a) x) xs n [] (by omega) h2 (by first | exact hc | exact congrArg not hc | (simp only [Bool.not_not]; exact hc))).symm) rfl
      · rename_i hc0
        have hl : (n : Int) < (List.length (α := List Int) xs : Nat) := hc0
        refine ⟨n + 1, ⟨by omega, fun j hj => ?_⟩, by omega, ?_⟩
        · rcases Nat.lt_or_ge j n with h | h
          · exact h2 j h
          · obtain rfl : j = n := by omega
            first | exact hc | exact congrArg not hc | (simp only [Bool.not_not]; exact hc)
        · conv => whnf
          refine ⟨?_, by (conv => whnf); repeat (first | exact True.intro | (refine And.intro rfl ?_; conv => whnf)), by (conv => whnf); repeat (first | exact True.intro | (refine And.intro (by first | rfl | (subst_vars; rfl)) ?_; conv => whnf)), rfl, rfl, rfl, rfl, rfl, rfl, rfl, Nat.le_of_ble_eq_true rfl, Nat.le_of_ble_eq_true rfl⟩
          conv => whnf
          repeat (first | exact True.intro | (refine And.intro (by first | rfl | ((conv => whnf); exact congrArg (AVal.int .i64) (by omega)) | ((conv => whnf); exact congrArg (AVal.int .i64) (by simp only [Int.natCast_add, Int.natCast_one]; omega)) | ((conv => whnf); exact congrArg (AVal.irow _) (by first | omega | assumption | (simp only; omega)))) ?_; conv => whnf))
      · have hl : ¬ (n : Int) < (List.length (α := List Int) xs : Nat) := hc
        exact leaf0 rfl (congrArg (AVal.int .i64) (idxP_none (fun x => !(lenEq a) x) xs [] (fun j hj => h2 j (by omega))).symm) rfl
def lncC : PCtr := fun hg rg _ vals k => match vals with
  | [.row i, .fn f [] [.loc j 0]] => isF f 92 (boxFB (hg j) 59 fun q => boxR (hg q) fun r => rowC rT (rg r) fun a => rowC rT (rg i) fun xs => (∀ x ∈ (xs : List (List Int)), (trueR) x) ∧ k [] (.bool (List.any (α := List Int) xs (fun x => !(lenEq a) x))))
  | _ => False
theorem lnc_ok : PCtrOk Try.prog 91 lncC where
  enter := enter_ok Try.func91 (by kernel_rfl) rfl
  calls := by
    intro hg rg lr vals k h
    unfold lncC at h
    split at h
    case h_2 => exact h.elim
    rename_i i f j
    obtain ⟨rfl, h⟩ := isF_inv h
    obtain ⟨q, hj, h⟩ := boxFB_inv h
    obtain ⟨r, hq, h⟩ := boxR_inv h
    obtain ⟨ea, owna, a, hr, h⟩ : ∃ e own, ∃ (xs : List (List Int)), _ := rowC_inv h
    obtain ⟨e, own, xs, hi, h⟩ : ∃ e own, ∃ (xs : List (List Int)), _ := rowC_inv h
    obtain ⟨hx, hk⟩ := h
    refine ⟨_, _, hk, fun A w hB hR => ?_⟩
    refine enter T_ok (GOk.cons lnx_ok .nil) Try.func91 rfl (K := (· < w.heap.size)) (fun _ h => h) (A := A.pick [j, q] [i, r]) (vals := [.row 0, .fn 92 [] [.loc 0 0]]) (n0 := 0) (b0 := 2) (rows := [some ⟨rT, e, false, xs⟩, some ⟨rT, ea, false, a⟩]) (hp := [some [.fn 59 [] [.loc 1 0]], some [.row 1]]) rfl (Nat.zero_le _) (fun i9 cs h9 => by
      match i9, h9 with
      | 0, h9 => cases h9; exact box_lt (hB j _ hj)
      | 1, h9 => cases h9; exact box_lt (hB q _ hq)
      | i9 + 2, h9 => simp [nthj] at h9) rfl (fun i9 r h9 => by
      match i9, h9 with
      | 0, h9 => cases h9; exact ⟨rfl, RowsAt.ro (hR i _ hi)⟩
      | 1, h9 => cases h9; exact ⟨rfl, RowsAt.ro (hR r _ hr)⟩
      | i9 + 2, h9 => simp [nthj] at h9) rfl rfl (Nat.le_of_ble_eq_true rfl) ?_
    conv => whnf
    repeat (refine V_step T_ok (GOk.cons lnx_ok .nil) rfl ?_; conv => whnf)
    repeat (any_goals (first
      | (refine V_step T_ok (GOk.cons lnx_ok .nil) rfl ?_; conv => whnf)
      | (refine V_drawA T_ok (GOk.cons lnx_ok .nil) mixed (by kernel_rfl) ?_; conv => whnf)
      | (refine bcond_split (fun hc => ?_) (fun hc => ?_) <;> (try simp only [decide_eq_true_eq, decide_eq_false_iff_not, Bool.not_eq_true', Bool.not_eq_false', Bool.and_eq_true, Bool.or_eq_true, Bool.and_eq_false_imp, Bool.or_eq_false_iff, ne_eq, Decidable.not_not] at hc) <;> conv => whnf)
      | (intro ysK hysK; have hysl := congrArg List.length hysK; (try simp only [List.length_set, List.length_append, List.length_cons, List.length_nil, List.length_take, List.length_drop, List.length_replicate] at hysl); conv => whnf)
      | (refine And.intro (by first | (first | exact hx | exact True.intro) | exact True.intro | exact ⟨rfl, True.intro, fun _ _ => rfl⟩ | exact Nat.le_of_ble_eq_true rfl | (refine ⟨by (try simp only [List.length_cons, List.length_nil]); omega, Int.le_trans (Int.mul_le_mul_of_nonneg_left (show (TInfo.bytes _ : Int) ≤ 64 from Int.ofNat_le.2 (Nat.le_of_ble_eq_true rfl)) (by omega)) (by (try simp only [List.length_cons, List.length_nil]); omega)⟩)) ?_; conv => whnf)))
    all_goals exact leaf0 rfl (congrArg AVal.bool (idxP_any (fun x => !(lenEq a) x) xs)) rfl
def lnA : PCtr := fun hg rg _ vals k => match vals with
  | [.row i, .fn f [] [.loc q 0]] => isF f 59 (boxR (hg q) fun r => rowC rT (rg r) fun a => rowC rT (rg i) fun xs => (∀ x ∈ (xs : List (List Int)), (trueR) x) ∧ k [] (.bool (List.all (α := List Int) xs (lenEq a))))
  | _ => False
theorem lnA_ok : PCtrOk Try.prog 58 lnA where
  enter := enter_ok Try.func58 (by kernel_rfl) rfl
  calls := by
    intro hg rg lr vals k h
    unfold lnA at h
    split at h
    case h_2 => exact h.elim
    rename_i i f q
    obtain ⟨rfl, h⟩ := isF_inv h
    obtain ⟨r, hq, h⟩ := boxR_inv h
    obtain ⟨ea, owna, a, hr, h⟩ : ∃ e own, ∃ (xs : List (List Int)), _ := rowC_inv h
    obtain ⟨e, own, xs, hi, h⟩ : ∃ e own, ∃ (xs : List (List Int)), _ := rowC_inv h
    obtain ⟨hx, hk⟩ := h
    refine ⟨_, _, hk, fun A w hB hR => ?_⟩
    refine enter T_ok (GOk.cons lnc_ok .nil) Try.func58 rfl (K := (· < w.heap.size)) (fun _ h => h) (A := A.pick [q] [i, r]) (vals := [.row 0, .fn 59 [] [.loc 0 0]]) (n0 := 0) (b0 := 1) (rows := [some ⟨rT, e, false, xs⟩, some ⟨rT, ea, false, a⟩]) (hp := [some [.row 1]]) rfl (Nat.zero_le _) (fun i9 cs h9 => by
      match i9, h9 with
      | 0, h9 => cases h9; exact box_lt (hB q _ hq)
      | i9 + 1, h9 => simp [nthj] at h9) rfl (fun i9 r h9 => by
      match i9, h9 with
      | 0, h9 => cases h9; exact ⟨rfl, RowsAt.ro (hR i _ hi)⟩
      | 1, h9 => cases h9; exact ⟨rfl, RowsAt.ro (hR r _ hr)⟩
      | i9 + 2, h9 => simp [nthj] at h9) rfl rfl (Nat.le_of_ble_eq_true rfl) ?_
    conv => whnf
    repeat (refine V_step T_ok (GOk.cons lnc_ok .nil) rfl ?_; conv => whnf)
    repeat (any_goals (first
      | (refine V_step T_ok (GOk.cons lnc_ok .nil) rfl ?_; conv => whnf)
      | (refine V_drawA T_ok (GOk.cons lnc_ok .nil) mixed (by kernel_rfl) ?_; conv => whnf)
      | (refine bcond_split (fun hc => ?_) (fun hc => ?_) <;> (try simp only [decide_eq_true_eq, decide_eq_false_iff_not, Bool.not_eq_true', Bool.not_eq_false', Bool.and_eq_true, Bool.or_eq_true, Bool.and_eq_false_imp, Bool.or_eq_false_iff, ne_eq, Decidable.not_not] at hc) <;> conv => whnf)
      | (intro ysK hysK; have hysl := congrArg List.length hysK; (try simp only [List.length_set, List.length_append, List.length_cons, List.length_nil, List.length_take, List.length_drop, List.length_replicate] at hysl); conv => whnf)
      | (refine And.intro (by first | (first | exact hx | exact True.intro) | exact True.intro | exact ⟨rfl, True.intro, fun _ _ => rfl⟩ | exact Nat.le_of_ble_eq_true rfl | (refine ⟨by (try simp only [List.length_cons, List.length_nil]); omega, Int.le_trans (Int.mul_le_mul_of_nonneg_left (show (TInfo.bytes _ : Int) ≤ 64 from Int.ofNat_le.2 (Nat.le_of_ble_eq_true rfl)) (by omega)) (by (try simp only [List.length_cons, List.length_nil]); omega)⟩)) ?_; conv => whnf)))
    all_goals exact leaf0 rfl (congrArg AVal.bool (not_any_not (lenEq a) xs)) rfl
/-- A row of small numbers. -/
def okRow (x : List Int) : Bool := x.all (fun v => decide (0 ≤ v ∧ v ≤ 2)) && decide (sumI x ≤ 2)
def shR (x : List Int) : Prop := x.length ≤ 1000
theorem okRow_no {x : List Int} {n : Nat} (hn : n < x.length) (h : ¬ (0 ≤ x.getD n 0 ∧ x.getD n 0 ≤ 2)) : okRow x = false := by
  have h1 : x.all (fun v => decide (0 ≤ v ∧ v ≤ 2)) = false := by
    rw [List.all_eq_false]
    exact ⟨x.getD n 0, getD_mem hn, by simp only [decide_eq_true_iff]; exact h⟩
  unfold okRow; rw [h1]; rfl
theorem okRow_yes {x : List Int} (h : ∀ j, j < x.length → 0 ≤ x.getD j 0 ∧ x.getD j 0 ≤ 2) : okRow x = decide (sumI x ≤ 2) := by
  have h1 : x.all (fun v => decide (0 ≤ v ∧ v ≤ 2)) = true := by
    rw [List.all_eq_true]
    intro v hv
    obtain ⟨j, hj, rfl⟩ := List.getElem_of_mem hv
    have := h j hj
    rw [List.getD_eq_getElem?_getD, List.getElem?_eq_getElem hj] at this
    exact decide_eq_true this
  unfold okRow; rw [h1]; rfl
theorem take_bd {x : List Int} {n : Nat} (hn : n ≤ x.length) (h : ∀ j, j < n → 0 ≤ x.getD j 0 ∧ x.getD j 0 ≤ 2) : 0 ≤ sumI (x.take n) ∧ sumI (x.take n) ≤ 2 * n := by
  induction n with
  | zero => simp [sumI]
  | succ n ih =>
    have h1 := ih (by omega) fun j hj => h j (by omega)
    have h2 := h n (by omega)
    rw [sumI_take_succ x n (by omega)]
    omega
def rwC : PCtr := fun hg rg _ vals k => match vals with
  | [.row i] => rowC iT (rg i) fun x => shR x ∧ k [] (.bool (okRow x))
  | _ => False
theorem rw_ok : PCtrOk Try.prog 60 rwC where
  enter := enter_ok Try.func60 (by kernel_rfl) rfl
  calls := by
    intro hg rg lr vals k h
    unfold rwC at h
    split at h
    case h_2 => exact h.elim
    rename_i i
    obtain ⟨e, own, x, hi, h⟩ : ∃ e own, ∃ (xs : List Int), _ := rowC_inv h
    obtain ⟨hx, hk⟩ := h
    refine ⟨_, _, hk, fun A w hB hR => ?_⟩
    refine enter T_ok (GOk.cons within_ok .nil) Try.func60 rfl (K := (· < w.heap.size)) (fun _ h => h) (A := A.pick [] [i]) (vals := [.row 0]) (n0 := 0) (b0 := 0) (rows := [some ⟨iT, e, false, x⟩]) (hp := []) rfl (Nat.zero_le _) no_box rfl (one_row (hR i _ hi)) rfl rfl (Nat.le_of_ble_eq_true rfl) ?_
    conv => whnf
    repeat (refine V_step T_ok (GOk.cons within_ok .nil) rfl ?_; conv => whnf)
    have hx : List.length (α := Int) x ≤ 1000 := hx
    refine V_loopH (γ := Nat) (fun n => n ≤ List.length (α := Int) x ∧ ∀ j, j < n → 0 ≤ x.getD j 0 ∧ x.getD j 0 ≤ 2) (fun n => List.length (α := Int) x - n)
      (fun n => [(3, .int .i64 (sumI (x.take n))), (8, .int .i64 n)]) (fun _ => []) (fun _ => []) 0 ⟨Nat.zero_le _, fun j h => absurd h (Nat.not_lt_zero _)⟩ ?_ ?_
    · conv => whnf
      refine ⟨?_, by (conv => whnf); repeat (first | exact True.intro | (refine And.intro rfl ?_; conv => whnf)), by (conv => whnf); repeat (first | exact True.intro | (refine And.intro (by first | rfl | (subst_vars; rfl)) ?_; conv => whnf)), rfl, rfl, rfl, rfl, rfl, rfl, rfl, Nat.le_of_ble_eq_true rfl, Nat.le_of_ble_eq_true rfl⟩
      conv => whnf
      repeat (first | exact True.intro | (refine And.intro (by first | rfl | ((conv => whnf); exact congrArg (AVal.int .i64) (by omega)) | ((conv => whnf); exact congrArg (AVal.int .i64) (by simp only [Int.natCast_add, Int.natCast_one]; omega)) | ((conv => whnf); exact congrArg (AVal.irow _) (by first | omega | assumption | (simp only; omega)))) ?_; conv => whnf))
    · rintro n ⟨h1, h2⟩
      have hb := take_bd h1 h2
      have hn : (n : Int) < (List.length (α := Int) x : Int) → sumI (x.take (n + 1)) = sumI (x.take n) + List.getD (α := TyC.α iT) x n iT.dflt := fun h => sumI_take_succ x n (by omega)
      conv => whnf
      refine vcCode_sound T_ok (GOk.cons within_ok .nil) _ _ _ _ _ ?_
      conv => whnf
      repeat (refine V_step T_ok (GOk.cons within_ok .nil) rfl ?_; conv => whnf)
      repeat (any_goals (first
        | (refine V_step T_ok (GOk.cons within_ok .nil) rfl ?_; conv => whnf)
        | (refine V_drawA T_ok (GOk.cons within_ok .nil) mixed (by kernel_rfl) ?_; conv => whnf)
        | (refine bcond_split (fun hc => ?_) (fun hc => ?_) <;> (try simp only [decide_eq_true_eq, decide_eq_false_iff_not, Bool.not_eq_true', Bool.not_eq_false', Bool.and_eq_true, Bool.or_eq_true, Bool.and_eq_false_imp, Bool.or_eq_false_iff, ne_eq, Decidable.not_not] at hc) <;> conv => whnf)
        | (intro ysK hysK; have hysl := congrArg List.length hysK; (try simp only [List.length_set, List.length_append, List.length_cons, List.length_nil, List.length_take, List.length_drop, List.length_replicate] at hysl); conv => whnf)
        | (refine And.intro (by first | (first | exact True.intro | omega | (simp only [Rng]; omega) | (have hc' : 0 ≤ List.getD (α := TyC.α iT) x n iT.dflt ∧ List.getD (α := TyC.α iT) x n iT.dflt ≤ 2 := by assumption); simp only [Rng, Int.toNat_natCast]; omega) | exact True.intro | exact ⟨rfl, True.intro, fun _ _ => rfl⟩ | exact Nat.le_of_ble_eq_true rfl | (refine ⟨by (try simp only [List.length_cons, List.length_nil]); omega, Int.le_trans (Int.mul_le_mul_of_nonneg_left (show (TInfo.bytes _ : Int) ≤ 64 from Int.ofNat_le.2 (Nat.le_of_ble_eq_true rfl)) (by omega)) (by (try simp only [List.length_cons, List.length_nil]); omega)⟩)) ?_; conv => whnf)))
      · exact leaf0 rfl (congrArg AVal.bool (okRow_no (by omega) hc).symm) rfl
      · have hn1 : (n : Int) < (List.length (α := Int) x : Int) := by assumption
        have e1 : sumI (x.take (n + 1)) = sumI (x.take n) + List.getD (α := TyC.α iT) x (Int.toNat (n : Int)) iT.dflt := hn hn1
        have hc : 0 ≤ x.getD n 0 ∧ x.getD n 0 ≤ 2 := hc
        refine ⟨n + 1, ⟨by omega, fun j hj => ?_⟩, by omega, ?_⟩
        · rcases Nat.lt_or_ge j n with h | h
          · exact h2 j h
          · obtain rfl : j = n := by omega
            exact hc
        · clear hb
          conv => whnf
          refine ⟨?_, by (conv => whnf); repeat (first | exact True.intro | (refine And.intro rfl ?_; conv => whnf)), by (conv => whnf); repeat (first | exact True.intro | (refine And.intro (by first | rfl | (subst_vars; rfl)) ?_; conv => whnf)), rfl, rfl, rfl, rfl, rfl, rfl, rfl, Nat.le_of_ble_eq_true rfl, Nat.le_of_ble_eq_true rfl⟩
          conv => whnf
          repeat (first | exact True.intro | (refine And.intro (by first | rfl | ((conv => whnf); exact congrArg (AVal.int .i64) (by omega)) | ((conv => whnf); exact congrArg (AVal.int .i64) (by simp only [Int.natCast_add, Int.natCast_one]; omega)) | ((conv => whnf); exact congrArg (AVal.irow _) (by first | omega | assumption | (simp only; omega)))) ?_; conv => whnf))
      · have hn1 : n = List.length (α := Int) x := by
          have hc : ¬ (n : Int) < (List.length (α := Int) x : Int) := hc
          omega
        have e2 : x.take n = x := List.take_of_length_le (by omega)
        rw [e2]
        exact leaf0 rfl (congrArg AVal.bool (okRow_yes fun j hj => h2 j (by omega)).symm) rfl
def rw1C : PCtr := fun hg rg _ vals k => match vals with
  | [.row i, .loc j 0] => boxF (hg j) 60 <| rowC iT (rg i) fun x => (shR) x ∧ k [] (.bool (!(okRow) x))
  | _ => False
theorem rw1_ok : PCtrOk Try.prog 92 rw1C where
  enter := enter_ok Try.func92 (by kernel_rfl) rfl
  calls := by
    intro hg rg lr vals k h
    unfold rw1C at h
    split at h
    case h_2 => exact h.elim
    rename_i i j
    obtain ⟨hj, h⟩ := boxF_inv h
    obtain ⟨e, own, x, hi, h⟩ : ∃ e own, ∃ (xs : List Int), _ := rowC_inv h
    obtain ⟨hx, hk⟩ := h
    refine ⟨_, _, hk, fun A w hB hR => ?_⟩
    refine enter T_ok (GOk.cons rw_ok .nil) Try.func92 rfl (K := (· < w.heap.size)) (fun _ h => h) (A := A.pick [j] [i]) (vals := [.row 0, .loc 0 0]) (n0 := 0) (b0 := 1) (rows := [some ⟨iT, e, false, x⟩]) (hp := [some [.fn 60 [] []]]) rfl (Nat.zero_le _) (fun i9 cs h9 => by
      match i9, h9 with
      | 0, h9 => cases h9; exact box_lt (hB j _ hj)
      | i9 + 1, h9 => simp [nthj] at h9) rfl (fun i9 r h9 => by
      match i9, h9 with
      | 0, h9 => cases h9; exact ⟨rfl, RowsAt.ro (hR i _ hi)⟩
      | i9 + 1, h9 => simp [nthj] at h9) rfl rfl (Nat.le_of_ble_eq_true rfl) ?_
    conv => whnf
    repeat (refine V_step T_ok (GOk.cons rw_ok .nil) rfl ?_; conv => whnf)
    repeat (any_goals (first
      | (refine V_step T_ok (GOk.cons rw_ok .nil) rfl ?_; conv => whnf)
      | (refine V_drawA T_ok (GOk.cons rw_ok .nil) mixed (by kernel_rfl) ?_; conv => whnf)
      | (refine bcond_split (fun hc => ?_) (fun hc => ?_) <;> (try simp only [decide_eq_true_eq, decide_eq_false_iff_not, Bool.not_eq_true', Bool.not_eq_false', Bool.and_eq_true, Bool.or_eq_true, Bool.and_eq_false_imp, Bool.or_eq_false_iff, ne_eq, Decidable.not_not] at hc) <;> conv => whnf)
      | (intro ysK hysK; have hysl := congrArg List.length hysK; (try simp only [List.length_set, List.length_append, List.length_cons, List.length_nil, List.length_take, List.length_drop, List.length_replicate] at hysl); conv => whnf)
      | (refine And.intro (by first | (first | exact True.intro | exact hx) | exact True.intro | exact ⟨rfl, True.intro, fun _ _ => rfl⟩ | exact Nat.le_of_ble_eq_true rfl | (refine ⟨by (try simp only [List.length_cons, List.length_nil]); omega, Int.le_trans (Int.mul_le_mul_of_nonneg_left (show (TInfo.bytes _ : Int) ≤ 64 from Int.ofNat_le.2 (Nat.le_of_ble_eq_true rfl)) (by omega)) (by (try simp only [List.length_cons, List.length_nil]); omega)⟩)) ?_; conv => whnf)))
    all_goals exact leaf0 rfl rfl rfl
def rwxC : PCtr := fun hg rg _ vals k => match vals with
  | [.row i, .fn f [] [.loc j 0]] => isF f 92 (boxF (hg j) 60 <| rowC rT (rg i) fun xs => (∀ x ∈ (xs : List (List Int)), (shR) x) ∧ k [] (.int .i64 (idxP (α := List Int) (fun x => !(okRow) x) xs)))
  | _ => False
theorem rwx_ok : PCtrOk Try.prog 82 rwxC where
  enter := enter_ok Try.func82 (by kernel_rfl) rfl
  calls := by
    intro hg rg lr vals k h
    unfold rwxC at h
    split at h
    case h_2 => exact h.elim
    rename_i i f j
    obtain ⟨rfl, h⟩ := isF_inv h
    obtain ⟨hj, h⟩ := boxF_inv h
    obtain ⟨e, own, xs, hi, h⟩ : ∃ e own, ∃ (xs : List (List Int)), _ := rowC_inv h
    obtain ⟨hx, hk⟩ := h
    refine ⟨_, _, hk, fun A w hB hR => ?_⟩
    refine enter T_ok (GOk.cons rw1_ok .nil) Try.func82 rfl (K := (· < w.heap.size)) (fun _ h => h) (A := A.pick [j] [i]) (vals := [.row 0, .fn 92 [] [.loc 0 0]]) (n0 := 0) (b0 := 1) (rows := [some ⟨rT, e, false, xs⟩]) (hp := [some [.fn 60 [] []]]) rfl (Nat.zero_le _) (fun i9 cs h9 => by
      match i9, h9 with
      | 0, h9 => cases h9; exact box_lt (hB j _ hj)
      | i9 + 1, h9 => simp [nthj] at h9) rfl (fun i9 r h9 => by
      match i9, h9 with
      | 0, h9 => cases h9; exact ⟨rfl, RowsAt.ro (hR i _ hi)⟩
      | i9 + 1, h9 => simp [nthj] at h9) rfl rfl (Nat.le_of_ble_eq_true rfl) ?_
    conv => whnf
    repeat (refine V_step T_ok (GOk.cons rw1_ok .nil) rfl ?_; conv => whnf)
    have hcap' : (@List.length (List Int) xs : Int) ≤ 9223372036854775807 := by
      have h1 := (hR i _ hi).len
      have h2 := (hR i _ hi).cap
      have h3 := (hR i _ hi).max
      simp only at h1
      have : maxLen = 9223372036854775807 := rfl
      have h1 : (A.rw i).len = @List.length (List Int) xs := h1
      omega
    have hx' : ∀ n : Nat, (n : Int) < (@List.length (List Int) xs : Int) → (shR) (@List.getD (List Int) xs n []) := fun n hn => hx _ (getD_mem (by omega))
    refine V_loopH (γ := Nat) (fun n => n ≤ List.length (α := List Int) xs ∧ ∀ j, j < n → (fun x => !(okRow) x) (xs.getD j []) = false) (fun n => List.length (α := List Int) xs - n)
      (fun n => [(8, .int .i64 n)]) (fun _ => []) (fun _ => []) 0 ⟨Nat.zero_le _, fun j h => absurd h (Nat.not_lt_zero _)⟩ ?_ ?_
    · conv => whnf
      refine ⟨?_, by (conv => whnf); repeat (first | exact True.intro | (refine And.intro rfl ?_; conv => whnf)), by (conv => whnf); repeat (first | exact True.intro | (refine And.intro (by first | rfl | (subst_vars; rfl)) ?_; conv => whnf)), rfl, rfl, rfl, rfl, rfl, rfl, rfl, Nat.le_of_ble_eq_true rfl, Nat.le_of_ble_eq_true rfl⟩
      conv => whnf
      repeat (first | exact True.intro | (refine And.intro (by first | rfl | ((conv => whnf); exact congrArg (AVal.int .i64) (by omega)) | ((conv => whnf); exact congrArg (AVal.int .i64) (by simp only [Int.natCast_add, Int.natCast_one]; omega)) | ((conv => whnf); exact congrArg (AVal.irow _) (by first | omega | assumption | (simp only; omega)))) ?_; conv => whnf))
    · rintro n ⟨h1, h2⟩
      conv => whnf
      refine vcCode_sound T_ok (GOk.cons rw1_ok .nil) _ _ _ _ _ ?_
      conv => whnf
      repeat (refine V_step T_ok (GOk.cons rw1_ok .nil) rfl ?_; conv => whnf)
      repeat (any_goals (first
        | (refine V_step T_ok (GOk.cons rw1_ok .nil) rfl ?_; conv => whnf)
        | (refine V_drawA T_ok (GOk.cons rw1_ok .nil) mixed (by kernel_rfl) ?_; conv => whnf)
        | (refine bcond_split (fun hc => ?_) (fun hc => ?_) <;> (try simp only [decide_eq_true_eq, decide_eq_false_iff_not, Bool.not_eq_true', Bool.not_eq_false', Bool.and_eq_true, Bool.or_eq_true, Bool.and_eq_false_imp, Bool.or_eq_false_iff, ne_eq, Decidable.not_not] at hc) <;> conv => whnf)
        | (intro ysK hysK; have hysl := congrArg List.length hysK; (try simp only [List.length_set, List.length_append, List.length_cons, List.length_nil, List.length_take, List.length_drop, List.length_replicate] at hysl); conv => whnf)
        | (refine And.intro (by first | (first | exact True.intro | exact hx' n (by assumption) | omega | (simp only [Rng]; omega)) | exact True.intro | exact ⟨rfl, True.intro, fun _ _ => rfl⟩ | exact Nat.le_of_ble_eq_true rfl | (refine ⟨by (try simp only [List.length_cons, List.length_nil]); omega, Int.le_trans (Int.mul_le_mul_of_nonneg_left (show (TInfo.bytes _ : Int) ≤ 64 from Int.ofNat_le.2 (Nat.le_of_ble_eq_true rfl)) (by omega)) (by (try simp only [List.length_cons, List.length_nil]); omega)⟩)) ?_; conv => whnf)))
      · rename_i hc0
        have hl : (n : Int) < (List.length (α := List Int) xs : Nat) := hc0
        exact leaf0 rfl (congrArg (AVal.int .i64) (idxP_found (fun x => !(okRow) x) xs n [] (by omega) h2 (by first | exact hc | exact congrArg not hc | (simp only [Bool.not_not]; exact hc))).symm) rfl
      · rename_i hc0
        have hl : (n : Int) < (List.length (α := List Int) xs : Nat) := hc0
        refine ⟨n + 1, ⟨by omega, fun j hj => ?_⟩, by omega, ?_⟩
        · rcases Nat.lt_or_ge j n with h | h
          · exact h2 j h
          · obtain rfl : j = n := by omega
            first | exact hc | exact congrArg not hc | (simp only [Bool.not_not]; exact hc)
        · conv => whnf
          refine ⟨?_, by (conv => whnf); repeat (first | exact True.intro | (refine And.intro rfl ?_; conv => whnf)), by (conv => whnf); repeat (first | exact True.intro | (refine And.intro (by first | rfl | (subst_vars; rfl)) ?_; conv => whnf)), rfl, rfl, rfl, rfl, rfl, rfl, rfl, Nat.le_of_ble_eq_true rfl, Nat.le_of_ble_eq_true rfl⟩
          conv => whnf
          repeat (first | exact True.intro | (refine And.intro (by first | rfl | ((conv => whnf); exact congrArg (AVal.int .i64) (by omega)) | ((conv => whnf); exact congrArg (AVal.int .i64) (by simp only [Int.natCast_add, Int.natCast_one]; omega)) | ((conv => whnf); exact congrArg (AVal.irow _) (by first | omega | assumption | (simp only; omega)))) ?_; conv => whnf))
      · have hl : ¬ (n : Int) < (List.length (α := List Int) xs : Nat) := hc
        exact leaf0 rfl (congrArg (AVal.int .i64) (idxP_none (fun x => !(okRow) x) xs [] (fun j hj => h2 j (by omega))).symm) rfl
def rwcC : PCtr := fun hg rg _ vals k => match vals with
  | [.row i, .fn f [] [.loc j 0]] => isF f 92 (boxF (hg j) 60 <| rowC rT (rg i) fun xs => (∀ x ∈ (xs : List (List Int)), (shR) x) ∧ k [] (.bool (List.any (α := List Int) xs (fun x => !(okRow) x))))
  | _ => False
theorem rwc_ok : PCtrOk Try.prog 91 rwcC where
  enter := enter_ok Try.func91 (by kernel_rfl) rfl
  calls := by
    intro hg rg lr vals k h
    unfold rwcC at h
    split at h
    case h_2 => exact h.elim
    rename_i i f j
    obtain ⟨rfl, h⟩ := isF_inv h
    obtain ⟨hj, h⟩ := boxF_inv h
    obtain ⟨e, own, xs, hi, h⟩ : ∃ e own, ∃ (xs : List (List Int)), _ := rowC_inv h
    obtain ⟨hx, hk⟩ := h
    refine ⟨_, _, hk, fun A w hB hR => ?_⟩
    refine enter T_ok (GOk.cons rwx_ok .nil) Try.func91 rfl (K := (· < w.heap.size)) (fun _ h => h) (A := A.pick [j] [i]) (vals := [.row 0, .fn 92 [] [.loc 0 0]]) (n0 := 0) (b0 := 1) (rows := [some ⟨rT, e, false, xs⟩]) (hp := [some [.fn 60 [] []]]) rfl (Nat.zero_le _) (fun i9 cs h9 => by
      match i9, h9 with
      | 0, h9 => cases h9; exact box_lt (hB j _ hj)
      | i9 + 1, h9 => simp [nthj] at h9) rfl (fun i9 r h9 => by
      match i9, h9 with
      | 0, h9 => cases h9; exact ⟨rfl, RowsAt.ro (hR i _ hi)⟩
      | i9 + 1, h9 => simp [nthj] at h9) rfl rfl (Nat.le_of_ble_eq_true rfl) ?_
    conv => whnf
    repeat (refine V_step T_ok (GOk.cons rwx_ok .nil) rfl ?_; conv => whnf)
    repeat (any_goals (first
      | (refine V_step T_ok (GOk.cons rwx_ok .nil) rfl ?_; conv => whnf)
      | (refine V_drawA T_ok (GOk.cons rwx_ok .nil) mixed (by kernel_rfl) ?_; conv => whnf)
      | (refine bcond_split (fun hc => ?_) (fun hc => ?_) <;> (try simp only [decide_eq_true_eq, decide_eq_false_iff_not, Bool.not_eq_true', Bool.not_eq_false', Bool.and_eq_true, Bool.or_eq_true, Bool.and_eq_false_imp, Bool.or_eq_false_iff, ne_eq, Decidable.not_not] at hc) <;> conv => whnf)
      | (intro ysK hysK; have hysl := congrArg List.length hysK; (try simp only [List.length_set, List.length_append, List.length_cons, List.length_nil, List.length_take, List.length_drop, List.length_replicate] at hysl); conv => whnf)
      | (refine And.intro (by first | (first | exact hx | exact True.intro) | exact True.intro | exact ⟨rfl, True.intro, fun _ _ => rfl⟩ | exact Nat.le_of_ble_eq_true rfl | (refine ⟨by (try simp only [List.length_cons, List.length_nil]); omega, Int.le_trans (Int.mul_le_mul_of_nonneg_left (show (TInfo.bytes _ : Int) ≤ 64 from Int.ofNat_le.2 (Nat.le_of_ble_eq_true rfl)) (by omega)) (by (try simp only [List.length_cons, List.length_nil]); omega)⟩)) ?_; conv => whnf)))
    all_goals exact leaf0 rfl (congrArg AVal.bool (idxP_any (fun x => !(okRow) x) xs)) rfl
def rwA : PCtr := fun hg rg _ vals k => match vals with
  | [.row i, .fn f [] []] => isF f 60 (rowC rT (rg i) fun xs => (∀ x ∈ (xs : List (List Int)), (shR) x) ∧ k [] (.bool (List.all (α := List Int) xs (okRow))))
  | _ => False
theorem rwA_ok : PCtrOk Try.prog 58 rwA where
  enter := enter_ok Try.func58 (by kernel_rfl) rfl
  calls := by
    intro hg rg lr vals k h
    unfold rwA at h
    split at h
    case h_2 => exact h.elim
    rename_i i f
    obtain ⟨rfl, h⟩ := isF_inv h
    obtain ⟨e, own, xs, hi, h⟩ : ∃ e own, ∃ (xs : List (List Int)), _ := rowC_inv h
    obtain ⟨hx, hk⟩ := h
    refine ⟨_, _, hk, fun A w hB hR => ?_⟩
    refine enter T_ok (GOk.cons rwc_ok .nil) Try.func58 rfl (K := (· < w.heap.size)) (fun _ h => h) (A := A.pick [] [i]) (vals := [.row 0, .fn 60 [] []]) (n0 := 0) (b0 := 0) (rows := [some ⟨rT, e, false, xs⟩]) (hp := []) rfl (Nat.zero_le _) no_box rfl (fun i9 r h9 => by
      match i9, h9 with
      | 0, h9 => cases h9; exact ⟨rfl, RowsAt.ro (hR i _ hi)⟩
      | i9 + 1, h9 => simp [nthj] at h9) rfl rfl (Nat.le_of_ble_eq_true rfl) ?_
    conv => whnf
    repeat (refine V_step T_ok (GOk.cons rwc_ok .nil) rfl ?_; conv => whnf)
    repeat (any_goals (first
      | (refine V_step T_ok (GOk.cons rwc_ok .nil) rfl ?_; conv => whnf)
      | (refine V_drawA T_ok (GOk.cons rwc_ok .nil) mixed (by kernel_rfl) ?_; conv => whnf)
      | (refine bcond_split (fun hc => ?_) (fun hc => ?_) <;> (try simp only [decide_eq_true_eq, decide_eq_false_iff_not, Bool.not_eq_true', Bool.not_eq_false', Bool.and_eq_true, Bool.or_eq_true, Bool.and_eq_false_imp, Bool.or_eq_false_iff, ne_eq, Decidable.not_not] at hc) <;> conv => whnf)
      | (intro ysK hysK; have hysl := congrArg List.length hysK; (try simp only [List.length_set, List.length_append, List.length_cons, List.length_nil, List.length_take, List.length_drop, List.length_replicate] at hysl); conv => whnf)
      | (refine And.intro (by first | (first | exact hx | exact True.intro) | exact True.intro | exact ⟨rfl, True.intro, fun _ _ => rfl⟩ | exact Nat.le_of_ble_eq_true rfl | (refine ⟨by (try simp only [List.length_cons, List.length_nil]); omega, Int.le_trans (Int.mul_le_mul_of_nonneg_left (show (TInfo.bytes _ : Int) ≤ 64 from Int.ofNat_le.2 (Nat.le_of_ble_eq_true rfl)) (by omega)) (by (try simp only [List.length_cons, List.length_nil]); omega)⟩)) ?_; conv => whnf)))
    all_goals exact leaf0 rfl (congrArg AVal.bool (not_any_not (okRow) xs)) rfl
def arrC : PCtr := fun hg rg lr vals k => match vals with
  | [.row i, .fn f [] []] => rwA hg rg lr [.row i, .fn f [] []] k
  | v => lnA hg rg lr v k
theorem arr_ok : PCtrOk Try.prog 58 arrC where
  enter := rwA_ok.enter
  calls := by
    intro hg rg lr vals k h
    unfold arrC at h
    split at h
    · exact rwA_ok.calls hg rg lr _ k h
    · exact lnA_ok.calls hg rg lr _ k h
@[irreducible] def coR (a : List (List Int)) : List Int × Int := if a.all (lenEq a) = true then (if a.length ≤ 21 ∧ a.all okRow = true then (chP a, 0) else ([], 2)) else ([], 1)
theorem coR_1 {a : List (List Int)} (h : ¬ a.all (lenEq a) = true) : coR a = ([], 1) := by unfold coR; rw [if_neg h]
theorem coR_2 {a : List (List Int)} (h : a.all (lenEq a) = true) (h2 : ¬ (a.length ≤ 21 ∧ a.all okRow = true)) : coR a = ([], 2) := by unfold coR; rw [if_pos h, if_neg h2]
theorem coR_0 {a : List (List Int)} (h : a.all (lenEq a) = true) (h2 : a.length ≤ 21 ∧ a.all okRow = true) : coR a = (chP a, 0) := by unfold coR; rw [if_pos h, if_pos h2]
theorem lenEq_sq {a : List (List Int)} (h : a.all (lenEq a) = true) : ∀ r ∈ a, r.length = a.length := fun r hr => by
  have := List.all_eq_true.1 h r hr
  have := of_decide_eq_true this
  omega
def coC : PCtr := fun _ rg lr vals k => match vals with
  | [.row i] => rowC rT (rg i) fun a => (List.length (α := List Int) a ≤ 900 ∧ ∀ r ∈ (a : List (List Int)), shR r) ∧ ∀ q : List Int × Int, q = coR a → k [⟨iT, 2, true, q.1⟩] (.tup [.row lr, .int .i64 q.2])
  | _ => False
abbrev GCo := GOk.cons arr_ok (GOk.cons char_ok .nil)
theorem co_ok : PCtrOk Try.prog 20 coC where
  enter := enter_ok Try.func20 (by kernel_rfl) rfl
  calls := by
    intro hg rg lr vals k h
    unfold coC at h
    split at h
    case h_2 => exact h.elim
    rename_i i
    obtain ⟨e, own, a, hi, h⟩ : ∃ e own, ∃ (xs : List (List Int)), _ := rowC_inv h
    obtain ⟨⟨hl, hsh⟩, hk⟩ := h
    replace hk := hk _ rfl
    refine ⟨_, _, hk, fun A w hB hR => ?_⟩
    refine enter T_ok GCo Try.func20 rfl (K := (· < w.heap.size)) (fun _ h => h) (A := A.pick [] [i]) (vals := [.row 0]) (n0 := 0) (b0 := 0) (rows := [some ⟨rT, e, false, a⟩]) (hp := []) rfl (Nat.zero_le _) no_box rfl (one_row (hR i _ hi)) rfl rfl (Nat.le_of_ble_eq_true rfl) ?_
    conv => whnf
    repeat (refine V_step T_ok GCo rfl ?_; conv => whnf)
    have hl : List.length (α := List Int) a ≤ 900 := hl
    have htr : ∀ r ∈ a, trueR r := fun _ _ => trivial
    have hsq : List.all (α := List Int) a (lenEq a) = true → (List.length (α := List Int) a ≤ 900 ∧ ∀ r ∈ a, List.length (α := Int) r = List.length (α := List Int) a) := fun h => ⟨hl, lenEq_sq h⟩
    repeat (any_goals (first
      | (refine V_step T_ok GCo rfl ?_; conv => whnf)
      | (refine V_drawA T_ok GCo mixed (by kernel_rfl) ?_; conv => whnf)
      | (refine bcond_split (fun hc => ?_) (fun hc => ?_) <;> (try simp only [decide_eq_true_eq, decide_eq_false_iff_not, Bool.not_eq_true', Bool.not_eq_false', Bool.and_eq_true, Bool.or_eq_true, Bool.and_eq_false_imp, Bool.or_eq_false_iff, ne_eq, Decidable.not_not] at hc) <;> conv => whnf)
      | (intro ysK hysK; have hysl := congrArg List.length hysK; (try simp only [List.length_set, List.length_append, List.length_cons, List.length_nil, List.length_take, List.length_drop, List.length_replicate] at hysl); conv => whnf)
      | (refine And.intro (by first | (first | exact True.intro | exact htr | exact hsh | exact hsq (by assumption) | omega) | exact True.intro | exact ⟨rfl, True.intro, fun _ _ => rfl⟩ | exact Nat.le_of_ble_eq_true rfl | (refine ⟨by (try simp only [List.length_cons, List.length_nil]); omega, Int.le_trans (Int.mul_le_mul_of_nonneg_left (show (TInfo.bytes _ : Int) ≤ 64 from Int.ofNat_le.2 (Nat.le_of_ble_eq_true rfl)) (by omega)) (by (try simp only [List.length_cons, List.length_nil]); omega)⟩)) ?_; conv => whnf)))
    · rw [coR_1 (by rw [show List.all (α := List Int) a (lenEq a) = false from hc]; simp)]
      exact leafN rfl rfl (fun B C h => by simp [AVal.den, dens, h, Hdr.val])
    · rw [coR_2 (by assumption) fun h => by have := h.1; omega]
      exact leafN rfl rfl (fun B C h => by simp [AVal.den, dens, h, Hdr.val])
    · rw [coR_2 (by assumption) fun h => by rw [show List.all (α := List Int) a okRow = false from hc] at h; cases h.2]
      exact leafN rfl rfl (fun B C h => by simp [AVal.den, dens, h, Hdr.val])
    · rw [coR_0 (by assumption) ⟨by omega, hc⟩]
      subst hysK
      exact leaf1 1 rfl rfl rfl rfl (fun B C h => by simp [AVal.den, dens, h])
/-! ### the reference -/
def cdC : PCtr := fun _ rg _ vals k => match vals with
  | [.row i] => rowC rT (rg i) fun a => (List.length (α := List Int) a ≤ 900 ∧ ∀ r ∈ (a : List (List Int)), shR r) ∧ k [] (.int .i64 (coR a).2)
  | _ => False
theorem all_false {a : List (List Int)} {p : List Int → Bool} {n : Nat} (hn : n < a.length) (h : p (a.getD n []) = false) : ¬ a.all p = true := fun hh => by
  have := List.all_eq_true.1 hh _ (getD_mem hn (d := []))
  rw [h] at this; cases this
theorem all_true {a : List (List Int)} {p : List Int → Bool} (h : ∀ j, j < a.length → p (a.getD j []) = true) : a.all p = true := by
  rw [List.all_eq_true]
  intro v hv
  obtain ⟨j, hj, rfl⟩ := List.getElem_of_mem hv
  have := h j hj
  rwa [List.getD_eq_getElem?_getD, List.getElem?_eq_getElem hj] at this
theorem sCd_ok : PCtrOk Try.prog 61 cdC where
  enter := enter_ok Try.func61 (by kernel_rfl) rfl
  calls := by
    intro hg rg lr vals k h
    unfold cdC at h
    split at h
    case h_2 => exact h.elim
    rename_i i
    obtain ⟨e, own, a, hi, h⟩ : ∃ e own, ∃ (xs : List (List Int)), _ := rowC_inv h
    obtain ⟨⟨hl, hsh⟩, hk⟩ := h
    refine ⟨_, _, hk, fun A w hB hR => ?_⟩
    refine enter T_ok (GOk.cons sIn_ok .nil) Try.func61 rfl (K := (· < w.heap.size)) (fun _ h => h) (A := A.pick [] [i]) (vals := [.row 0]) (n0 := 0) (b0 := 0) (rows := [some ⟨rT, e, false, a⟩]) (hp := []) rfl (Nat.zero_le _) no_box rfl (one_row (hR i _ hi)) rfl rfl (Nat.le_of_ble_eq_true rfl) ?_
    conv => whnf
    repeat (refine V_step T_ok (GOk.cons sIn_ok .nil) rfl ?_; conv => whnf)
    have hl : List.length (α := List Int) a ≤ 900 := hl
    refine V_loopH (γ := Nat) (fun n => n ≤ List.length (α := List Int) a ∧ ∀ j, j < n → lenEq a (a.getD j []) = true) (fun n => List.length (α := List Int) a - n)
      (fun n => [(3, .int .i64 n)]) (fun _ => []) (fun _ => []) 0 ⟨Nat.zero_le _, fun j h => absurd h (Nat.not_lt_zero _)⟩ ?_ ?_
    · conv => whnf
      refine ⟨?_, by (conv => whnf); repeat (first | exact True.intro | (refine And.intro rfl ?_; conv => whnf)), by (conv => whnf); repeat (first | exact True.intro | (refine And.intro (by first | rfl | (subst_vars; rfl)) ?_; conv => whnf)), rfl, rfl, rfl, rfl, rfl, rfl, rfl, Nat.le_of_ble_eq_true rfl, Nat.le_of_ble_eq_true rfl⟩
      conv => whnf
      repeat (first | exact True.intro | (refine And.intro (by first | rfl | ((conv => whnf); exact congrArg (AVal.int .i64) (by omega)) | ((conv => whnf); exact congrArg (AVal.int .i64) (by simp only [Int.natCast_add, Int.natCast_one]; omega)) | ((conv => whnf); exact congrArg (AVal.irow _) (by first | omega | assumption | (simp only; omega)))) ?_; conv => whnf))
    · rintro n ⟨h1, h2⟩
      conv => whnf
      refine vcCode_sound T_ok (GOk.cons sIn_ok .nil) _ _ _ _ _ ?_
      conv => whnf
      repeat (refine V_step T_ok (GOk.cons sIn_ok .nil) rfl ?_; conv => whnf)
      repeat (any_goals (first
        | (refine V_step T_ok (GOk.cons sIn_ok .nil) rfl ?_; conv => whnf)
        | (refine V_drawA T_ok (GOk.cons sIn_ok .nil) mixed (by kernel_rfl) ?_; conv => whnf)
        | (refine bcond_split (fun hc => ?_) (fun hc => ?_) <;> (try simp only [decide_eq_true_eq, decide_eq_false_iff_not, Bool.not_eq_true', Bool.not_eq_false', Bool.and_eq_true, Bool.or_eq_true, Bool.and_eq_false_imp, Bool.or_eq_false_iff, ne_eq, Decidable.not_not] at hc) <;> conv => whnf)
        | (intro ysK hysK; have hysl := congrArg List.length hysK; (try simp only [List.length_set, List.length_append, List.length_cons, List.length_nil, List.length_take, List.length_drop, List.length_replicate] at hysl); conv => whnf)
        | (refine And.intro (by first | (first | exact True.intro | omega | (simp only [Rng]; omega)) | exact True.intro | exact ⟨rfl, True.intro, fun _ _ => rfl⟩ | exact Nat.le_of_ble_eq_true rfl | (refine ⟨by (try simp only [List.length_cons, List.length_nil]); omega, Int.le_trans (Int.mul_le_mul_of_nonneg_left (show (TInfo.bytes _ : Int) ≤ 64 from Int.ofNat_le.2 (Nat.le_of_ble_eq_true rfl)) (by omega)) (by (try simp only [List.length_cons, List.length_nil]); omega)⟩)) ?_; conv => whnf)))
      · rw [coR_1 (all_false (n := n) (by omega) (decide_eq_false hc))]
        exact leaf0 rfl rfl rfl
      · refine ⟨n + 1, ⟨by omega, fun j hj => ?_⟩, by omega, ?_⟩
        · rcases Nat.lt_or_ge j n with h | h
          · exact h2 j h
          · obtain rfl : j = n := by omega
            exact decide_eq_true hc
        · conv => whnf
          refine ⟨?_, by (conv => whnf); repeat (first | exact True.intro | (refine And.intro rfl ?_; conv => whnf)), by (conv => whnf); repeat (first | exact True.intro | (refine And.intro (by first | rfl | (subst_vars; rfl)) ?_; conv => whnf)), rfl, rfl, rfl, rfl, rfl, rfl, rfl, Nat.le_of_ble_eq_true rfl, Nat.le_of_ble_eq_true rfl⟩
          conv => whnf
          repeat (first | exact True.intro | (refine And.intro (by first | rfl | ((conv => whnf); exact congrArg (AVal.int .i64) (by omega)) | ((conv => whnf); exact congrArg (AVal.int .i64) (by simp only [Int.natCast_add, Int.natCast_one]; omega)) | ((conv => whnf); exact congrArg (AVal.irow _) (by first | omega | assumption | (simp only; omega)))) ?_; conv => whnf))
      · have hall : a.all (lenEq a) = true := all_true fun j hj => h2 j (by omega)
        rw [coR_2 hall fun h => by have := h.1; omega]
        exact leaf0 rfl rfl rfl
      · have hall : a.all (lenEq a) = true := all_true fun j hj => h2 j (by omega)
        refine V_loopH (γ := Nat) (fun m => m ≤ List.length (α := List Int) a ∧ ∀ j, j < m → okRow (a.getD j []) = true) (fun m => List.length (α := List Int) a - m)
          (fun m => [(4, .int .i64 m)]) (fun _ => []) (fun _ => []) 0 ⟨Nat.zero_le _, fun j h => absurd h (Nat.not_lt_zero _)⟩ ?_ ?_
        · conv => whnf
          refine ⟨?_, by (conv => whnf); repeat (first | exact True.intro | (refine And.intro rfl ?_; conv => whnf)), by (conv => whnf); repeat (first | exact True.intro | (refine And.intro (by first | rfl | (subst_vars; rfl)) ?_; conv => whnf)), rfl, rfl, rfl, rfl, rfl, rfl, rfl, Nat.le_of_ble_eq_true rfl, Nat.le_of_ble_eq_true rfl⟩
          conv => whnf
          repeat (first | exact True.intro | (refine And.intro (by first | rfl | ((conv => whnf); exact congrArg (AVal.int .i64) (by omega)) | ((conv => whnf); exact congrArg (AVal.int .i64) (by simp only [Int.natCast_add, Int.natCast_one]; omega)) | ((conv => whnf); exact congrArg (AVal.irow _) (by first | omega | assumption | (simp only; omega)))) ?_; conv => whnf))
        · rintro m ⟨m1, m2⟩
          conv => whnf
          refine vcCode_sound T_ok (GOk.cons sIn_ok .nil) _ _ _ _ _ ?_
          conv => whnf
          repeat (refine V_step T_ok (GOk.cons sIn_ok .nil) rfl ?_; conv => whnf)
          repeat (any_goals (first
            | (refine V_step T_ok (GOk.cons sIn_ok .nil) rfl ?_; conv => whnf)
            | (refine V_drawA T_ok (GOk.cons sIn_ok .nil) mixed (by kernel_rfl) ?_; conv => whnf)
            | (refine bcond_split (fun hc => ?_) (fun hc => ?_) <;> (try simp only [decide_eq_true_eq, decide_eq_false_iff_not, Bool.not_eq_true', Bool.not_eq_false', Bool.and_eq_true, Bool.or_eq_true, Bool.and_eq_false_imp, Bool.or_eq_false_iff, ne_eq, Decidable.not_not] at hc) <;> conv => whnf)
            | (intro ysK hysK; have hysl := congrArg List.length hysK; (try simp only [List.length_set, List.length_append, List.length_cons, List.length_nil, List.length_take, List.length_drop, List.length_replicate] at hysl); conv => whnf)
            | (refine And.intro (by first | (first | exact True.intro | omega | (simp only [Rng]; omega)) | exact True.intro | exact ⟨rfl, True.intro, fun _ _ => rfl⟩ | exact Nat.le_of_ble_eq_true rfl | (refine ⟨by (try simp only [List.length_cons, List.length_nil]); omega, Int.le_trans (Int.mul_le_mul_of_nonneg_left (show (TInfo.bytes _ : Int) ≤ 64 from Int.ofNat_le.2 (Nat.le_of_ble_eq_true rfl)) (by omega)) (by (try simp only [List.length_cons, List.length_nil]); omega)⟩)) ?_; conv => whnf)))
          · have hm : m < List.length (α := List Int) a := by
              have hc : (m : Int) < (List.length (α := List Int) a : Int) := by assumption
              omega
            have hxl : List.length (α := Int) (List.getD (α := List Int) a m []) ≤ 1000 := hsh _ (getD_mem hm)
            refine V_loopH (γ := Nat) (fun c => c ≤ List.length (α := Int) (List.getD (α := List Int) a m []) ∧ ∀ j, j < c → 0 ≤ (List.getD (α := List Int) a m []).getD j 0 ∧ (List.getD (α := List Int) a m []).getD j 0 ≤ 2) (fun c => List.length (α := Int) (List.getD (α := List Int) a m []) - c)
              (fun c => [(5, .int .i64 (sumI ((List.getD (α := List Int) a m []).take c))), (6, .int .i64 c)]) (fun _ => []) (fun _ => []) 0 ⟨Nat.zero_le _, fun j h => absurd h (Nat.not_lt_zero _)⟩ ?_ ?_
            · conv => whnf
              refine ⟨?_, by (conv => whnf); repeat (first | exact True.intro | (refine And.intro rfl ?_; conv => whnf)), by (conv => whnf); repeat (first | exact True.intro | (refine And.intro (by first | rfl | (subst_vars; rfl)) ?_; conv => whnf)), rfl, rfl, rfl, rfl, rfl, rfl, rfl, Nat.le_of_ble_eq_true rfl, Nat.le_of_ble_eq_true rfl⟩
              conv => whnf
              repeat (first | exact True.intro | (refine And.intro (by first | rfl | ((conv => whnf); exact congrArg (AVal.int .i64) (by omega)) | ((conv => whnf); exact congrArg (AVal.int .i64) (by simp only [Int.natCast_add, Int.natCast_one]; omega)) | ((conv => whnf); exact congrArg (AVal.irow _) (by first | omega | assumption | (simp only; omega)))) ?_; conv => whnf))
            · rintro c ⟨c1, c2⟩
              have hb := take_bd c1 c2
              have hn : (c : Int) < (List.length (α := Int) (List.getD (α := List Int) a (Int.toNat (m : Int)) []) : Int) → sumI ((List.getD (α := List Int) a m []).take (c + 1)) = sumI ((List.getD (α := List Int) a m []).take c) + List.getD (α := TyC.α iT) (List.getD (α := List Int) a (Int.toNat (m : Int)) []) (Int.toNat (c : Int)) iT.dflt := fun h => sumI_take_succ (List.getD (α := List Int) a m []) c (by have h : (c : Int) < (List.length (α := Int) (List.getD (α := List Int) a m []) : Int) := h; omega)
              conv => whnf
              refine vcCode_sound T_ok (GOk.cons sIn_ok .nil) _ _ _ _ _ ?_
              conv => whnf
              repeat (refine V_step T_ok (GOk.cons sIn_ok .nil) rfl ?_; conv => whnf)
              repeat (any_goals (first
                | (refine V_step T_ok (GOk.cons sIn_ok .nil) rfl ?_; conv => whnf)
                | (refine V_drawA T_ok (GOk.cons sIn_ok .nil) mixed (by kernel_rfl) ?_; conv => whnf)
                | (refine bcond_split (fun hc => ?_) (fun hc => ?_) <;> (try simp only [decide_eq_true_eq, decide_eq_false_iff_not, Bool.not_eq_true', Bool.not_eq_false', Bool.and_eq_true, Bool.or_eq_true, Bool.and_eq_false_imp, Bool.or_eq_false_iff, ne_eq, Decidable.not_not] at hc) <;> conv => whnf)
                | (intro ysK hysK; have hysl := congrArg List.length hysK; (try simp only [List.length_set, List.length_append, List.length_cons, List.length_nil, List.length_take, List.length_drop, List.length_replicate] at hysl); conv => whnf)
                | (refine And.intro (by first | (first | exact True.intro | (simp only [Int.toNat_natCast]; omega) | omega | (simp only [Rng]; omega)) | exact True.intro | exact ⟨rfl, True.intro, fun _ _ => rfl⟩ | exact Nat.le_of_ble_eq_true rfl | (refine ⟨by (try simp only [List.length_cons, List.length_nil]); omega, Int.le_trans (Int.mul_le_mul_of_nonneg_left (show (TInfo.bytes _ : Int) ≤ 64 from Int.ofNat_le.2 (Nat.le_of_ble_eq_true rfl)) (by omega)) (by (try simp only [List.length_cons, List.length_nil]); omega)⟩)) ?_; conv => whnf)))
              · have hno : okRow (a.getD m []) = false := okRow_no (n := c) (by have h : (c : Int) < (List.length (α := Int) (List.getD (α := List Int) a m []) : Int) := by assumption
                                                                                omega) hc
                rw [coR_2 hall fun h => all_false hm hno h.2]
                exact leaf0 rfl rfl rfl
              · have hlt : (c : Int) < (List.length (α := Int) (List.getD (α := List Int) a m []) : Int) := by assumption
                have hn1 := hn hlt
                have hc : 0 ≤ (List.getD (α := List Int) a m []).getD c 0 ∧ (List.getD (α := List Int) a m []).getD c 0 ≤ 2 := hc
                refine ⟨c + 1, ⟨by omega, fun j hj => ?_⟩, by omega, ?_⟩
                · rcases Nat.lt_or_ge j c with h | h
                  · exact c2 j h
                  · obtain rfl : j = c := by omega
                    exact hc
                · clear hb hn
                  conv => whnf
                  refine ⟨?_, by (conv => whnf); repeat (first | exact True.intro | (refine And.intro rfl ?_; conv => whnf)), by (conv => whnf); repeat (first | exact True.intro | (refine And.intro (by first | rfl | (subst_vars; rfl)) ?_; conv => whnf)), rfl, rfl, rfl, rfl, rfl, rfl, rfl, Nat.le_of_ble_eq_true rfl, Nat.le_of_ble_eq_true rfl⟩
                  conv => whnf
                  repeat (first | exact True.intro | (refine And.intro (by first | rfl | ((conv => whnf); exact congrArg (AVal.int .i64) (by omega)) | ((conv => whnf); exact congrArg (AVal.int .i64) (by simp only [Int.natCast_add, Int.natCast_one]; omega)) | ((conv => whnf); exact congrArg (AVal.irow _) (by first | omega | assumption | (simp only; omega)))) ?_; conv => whnf))
              · have hce : c = List.length (α := Int) (List.getD (α := List Int) a m []) := by
                  have hc' : ¬ (c : Int) < (List.length (α := Int) (List.getD (α := List Int) a m []) : Int) := by assumption
                  omega
                have htk : (List.getD (α := List Int) a m []).take c = List.getD (α := List Int) a m [] := List.take_of_length_le (by omega)
                rw [htk] at hc
                have hno : okRow (a.getD m []) = false := by
                  rw [okRow_yes fun j hj => c2 j (by omega)]
                  exact decide_eq_false (by omega)
                rw [coR_2 hall fun h => all_false hm hno h.2]
                exact leaf0 rfl rfl rfl
              · have hce : c = List.length (α := Int) (List.getD (α := List Int) a m []) := by
                  have hc' : ¬ (c : Int) < (List.length (α := Int) (List.getD (α := List Int) a m []) : Int) := by assumption
                  omega
                have htk : (List.getD (α := List Int) a m []).take c = List.getD (α := List Int) a m [] := List.take_of_length_le (by omega)
                rw [htk] at hc
                have hyes : okRow (a.getD m []) = true := by
                  rw [okRow_yes fun j hj => c2 j (by omega)]
                  exact decide_eq_true (by omega)
                refine ⟨m + 1, ⟨by omega, fun j hj => ?_⟩, by omega, ?_⟩
                · rcases Nat.lt_or_ge j m with h | h
                  · exact m2 j h
                  · obtain rfl : j = m := by omega
                    exact hyes
                · clear hb hn
                  conv => whnf
                  refine ⟨?_, by (conv => whnf); repeat (first | exact True.intro | (refine And.intro rfl ?_; conv => whnf)), by (conv => whnf); repeat (first | exact True.intro | (refine And.intro (by first | rfl | (subst_vars; rfl)) ?_; conv => whnf)), rfl, rfl, rfl, rfl, rfl, rfl, rfl, Nat.le_of_ble_eq_true rfl, Nat.le_of_ble_eq_true rfl⟩
                  conv => whnf
                  repeat (first | exact True.intro | (refine And.intro (by first | rfl | ((conv => whnf); exact congrArg (AVal.int .i64) (by omega)) | ((conv => whnf); exact congrArg (AVal.int .i64) (by simp only [Int.natCast_add, Int.natCast_one]; omega)) | ((conv => whnf); exact congrArg (AVal.irow _) (by first | omega | assumption | (simp only; omega)))) ?_; conv => whnf))
          · have hao : a.all okRow = true := all_true fun j hj => m2 j (by omega)
            rw [coR_0 hall ⟨by omega, hao⟩]
            exact leaf0 rfl rfl rfl
abbrev GSCo := GOk.cons sCd_ok (GOk.cons sChar_ok .nil)
theorem sCo_ok : PCtrOk Try.prog 21 coC where
  enter := enter_ok Try.func21 (by kernel_rfl) rfl
  calls := by
    intro hg rg lr vals k h
    unfold coC at h
    split at h
    case h_2 => exact h.elim
    rename_i i
    obtain ⟨e, own, a, hi, h⟩ : ∃ e own, ∃ (xs : List (List Int)), _ := rowC_inv h
    obtain ⟨⟨hl, hsh⟩, hk⟩ := h
    replace hk := hk _ rfl
    refine ⟨_, _, hk, fun A w hB hR => ?_⟩
    refine enter T_ok GSCo Try.func21 rfl (K := (· < w.heap.size)) (fun _ h => h) (A := A.pick [] [i]) (vals := [.row 0]) (n0 := 0) (b0 := 0) (rows := [some ⟨rT, e, false, a⟩]) (hp := []) rfl (Nat.zero_le _) no_box rfl (one_row (hR i _ hi)) rfl rfl (Nat.le_of_ble_eq_true rfl) ?_
    conv => whnf
    repeat (refine V_step T_ok GSCo rfl ?_; conv => whnf)
    have hl : List.length (α := List Int) a ≤ 900 := hl
    have hsq : (coR a).2 = 0 → (List.length (α := List Int) a ≤ 900 ∧ ∀ r ∈ a, List.length (α := Int) r = List.length (α := List Int) a) := fun h => ⟨hl, by
      by_cases h1 : a.all (lenEq a) = true
      · exact lenEq_sq h1
      · rw [coR_1 h1] at h; cases h⟩
    repeat (any_goals (first
      | (refine V_step T_ok GSCo rfl ?_; conv => whnf)
      | (refine V_drawA T_ok GSCo mixed (by kernel_rfl) ?_; conv => whnf)
      | (refine bcond_split (fun hc => ?_) (fun hc => ?_) <;> (try simp only [decide_eq_true_eq, decide_eq_false_iff_not, Bool.not_eq_true', Bool.not_eq_false', Bool.and_eq_true, Bool.or_eq_true, Bool.and_eq_false_imp, Bool.or_eq_false_iff, ne_eq, Decidable.not_not] at hc) <;> conv => whnf)
      | (intro ysK hysK; have hysl := congrArg List.length hysK; (try simp only [List.length_set, List.length_append, List.length_cons, List.length_nil, List.length_take, List.length_drop, List.length_replicate] at hysl); conv => whnf)
      | (refine And.intro (by first | (first | exact True.intro | exact ⟨hl, hsh⟩ | exact hsq (by assumption) | omega) | exact True.intro | exact ⟨rfl, True.intro, fun _ _ => rfl⟩ | exact Nat.le_of_ble_eq_true rfl | (refine ⟨by (try simp only [List.length_cons, List.length_nil]); omega, Int.le_trans (Int.mul_le_mul_of_nonneg_left (show (TInfo.bytes _ : Int) ≤ 64 from Int.ofNat_le.2 (Nat.le_of_ble_eq_true rfl)) (by omega)) (by (try simp only [List.length_cons, List.length_nil]); omega)⟩)) ?_; conv => whnf)))
    · have e0 : ¬ (coR a).2 = 0 → (coR a) = ([], (coR a).2) := fun h => by
        by_cases h1 : a.all (lenEq a) = true
        · by_cases h2 : a.length ≤ 21 ∧ a.all okRow = true
          · rw [coR_0 h1 h2] at h; exact absurd rfl h
          · rw [coR_2 h1 h2]
        · rw [coR_1 h1]
      have e1 := e0 hc
      have e2 : (coR a).1 = [] := by rw [e1]
      exact leafN rfl (by rw [e2]) (fun B C h => by simp [AVal.den, dens, h, Hdr.val])
    · have e0 : coR a = (chP a, 0) := by
        by_cases h1 : a.all (lenEq a) = true
        · by_cases h2 : a.length ≤ 21 ∧ a.all okRow = true
          · exact coR_0 h1 h2
          · rw [coR_2 h1 h2] at hc; cases hc
        · rw [coR_1 h1] at hc; cases hc
      rw [e0]
      subst hysK
      exact leaf1 1 rfl rfl rfl rfl (fun B C h => by simp [AVal.den, dens, h])
end Go.Proofs.Ytadlnnjgocknhaa.Fw
