/- Contracts: angles of a period, ray pairs that are found. -/
import Derived.Test.YtadlnnjgocknhabN3
import Derived.Test.YtadlnnjgocknhabHA
import Derived.Test.YtadlnnjgocknhabGE
namespace Go.Proofs.Ytadlnnjgocknhab.Fw
open Go Go.RowKit
set_option linter.unusedVariables false
set_option linter.unusedSimpArgs false
set_option maxRecDepth 100000
set_option maxHeartbeats 2000000
def asLeafC : PCtr := fun _ _ _ vals k => match vals with
  | [.agg [.int .i64 n, .int .i64 d, .int .i64 m, .int .i64 e]] => True ∧ k [] (lV ((n, d), (m, e)))
  | _ => False
theorem asLeaf_ok : PCtrOk Try.prog 129 asLeafC where
  enter := enter_ok Try.func129 (by kernel_rfl) rfl
  calls := by
    intro hg rg lr vals k h
    unfold asLeafC at h
    split at h
    case h_2 => exact h.elim
    rename_i n d m e
    obtain ⟨_, hk⟩ := h
    refine ⟨_, _, hk, fun A w _ _ => ?_⟩
    refine enter T_ok .nil Try.func129 rfl (K := (· < w.heap.size)) (fun _ h => h) (A := A) (n0 := 0) (b0 := 0) (rows := []) (hp := []) rfl (Nat.zero_le _) (fun k r h => by cases h) rfl (fun k r h => by cases h) rfl rfl (Nat.le_of_ble_eq_true rfl) ?_
    conv => whnf
    repeat (refine V_step T_ok .nil rfl ?_; conv => whnf)
    repeat (any_goals (first
      | (refine V_step T_ok .nil rfl ?_; conv => whnf)
      | (refine V_drawA T_ok .nil mixed (by kernel_rfl) ?_; conv => whnf)
      | (refine bcond_split (fun hc => ?_) (fun hc => ?_) <;> (try simp only [decide_eq_true_eq, decide_eq_false_iff_not, Bool.not_eq_true', Bool.not_eq_false', Bool.and_eq_true, Bool.or_eq_true, Bool.and_eq_false_imp, Bool.or_eq_false_iff, ne_eq, Decidable.not_not] at hc) <;> conv => whnf)
      | (intro ysK hysK; have hysl := congrArg List.length hysK; (try simp only [List.length_set, List.length_append, List.length_cons, List.length_nil, List.length_take, List.length_drop, List.length_replicate] at hysl); conv => whnf)
      | (refine And.intro (by first | exact True.intro | (with_reducible assumption) | omega | (simp only [Rng]; omega) | exact Nat.le_of_ble_eq_true rfl | exact True.intro | exact ⟨rfl, True.intro, fun _ _ => rfl⟩ | exact Nat.le_of_ble_eq_true rfl | (refine ⟨by (try simp only [List.length_cons, List.length_nil]); omega, Int.le_trans (Int.mul_le_mul_of_nonneg_left (show (TInfo.bytes _ : Int) ≤ 64 from Int.ofNat_le.2 (Nat.le_of_ble_eq_true rfl)) (by omega)) (by (try simp only [List.length_cons, List.length_nil]); omega)⟩)) ?_; conv => whnf)))
    all_goals exact leaf0 rfl rfl rfl
def ncC : PCtr := fun hg rg _ vals k => match vals with
  | [.agg [.int .i64 n, .int .i64 d, .int .i64 m, .int .i64 e], .loc ql0 0] => boxLf (hg ql0) fun l0 => ((SmL l0) ∧ SmL ((n, d), (m, e))) ∧ k [] (.bool ((fun p => !crossL l0 p) ((n, d), (m, e))))
  | _ => False
theorem nc_ok : PCtrOk Try.prog 127 ncC where
  enter := enter_ok Try.func127 (by kernel_rfl) rfl
  calls := by
    intro hg rg lr vals k h
    unfold ncC at h
    split at h
    case h_2 => exact h.elim
    rename_i n d m e ql0
    obtain ⟨l0, hql0, h⟩ := boxLf_inv h
    obtain ⟨⟨hE, hx⟩, hk⟩ := h
    refine ⟨_, _, hk, fun A w hB hR => ?_⟩
    refine enter T_ok (GOk.cons asLeaf_ok (GOk.cons cross_ok .nil)) Try.func127 rfl (K := (· < w.heap.size)) (fun _ h => h) (A := A.pick [ql0] []) (vals := [.agg [.int .i64 n, .int .i64 d, .int .i64 m, .int .i64 e], .loc 0 0]) (n0 := 0) (b0 := 1) (rows := []) (hp := [some [.int .i64 l0.1.1, .int .i64 l0.1.2, .int .i64 l0.2.1, .int .i64 l0.2.2]]) rfl (Nat.zero_le _) (fun i9 cs h9 => by
      match i9, h9 with
      | 0, h9 => cases h9; exact box_lt (hB ql0 _ hql0)
      | i9 + 1, h9 => simp [nthj] at h9) rfl no_row rfl rfl (Nat.le_of_ble_eq_true rfl) ?_
    conv => whnf
    repeat (refine V_step T_ok (GOk.cons asLeaf_ok (GOk.cons cross_ok .nil)) rfl ?_; conv => whnf)
    repeat (any_goals (first
      | (refine V_step T_ok (GOk.cons asLeaf_ok (GOk.cons cross_ok .nil)) rfl ?_; conv => whnf)
      | (refine V_drawA T_ok (GOk.cons asLeaf_ok (GOk.cons cross_ok .nil)) mixed (by kernel_rfl) ?_; conv => whnf)
      | (refine bcond_split (fun hc => ?_) (fun hc => ?_) <;> (try simp only [decide_eq_true_eq, decide_eq_false_iff_not, Bool.not_eq_true', Bool.not_eq_false', Bool.and_eq_true, Bool.or_eq_true, Bool.and_eq_false_imp, Bool.or_eq_false_iff, ne_eq, Decidable.not_not] at hc) <;> conv => whnf)
      | (intro ysK hysK; have hysl := congrArg List.length hysK; (try simp only [List.length_set, List.length_append, List.length_cons, List.length_nil, List.length_take, List.length_drop, List.length_replicate] at hysl); conv => whnf)
      | (refine And.intro (by first | (first | exact True.intro | exact ⟨hE, hx⟩) | exact True.intro | exact ⟨rfl, True.intro, fun _ _ => rfl⟩ | exact Nat.le_of_ble_eq_true rfl | (refine ⟨by (try simp only [List.length_cons, List.length_nil]); omega, Int.le_trans (Int.mul_le_mul_of_nonneg_left (show (TInfo.bytes _ : Int) ≤ 64 from Int.ofNat_le.2 (Nat.le_of_ble_eq_true rfl)) (by omega)) (by (try simp only [List.length_cons, List.length_nil]); omega)⟩)) ?_; conv => whnf)))
    all_goals exact leaf0 rfl rfl rfl
def ncA1C : PCtr := fun hg rg _ vals k => match vals with
  | [.agg [.int .i64 n, .int .i64 d, .int .i64 m, .int .i64 e], .loc j 0] => boxFB (hg j) 127 fun ql0 => boxLf (hg ql0) fun l0 => ((SmL l0) ∧ SmL ((n, d), (m, e))) ∧ k [] (.bool (!((fun p => !crossL l0 p)) ((n, d), (m, e))))
  | _ => False
theorem ncA1_ok : PCtrOk Try.prog 159 ncA1C where
  enter := enter_ok Try.func159 (by kernel_rfl) rfl
  calls := by
    intro hg rg lr vals k h
    unfold ncA1C at h
    split at h
    case h_2 => exact h.elim
    rename_i n d m e j
    obtain ⟨ql0, hj, h⟩ := boxFB_inv h
    obtain ⟨l0, hql0, h⟩ := boxLf_inv h
    obtain ⟨⟨hE, hx⟩, hk⟩ := h
    refine ⟨_, _, hk, fun A w hB hR => ?_⟩
    refine enter T_ok (GOk.cons nc_ok .nil) Try.func159 rfl (K := (· < w.heap.size)) (fun _ h => h) (A := A.pick [j, ql0] []) (vals := [.agg [.int .i64 n, .int .i64 d, .int .i64 m, .int .i64 e], .loc 0 0]) (n0 := 0) (b0 := 2) (rows := []) (hp := [some [.fn 127 [] [.loc 1 0]], some [.int .i64 l0.1.1, .int .i64 l0.1.2, .int .i64 l0.2.1, .int .i64 l0.2.2]]) rfl (Nat.zero_le _) (fun i9 cs h9 => by
      match i9, h9 with
      | 0, h9 => cases h9; exact box_lt (hB j _ hj)
      | 1, h9 => cases h9; exact box_lt (hB ql0 _ hql0)
      | i9 + 2, h9 => simp [nthj] at h9) rfl no_row rfl rfl (Nat.le_of_ble_eq_true rfl) ?_
    conv => whnf
    repeat (refine V_step T_ok (GOk.cons nc_ok .nil) rfl ?_; conv => whnf)
    repeat (any_goals (first
      | (refine V_step T_ok (GOk.cons nc_ok .nil) rfl ?_; conv => whnf)
      | (refine V_drawA T_ok (GOk.cons nc_ok .nil) mixed (by kernel_rfl) ?_; conv => whnf)
      | (refine bcond_split (fun hc => ?_) (fun hc => ?_) <;> (try simp only [decide_eq_true_eq, decide_eq_false_iff_not, Bool.not_eq_true', Bool.not_eq_false', Bool.and_eq_true, Bool.or_eq_true, Bool.and_eq_false_imp, Bool.or_eq_false_iff, ne_eq, Decidable.not_not] at hc) <;> conv => whnf)
      | (intro ysK hysK; have hysl := congrArg List.length hysK; (try simp only [List.length_set, List.length_append, List.length_cons, List.length_nil, List.length_take, List.length_drop, List.length_replicate] at hysl); conv => whnf)
      | (refine And.intro (by first | (first | exact True.intro | exact ⟨hE, hx⟩) | exact True.intro | exact ⟨rfl, True.intro, fun _ _ => rfl⟩ | exact Nat.le_of_ble_eq_true rfl | (refine ⟨by (try simp only [List.length_cons, List.length_nil]); omega, Int.le_trans (Int.mul_le_mul_of_nonneg_left (show (TInfo.bytes _ : Int) ≤ 64 from Int.ofNat_le.2 (Nat.le_of_ble_eq_true rfl)) (by omega)) (by (try simp only [List.length_cons, List.length_nil]); omega)⟩)) ?_; conv => whnf)))
    all_goals exact leaf0 rfl rfl rfl
def ncAxC : PCtr := fun hg rg _ vals k => match vals with
  | [.row i, .fn f [] [.loc j 0]] => isF f 159 (rowC lT (rg i) fun xs => boxFB (hg j) 127 fun ql0 => boxLf (hg ql0) fun l0 => ((SmL l0) ∧ ∀ x ∈ (xs : List Lf), SmL x) ∧ k [] (.int .i64 (idxP (α := Lf) (fun x => !((fun p => !crossL l0 p)) x) xs)))
  | _ => False
theorem ncAx_ok : PCtrOk Try.prog 175 ncAxC where
  enter := enter_ok Try.func175 (by kernel_rfl) rfl
  calls := by
    intro hg rg lr vals k h
    unfold ncAxC at h
    split at h
    case h_2 => exact h.elim
    rename_i i f j
    obtain ⟨rfl, h⟩ := isF_inv h
    obtain ⟨e, own, xs, hi, h⟩ : ∃ e own, ∃ (xs : List Lf), _ := rowC_inv h
    obtain ⟨ql0, hj, h⟩ := boxFB_inv h
    obtain ⟨l0, hql0, h⟩ := boxLf_inv h
    obtain ⟨⟨hE, hx⟩, hk⟩ := h
    refine ⟨_, _, hk, fun A w hB hR => ?_⟩
    refine enter T_ok (GOk.cons ncA1_ok .nil) Try.func175 rfl (K := (· < w.heap.size)) (fun _ h => h) (A := A.pick [j, ql0] [i]) (vals := [.row 0, .fn 159 [] [.loc 0 0]]) (n0 := 0) (b0 := 2) (rows := [some ⟨lT, e, false, xs⟩]) (hp := [some [.fn 127 [] [.loc 1 0]], some [.int .i64 l0.1.1, .int .i64 l0.1.2, .int .i64 l0.2.1, .int .i64 l0.2.2]]) rfl (Nat.zero_le _) (fun i9 cs h9 => by
      match i9, h9 with
      | 0, h9 => cases h9; exact box_lt (hB j _ hj)
      | 1, h9 => cases h9; exact box_lt (hB ql0 _ hql0)
      | i9 + 2, h9 => simp [nthj] at h9) rfl (fun i9 r h9 => by
      match i9, h9 with
      | 0, h9 => cases h9; exact ⟨rfl, RowsAt.ro (hR i _ hi)⟩
      | i9 + 1, h9 => simp [nthj] at h9) rfl rfl (Nat.le_of_ble_eq_true rfl) ?_
    conv => whnf
    repeat (refine V_step T_ok (GOk.cons ncA1_ok .nil) rfl ?_; conv => whnf)
    have hcap' : (@List.length (TyC.α lT) xs : Int) ≤ 9223372036854775807 := by
      have h1 := (hR i _ hi).len
      have h2 := (hR i _ hi).cap
      have h3 := (hR i _ hi).max
      simp only at h1
      have : maxLen = 9223372036854775807 := rfl
      omega
    have hcap : (xs.length : Int) ≤ 9223372036854775807 := hcap'
    have hx' : ∀ n : Nat, (n : Int) < (List.length (α := Lf) xs : Nat) → SmL (xs.getD n lT.dflt) := fun n hn => hx _ (getD_mem (by omega))
    refine V_loopH (γ := Nat) (fun n => n ≤ xs.length ∧ ∀ j, j < n → (fun x => !((fun p => !crossL l0 p)) x) (xs.getD j lT.dflt) = false) (fun n => xs.length - n)
      (fun n => [(8, .int .i64 n)]) (fun _ => []) (fun _ => []) 0 ⟨Nat.zero_le _, fun j h => absurd h (Nat.not_lt_zero _)⟩ ?_ ?_
    · conv => whnf
      refine ⟨?_, by (conv => whnf); repeat (first | exact True.intro | (refine And.intro rfl ?_; conv => whnf)), by (conv => whnf); repeat (first | exact True.intro | (refine And.intro (by first | rfl | (subst_vars; rfl)) ?_; conv => whnf)), rfl, rfl, rfl, rfl, rfl, rfl, rfl, Nat.le_of_ble_eq_true rfl, Nat.le_of_ble_eq_true rfl⟩
      conv => whnf
      repeat (first | exact True.intro | (refine And.intro (by first | rfl | ((conv => whnf); exact congrArg (AVal.int .i64) (by omega)) | ((conv => whnf); exact congrArg (AVal.int .i64) (by simp only [Int.natCast_add, Int.natCast_one]; omega)) | ((conv => whnf); exact congrArg (AVal.irow _) (by first | omega | assumption | (simp only; omega)))) ?_; conv => whnf))
    · rintro n ⟨h1, h2⟩
      conv => whnf
      refine vcCode_sound T_ok (GOk.cons ncA1_ok .nil) _ _ _ _ _ ?_
      conv => whnf
      repeat (refine V_step T_ok (GOk.cons ncA1_ok .nil) rfl ?_; conv => whnf)
      repeat (any_goals (first
        | (refine V_step T_ok (GOk.cons ncA1_ok .nil) rfl ?_; conv => whnf)
        | (refine V_drawA T_ok (GOk.cons ncA1_ok .nil) mixed (by kernel_rfl) ?_; conv => whnf)
        | (refine bcond_split (fun hc => ?_) (fun hc => ?_) <;> (try simp only [decide_eq_true_eq, decide_eq_false_iff_not, Bool.not_eq_true', Bool.not_eq_false', Bool.and_eq_true, Bool.or_eq_true, Bool.and_eq_false_imp, Bool.or_eq_false_iff, ne_eq, Decidable.not_not] at hc) <;> conv => whnf)
        | (intro ysK hysK; have hysl := congrArg List.length hysK; (try simp only [List.length_set, List.length_append, List.length_cons, List.length_nil, List.length_take, List.length_drop, List.length_replicate] at hysl); conv => whnf)
        | (refine And.intro (by first | (first | exact True.intro | omega | (simp only [Rng]; omega) | exact ⟨hE, hx' n (by assumption)⟩) | exact True.intro | exact ⟨rfl, True.intro, fun _ _ => rfl⟩ | exact Nat.le_of_ble_eq_true rfl | (refine ⟨by (try simp only [List.length_cons, List.length_nil]); omega, Int.le_trans (Int.mul_le_mul_of_nonneg_left (show (TInfo.bytes _ : Int) ≤ 64 from Int.ofNat_le.2 (Nat.le_of_ble_eq_true rfl)) (by omega)) (by (try simp only [List.length_cons, List.length_nil]); omega)⟩)) ?_; conv => whnf)))
      · rename_i hc0
        have hl : (n : Int) < (xs.length : Nat) := hc0
        exact leaf0 rfl (congrArg (AVal.int .i64) (idxP_found (fun x => !((fun p => !crossL l0 p)) x) xs n lT.dflt (by omega) h2 (by first | exact hc | exact congrArg not hc | (simp only [Bool.not_not]; exact hc))).symm) rfl
      · rename_i hc0
        have hl : (n : Int) < (xs.length : Nat) := hc0
        refine ⟨n + 1, ⟨by omega, fun j hj => ?_⟩, by omega, ?_⟩
        · rcases Nat.lt_or_ge j n with h | h
          · exact h2 j h
          · obtain rfl : j = n := by omega
            first | exact hc | exact congrArg not hc | (simp only [Bool.not_not]; exact hc)
        · conv => whnf
          refine ⟨?_, by (conv => whnf); repeat (first | exact True.intro | (refine And.intro rfl ?_; conv => whnf)), by (conv => whnf); repeat (first | exact True.intro | (refine And.intro (by first | rfl | (subst_vars; rfl)) ?_; conv => whnf)), rfl, rfl, rfl, rfl, rfl, rfl, rfl, Nat.le_of_ble_eq_true rfl, Nat.le_of_ble_eq_true rfl⟩
          conv => whnf
          repeat (first | exact True.intro | (refine And.intro (by first | rfl | ((conv => whnf); exact congrArg (AVal.int .i64) (by omega)) | ((conv => whnf); exact congrArg (AVal.int .i64) (by simp only [Int.natCast_add, Int.natCast_one]; omega)) | ((conv => whnf); exact congrArg (AVal.irow _) (by first | omega | assumption | (simp only; omega)))) ?_; conv => whnf))
      · have hl : ¬ (n : Int) < (xs.length : Nat) := hc
        exact leaf0 rfl (congrArg (AVal.int .i64) (idxP_none (fun x => !((fun p => !crossL l0 p)) x) xs lT.dflt (fun j hj => h2 j (by omega))).symm) rfl
def ncAcC : PCtr := fun hg rg _ vals k => match vals with
  | [.row i, .fn f [] [.loc j 0]] => isF f 159 (rowC lT (rg i) fun xs => boxFB (hg j) 127 fun ql0 => boxLf (hg ql0) fun l0 => ((SmL l0) ∧ ∀ x ∈ (xs : List Lf), SmL x) ∧ k [] (.bool (List.any (α := Lf) xs (fun x => !((fun p => !crossL l0 p)) x))))
  | _ => False
theorem ncAc_ok : PCtrOk Try.prog 158 ncAcC where
  enter := enter_ok Try.func158 (by kernel_rfl) rfl
  calls := by
    intro hg rg lr vals k h
    unfold ncAcC at h
    split at h
    case h_2 => exact h.elim
    rename_i i f j
    obtain ⟨rfl, h⟩ := isF_inv h
    obtain ⟨e, own, xs, hi, h⟩ : ∃ e own, ∃ (xs : List Lf), _ := rowC_inv h
    obtain ⟨ql0, hj, h⟩ := boxFB_inv h
    obtain ⟨l0, hql0, h⟩ := boxLf_inv h
    obtain ⟨⟨hE, hx⟩, hk⟩ := h
    refine ⟨_, _, hk, fun A w hB hR => ?_⟩
    refine enter T_ok (GOk.cons ncAx_ok .nil) Try.func158 rfl (K := (· < w.heap.size)) (fun _ h => h) (A := A.pick [j, ql0] [i]) (vals := [.row 0, .fn 159 [] [.loc 0 0]]) (n0 := 0) (b0 := 2) (rows := [some ⟨lT, e, false, xs⟩]) (hp := [some [.fn 127 [] [.loc 1 0]], some [.int .i64 l0.1.1, .int .i64 l0.1.2, .int .i64 l0.2.1, .int .i64 l0.2.2]]) rfl (Nat.zero_le _) (fun i9 cs h9 => by
      match i9, h9 with
      | 0, h9 => cases h9; exact box_lt (hB j _ hj)
      | 1, h9 => cases h9; exact box_lt (hB ql0 _ hql0)
      | i9 + 2, h9 => simp [nthj] at h9) rfl (fun i9 r h9 => by
      match i9, h9 with
      | 0, h9 => cases h9; exact ⟨rfl, RowsAt.ro (hR i _ hi)⟩
      | i9 + 1, h9 => simp [nthj] at h9) rfl rfl (Nat.le_of_ble_eq_true rfl) ?_
    conv => whnf
    repeat (refine V_step T_ok (GOk.cons ncAx_ok .nil) rfl ?_; conv => whnf)
    repeat (any_goals (first
      | (refine V_step T_ok (GOk.cons ncAx_ok .nil) rfl ?_; conv => whnf)
      | (refine V_drawA T_ok (GOk.cons ncAx_ok .nil) mixed (by kernel_rfl) ?_; conv => whnf)
      | (refine bcond_split (fun hc => ?_) (fun hc => ?_) <;> (try simp only [decide_eq_true_eq, decide_eq_false_iff_not, Bool.not_eq_true', Bool.not_eq_false', Bool.and_eq_true, Bool.or_eq_true, Bool.and_eq_false_imp, Bool.or_eq_false_iff, ne_eq, Decidable.not_not] at hc) <;> conv => whnf)
      | (intro ysK hysK; have hysl := congrArg List.length hysK; (try simp only [List.length_set, List.length_append, List.length_cons, List.length_nil, List.length_take, List.length_drop, List.length_replicate] at hysl); conv => whnf)
      | (refine And.intro (by first | (first | exact ⟨hE, hx⟩ | exact True.intro) | exact True.intro | exact ⟨rfl, True.intro, fun _ _ => rfl⟩ | exact Nat.le_of_ble_eq_true rfl | (refine ⟨by (try simp only [List.length_cons, List.length_nil]); omega, Int.le_trans (Int.mul_le_mul_of_nonneg_left (show (TInfo.bytes _ : Int) ≤ 64 from Int.ofNat_le.2 (Nat.le_of_ble_eq_true rfl)) (by omega)) (by (try simp only [List.length_cons, List.length_nil]); omega)⟩)) ?_; conv => whnf)))
    all_goals exact leaf0 rfl (congrArg AVal.bool (idxP_any (fun x => !((fun p => !crossL l0 p)) x) xs)) rfl
def ncAC : PCtr := fun hg rg _ vals k => match vals with
  | [.row i, .fn f [] [.loc ql0 0]] => isF f 127 (rowC lT (rg i) fun xs => boxLf (hg ql0) fun l0 => ((SmL l0) ∧ ∀ x ∈ (xs : List Lf), SmL x) ∧ k [] (.bool (List.all (α := Lf) xs ((fun p => !crossL l0 p)))))
  | _ => False
theorem ncA_ok : PCtrOk Try.prog 126 ncAC where
  enter := enter_ok Try.func126 (by kernel_rfl) rfl
  calls := by
    intro hg rg lr vals k h
    unfold ncAC at h
    split at h
    case h_2 => exact h.elim
    rename_i i f ql0
    obtain ⟨rfl, h⟩ := isF_inv h
    obtain ⟨e, own, xs, hi, h⟩ : ∃ e own, ∃ (xs : List Lf), _ := rowC_inv h
    obtain ⟨l0, hql0, h⟩ := boxLf_inv h
    obtain ⟨⟨hE, hx⟩, hk⟩ := h
    refine ⟨_, _, hk, fun A w hB hR => ?_⟩
    refine enter T_ok (GOk.cons ncAc_ok .nil) Try.func126 rfl (K := (· < w.heap.size)) (fun _ h => h) (A := A.pick [ql0] [i]) (vals := [.row 0, .fn 127 [] [.loc 0 0]]) (n0 := 0) (b0 := 1) (rows := [some ⟨lT, e, false, xs⟩]) (hp := [some [.int .i64 l0.1.1, .int .i64 l0.1.2, .int .i64 l0.2.1, .int .i64 l0.2.2]]) rfl (Nat.zero_le _) (fun i9 cs h9 => by
      match i9, h9 with
      | 0, h9 => cases h9; exact box_lt (hB ql0 _ hql0)
      | i9 + 1, h9 => simp [nthj] at h9) rfl (fun i9 r h9 => by
      match i9, h9 with
      | 0, h9 => cases h9; exact ⟨rfl, RowsAt.ro (hR i _ hi)⟩
      | i9 + 1, h9 => simp [nthj] at h9) rfl rfl (Nat.le_of_ble_eq_true rfl) ?_
    conv => whnf
    repeat (refine V_step T_ok (GOk.cons ncAc_ok .nil) rfl ?_; conv => whnf)
    repeat (any_goals (first
      | (refine V_step T_ok (GOk.cons ncAc_ok .nil) rfl ?_; conv => whnf)
      | (refine V_drawA T_ok (GOk.cons ncAc_ok .nil) mixed (by kernel_rfl) ?_; conv => whnf)
      | (refine bcond_split (fun hc => ?_) (fun hc => ?_) <;> (try simp only [decide_eq_true_eq, decide_eq_false_iff_not, Bool.not_eq_true', Bool.not_eq_false', Bool.and_eq_true, Bool.or_eq_true, Bool.and_eq_false_imp, Bool.or_eq_false_iff, ne_eq, Decidable.not_not] at hc) <;> conv => whnf)
      | (intro ysK hysK; have hysl := congrArg List.length hysK; (try simp only [List.length_set, List.length_append, List.length_cons, List.length_nil, List.length_take, List.length_drop, List.length_replicate] at hysl); conv => whnf)
      | (refine And.intro (by first | (first | exact ⟨hE, hx⟩ | exact True.intro) | exact True.intro | exact ⟨rfl, True.intro, fun _ _ => rfl⟩ | exact Nat.le_of_ble_eq_true rfl | (refine ⟨by (try simp only [List.length_cons, List.length_nil]); omega, Int.le_trans (Int.mul_le_mul_of_nonneg_left (show (TInfo.bytes _ : Int) ≤ 64 from Int.ofNat_le.2 (Nat.le_of_ble_eq_true rfl)) (by omega)) (by (try simp only [List.length_cons, List.length_nil]); omega)⟩)) ?_; conv => whnf)))
    all_goals exact leaf0 rfl (congrArg AVal.bool (not_any_not ((fun p => !crossL l0 p)) xs)) rfl
/-- What the program asks of the partner of the first angle left. -/
def frP (zs : List Ang) (lo : Nat) (out : List Lf) (a : Ang) : Bool := freeI out (zs.getD lo aT.dflt) a
def frC : PCtr := fun hg rg _ vals k => match vals with
  | [.agg [.int .i64 n, .int .i64 d], .loc qzs 0, .loc qout 0] => boxV 2 (hg qzs) fun rzs lozs nzs => rowC aT (rg rzs) fun zs => boxR (hg qout) fun rout => rowC lT (rg rout) fun out => (((0 < nzs ∧ lozs + nzs ≤ (zs : List Ang).length) ∧ Sm ((zs : List Ang).getD lozs aT.dflt) ∧ ∀ p ∈ (out : List Lf), SmL p) ∧ Sm (n, d)) ∧ k [] (.bool (frP zs lozs out (n, d)))
  | _ => False
theorem fr_ok : PCtrOk Try.prog 125 frC where
  enter := enter_ok Try.func125 (by kernel_rfl) rfl
  calls := by
    intro hg rg lr vals k h
    unfold frC at h
    split at h
    case h_2 => exact h.elim
    rename_i n d qzs qout
    obtain ⟨rzs, lozs, nzs, hqzs, h⟩ := boxV_inv h
    obtain ⟨ezs, ownzs, zs, hrzs, h⟩ : ∃ e own, ∃ (xs : List (TyC.α aT)), _ := rowC_inv h
    obtain ⟨rout, hqout, h⟩ := boxR_inv h
    obtain ⟨eout, ownout, out, hrout, h⟩ : ∃ e own, ∃ (xs : List (TyC.α lT)), _ := rowC_inv h
    obtain ⟨⟨hE, hx⟩, hk⟩ := h
    refine ⟨_, _, hk, fun A w hB hR => ?_⟩
    refine enter T_ok (GOk.cons ncA_ok .nil) Try.func125 rfl (K := (· < w.heap.size)) (fun _ h => h) (A := A.pick [qzs, qout] [rzs, rout]) (vals := [.agg [.int .i64 n, .int .i64 d], .loc 0 0, .loc 1 0]) (n0 := 0) (b0 := 2) (rows := [some ⟨aT, ezs, false, zs⟩, some ⟨lT, eout, false, out⟩]) (hp := [some [.vw 0 lozs nzs 2], some [.row 1]]) rfl (Nat.zero_le _) (fun i9 cs h9 => by
      match i9, h9 with
      | 0, h9 => cases h9; exact box_lt (hB qzs _ hqzs)
      | 1, h9 => cases h9; exact box_lt (hB qout _ hqout)
      | i9 + 2, h9 => simp [nthj] at h9) rfl (fun i9 r h9 => by
      match i9, h9 with
      | 0, h9 => cases h9; exact ⟨rfl, RowsAt.ro (hR rzs _ hrzs)⟩
      | 1, h9 => cases h9; exact ⟨rfl, RowsAt.ro (hR rout _ hrout)⟩
      | i9 + 2, h9 => simp [nthj] at h9) rfl rfl (Nat.le_of_ble_eq_true rfl) ?_
    conv => whnf
    repeat (refine V_step T_ok (GOk.cons ncA_ok .nil) rfl ?_; conv => whnf)
    obtain ⟨⟨hn, hl⟩, hz, ho⟩ := hE
    repeat (any_goals (first
      | (refine V_step T_ok (GOk.cons ncA_ok .nil) rfl ?_; conv => whnf)
      | (refine V_drawA T_ok (GOk.cons ncA_ok .nil) mixed (by kernel_rfl) ?_; conv => whnf)
      | (refine bcond_split (fun hc => ?_) (fun hc => ?_) <;> (try simp only [decide_eq_true_eq, decide_eq_false_iff_not, Bool.not_eq_true', Bool.not_eq_false', Bool.and_eq_true, Bool.or_eq_true, Bool.and_eq_false_imp, Bool.or_eq_false_iff, ne_eq, Decidable.not_not] at hc) <;> conv => whnf)
      | (intro ysK hysK; have hysl := congrArg List.length hysK; (try simp only [List.length_set, List.length_append, List.length_cons, List.length_nil, List.length_take, List.length_drop, List.length_replicate] at hysl); conv => whnf)
      | (refine And.intro (by first | (first | exact True.intro | omega | exact ⟨by omega, by omega, hl⟩ | exact (show lozs < List.length (α := Ang) zs by omega) | exact ⟨⟨hz, hx⟩, ho⟩) | exact True.intro | exact ⟨rfl, True.intro, fun _ _ => rfl⟩ | exact Nat.le_of_ble_eq_true rfl | (refine ⟨by (try simp only [List.length_cons, List.length_nil]); omega, Int.le_trans (Int.mul_le_mul_of_nonneg_left (show (TInfo.bytes _ : Int) ≤ 64 from Int.ofNat_le.2 (Nat.le_of_ble_eq_true rfl)) (by omega)) (by (try simp only [List.length_cons, List.length_nil]); omega)⟩)) ?_; conv => whnf)))
    all_goals exact leaf0 rfl rfl rfl
def frxC : PCtr := fun hg rg _ vals k => match vals with
  | [.row i, .fn f [] [.loc qzs 0, .loc qout 0]] => isF f 125 (rowC aT (rg i) fun xs => boxV 2 (hg qzs) fun rzs lozs nzs => rowC aT (rg rzs) fun zs => boxR (hg qout) fun rout => rowC lT (rg rout) fun out => (((0 < nzs ∧ lozs + nzs ≤ (zs : List Ang).length) ∧ Sm ((zs : List Ang).getD lozs aT.dflt) ∧ ∀ p ∈ (out : List Lf), SmL p) ∧ ∀ x ∈ (xs : List Ang), Sm x) ∧ k [] (.int .i64 (idxP (α := Ang) (frP zs lozs out) xs)))
  | _ => False
theorem frx_ok : PCtrOk Try.prog 124 frxC where
  enter := enter_ok Try.func124 (by kernel_rfl) rfl
  calls := by
    intro hg rg lr vals k h
    unfold frxC at h
    split at h
    case h_2 => exact h.elim
    rename_i i f qzs qout
    obtain ⟨rfl, h⟩ := isF_inv h
    obtain ⟨e, own, xs, hi, h⟩ : ∃ e own, ∃ (xs : List Ang), _ := rowC_inv h
    obtain ⟨rzs, lozs, nzs, hqzs, h⟩ := boxV_inv h
    obtain ⟨ezs, ownzs, zs, hrzs, h⟩ : ∃ e own, ∃ (xs : List (TyC.α aT)), _ := rowC_inv h
    obtain ⟨rout, hqout, h⟩ := boxR_inv h
    obtain ⟨eout, ownout, out, hrout, h⟩ : ∃ e own, ∃ (xs : List (TyC.α lT)), _ := rowC_inv h
    obtain ⟨⟨hE, hx⟩, hk⟩ := h
    refine ⟨_, _, hk, fun A w hB hR => ?_⟩
    refine enter T_ok (GOk.cons fr_ok .nil) Try.func124 rfl (K := (· < w.heap.size)) (fun _ h => h) (A := A.pick [qzs, qout] [i, rzs, rout]) (vals := [.row 0, .fn 125 [] [.loc 0 0, .loc 1 0]]) (n0 := 0) (b0 := 2) (rows := [some ⟨aT, e, false, xs⟩, some ⟨aT, ezs, false, zs⟩, some ⟨lT, eout, false, out⟩]) (hp := [some [.vw 1 lozs nzs 2], some [.row 2]]) rfl (Nat.zero_le _) (fun i9 cs h9 => by
      match i9, h9 with
      | 0, h9 => cases h9; exact box_lt (hB qzs _ hqzs)
      | 1, h9 => cases h9; exact box_lt (hB qout _ hqout)
      | i9 + 2, h9 => simp [nthj] at h9) rfl (fun i9 r h9 => by
      match i9, h9 with
      | 0, h9 => cases h9; exact ⟨rfl, RowsAt.ro (hR i _ hi)⟩
      | 1, h9 => cases h9; exact ⟨rfl, RowsAt.ro (hR rzs _ hrzs)⟩
      | 2, h9 => cases h9; exact ⟨rfl, RowsAt.ro (hR rout _ hrout)⟩
      | i9 + 3, h9 => simp [nthj] at h9) rfl rfl (Nat.le_of_ble_eq_true rfl) ?_
    conv => whnf
    repeat (refine V_step T_ok (GOk.cons fr_ok .nil) rfl ?_; conv => whnf)
    have hcap' : (@List.length (TyC.α aT) xs : Int) ≤ 9223372036854775807 := by
      have h1 := (hR i _ hi).len
      have h2 := (hR i _ hi).cap
      have h3 := (hR i _ hi).max
      simp only at h1
      have : maxLen = 9223372036854775807 := rfl
      omega
    have hcap : (xs.length : Int) ≤ 9223372036854775807 := hcap'
    have hx' : ∀ n : Nat, (n : Int) < (List.length (α := Ang) xs : Nat) → Sm (xs.getD n aT.dflt) := fun n hn => hx _ (getD_mem (by omega))
    refine V_loopH (γ := Nat) (fun n => n ≤ xs.length ∧ ∀ j, j < n → (frP zs lozs out) (xs.getD j aT.dflt) = false) (fun n => xs.length - n)
      (fun n => [(8, .int .i64 n)]) (fun _ => []) (fun _ => []) 0 ⟨Nat.zero_le _, fun j h => absurd h (Nat.not_lt_zero _)⟩ ?_ ?_
    · conv => whnf
      refine ⟨?_, by (conv => whnf); repeat (first | exact True.intro | (refine And.intro rfl ?_; conv => whnf)), by (conv => whnf); repeat (first | exact True.intro | (refine And.intro (by first | rfl | (subst_vars; rfl)) ?_; conv => whnf)), rfl, rfl, rfl, rfl, rfl, rfl, rfl, Nat.le_of_ble_eq_true rfl, Nat.le_of_ble_eq_true rfl⟩
      conv => whnf
      repeat (first | exact True.intro | (refine And.intro (by first | rfl | ((conv => whnf); exact congrArg (AVal.int .i64) (by omega)) | ((conv => whnf); exact congrArg (AVal.int .i64) (by simp only [Int.natCast_add, Int.natCast_one]; omega)) | ((conv => whnf); exact congrArg (AVal.irow _) (by first | omega | assumption | (simp only; omega)))) ?_; conv => whnf))
    · rintro n ⟨h1, h2⟩
      conv => whnf
      refine vcCode_sound T_ok (GOk.cons fr_ok .nil) _ _ _ _ _ ?_
      conv => whnf
      repeat (refine V_step T_ok (GOk.cons fr_ok .nil) rfl ?_; conv => whnf)
      repeat (any_goals (first
        | (refine V_step T_ok (GOk.cons fr_ok .nil) rfl ?_; conv => whnf)
        | (refine V_drawA T_ok (GOk.cons fr_ok .nil) mixed (by kernel_rfl) ?_; conv => whnf)
        | (refine bcond_split (fun hc => ?_) (fun hc => ?_) <;> (try simp only [decide_eq_true_eq, decide_eq_false_iff_not, Bool.not_eq_true', Bool.not_eq_false', Bool.and_eq_true, Bool.or_eq_true, Bool.and_eq_false_imp, Bool.or_eq_false_iff, ne_eq, Decidable.not_not] at hc) <;> conv => whnf)
        | (intro ysK hysK; have hysl := congrArg List.length hysK; (try simp only [List.length_set, List.length_append, List.length_cons, List.length_nil, List.length_take, List.length_drop, List.length_replicate] at hysl); conv => whnf)
        | (refine And.intro (by first | (first | exact True.intro | omega | (simp only [Rng]; omega) | exact ⟨hE, hx' n (by assumption)⟩) | exact True.intro | exact ⟨rfl, True.intro, fun _ _ => rfl⟩ | exact Nat.le_of_ble_eq_true rfl | (refine ⟨by (try simp only [List.length_cons, List.length_nil]); omega, Int.le_trans (Int.mul_le_mul_of_nonneg_left (show (TInfo.bytes _ : Int) ≤ 64 from Int.ofNat_le.2 (Nat.le_of_ble_eq_true rfl)) (by omega)) (by (try simp only [List.length_cons, List.length_nil]); omega)⟩)) ?_; conv => whnf)))
      · rename_i hc0
        have hl : (n : Int) < (xs.length : Nat) := hc0
        exact leaf0 rfl (congrArg (AVal.int .i64) (idxP_found (frP zs lozs out) xs n aT.dflt (by omega) h2 hc).symm) rfl
      · rename_i hc0
        have hl : (n : Int) < (xs.length : Nat) := hc0
        refine ⟨n + 1, ⟨by omega, fun j hj => ?_⟩, by omega, ?_⟩
        · rcases Nat.lt_or_ge j n with h | h
          · exact h2 j h
          · obtain rfl : j = n := by omega
            exact hc
        · conv => whnf
          refine ⟨?_, by (conv => whnf); repeat (first | exact True.intro | (refine And.intro rfl ?_; conv => whnf)), by (conv => whnf); repeat (first | exact True.intro | (refine And.intro (by first | rfl | (subst_vars; rfl)) ?_; conv => whnf)), rfl, rfl, rfl, rfl, rfl, rfl, rfl, Nat.le_of_ble_eq_true rfl, Nat.le_of_ble_eq_true rfl⟩
          conv => whnf
          repeat (first | exact True.intro | (refine And.intro (by first | rfl | ((conv => whnf); exact congrArg (AVal.int .i64) (by omega)) | ((conv => whnf); exact congrArg (AVal.int .i64) (by simp only [Int.natCast_add, Int.natCast_one]; omega)) | ((conv => whnf); exact congrArg (AVal.irow _) (by first | omega | assumption | (simp only; omega)))) ?_; conv => whnf))
      · have hl : ¬ (n : Int) < (xs.length : Nat) := hc
        exact leaf0 rfl (congrArg (AVal.int .i64) (idxP_none (frP zs lozs out) xs aT.dflt (fun j hj => h2 j (by omega))).symm) rfl
def perC : PCtr := fun _ _ _ vals k => match vals with
  | [.agg [.int .i64 n, .int .i64 d]] => IsA (n, d) ∧ k [] (.int .i64 (perI (n, d)))
  | _ => False
theorem per_ok : PCtrOk Try.prog 157 perC where
  enter := enter_ok Try.func157 (by kernel_rfl) rfl
  calls := by
    intro hg rg lr vals k h
    unfold perC at h
    split at h
    case h_2 => exact h.elim
    rename_i n d
    obtain ⟨hA, hk⟩ := h
    refine ⟨_, _, hk, fun A w _ _ => ?_⟩
    refine enter T_ok (GOk.cons double_ok .nil) Try.func157 rfl (K := (· < w.heap.size)) (fun _ h => h) (A := A) (n0 := 0) (b0 := 0) (rows := []) (hp := []) rfl (Nat.zero_le _) (fun k r h => by cases h) rfl (fun k r h => by cases h) rfl rfl (Nat.le_of_ble_eq_true rfl) ?_
    conv => whnf
    repeat (refine V_step T_ok (GOk.cons double_ok .nil) rfl ?_; conv => whnf)
    refine V_loopH (γ := Nat) (fun j => j ≤ 8 ∧ perGo (n, d) (8 - j) ((j : Int) + 1) (itA (n, d) j) = perI (n, d)) (fun j => 8 - j)
      (fun j => [(4, .int .i64 ((j : Int) + 1))]) (fun j => [(1, [.int .i64 (itA (n, d) j).1, .int .i64 (itA (n, d) j).2])]) (fun _ => []) 0 ⟨Nat.zero_le _, rfl⟩ ?_ ?_
    · conv => whnf
      refine ⟨?_, by (conv => whnf); repeat (first | exact True.intro | (refine And.intro rfl ?_; conv => whnf)), by (conv => whnf); repeat (first | exact True.intro | (refine And.intro (by first | rfl | (subst_vars; rfl)) ?_; conv => whnf)), rfl, rfl, rfl, rfl, rfl, rfl, rfl, Nat.le_of_ble_eq_true rfl, Nat.le_of_ble_eq_true rfl⟩
      conv => whnf
      repeat (first | exact True.intro | (refine And.intro (by first | rfl | ((conv => whnf); exact congrArg (AVal.int .i64) (by omega)) | ((conv => whnf); exact congrArg (AVal.int .i64) (by simp only [Int.natCast_add, Int.natCast_one]; omega)) | ((conv => whnf); exact congrArg (AVal.irow _) (by first | omega | assumption | (simp only; omega)))) ?_; conv => whnf))
    · rintro j ⟨h1, h2⟩
      have hb := (hA.it j).bd
      conv => whnf
      refine vcCode_sound T_ok (GOk.cons double_ok .nil) _ _ _ _ _ ?_
      conv => whnf
      repeat (refine V_step T_ok (GOk.cons double_ok .nil) rfl ?_; conv => whnf)
      repeat (any_goals (first
        | (refine V_step T_ok (GOk.cons double_ok .nil) rfl ?_; conv => whnf)
        | (refine V_drawA T_ok (GOk.cons double_ok .nil) mixed (by kernel_rfl) ?_; conv => whnf)
        | (refine bcond_split (fun hc => ?_) (fun hc => ?_) <;> (try simp only [decide_eq_true_eq, decide_eq_false_iff_not, Bool.not_eq_true', Bool.not_eq_false', Bool.and_eq_true, Bool.or_eq_true, Bool.and_eq_false_imp, Bool.or_eq_false_iff, ne_eq, Decidable.not_not] at hc) <;> conv => whnf)
        | (intro ysK hysK; have hysl := congrArg List.length hysK; (try simp only [List.length_set, List.length_append, List.length_cons, List.length_nil, List.length_take, List.length_drop, List.length_replicate] at hysl); conv => whnf)
        | (refine And.intro (by first | (first | exact True.intro | exact hb | omega | (simp only [Rng]; omega)) | exact True.intro | exact ⟨rfl, True.intro, fun _ _ => rfl⟩ | exact Nat.le_of_ble_eq_true rfl | (refine ⟨by (try simp only [List.length_cons, List.length_nil]); omega, Int.le_trans (Int.mul_le_mul_of_nonneg_left (show (TInfo.bytes _ : Int) ≤ 64 from Int.ofNat_le.2 (Nat.le_of_ble_eq_true rfl)) (by omega)) (by (try simp only [List.length_cons, List.length_nil]); omega)⟩)) ?_; conv => whnf)))
      · have hc' : doubleA (itA (n, d) j) = (n, d) := Prod.ext hc.1 hc.2
        have h8 : j < 8 := by omega
        refine leaf0 rfl (congrArg (AVal.int .i64) ?_) rfl
        rw [← h2, show 8 - j = (7 - j) + 1 by omega, perGo, if_pos hc']
      · have hc' : ¬ doubleA (itA (n, d) j) = (n, d) := fun h => hc (congrArg Prod.fst h) (congrArg Prod.snd h)
        refine ⟨j + 1, ⟨by omega, ?_⟩, by omega, ?_⟩
        · rw [← h2, show 8 - j = (8 - (j + 1)) + 1 by omega, perGo, if_neg hc']; rfl
        · conv => whnf
          refine ⟨?_, by (conv => whnf); repeat (first | exact True.intro | (refine And.intro rfl ?_; conv => whnf)), by (conv => whnf); repeat (first | exact True.intro | (refine And.intro (by first | rfl | (subst_vars; rfl)) ?_; conv => whnf)), rfl, rfl, rfl, rfl, rfl, rfl, rfl, Nat.le_of_ble_eq_true rfl, Nat.le_of_ble_eq_true rfl⟩
          conv => whnf
          repeat (first | exact True.intro | (refine And.intro (by first | rfl | ((conv => whnf); exact congrArg (AVal.int .i64) (by omega)) | ((conv => whnf); exact congrArg (AVal.int .i64) (by simp only [Int.natCast_add, Int.natCast_one]; omega)) | ((conv => whnf); exact congrArg (AVal.irow _) (by first | omega | assumption | (simp only; omega)))) ?_; conv => whnf))
      · refine leaf0 rfl (congrArg (AVal.int .i64) ?_) rfl
        rw [← h2, show 8 - j = 0 by omega]; rfl
end Go.Proofs.Ytadlnnjgocknhab.Fw
