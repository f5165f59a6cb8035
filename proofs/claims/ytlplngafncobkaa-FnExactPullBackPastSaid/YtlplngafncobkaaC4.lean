/- Contracts: all angles of a list. -/
import Derived.Test.YtlplngafncobkaaC3
import Derived.Test.YtlplngafncobkaaFwY
namespace Go.Proofs.Ytlplngafncobkaa.Fw
open Go Go.RowKit
set_option linter.unusedVariables false
set_option linter.unusedSimpArgs false
set_option maxRecDepth 100000
set_option maxHeartbeats 2000000

abbrev aT : TyC := .pair (.int .i64) (.int .i64)
abbrev lT : TyC := .pair aT aT

/-- The opposite, as a Bool. -/
def allAN (a : Ang) : Bool := !decide (IsA a)
def allA1C : PCtr := fun hg _ _ vals k => match vals with
  | [.agg [.int .i64 n, .int .i64 d], .loc j 0] => boxF (hg j) 59 (k [] (.bool (allAN (n, d))))
  | _ => False

theorem allA1_ok : PCtrOk Try.prog 187 allA1C where
  enter := enter_ok Try.func187 (by kernel_rfl) rfl
  calls := by
    intro hg rg lr vals k h
    unfold allA1C at h
    split at h
    case h_2 => exact h.elim
    rename_i n d j
    obtain ⟨hj, hk⟩ := boxF_inv h
    refine ⟨_, _, hk, fun A w hB hR => ?_⟩
    refine enter T_ok (GOk.cons isAngle_ok .nil) Try.func187 rfl (K := (· < w.heap.size)) (fun _ h => h) (A := A.pick [j] []) (vals := [.agg [.int .i64 n, .int .i64 d], .loc 0 0]) (n0 := 0) (b0 := 1) (rows := []) (hp := [some [.fn 59 [] []]]) rfl (Nat.zero_le _) (one_box (hB j _ hj)) rfl no_row rfl rfl (Nat.le_of_ble_eq_true rfl) ?_
    conv => whnf
    repeat (refine V_step T_ok (GOk.cons isAngle_ok .nil) rfl ?_; conv => whnf)
    repeat (any_goals (first
      | (refine V_step T_ok (GOk.cons isAngle_ok .nil) rfl ?_; conv => whnf)
      | (refine V_drawA T_ok (GOk.cons isAngle_ok .nil) mixed (by kernel_rfl) ?_; conv => whnf)
      | (refine bcond_split (fun hc => ?_) (fun hc => ?_) <;> (try simp only [decide_eq_true_eq, decide_eq_false_iff_not, Bool.not_eq_true', Bool.not_eq_false', Bool.and_eq_true, Bool.or_eq_true, Bool.and_eq_false_imp, Bool.or_eq_false_iff, ne_eq, Decidable.not_not] at hc) <;> conv => whnf)
      | (intro ysK hysK; have hysl := congrArg List.length hysK; (try simp only [List.length_set, List.length_append, List.length_cons, List.length_nil] at hysl); conv => whnf)
      | (refine And.intro (by first | exact True.intro | (with_reducible assumption) | omega | (simp only [Rng]; omega) | exact Nat.le_of_ble_eq_true rfl | exact True.intro | exact Nat.le_of_ble_eq_true rfl | (refine ⟨by (try simp only [List.length_cons, List.length_nil]); omega, Int.le_trans (Int.mul_le_mul_of_nonneg_left (show (TInfo.bytes _ : Int) ≤ 64 from Int.ofNat_le.2 (Nat.le_of_ble_eq_true rfl)) (by omega)) (by (try simp only [List.length_cons, List.length_nil]); omega)⟩)) ?_; conv => whnf)))
    all_goals exact leaf0 rfl rfl rfl

def allAxC : PCtr := fun hg rg _ vals k => match vals with
  | [.row i, .fn 187 [] [.loc j 0]] => rowC aT (rg i) fun xs => boxF (hg j) 59 (k [] (.int .i64 (idxP allAN xs)))
  | _ => False

theorem allAx_ok : PCtrOk Try.prog 195 allAxC where
  enter := enter_ok Try.func195 (by kernel_rfl) rfl
  calls := by
    intro hg rg lr vals k h
    unfold allAxC at h
    split at h
    case h_2 => exact h.elim
    rename_i i j
    obtain ⟨e, own, xs, hi, h⟩ : ∃ e own, ∃ (xs : List Ang), _ := rowC_inv h
    obtain ⟨hj, hk⟩ := boxF_inv h
    refine ⟨_, _, hk, fun A w hB hR => ?_⟩
    refine enter T_ok (GOk.cons allA1_ok .nil) Try.func195 rfl (K := (· < w.heap.size)) (fun _ h => h) (A := A.pick [j] [i]) (vals := [.row 0, .fn 187 [] [.loc 0 0]]) (n0 := 0) (b0 := 1) (rows := [some ⟨aT, e, false, xs⟩]) (hp := [some [.fn 59 [] []]]) rfl (Nat.zero_le _) (one_box (hB j _ hj)) rfl (one_row (hR i _ hi)) rfl rfl (Nat.le_of_ble_eq_true rfl) ?_
    conv => whnf
    repeat (refine V_step T_ok (GOk.cons allA1_ok .nil) rfl ?_; conv => whnf)
    have hcap' : (@List.length (TyC.α aT) xs : Int) ≤ 9223372036854775807 := by
      have h1 := (hR i _ hi).len
      have h2 := (hR i _ hi).cap
      have h3 := (hR i _ hi).max
      simp only at h1
      have : maxLen = 9223372036854775807 := rfl
      omega
    have hcap : (xs.length : Int) ≤ 9223372036854775807 := hcap'
    refine V_loopH (γ := Nat) (fun n => n ≤ xs.length ∧ ∀ j, j < n → allAN (xs.getD j aT.dflt) = false) (fun n => xs.length - n)
      (fun n => [(8, .int .i64 n)]) (fun _ => []) (fun _ => []) 0 ⟨Nat.zero_le _, fun j h => absurd h (Nat.not_lt_zero _)⟩ ?_ ?_
    · conv => whnf
      refine ⟨?_, by (conv => whnf); repeat (first | exact True.intro | (refine And.intro rfl ?_; conv => whnf)), by (conv => whnf); repeat (first | exact True.intro | (refine And.intro (by first | rfl | (subst_vars; rfl)) ?_; conv => whnf)), rfl, rfl, rfl, rfl, rfl, rfl, rfl, Nat.le_of_ble_eq_true rfl, Nat.le_of_ble_eq_true rfl⟩
      conv => whnf
      repeat (first | exact True.intro | (refine And.intro (by first | rfl | ((conv => whnf); exact congrArg (AVal.int .i64) (by omega)) | ((conv => whnf); exact congrArg (AVal.int .i64) (by simp only [Int.natCast_add, Int.natCast_one]; omega))) ?_; conv => whnf))
    · rintro n ⟨h1, h2⟩
      conv => whnf
      refine vcCode_sound T_ok (GOk.cons allA1_ok .nil) _ _ _ _ _ ?_
      conv => whnf
      repeat (refine V_step T_ok (GOk.cons allA1_ok .nil) rfl ?_; conv => whnf)
      repeat (any_goals (first
        | (refine V_step T_ok (GOk.cons allA1_ok .nil) rfl ?_; conv => whnf)
        | (refine V_drawA T_ok (GOk.cons allA1_ok .nil) mixed (by kernel_rfl) ?_; conv => whnf)
        | (refine bcond_split (fun hc => ?_) (fun hc => ?_) <;> (try simp only [decide_eq_true_eq, decide_eq_false_iff_not, Bool.not_eq_true', Bool.not_eq_false', Bool.and_eq_true, Bool.or_eq_true, Bool.and_eq_false_imp, Bool.or_eq_false_iff, ne_eq, Decidable.not_not] at hc) <;> conv => whnf)
        | (intro ysK hysK; have hysl := congrArg List.length hysK; (try simp only [List.length_set, List.length_append, List.length_cons, List.length_nil] at hysl); conv => whnf)
        | (refine And.intro (by first | (first | exact True.intro | omega | (simp only [Rng]; omega)) | exact True.intro | exact Nat.le_of_ble_eq_true rfl | (refine ⟨by (try simp only [List.length_cons, List.length_nil]); omega, Int.le_trans (Int.mul_le_mul_of_nonneg_left (show (TInfo.bytes _ : Int) ≤ 64 from Int.ofNat_le.2 (Nat.le_of_ble_eq_true rfl)) (by omega)) (by (try simp only [List.length_cons, List.length_nil]); omega)⟩)) ?_; conv => whnf)))
      · rename_i hc0
        have hl : (n : Int) < (xs.length : Nat) := hc0
        exact leaf0 rfl (congrArg (AVal.int .i64) (idxP_found allAN xs n aT.dflt (by omega) h2 hc).symm) rfl
      · rename_i hc0
        have hl : (n : Int) < (xs.length : Nat) := hc0
        refine ⟨n + 1, ⟨by omega, fun j hj => ?_⟩, by omega, ?_⟩
        · rcases Nat.lt_or_ge j n with h | h
          · exact h2 j h
          · obtain rfl : j = n := by omega
            exact hc
        · conv => whnf
          refine ⟨?_, by (conv => whnf); repeat (first | exact True.intro | (refine And.intro rfl ?_; conv => whnf)), by (conv => whnf); repeat (first | exact True.intro | (refine And.intro (by first | rfl | (subst_vars; rfl)) ?_; conv => whnf)), rfl, rfl, rfl, rfl, rfl, rfl, rfl, Nat.le_of_ble_eq_true rfl, Nat.le_of_ble_eq_true rfl⟩
          conv => whnf
          repeat (first | exact True.intro | (refine And.intro (by first | rfl | ((conv => whnf); exact congrArg (AVal.int .i64) (by omega)) | ((conv => whnf); exact congrArg (AVal.int .i64) (by simp only [Int.natCast_add, Int.natCast_one]; omega))) ?_; conv => whnf))
      · have hl : ¬ (n : Int) < (xs.length : Nat) := hc
        exact leaf0 rfl (congrArg (AVal.int .i64) (idxP_none allAN xs aT.dflt (fun j hj => h2 j (by omega))).symm) rfl

def allAcC : PCtr := fun hg rg _ vals k => match vals with
  | [.row i, .fn 187 [] [.loc j 0]] => rowC aT (rg i) fun xs => boxF (hg j) 59 (k [] (.bool (xs.any allAN)))
  | _ => False

theorem allAc_ok : PCtrOk Try.prog 186 allAcC where
  enter := enter_ok Try.func186 (by kernel_rfl) rfl
  calls := by
    intro hg rg lr vals k h
    unfold allAcC at h
    split at h
    case h_2 => exact h.elim
    rename_i i j
    obtain ⟨e, own, xs, hi, h⟩ : ∃ e own, ∃ (xs : List Ang), _ := rowC_inv h
    obtain ⟨hj, hk⟩ := boxF_inv h
    refine ⟨_, _, hk, fun A w hB hR => ?_⟩
    refine enter T_ok (GOk.cons allAx_ok .nil) Try.func186 rfl (K := (· < w.heap.size)) (fun _ h => h) (A := A.pick [j] [i]) (vals := [.row 0, .fn 187 [] [.loc 0 0]]) (n0 := 0) (b0 := 1) (rows := [some ⟨aT, e, false, xs⟩]) (hp := [some [.fn 59 [] []]]) rfl (Nat.zero_le _) (one_box (hB j _ hj)) rfl (one_row (hR i _ hi)) rfl rfl (Nat.le_of_ble_eq_true rfl) ?_
    conv => whnf
    repeat (refine V_step T_ok (GOk.cons allAx_ok .nil) rfl ?_; conv => whnf)
    all_goals exact leaf0 rfl (congrArg AVal.bool (idxP_any allAN xs)) rfl

def allAY (a : Ang) : Bool := decide (IsA a)
theorem allA_any (xs : List Ang) : (!xs.any allAN) = xs.all allAY := by
  induction xs with
  | nil => rfl
  | cons x l ih => simp only [List.any_cons, List.all_cons, ← ih, allAN, allAY, Bool.not_or, Bool.not_not]
def allAC : PCtr := fun hg rg _ vals k => match vals with
  | [.row i, .fn f [] []] => rowC aT (rg i) fun xs => isF f 59 (k [] (.bool (xs.all allAY)))
  | _ => False

theorem allA_ok : PCtrOk Try.prog 171 allAC where
  enter := enter_ok Try.func171 (by kernel_rfl) rfl
  calls := by
    intro hg rg lr vals k h
    unfold allAC at h
    split at h
    case h_2 => exact h.elim
    rename_i i f
    obtain ⟨e, own, xs, hi, h⟩ : ∃ e own, ∃ (xs : List Ang), _ := rowC_inv h
    obtain ⟨rfl, hk⟩ := isF_inv h
    refine ⟨_, _, hk, fun A w hB hR => ?_⟩
    refine enter T_ok (GOk.cons allAc_ok .nil) Try.func171 rfl (K := (· < w.heap.size)) (fun _ h => h) (A := A.pick [] [i]) (vals := [.row 0, .fn 59 [] []]) (n0 := 0) (b0 := 0) (rows := [some ⟨aT, e, false, xs⟩]) (hp := []) rfl (Nat.zero_le _) no_box rfl (one_row (hR i _ hi)) rfl rfl (Nat.le_of_ble_eq_true rfl) ?_
    conv => whnf
    repeat (refine V_step T_ok (GOk.cons allAc_ok .nil) rfl ?_; conv => whnf)
    all_goals exact leaf0 rfl (congrArg AVal.bool (allA_any xs)) rfl


/-- The opposite, as a Bool. -/
def allLN (a : Lf) : Bool := !decide (IsL a)
def allL1C : PCtr := fun hg _ _ vals k => match vals with
  | [.agg [.int .i64 n, .int .i64 d, .int .i64 m, .int .i64 e], .loc j 0] => boxF (hg j) 39 (k [] (.bool (allLN ((n, d), (m, e)))))
  | _ => False

theorem allL1_ok : PCtrOk Try.prog 155 allL1C where
  enter := enter_ok Try.func155 (by kernel_rfl) rfl
  calls := by
    intro hg rg lr vals k h
    unfold allL1C at h
    split at h
    case h_2 => exact h.elim
    rename_i n d m e j
    obtain ⟨hj, hk⟩ := boxF_inv h
    refine ⟨_, _, hk, fun A w hB hR => ?_⟩
    refine enter T_ok (GOk.cons isLeaf_ok .nil) Try.func155 rfl (K := (· < w.heap.size)) (fun _ h => h) (A := A.pick [j] []) (vals := [.agg [.int .i64 n, .int .i64 d, .int .i64 m, .int .i64 e], .loc 0 0]) (n0 := 0) (b0 := 1) (rows := []) (hp := [some [.fn 39 [] []]]) rfl (Nat.zero_le _) (one_box (hB j _ hj)) rfl no_row rfl rfl (Nat.le_of_ble_eq_true rfl) ?_
    conv => whnf
    repeat (refine V_step T_ok (GOk.cons isLeaf_ok .nil) rfl ?_; conv => whnf)
    repeat (any_goals (first
      | (refine V_step T_ok (GOk.cons isLeaf_ok .nil) rfl ?_; conv => whnf)
      | (refine V_drawA T_ok (GOk.cons isLeaf_ok .nil) mixed (by kernel_rfl) ?_; conv => whnf)
      | (refine bcond_split (fun hc => ?_) (fun hc => ?_) <;> (try simp only [decide_eq_true_eq, decide_eq_false_iff_not, Bool.not_eq_true', Bool.not_eq_false', Bool.and_eq_true, Bool.or_eq_true, Bool.and_eq_false_imp, Bool.or_eq_false_iff, ne_eq, Decidable.not_not] at hc) <;> conv => whnf)
      | (intro ysK hysK; have hysl := congrArg List.length hysK; (try simp only [List.length_set, List.length_append, List.length_cons, List.length_nil] at hysl); conv => whnf)
      | (refine And.intro (by first | exact True.intro | (with_reducible assumption) | omega | (simp only [Rng]; omega) | exact Nat.le_of_ble_eq_true rfl | exact True.intro | exact Nat.le_of_ble_eq_true rfl | (refine ⟨by (try simp only [List.length_cons, List.length_nil]); omega, Int.le_trans (Int.mul_le_mul_of_nonneg_left (show (TInfo.bytes _ : Int) ≤ 64 from Int.ofNat_le.2 (Nat.le_of_ble_eq_true rfl)) (by omega)) (by (try simp only [List.length_cons, List.length_nil]); omega)⟩)) ?_; conv => whnf)))
    all_goals exact leaf0 rfl rfl rfl

def allLxC : PCtr := fun hg rg _ vals k => match vals with
  | [.row i, .fn 155 [] [.loc j 0]] => rowC lT (rg i) fun xs => boxF (hg j) 39 (k [] (.int .i64 (idxP allLN xs)))
  | _ => False

theorem allLx_ok : PCtrOk Try.prog 159 allLxC where
  enter := enter_ok Try.func159 (by kernel_rfl) rfl
  calls := by
    intro hg rg lr vals k h
    unfold allLxC at h
    split at h
    case h_2 => exact h.elim
    rename_i i j
    obtain ⟨e, own, xs, hi, h⟩ : ∃ e own, ∃ (xs : List Lf), _ := rowC_inv h
    obtain ⟨hj, hk⟩ := boxF_inv h
    refine ⟨_, _, hk, fun A w hB hR => ?_⟩
    refine enter T_ok (GOk.cons allL1_ok .nil) Try.func159 rfl (K := (· < w.heap.size)) (fun _ h => h) (A := A.pick [j] [i]) (vals := [.row 0, .fn 155 [] [.loc 0 0]]) (n0 := 0) (b0 := 1) (rows := [some ⟨lT, e, false, xs⟩]) (hp := [some [.fn 39 [] []]]) rfl (Nat.zero_le _) (one_box (hB j _ hj)) rfl (one_row (hR i _ hi)) rfl rfl (Nat.le_of_ble_eq_true rfl) ?_
    conv => whnf
    repeat (refine V_step T_ok (GOk.cons allL1_ok .nil) rfl ?_; conv => whnf)
    have hcap' : (@List.length (TyC.α lT) xs : Int) ≤ 9223372036854775807 := by
      have h1 := (hR i _ hi).len
      have h2 := (hR i _ hi).cap
      have h3 := (hR i _ hi).max
      simp only at h1
      have : maxLen = 9223372036854775807 := rfl
      omega
    have hcap : (xs.length : Int) ≤ 9223372036854775807 := hcap'
    refine V_loopH (γ := Nat) (fun n => n ≤ xs.length ∧ ∀ j, j < n → allLN (xs.getD j lT.dflt) = false) (fun n => xs.length - n)
      (fun n => [(8, .int .i64 n)]) (fun _ => []) (fun _ => []) 0 ⟨Nat.zero_le _, fun j h => absurd h (Nat.not_lt_zero _)⟩ ?_ ?_
    · conv => whnf
      refine ⟨?_, by (conv => whnf); repeat (first | exact True.intro | (refine And.intro rfl ?_; conv => whnf)), by (conv => whnf); repeat (first | exact True.intro | (refine And.intro (by first | rfl | (subst_vars; rfl)) ?_; conv => whnf)), rfl, rfl, rfl, rfl, rfl, rfl, rfl, Nat.le_of_ble_eq_true rfl, Nat.le_of_ble_eq_true rfl⟩
      conv => whnf
      repeat (first | exact True.intro | (refine And.intro (by first | rfl | ((conv => whnf); exact congrArg (AVal.int .i64) (by omega)) | ((conv => whnf); exact congrArg (AVal.int .i64) (by simp only [Int.natCast_add, Int.natCast_one]; omega))) ?_; conv => whnf))
    · rintro n ⟨h1, h2⟩
      conv => whnf
      refine vcCode_sound T_ok (GOk.cons allL1_ok .nil) _ _ _ _ _ ?_
      conv => whnf
      repeat (refine V_step T_ok (GOk.cons allL1_ok .nil) rfl ?_; conv => whnf)
      repeat (any_goals (first
        | (refine V_step T_ok (GOk.cons allL1_ok .nil) rfl ?_; conv => whnf)
        | (refine V_drawA T_ok (GOk.cons allL1_ok .nil) mixed (by kernel_rfl) ?_; conv => whnf)
        | (refine bcond_split (fun hc => ?_) (fun hc => ?_) <;> (try simp only [decide_eq_true_eq, decide_eq_false_iff_not, Bool.not_eq_true', Bool.not_eq_false', Bool.and_eq_true, Bool.or_eq_true, Bool.and_eq_false_imp, Bool.or_eq_false_iff, ne_eq, Decidable.not_not] at hc) <;> conv => whnf)
        | (intro ysK hysK; have hysl := congrArg List.length hysK; (try simp only [List.length_set, List.length_append, List.length_cons, List.length_nil] at hysl); conv => whnf)
        | (refine And.intro (by first | (first | exact True.intro | omega | (simp only [Rng]; omega)) | exact True.intro | exact Nat.le_of_ble_eq_true rfl | (refine ⟨by (try simp only [List.length_cons, List.length_nil]); omega, Int.le_trans (Int.mul_le_mul_of_nonneg_left (show (TInfo.bytes _ : Int) ≤ 64 from Int.ofNat_le.2 (Nat.le_of_ble_eq_true rfl)) (by omega)) (by (try simp only [List.length_cons, List.length_nil]); omega)⟩)) ?_; conv => whnf)))
      · rename_i hc0
        have hl : (n : Int) < (xs.length : Nat) := hc0
        exact leaf0 rfl (congrArg (AVal.int .i64) (idxP_found allLN xs n lT.dflt (by omega) h2 hc).symm) rfl
      · rename_i hc0
        have hl : (n : Int) < (xs.length : Nat) := hc0
        refine ⟨n + 1, ⟨by omega, fun j hj => ?_⟩, by omega, ?_⟩
        · rcases Nat.lt_or_ge j n with h | h
          · exact h2 j h
          · obtain rfl : j = n := by omega
            exact hc
        · conv => whnf
          refine ⟨?_, by (conv => whnf); repeat (first | exact True.intro | (refine And.intro rfl ?_; conv => whnf)), by (conv => whnf); repeat (first | exact True.intro | (refine And.intro (by first | rfl | (subst_vars; rfl)) ?_; conv => whnf)), rfl, rfl, rfl, rfl, rfl, rfl, rfl, Nat.le_of_ble_eq_true rfl, Nat.le_of_ble_eq_true rfl⟩
          conv => whnf
          repeat (first | exact True.intro | (refine And.intro (by first | rfl | ((conv => whnf); exact congrArg (AVal.int .i64) (by omega)) | ((conv => whnf); exact congrArg (AVal.int .i64) (by simp only [Int.natCast_add, Int.natCast_one]; omega))) ?_; conv => whnf))
      · have hl : ¬ (n : Int) < (xs.length : Nat) := hc
        exact leaf0 rfl (congrArg (AVal.int .i64) (idxP_none allLN xs lT.dflt (fun j hj => h2 j (by omega))).symm) rfl

def allLcC : PCtr := fun hg rg _ vals k => match vals with
  | [.row i, .fn 155 [] [.loc j 0]] => rowC lT (rg i) fun xs => boxF (hg j) 39 (k [] (.bool (xs.any allLN)))
  | _ => False

theorem allLc_ok : PCtrOk Try.prog 110 allLcC where
  enter := enter_ok Try.func110 (by kernel_rfl) rfl
  calls := by
    intro hg rg lr vals k h
    unfold allLcC at h
    split at h
    case h_2 => exact h.elim
    rename_i i j
    obtain ⟨e, own, xs, hi, h⟩ : ∃ e own, ∃ (xs : List Lf), _ := rowC_inv h
    obtain ⟨hj, hk⟩ := boxF_inv h
    refine ⟨_, _, hk, fun A w hB hR => ?_⟩
    refine enter T_ok (GOk.cons allLx_ok .nil) Try.func110 rfl (K := (· < w.heap.size)) (fun _ h => h) (A := A.pick [j] [i]) (vals := [.row 0, .fn 155 [] [.loc 0 0]]) (n0 := 0) (b0 := 1) (rows := [some ⟨lT, e, false, xs⟩]) (hp := [some [.fn 39 [] []]]) rfl (Nat.zero_le _) (one_box (hB j _ hj)) rfl (one_row (hR i _ hi)) rfl rfl (Nat.le_of_ble_eq_true rfl) ?_
    conv => whnf
    repeat (refine V_step T_ok (GOk.cons allLx_ok .nil) rfl ?_; conv => whnf)
    all_goals exact leaf0 rfl (congrArg AVal.bool (idxP_any allLN xs)) rfl

def allLY (a : Lf) : Bool := decide (IsL a)
theorem allL_any (xs : List Lf) : (!xs.any allLN) = xs.all allLY := by
  induction xs with
  | nil => rfl
  | cons x l ih => simp only [List.any_cons, List.all_cons, ← ih, allLN, allLY, Bool.not_or, Bool.not_not]
def allLC : PCtr := fun hg rg _ vals k => match vals with
  | [.row i, .fn f [] []] => rowC lT (rg i) fun xs => isF f 39 (k [] (.bool (xs.all allLY)))
  | _ => False

theorem allL_ok : PCtrOk Try.prog 97 allLC where
  enter := enter_ok Try.func97 (by kernel_rfl) rfl
  calls := by
    intro hg rg lr vals k h
    unfold allLC at h
    split at h
    case h_2 => exact h.elim
    rename_i i f
    obtain ⟨e, own, xs, hi, h⟩ : ∃ e own, ∃ (xs : List Lf), _ := rowC_inv h
    obtain ⟨rfl, hk⟩ := isF_inv h
    refine ⟨_, _, hk, fun A w hB hR => ?_⟩
    refine enter T_ok (GOk.cons allLc_ok .nil) Try.func97 rfl (K := (· < w.heap.size)) (fun _ h => h) (A := A.pick [] [i]) (vals := [.row 0, .fn 39 [] []]) (n0 := 0) (b0 := 0) (rows := [some ⟨lT, e, false, xs⟩]) (hp := []) rfl (Nat.zero_le _) no_box rfl (one_row (hR i _ hi)) rfl rfl (Nat.le_of_ble_eq_true rfl) ?_
    conv => whnf
    repeat (refine V_step T_ok (GOk.cons allLc_ok .nil) rfl ?_; conv => whnf)
    all_goals exact leaf0 rfl (congrArg AVal.bool (allL_any xs)) rfl


end Go.Proofs.Ytlplngafncobkaa.Fw
