/- Contracts: laminations of the reference, the longest leaf. -/
import Derived.Test.YtlplngafncobkaaC6
namespace Go.Proofs.Ytlplngafncobkaa.Fw
open Go Go.RowKit
set_option linter.unusedVariables false
set_option linter.unusedSimpArgs false
set_option maxRecDepth 100000
set_option maxHeartbeats 2000000

abbrev lC (l : Lf) : List AVal := [.int .i64 l.1.1, .int .i64 l.1.2, .int .i64 l.2.1, .int .i64 l.2.2]
def dL : Lf := ((0, 0), (0, 0))
theorem SmL.size_bd {l : Lf} (h : SmL l) : Bd (sizeL l) := by
  unfold sizeL distA
  split
  · exact h.1.minus h.2
  · exact h.2.minus h.1
theorem foldl_take {α β : Type} (f : β → α → β) (b : β) (xs : List α) (n : Nat) (d : α) (h : n < xs.length) : (xs.take (n + 1)).foldl f b = f ((xs.take n).foldl f b) (xs.getD n d) := by
  rw [List.take_add_one, List.foldl_append, List.getD_eq_getElem?_getD, List.getElem?_eq_getElem h]
  rfl

def longerI (b l : Lf) : Lf := if 0 < cmpA (sizeL l) (sizeL b) then l else b
def longestR (xs : List Lf) : AVal := if lamL xs = true then (if xs = [] then .tup [lV dL, .int .i64 5] else .tup [lV (xs.foldl longerI (xs.getD 0 dL)), .int .i64 0]) else .tup [lV dL, .int .i64 1]
theorem longestR_bad {xs : List Lf} (h : lamL xs = false) : longestR xs = .tup [lV dL, .int .i64 1] := by simp [longestR, h]
theorem longestR_nil {xs : List Lf} (h : lamL xs = true) (hx : xs = []) : longestR xs = .tup [lV dL, .int .i64 5] := by rw [longestR, if_pos h, if_pos hx]
theorem longestR_good {xs : List Lf} (h : lamL xs = true) (hx : xs ≠ []) : longestR xs = .tup [lV (xs.foldl longerI (xs.getD 0 dL)), .int .i64 0] := by rw [longestR, if_pos h, if_neg hx]
def longestC : PCtr := fun _ rg _ vals k => match vals with
  | [.row i] => rowC lT (rg i) fun xs => True ∧ k [] (longestR xs)
  | _ => False

theorem lam_all {xs : List Lf} (h : lamL xs = true) : ∀ x ∈ xs, IsL x := fun x hx => by
  simp only [lamL, Bool.and_eq_true] at h
  have := List.all_eq_true.1 h.2.1 x hx
  simpa [allLY] using this

abbrev G7 := GOk.cons lam_ok (GOk.cons size_ok (GOk.cons cmpA_ok .nil))
theorem longest_ok : PCtrOk Try.prog 17 longestC where
  enter := enter_ok Try.func17 (by kernel_rfl) rfl
  calls := by
    intro hg rg lr vals k h
    unfold longestC at h
    split at h
    case h_2 => exact h.elim
    rename_i i
    obtain ⟨e, own, xs, hi, h⟩ : ∃ e own, ∃ (xs : List Lf), _ := rowC_inv h
    have hk := h.2
    refine ⟨_, _, hk, fun A w hB hR => ?_⟩
    refine enter T_ok G7 Try.func17 rfl (K := (· < w.heap.size)) (fun _ h => h) (A := A.pick [] [i]) (vals := [.row 0]) (n0 := 0) (b0 := 0) (rows := [some ⟨lT, e, false, xs⟩]) (hp := []) rfl (Nat.zero_le _) no_box rfl (one_row (hR i _ hi)) rfl rfl (Nat.le_of_ble_eq_true rfl) ?_
    conv => whnf
    repeat (refine V_step T_ok G7 rfl ?_; conv => whnf)
    have hcap' : (@List.length (TyC.α lT) xs : Int) ≤ 9223372036854775807 := by
      have h1 := (hR i _ hi).len
      have h2 := (hR i _ hi).cap
      have h3 := (hR i _ hi).max
      simp only at h1
      have : maxLen = 9223372036854775807 := rfl
      omega
    repeat (any_goals (first
      | (refine V_step T_ok G7 rfl ?_; conv => whnf)
      | (refine V_drawA T_ok G7 mixed (by kernel_rfl) ?_; conv => whnf)
      | (refine bcond_split (fun hc => ?_) (fun hc => ?_) <;> (try simp only [decide_eq_true_eq, decide_eq_false_iff_not, Bool.not_eq_true', Bool.not_eq_false', Bool.and_eq_true, Bool.or_eq_true, Bool.and_eq_false_imp, Bool.or_eq_false_iff, ne_eq, Decidable.not_not] at hc) <;> conv => whnf)
      | (intro ysK hysK; have hysl := congrArg List.length hysK; (try simp only [List.length_set, List.length_append, List.length_cons, List.length_nil] at hysl); conv => whnf)
      | (refine And.intro (by first | (first | exact True.intro | omega | (simp only [Rng]; omega) | (have hn := hc; omega)) | exact True.intro | exact Nat.le_of_ble_eq_true rfl | (refine ⟨by (try simp only [List.length_cons, List.length_nil]); omega, Int.le_trans (Int.mul_le_mul_of_nonneg_left (show (TInfo.bytes _ : Int) ≤ 64 from Int.ofNat_le.2 (Nat.le_of_ble_eq_true rfl)) (by omega)) (by (try simp only [List.length_cons, List.length_nil]); omega)⟩)) ?_; conv => whnf)))
    · have hc : lamL xs = false := hc
      exact leaf0 rfl (longestR_bad hc).symm (by rw [longestR_bad hc]; rfl)
    · rename_i hc0
      have hc0 : lamL xs = true := hc0
      have hc : (xs.length : Int) = 0 := hc
      have hx : xs = [] := List.eq_nil_of_length_eq_zero (by omega)
      exact leaf0 rfl (longestR_nil hc0 hx).symm (by rw [longestR_nil hc0 hx]; rfl)
    · rename_i hc0
      have hc0 : lamL xs = true := hc0
      have hc : ¬ (xs.length : Int) = 0 := hc
      have hx : xs ≠ [] := fun h => hc (by rw [h]; rfl)
      have hS : ∀ x ∈ xs, SmL x := fun x hx => (lam_all hc0 x hx).sm
      have hgS : ∀ j, j < xs.length → SmL (xs.getD j dL) := fun j hj => hS _ (getD_mem hj)
      refine V_loopH (γ := Nat × Lf) (fun g => g.1 ≤ xs.length ∧ SmL g.2 ∧ g.2 = (xs.take g.1).foldl longerI (xs.getD 0 dL)) (fun g => xs.length - g.1)
        (fun g => [(22, .int .i64 g.1)]) (fun g => [(1, lC g.2)]) (fun _ => []) (0, xs.getD 0 dL) ⟨Nat.zero_le _, hgS 0 (by omega), rfl⟩ ?_ ?_
      · conv => whnf
        refine ⟨?_, by (conv => whnf); repeat (first | exact True.intro | (refine And.intro rfl ?_; conv => whnf)), by (conv => whnf); repeat (first | exact True.intro | (refine And.intro (by first | rfl | (subst_vars; rfl)) ?_; conv => whnf)), rfl, rfl, rfl, rfl, rfl, rfl, rfl, Nat.le_of_ble_eq_true rfl, Nat.le_of_ble_eq_true rfl⟩
        conv => whnf
        repeat (first | exact True.intro | (refine And.intro (by first | rfl | ((conv => whnf); exact congrArg (AVal.int .i64) (by omega)) | ((conv => whnf); exact congrArg (AVal.int .i64) (by simp only [Int.natCast_add, Int.natCast_one]; omega))) ?_; conv => whnf))
      · rintro ⟨n, b⟩ ⟨h1, h2, h3⟩
        simp only at h1 h2 h3
        conv => whnf
        refine vcCode_sound T_ok G7 _ _ _ _ _ ?_
        conv => whnf
        repeat (refine V_step T_ok G7 rfl ?_; conv => whnf)
        repeat (any_goals (first
          | (refine V_step T_ok G7 rfl ?_; conv => whnf)
          | (refine V_drawA T_ok G7 mixed (by kernel_rfl) ?_; conv => whnf)
          | (refine bcond_split (fun hc => ?_) (fun hc => ?_) <;> (try simp only [decide_eq_true_eq, decide_eq_false_iff_not, Bool.not_eq_true', Bool.not_eq_false', Bool.and_eq_true, Bool.or_eq_true, Bool.and_eq_false_imp, Bool.or_eq_false_iff, ne_eq, Decidable.not_not] at hc) <;> conv => whnf)
          | (intro ysK hysK; have hysl := congrArg List.length hysK; (try simp only [List.length_set, List.length_append, List.length_cons, List.length_nil] at hysl); conv => whnf)
          | (refine And.intro (by first | (first | exact True.intro | omega | (simp only [Rng]; omega) | exact h2 | exact hgS n (by (have hl' : (n : Int) < (List.length (α := Lf) xs : Nat) := by assumption); omega) | exact ⟨SmL.size_bd (hgS n (by (have hl' : (n : Int) < (List.length (α := Lf) xs : Nat) := by assumption); omega)), SmL.size_bd h2⟩) | exact True.intro | exact Nat.le_of_ble_eq_true rfl | (refine ⟨by (try simp only [List.length_cons, List.length_nil]); omega, Int.le_trans (Int.mul_le_mul_of_nonneg_left (show (TInfo.bytes _ : Int) ≤ 64 from Int.ofNat_le.2 (Nat.le_of_ble_eq_true rfl)) (by omega)) (by (try simp only [List.length_cons, List.length_nil]); omega)⟩)) ?_; conv => whnf)))
        · rename_i hc1
          have hl : (n : Int) < (xs.length : Nat) := hc1
          have hc' : 0 < cmpA (sizeL (xs.getD n dL)) (sizeL b) := hc
          refine ⟨(n + 1, xs.getD n dL), ⟨by simp only; omega, hgS n (by omega), ?_⟩, by simp only; omega, ?_⟩
          · rw [foldl_take _ _ _ n dL (by omega), ← h3, longerI, if_pos hc']
          · conv => whnf
            refine ⟨?_, by (conv => whnf); repeat (first | exact True.intro | (refine And.intro rfl ?_; conv => whnf)), by (conv => whnf); repeat (first | exact True.intro | (refine And.intro (by first | rfl | (subst_vars; rfl)) ?_; conv => whnf)), rfl, rfl, rfl, rfl, rfl, rfl, rfl, Nat.le_of_ble_eq_true rfl, Nat.le_of_ble_eq_true rfl⟩
            conv => whnf
            repeat (first | exact True.intro | (refine And.intro (by first | rfl | ((conv => whnf); exact congrArg (AVal.int .i64) (by omega)) | ((conv => whnf); exact congrArg (AVal.int .i64) (by simp only [Int.natCast_add, Int.natCast_one]; omega))) ?_; conv => whnf))
        · rename_i hc1
          have hl : (n : Int) < (xs.length : Nat) := hc1
          have hc' : ¬ 0 < cmpA (sizeL (xs.getD n dL)) (sizeL b) := hc
          refine ⟨(n + 1, b), ⟨by simp only; omega, h2, ?_⟩, by simp only; omega, ?_⟩
          · rw [foldl_take _ _ _ n dL (by omega), ← h3, longerI, if_neg hc']
          · conv => whnf
            refine ⟨?_, by (conv => whnf); repeat (first | exact True.intro | (refine And.intro rfl ?_; conv => whnf)), by (conv => whnf); repeat (first | exact True.intro | (refine And.intro (by first | rfl | (subst_vars; rfl)) ?_; conv => whnf)), rfl, rfl, rfl, rfl, rfl, rfl, rfl, Nat.le_of_ble_eq_true rfl, Nat.le_of_ble_eq_true rfl⟩
            conv => whnf
            repeat (first | exact True.intro | (refine And.intro (by first | rfl | ((conv => whnf); exact congrArg (AVal.int .i64) (by omega)) | ((conv => whnf); exact congrArg (AVal.int .i64) (by simp only [Int.natCast_add, Int.natCast_one]; omega))) ?_; conv => whnf))
        · have hl : ¬ (n : Int) < (xs.length : Nat) := hc
          have hn : xs.take n = xs := List.take_of_length_le (by omega)
          rw [hn] at h3
          refine leaf0 rfl ?_ (by rw [longestR_good hc0 hx]; rfl)
          rw [longestR_good hc0 hx, ← h3]

/-- What the reference asks of the leaf with a number. -/
def sOkAt (xs : List Lf) (i : Nat) : Bool := (decide (IsL (xs.getD i dL)) && (!decide (0 < i) || sLessL (xs.getD (i - 1) dL) (xs.getD i dL))) && !(xs.take i).any (sCrossL (xs.getD i dL))
def sLamL (xs : List Lf) : Bool := decide (xs.length ≤ 200) && (List.range xs.length).all (sOkAt xs)
theorem sLam_bad {xs : List Lf} {n : Nat} (h : n < xs.length) (hb : sOkAt xs n = false) : sLamL xs = false := by
  have : (List.range xs.length).all (sOkAt xs) = false := by
    rw [List.all_eq_false]
    exact ⟨n, List.mem_range.2 h, by rw [hb]; simp⟩
  rw [sLamL, this, Bool.and_false]
theorem sOkAt_isL {xs : List Lf} {n : Nat} (h : sOkAt xs n = true) : IsL (xs.getD n dL) := by
  simp only [sOkAt, Bool.and_eq_true, decide_eq_true_eq] at h
  exact h.1.1
theorem any_take_mem {xs : List Lf} {p : Lf → Bool} {n m : Nat} (h : m < n) (hn : n ≤ xs.length) (hp : p (xs.getD m dL) = true) : (xs.take n).any p = true := by
  rw [List.any_eq_true]
  refine ⟨_, ?_, hp⟩
  rw [List.getD_eq_getElem?_getD, List.getElem?_eq_getElem (by omega)]
  exact List.mem_take_iff_getElem.2 ⟨m, by omega, rfl⟩
theorem any_take_false {xs : List Lf} {p : Lf → Bool} {n : Nat} (hn : n ≤ xs.length) (h : ∀ m, m < n → p (xs.getD m dL) = false) : (xs.take n).any p = false := by
  rw [List.any_eq_false]
  intro x hx
  obtain ⟨m, hm, rfl⟩ := List.mem_take_iff_getElem.1 hx
  have := h m (by omega)
  rw [List.getD_eq_getElem?_getD, List.getElem?_eq_getElem (by omega)] at this
  rw [show xs[m] = (some xs[m]).getD dL from rfl, this]; simp

def sLamC : PCtr := fun _ rg _ vals k => match vals with
  | [.row i] => rowC lT (rg i) fun xs => True ∧ k [] (.bool (sLamL xs))
  | _ => False

abbrev G8 := GOk.cons sIsL_ok (GOk.cons sLessL_ok (GOk.cons sCrossL_ok .nil))
theorem sLam_ok : PCtrOk Try.prog 82 sLamC where
  enter := enter_ok Try.func82 (by kernel_rfl) rfl
  calls := by
    intro hg rg lr vals k h
    unfold sLamC at h
    split at h
    case h_2 => exact h.elim
    rename_i i
    obtain ⟨e, own, xs, hi, h⟩ : ∃ e own, ∃ (xs : List Lf), _ := rowC_inv h
    have hk := h.2
    refine ⟨_, _, hk, fun A w hB hR => ?_⟩
    refine enter T_ok G8 Try.func82 rfl (K := (· < w.heap.size)) (fun _ h => h) (A := A.pick [] [i]) (vals := [.row 0]) (n0 := 0) (b0 := 0) (rows := [some ⟨lT, e, false, xs⟩]) (hp := []) rfl (Nat.zero_le _) no_box rfl (one_row (hR i _ hi)) rfl rfl (Nat.le_of_ble_eq_true rfl) ?_
    conv => whnf
    repeat (refine V_step T_ok G8 rfl ?_; conv => whnf)
    have hcap' : (@List.length (TyC.α lT) xs : Int) ≤ 9223372036854775807 := by
      have h1 := (hR i _ hi).len
      have h2 := (hR i _ hi).cap
      have h3 := (hR i _ hi).max
      simp only at h1
      have : maxLen = 9223372036854775807 := rfl
      omega
    repeat (any_goals (first
      | (refine V_step T_ok G8 rfl ?_; conv => whnf)
      | (refine V_drawA T_ok G8 mixed (by kernel_rfl) ?_; conv => whnf)
      | (refine bcond_split (fun hc => ?_) (fun hc => ?_) <;> (try simp only [decide_eq_true_eq, decide_eq_false_iff_not, Bool.not_eq_true', Bool.not_eq_false', Bool.and_eq_true, Bool.or_eq_true, Bool.and_eq_false_imp, Bool.or_eq_false_iff, ne_eq, Decidable.not_not] at hc) <;> conv => whnf)
      | (intro ysK hysK; have hysl := congrArg List.length hysK; (try simp only [List.length_set, List.length_append, List.length_cons, List.length_nil] at hysl); conv => whnf)
      | (refine And.intro (by first | exact True.intro | (with_reducible assumption) | omega | (simp only [Rng]; omega) | exact Nat.le_of_ble_eq_true rfl | exact True.intro | exact Nat.le_of_ble_eq_true rfl | (refine ⟨by (try simp only [List.length_cons, List.length_nil]); omega, Int.le_trans (Int.mul_le_mul_of_nonneg_left (show (TInfo.bytes _ : Int) ≤ 64 from Int.ofNat_le.2 (Nat.le_of_ble_eq_true rfl)) (by omega)) (by (try simp only [List.length_cons, List.length_nil]); omega)⟩)) ?_; conv => whnf)))
    · have h200 : 200 < (xs.length : Int) := hc
      refine leaf0 rfl (congrArg AVal.bool ?_) rfl
      rw [sLamL, show decide (xs.length ≤ 200) = false from by simp; omega, Bool.false_and]
    · have h200 : ¬ 200 < (xs.length : Int) := hc
      have e200 : decide (xs.length ≤ 200) = true := by simp; omega
      refine V_loopH (γ := Nat) (fun n => n ≤ xs.length ∧ ∀ j, j < n → sOkAt xs j = true) (fun n => xs.length - n)
        (fun n => [(3, .int .i64 n)]) (fun _ => []) (fun _ => []) 0 ⟨Nat.zero_le _, fun j h => absurd h (Nat.not_lt_zero _)⟩ ?_ ?_
      · conv => whnf
        refine ⟨?_, by (conv => whnf); repeat (first | exact True.intro | (refine And.intro rfl ?_; conv => whnf)), by (conv => whnf); repeat (first | exact True.intro | (refine And.intro (by first | rfl | (subst_vars; rfl)) ?_; conv => whnf)), rfl, rfl, rfl, rfl, rfl, rfl, rfl, Nat.le_of_ble_eq_true rfl, Nat.le_of_ble_eq_true rfl⟩
        conv => whnf
        repeat (first | exact True.intro | (refine And.intro (by first | rfl | ((conv => whnf); exact congrArg (AVal.int .i64) (by omega)) | ((conv => whnf); exact congrArg (AVal.int .i64) (by simp only [Int.natCast_add, Int.natCast_one]; omega))) ?_; conv => whnf))
      · rintro n ⟨h1, h2⟩
        have hbd : IsL (xs.getD n dL) → BdL (xs.getD n dL) := fun h => h.sm.bd
        have hbp : 0 < n → BdL (xs.getD (n - 1) dL) := fun h => (sOkAt_isL (h2 (n - 1) (by omega))).sm.bd
        have e1 : ((n : Int) - 1).toNat = n - 1 := by omega
        conv => whnf
        refine vcCode_sound T_ok G8 _ _ _ _ _ ?_
        conv => whnf
        repeat (refine V_step T_ok G8 rfl ?_; conv => whnf)
        repeat (any_goals (first
          | (refine V_step T_ok G8 rfl ?_; conv => whnf)
          | (refine V_drawA T_ok G8 mixed (by kernel_rfl) ?_; conv => whnf)
          | (refine bcond_split (fun hc => ?_) (fun hc => ?_) <;> (try simp only [decide_eq_true_eq, decide_eq_false_iff_not, Bool.not_eq_true', Bool.not_eq_false', Bool.and_eq_true, Bool.or_eq_true, Bool.and_eq_false_imp, Bool.or_eq_false_iff, ne_eq, Decidable.not_not] at hc) <;> conv => whnf)
          | (intro ysK hysK; have hysl := congrArg List.length hysK; (try simp only [List.length_set, List.length_append, List.length_cons, List.length_nil] at hysl); conv => whnf)
          | (refine And.intro (by first | (first | exact True.intro | omega | (simp only [Rng]; omega) | exact ⟨by rw [e1]; exact hbp (by omega), hbd (by assumption)⟩) | exact True.intro | exact Nat.le_of_ble_eq_true rfl | (refine ⟨by (try simp only [List.length_cons, List.length_nil]); omega, Int.le_trans (Int.mul_le_mul_of_nonneg_left (show (TInfo.bytes _ : Int) ≤ 64 from Int.ofNat_le.2 (Nat.le_of_ble_eq_true rfl)) (by omega)) (by (try simp only [List.length_cons, List.length_nil]); omega)⟩)) ?_; conv => whnf)))
        · rename_i hc1
          have hl : (n : Int) < (xs.length : Nat) := hc1
          have hc' : ¬ IsL (xs.getD n dL) := hc
          exact leaf0 rfl (congrArg AVal.bool (sLam_bad (n := n) (by omega) (by simp only [sOkAt, decide_eq_false hc', Bool.false_and])).symm) rfl
        · rename_i hc1 hc2 hc3
          have hl : (n : Int) < (xs.length : Nat) := hc1
          have hc' : sLessL (xs.getD (n - 1) dL) (xs.getD n dL) = false := by rw [← e1]; exact hc
          exact leaf0 rfl (congrArg AVal.bool (sLam_bad (n := n) (by omega) (by simp only [sOkAt, hc', decide_eq_true (show 0 < n by omega)]; simp)).symm) rfl
        · rename_i hc1 hc2 hc3
          have hl : (n : Int) < (xs.length : Nat) := hc1
          have hc4 : IsL (xs.getD n dL) := hc2
          have hc' : sLessL (xs.getD (n - 1) dL) (xs.getD n dL) = true := by rw [← e1]; exact hc
          have hok : (decide (IsL (xs.getD n dL)) && (!decide (0 < n) || sLessL (xs.getD (n - 1) dL) (xs.getD n dL))) = true := by rw [decide_eq_true hc4, hc']; simp
          have hbn := hbd hc4
          refine V_loopH (γ := Nat) (fun m => m ≤ n ∧ ∀ j, j < m → sCrossL (xs.getD n dL) (xs.getD j dL) = false) (fun m => n - m)
            (fun m => [(4, .int .i64 m)]) (fun _ => []) (fun _ => []) 0 ⟨Nat.zero_le _, fun j h => absurd h (Nat.not_lt_zero _)⟩ ?_ ?_
          · conv => whnf
            refine ⟨?_, by (conv => whnf); repeat (first | exact True.intro | (refine And.intro rfl ?_; conv => whnf)), by (conv => whnf); repeat (first | exact True.intro | (refine And.intro (by first | rfl | (subst_vars; rfl)) ?_; conv => whnf)), rfl, rfl, rfl, rfl, rfl, rfl, rfl, Nat.le_of_ble_eq_true rfl, Nat.le_of_ble_eq_true rfl⟩
            conv => whnf
            repeat (first | exact True.intro | (refine And.intro (by first | rfl | ((conv => whnf); exact congrArg (AVal.int .i64) (by omega)) | ((conv => whnf); exact congrArg (AVal.int .i64) (by simp only [Int.natCast_add, Int.natCast_one]; omega))) ?_; conv => whnf))
          · rintro m ⟨h3, h4⟩
            have hbm : m < n → BdL (xs.getD m dL) := fun h => (sOkAt_isL (h2 m h)).sm.bd
            conv => whnf
            refine vcCode_sound T_ok G8 _ _ _ _ _ ?_
            conv => whnf
            repeat (refine V_step T_ok G8 rfl ?_; conv => whnf)
            repeat (any_goals (first
              | (refine V_step T_ok G8 rfl ?_; conv => whnf)
              | (refine V_drawA T_ok G8 mixed (by kernel_rfl) ?_; conv => whnf)
              | (refine bcond_split (fun hc => ?_) (fun hc => ?_) <;> (try simp only [decide_eq_true_eq, decide_eq_false_iff_not, Bool.not_eq_true', Bool.not_eq_false', Bool.and_eq_true, Bool.or_eq_true, Bool.and_eq_false_imp, Bool.or_eq_false_iff, ne_eq, Decidable.not_not] at hc) <;> conv => whnf)
              | (intro ysK hysK; have hysl := congrArg List.length hysK; (try simp only [List.length_set, List.length_append, List.length_cons, List.length_nil] at hysl); conv => whnf)
              | (refine And.intro (by first | (first | exact True.intro | omega | (simp only [Rng]; omega) | (refine ⟨by omega, ?_⟩; have hll : (n : Int) < (@List.length (TyC.α lT) xs : Nat) := hl; omega) | exact ⟨hbn, hbm (by omega)⟩) | exact True.intro | exact Nat.le_of_ble_eq_true rfl | (refine ⟨by (try simp only [List.length_cons, List.length_nil]); omega, Int.le_trans (Int.mul_le_mul_of_nonneg_left (show (TInfo.bytes _ : Int) ≤ 64 from Int.ofNat_le.2 (Nat.le_of_ble_eq_true rfl)) (by omega)) (by (try simp only [List.length_cons, List.length_nil]); omega)⟩)) ?_; conv => whnf)))
            · rename_i hm0
              exact leaf0 rfl (congrArg AVal.bool (sLam_bad (n := n) (by omega) (by simp only [sOkAt, any_take_mem (p := sCrossL (xs.getD n dL)) (m := m) (n := n) (by omega) (by omega) hc, Bool.not_true, Bool.and_false])).symm) rfl
            · rename_i hm0
              refine ⟨m + 1, ⟨by omega, fun j hj => ?_⟩, by omega, ?_⟩
              · rcases Nat.lt_or_ge j m with h | h
                · exact h4 j h
                · obtain rfl : j = m := by omega
                  exact hc
              · conv => whnf
                refine ⟨?_, by (conv => whnf); repeat (first | exact True.intro | (refine And.intro rfl ?_; conv => whnf)), by (conv => whnf); repeat (first | exact True.intro | (refine And.intro (by first | rfl | (subst_vars; rfl)) ?_; conv => whnf)), rfl, rfl, rfl, rfl, rfl, rfl, rfl, Nat.le_of_ble_eq_true rfl, Nat.le_of_ble_eq_true rfl⟩
                conv => whnf
                repeat (first | exact True.intro | (refine And.intro (by first | rfl | ((conv => whnf); exact congrArg (AVal.int .i64) (by omega)) | ((conv => whnf); exact congrArg (AVal.int .i64) (by simp only [Int.natCast_add, Int.natCast_one]; omega))) ?_; conv => whnf))
            · have hmn : m = n := by omega
              refine ⟨n + 1, ⟨by omega, fun j hj => ?_⟩, by omega, ?_⟩
              · rcases Nat.lt_or_ge j n with h | h
                · exact h2 j h
                · obtain rfl : j = n := by omega
                  simp only [sOkAt, any_take_false (p := sCrossL (xs.getD j dL)) (n := j) (by omega) (fun q hq => h4 q (by omega)), Bool.not_false, Bool.and_true]
                  exact hok
              · conv => whnf
                refine ⟨?_, by (conv => whnf); repeat (first | exact True.intro | (refine And.intro rfl ?_; conv => whnf)), by (conv => whnf); repeat (first | exact True.intro | (refine And.intro (by first | rfl | (subst_vars; rfl)) ?_; conv => whnf)), rfl, rfl, rfl, rfl, rfl, rfl, rfl, Nat.le_of_ble_eq_true rfl, Nat.le_of_ble_eq_true rfl⟩
                conv => whnf
                repeat (first | exact True.intro | (refine And.intro (by first | rfl | ((conv => whnf); exact congrArg (AVal.int .i64) (by omega)) | ((conv => whnf); exact congrArg (AVal.int .i64) (by simp only [Int.natCast_add, Int.natCast_one]; omega))) ?_; conv => whnf))
        · rename_i hc1 hc2
          have hl : (n : Int) < (xs.length : Nat) := hc1
          have hc4 : IsL (xs.getD n dL) := hc2
          have hok : (decide (IsL (xs.getD n dL)) && (!decide (0 < n) || sLessL (xs.getD (n - 1) dL) (xs.getD n dL))) = true := by
            rw [decide_eq_true hc4, decide_eq_false (show ¬ 0 < n by omega)]; rfl
          have hbn := hbd hc4
          refine V_loopH (γ := Nat) (fun m => m ≤ n ∧ ∀ j, j < m → sCrossL (xs.getD n dL) (xs.getD j dL) = false) (fun m => n - m)
            (fun m => [(4, .int .i64 m)]) (fun _ => []) (fun _ => []) 0 ⟨Nat.zero_le _, fun j h => absurd h (Nat.not_lt_zero _)⟩ ?_ ?_
          · conv => whnf
            refine ⟨?_, by (conv => whnf); repeat (first | exact True.intro | (refine And.intro rfl ?_; conv => whnf)), by (conv => whnf); repeat (first | exact True.intro | (refine And.intro (by first | rfl | (subst_vars; rfl)) ?_; conv => whnf)), rfl, rfl, rfl, rfl, rfl, rfl, rfl, Nat.le_of_ble_eq_true rfl, Nat.le_of_ble_eq_true rfl⟩
            conv => whnf
            repeat (first | exact True.intro | (refine And.intro (by first | rfl | ((conv => whnf); exact congrArg (AVal.int .i64) (by omega)) | ((conv => whnf); exact congrArg (AVal.int .i64) (by simp only [Int.natCast_add, Int.natCast_one]; omega))) ?_; conv => whnf))
          · rintro m ⟨h3, h4⟩
            have hbm : m < n → BdL (xs.getD m dL) := fun h => (sOkAt_isL (h2 m h)).sm.bd
            conv => whnf
            refine vcCode_sound T_ok G8 _ _ _ _ _ ?_
            conv => whnf
            repeat (refine V_step T_ok G8 rfl ?_; conv => whnf)
            repeat (any_goals (first
              | (refine V_step T_ok G8 rfl ?_; conv => whnf)
              | (refine V_drawA T_ok G8 mixed (by kernel_rfl) ?_; conv => whnf)
              | (refine bcond_split (fun hc => ?_) (fun hc => ?_) <;> (try simp only [decide_eq_true_eq, decide_eq_false_iff_not, Bool.not_eq_true', Bool.not_eq_false', Bool.and_eq_true, Bool.or_eq_true, Bool.and_eq_false_imp, Bool.or_eq_false_iff, ne_eq, Decidable.not_not] at hc) <;> conv => whnf)
              | (intro ysK hysK; have hysl := congrArg List.length hysK; (try simp only [List.length_set, List.length_append, List.length_cons, List.length_nil] at hysl); conv => whnf)
              | (refine And.intro (by first | (first | exact True.intro | omega | (simp only [Rng]; omega) | (refine ⟨by omega, ?_⟩; have hll : (n : Int) < (@List.length (TyC.α lT) xs : Nat) := hl; omega) | exact ⟨hbn, hbm (by omega)⟩) | exact True.intro | exact Nat.le_of_ble_eq_true rfl | (refine ⟨by (try simp only [List.length_cons, List.length_nil]); omega, Int.le_trans (Int.mul_le_mul_of_nonneg_left (show (TInfo.bytes _ : Int) ≤ 64 from Int.ofNat_le.2 (Nat.le_of_ble_eq_true rfl)) (by omega)) (by (try simp only [List.length_cons, List.length_nil]); omega)⟩)) ?_; conv => whnf)))
            · rename_i hm0
              exact leaf0 rfl (congrArg AVal.bool (sLam_bad (n := n) (by omega) (by simp only [sOkAt, any_take_mem (p := sCrossL (xs.getD n dL)) (m := m) (n := n) (by omega) (by omega) hc, Bool.not_true, Bool.and_false])).symm) rfl
            · rename_i hm0
              refine ⟨m + 1, ⟨by omega, fun j hj => ?_⟩, by omega, ?_⟩
              · rcases Nat.lt_or_ge j m with h | h
                · exact h4 j h
                · obtain rfl : j = m := by omega
                  exact hc
              · conv => whnf
                refine ⟨?_, by (conv => whnf); repeat (first | exact True.intro | (refine And.intro rfl ?_; conv => whnf)), by (conv => whnf); repeat (first | exact True.intro | (refine And.intro (by first | rfl | (subst_vars; rfl)) ?_; conv => whnf)), rfl, rfl, rfl, rfl, rfl, rfl, rfl, Nat.le_of_ble_eq_true rfl, Nat.le_of_ble_eq_true rfl⟩
                conv => whnf
                repeat (first | exact True.intro | (refine And.intro (by first | rfl | ((conv => whnf); exact congrArg (AVal.int .i64) (by omega)) | ((conv => whnf); exact congrArg (AVal.int .i64) (by simp only [Int.natCast_add, Int.natCast_one]; omega))) ?_; conv => whnf))
            · have hmn : m = n := by omega
              refine ⟨n + 1, ⟨by omega, fun j hj => ?_⟩, by omega, ?_⟩
              · rcases Nat.lt_or_ge j n with h | h
                · exact h2 j h
                · obtain rfl : j = n := by omega
                  simp only [sOkAt, any_take_false (p := sCrossL (xs.getD j dL)) (n := j) (by omega) (fun q hq => h4 q (by omega)), Bool.not_false, Bool.and_true]
                  exact hok
              · conv => whnf
                refine ⟨?_, by (conv => whnf); repeat (first | exact True.intro | (refine And.intro rfl ?_; conv => whnf)), by (conv => whnf); repeat (first | exact True.intro | (refine And.intro (by first | rfl | (subst_vars; rfl)) ?_; conv => whnf)), rfl, rfl, rfl, rfl, rfl, rfl, rfl, Nat.le_of_ble_eq_true rfl, Nat.le_of_ble_eq_true rfl⟩
                conv => whnf
                repeat (first | exact True.intro | (refine And.intro (by first | rfl | ((conv => whnf); exact congrArg (AVal.int .i64) (by omega)) | ((conv => whnf); exact congrArg (AVal.int .i64) (by simp only [Int.natCast_add, Int.natCast_one]; omega))) ?_; conv => whnf))
        · have hl : ¬ (n : Int) < (xs.length : Nat) := hc
          refine leaf0 rfl (congrArg AVal.bool ?_) rfl
          rw [sLamL, e200, Bool.true_and, eq_comm, List.all_eq_true]
          intro j hj
          exact h2 j (by have := List.mem_range.1 hj; omega)

end Go.Proofs.Ytlplngafncobkaa.Fw
