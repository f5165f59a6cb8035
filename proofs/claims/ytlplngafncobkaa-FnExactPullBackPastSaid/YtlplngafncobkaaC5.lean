/- Contracts: laminations. -/
import Derived.Test.YtlplngafncobkaaC4
namespace Go.Proofs.Ytlplngafncobkaa.Fw
open Go Go.RowKit
set_option linter.unusedVariables false
set_option linter.unusedSimpArgs false
set_option maxRecDepth 100000
set_option maxHeartbeats 2000000

def orI : List Int → Int
  | [] => 0
  | x :: l => if x = 0 then orI l else x
theorem orI_found : ∀ (l : List Int) (n : Nat), n < l.length → (∀ j, j < n → l.getD j 0 = 0) → l.getD n 0 ≠ 0 → orI l = l.getD n 0
  | [], n, h, _, _ => by simp at h
  | x :: l, 0, h, _, h' => by simp at h'; simp [orI, h']
  | x :: l, n + 1, h, h1, h2 => by
    have h0 : x = 0 := by have := h1 0 (by omega); simpa using this
    have ih := orI_found l n (by simpa using h) (fun j hj => by have := h1 (j + 1) (by omega); simpa using this) (by simpa using h2)
    simp [orI, h0, ih]
theorem orI_none : ∀ (l : List Int), (∀ j, j < l.length → l.getD j 0 = 0) → orI l = 0
  | [], h => rfl
  | x :: l, h => by
    have h0 : x = 0 := by have := h 0 (by simp); simpa using this
    have ih := orI_none l (fun j hj => by have := h (j + 1) (by simpa using hj); simpa using this)
    simp [orI, h0, ih]

abbrev iT : TyC := .int .i64
def orC : PCtr := fun _ rg _ vals k => match vals with
  | [.row i] => rowC iT (rg i) fun xs => True ∧ k [] (.int .i64 (orI xs))
  | _ => False

theorem or_ok : PCtrOk Try.prog 180 orC where
  enter := enter_ok Try.func180 (by kernel_rfl) rfl
  calls := by
    intro hg rg lr vals k h
    unfold orC at h
    split at h
    case h_2 => exact h.elim
    rename_i i
    obtain ⟨e, own, xs, hi, h⟩ : ∃ e own, ∃ (xs : List Int), _ := rowC_inv h
    have hk := h.2
    refine ⟨_, _, hk, fun A w hB hR => ?_⟩
    refine enter T_ok .nil Try.func180 rfl (K := (· < w.heap.size)) (fun _ h => h) (A := A.pick [] [i]) (vals := [.row 0]) (n0 := 0) (b0 := 0) (rows := [some ⟨iT, e, false, xs⟩]) (hp := []) rfl (Nat.zero_le _) no_box rfl (one_row (hR i _ hi)) rfl rfl (Nat.le_of_ble_eq_true rfl) ?_
    conv => whnf
    repeat (refine V_step T_ok .nil rfl ?_; conv => whnf)
    have hcap' : (@List.length (TyC.α iT) xs : Int) ≤ 9223372036854775807 := by
      have h1 := (hR i _ hi).len
      have h2 := (hR i _ hi).cap
      have h3 := (hR i _ hi).max
      simp only at h1
      have : maxLen = 9223372036854775807 := rfl
      omega
    refine V_loopH (γ := Nat) (fun n => n ≤ xs.length ∧ ∀ j, j < n → xs.getD j 0 = 0) (fun n => xs.length - n)
      (fun n => [(8, .int .i64 n)]) (fun _ => []) (fun _ => []) 0 ⟨Nat.zero_le _, fun j h => absurd h (Nat.not_lt_zero _)⟩ ?_ ?_
    · conv => whnf
      refine ⟨?_, by (conv => whnf); repeat (first | exact True.intro | (refine And.intro rfl ?_; conv => whnf)), by (conv => whnf); repeat (first | exact True.intro | (refine And.intro (by first | rfl | (subst_vars; rfl)) ?_; conv => whnf)), rfl, rfl, rfl, rfl, rfl, rfl, rfl, Nat.le_of_ble_eq_true rfl, Nat.le_of_ble_eq_true rfl⟩
      conv => whnf
      repeat (first | exact True.intro | (refine And.intro (by first | rfl | ((conv => whnf); exact congrArg (AVal.int .i64) (by omega)) | ((conv => whnf); exact congrArg (AVal.int .i64) (by simp only [Int.natCast_add, Int.natCast_one]; omega))) ?_; conv => whnf))
    · rintro n ⟨h1, h2⟩
      conv => whnf
      refine vcCode_sound T_ok .nil _ _ _ _ _ ?_
      conv => whnf
      repeat (refine V_step T_ok .nil rfl ?_; conv => whnf)
      repeat (any_goals (first
        | (refine V_step T_ok .nil rfl ?_; conv => whnf)
        | (refine V_drawA T_ok .nil mixed (by kernel_rfl) ?_; conv => whnf)
        | (refine bcond_split (fun hc => ?_) (fun hc => ?_) <;> (try simp only [decide_eq_true_eq, decide_eq_false_iff_not, Bool.not_eq_true', Bool.not_eq_false', Bool.and_eq_true, Bool.or_eq_true, Bool.and_eq_false_imp, Bool.or_eq_false_iff, ne_eq, Decidable.not_not] at hc) <;> conv => whnf)
        | (intro ysK hysK; have hysl := congrArg List.length hysK; (try simp only [List.length_set, List.length_append, List.length_cons, List.length_nil] at hysl); conv => whnf)
        | (refine And.intro (by first | exact True.intro | (with_reducible assumption) | omega | (simp only [Rng]; omega) | exact Nat.le_of_ble_eq_true rfl | exact True.intro | exact Nat.le_of_ble_eq_true rfl | (refine ⟨by (try simp only [List.length_cons, List.length_nil]); omega, Int.le_trans (Int.mul_le_mul_of_nonneg_left (show (TInfo.bytes _ : Int) ≤ 64 from Int.ofNat_le.2 (Nat.le_of_ble_eq_true rfl)) (by omega)) (by (try simp only [List.length_cons, List.length_nil]); omega)⟩)) ?_; conv => whnf)))
      · rename_i hc0
        have hl : (n : Int) < (xs.length : Nat) := hc0
        exact leaf0 rfl (congrArg (AVal.int .i64) (orI_found xs n (by omega) h2 hc).symm) rfl
      · rename_i hc0
        have hl : (n : Int) < (xs.length : Nat) := hc0
        refine ⟨n + 1, ⟨by omega, fun j hj => ?_⟩, by omega, ?_⟩
        · rcases Nat.lt_or_ge j n with h | h
          · exact h2 j h
          · obtain rfl : j = n := by omega
            exact hc
        · conv => whnf
          refine ⟨?_, by (conv => whnf); repeat (first | exact True.intro | (refine And.intro rfl ?_; conv => whnf)), by (conv => whnf); repeat (first | exact True.intro | (refine And.intro (by first | rfl | (subst_vars; rfl)) ?_; conv => whnf)), rfl, rfl, rfl, rfl, rfl, rfl, rfl, Nat.le_of_ble_eq_true rfl, Nat.le_of_ble_eq_true rfl⟩
          conv => whnf
          repeat (first | exact True.intro | (refine And.intro (by first | rfl | ((conv => whnf); exact congrArg (AVal.int .i64) (by omega)) | ((conv => whnf); exact congrArg (AVal.int .i64) (by simp only [Int.natCast_add, Int.natCast_one]; omega))) ?_; conv => whnf))
      · have hl : ¬ (n : Int) < (xs.length : Nat) := hc
        exact leaf0 rfl (congrArg (AVal.int .i64) (orI_none xs (fun j hj => h2 j (by omega))).symm) rfl

def BdL (l : Lf) : Prop := Bd l.1 ∧ Bd l.2
theorem SmL.bd {l : Lf} (h : SmL l) : BdL l := ⟨h.1.bd, h.2.bd⟩

def cmpLC : PCtr := fun _ _ _ vals k => match vals with
  | [.agg [.int .i64 n, .int .i64 d, .int .i64 m, .int .i64 e], .agg [.int .i64 n', .int .i64 d', .int .i64 m', .int .i64 e']] =>
    (BdL ((n, d), (m, e)) ∧ BdL ((n', d'), (m', e'))) ∧ k [] (.int .i64 (cmpL ((n, d), (m, e)) ((n', d'), (m', e'))))
  | _ => False

theorem cmpL_ok : PCtrOk Try.prog 153 cmpLC where
  enter := enter_ok Try.func153 (by kernel_rfl) rfl
  calls := by
    intro hg rg lr vals k h
    unfold cmpLC at h
    split at h
    case h_2 => exact h.elim
    rename_i n d m e n' d' m' e'
    obtain ⟨⟨⟨h1, h2⟩, ⟨h3, h4⟩⟩, hk⟩ := h
    refine ⟨_, _, hk, fun A w _ _ => ?_⟩
    refine enter T_ok (GOk.cons or_ok (GOk.cons cmpA_ok .nil)) Try.func153 rfl (K := (· < w.heap.size)) (fun _ h => h) (A := A) (n0 := 0) (b0 := 0) (rows := []) (hp := []) rfl (Nat.zero_le _) (fun k r h => by cases h) rfl (fun k r h => by cases h) rfl rfl (Nat.le_of_ble_eq_true rfl) ?_
    conv => whnf
    repeat (refine V_step T_ok (GOk.cons or_ok (GOk.cons cmpA_ok .nil)) rfl ?_; conv => whnf)
    repeat (any_goals (first
      | (refine V_step T_ok (GOk.cons or_ok (GOk.cons cmpA_ok .nil)) rfl ?_; conv => whnf)
      | (refine V_drawA T_ok (GOk.cons or_ok (GOk.cons cmpA_ok .nil)) mixed (by kernel_rfl) ?_; conv => whnf)
      | (refine bcond_split (fun hc => ?_) (fun hc => ?_) <;> (try simp only [decide_eq_true_eq, decide_eq_false_iff_not, Bool.not_eq_true', Bool.not_eq_false', Bool.and_eq_true, Bool.or_eq_true, Bool.and_eq_false_imp, Bool.or_eq_false_iff, ne_eq, Decidable.not_not] at hc) <;> conv => whnf)
      | (intro ysK hysK; have hysl := congrArg List.length hysK; (try simp only [List.length_set, List.length_append, List.length_cons, List.length_nil] at hysl); conv => whnf)
      | (refine And.intro (by first | (first | exact True.intro | exact ⟨h1, h3⟩ | exact ⟨h2, h4⟩ | omega | exact Nat.le_of_ble_eq_true rfl) | exact True.intro | exact Nat.le_of_ble_eq_true rfl | (refine ⟨by (try simp only [List.length_cons, List.length_nil]); omega, Int.le_trans (Int.mul_le_mul_of_nonneg_left (show (TInfo.bytes _ : Int) ≤ 64 from Int.ofNat_le.2 (Nat.le_of_ble_eq_true rfl)) (by omega)) (by (try simp only [List.length_cons, List.length_nil]); omega)⟩)) ?_; conv => whnf)))
    all_goals refine leaf0 rfl (congrArg (AVal.int .i64) ?_) rfl
    all_goals simp only [orI, cmpL]
    all_goals (repeat' split) <;> first | rfl | omega

def hasCrossxC : PCtr := fun hg rg _ vals k => match vals with
  | [.row i, .fn 111 [.agg [.int .i64 p, .int .i64 q, .int .i64 r, .int .i64 s]] []] => rowC lT (rg i) fun xs => And (SmL ((p, q), (r, s)) ∧ ∀ x ∈ (xs : List Lf), SmL x) (k [] (.int .i64 (idxP (crossL ((p, q), (r, s))) xs)))
  | _ => False

theorem hasCrossx_ok : PCtrOk Try.prog 159 hasCrossxC where
  enter := enter_ok Try.func159 (by kernel_rfl) rfl
  calls := by
    intro hg rg lr vals k h
    unfold hasCrossxC at h
    split at h
    case h_2 => exact h.elim
    rename_i i p q r s
    obtain ⟨e, own, xs, hi, h⟩ : ∃ e own, ∃ (xs : List Lf), _ := rowC_inv h
    obtain ⟨⟨hl0, hx⟩, hk⟩ := h
    refine ⟨_, _, hk, fun A w hB hR => ?_⟩
    refine enter T_ok (GOk.cons cross_ok .nil) Try.func159 rfl (K := (· < w.heap.size)) (fun _ h => h) (A := A.pick [] [i]) (vals := [.row 0, .fn 111 [.agg [.int .i64 p, .int .i64 q, .int .i64 r, .int .i64 s]] []]) (n0 := 0) (b0 := 0) (rows := [some ⟨lT, e, false, xs⟩]) (hp := []) rfl (Nat.zero_le _) no_box rfl (one_row (hR i _ hi)) rfl rfl (Nat.le_of_ble_eq_true rfl) ?_
    conv => whnf
    repeat (refine V_step T_ok (GOk.cons cross_ok .nil) rfl ?_; conv => whnf)
    have hcap' : (@List.length (TyC.α lT) xs : Int) ≤ 9223372036854775807 := by
      have h1 := (hR i _ hi).len
      have h2 := (hR i _ hi).cap
      have h3 := (hR i _ hi).max
      simp only at h1
      have : maxLen = 9223372036854775807 := rfl
      omega
    have hcap : (xs.length : Int) ≤ 9223372036854775807 := hcap'
    refine V_loopH (γ := Nat) (fun n => n ≤ xs.length ∧ ∀ j, j < n → (crossL ((p, q), (r, s))) (xs.getD j lT.dflt) = false) (fun n => xs.length - n)
      (fun n => [(8, .int .i64 n)]) (fun _ => []) (fun _ => []) 0 ⟨Nat.zero_le _, fun j h => absurd h (Nat.not_lt_zero _)⟩ ?_ ?_
    · conv => whnf
      refine ⟨?_, by (conv => whnf); repeat (first | exact True.intro | (refine And.intro rfl ?_; conv => whnf)), by (conv => whnf); repeat (first | exact True.intro | (refine And.intro (by first | rfl | (subst_vars; rfl)) ?_; conv => whnf)), rfl, rfl, rfl, rfl, rfl, rfl, rfl, Nat.le_of_ble_eq_true rfl, Nat.le_of_ble_eq_true rfl⟩
      conv => whnf
      repeat (first | exact True.intro | (refine And.intro (by first | rfl | ((conv => whnf); exact congrArg (AVal.int .i64) (by omega)) | ((conv => whnf); exact congrArg (AVal.int .i64) (by simp only [Int.natCast_add, Int.natCast_one]; omega))) ?_; conv => whnf))
    · rintro n ⟨h1, h2⟩
      conv => whnf
      refine vcCode_sound T_ok (GOk.cons cross_ok .nil) _ _ _ _ _ ?_
      conv => whnf
      repeat (refine V_step T_ok (GOk.cons cross_ok .nil) rfl ?_; conv => whnf)
      repeat (any_goals (first
        | (refine V_step T_ok (GOk.cons cross_ok .nil) rfl ?_; conv => whnf)
        | (refine V_drawA T_ok (GOk.cons cross_ok .nil) mixed (by kernel_rfl) ?_; conv => whnf)
        | (refine bcond_split (fun hc => ?_) (fun hc => ?_) <;> (try simp only [decide_eq_true_eq, decide_eq_false_iff_not, Bool.not_eq_true', Bool.not_eq_false', Bool.and_eq_true, Bool.or_eq_true, Bool.and_eq_false_imp, Bool.or_eq_false_iff, ne_eq, Decidable.not_not] at hc) <;> conv => whnf)
        | (intro ysK hysK; have hysl := congrArg List.length hysK; (try simp only [List.length_set, List.length_append, List.length_cons, List.length_nil] at hysl); conv => whnf)
        | (refine And.intro (by first | (first | exact True.intro | omega | (simp only [Rng]; omega) | exact ⟨hl0, hx _ (getD_mem (by (have hl' : (n : Int) < (List.length (α := Lf) xs : Nat) := by assumption); show n < _; omega))⟩) | exact True.intro | exact Nat.le_of_ble_eq_true rfl | (refine ⟨by (try simp only [List.length_cons, List.length_nil]); omega, Int.le_trans (Int.mul_le_mul_of_nonneg_left (show (TInfo.bytes _ : Int) ≤ 64 from Int.ofNat_le.2 (Nat.le_of_ble_eq_true rfl)) (by omega)) (by (try simp only [List.length_cons, List.length_nil]); omega)⟩)) ?_; conv => whnf)))
      · rename_i hc0
        have hl : (n : Int) < (xs.length : Nat) := hc0
        exact leaf0 rfl (congrArg (AVal.int .i64) (idxP_found (crossL ((p, q), (r, s))) xs n lT.dflt (by omega) h2 hc).symm) rfl
      · rename_i hc0
        have hl : (n : Int) < (xs.length : Nat) := hc0
        refine ⟨n + 1, ⟨by omega, fun j hj => ?_⟩, by omega, ?_⟩
        · rcases Nat.lt_or_ge j n with h | h
          · exact h2 j h
          · obtain rfl : j = n := by omega
            exact hc
        · conv => whnf
          refine ⟨?_, by (conv => whnf); repeat (first | exact True.intro | (refine And.intro rfl ?_; conv => whnf)), by (conv => whnf); repeat (first | exact True.intro | (refine And.intro (by first | rfl | (subst_vars; rfl)) ?_; conv => whnf)), rfl, rfl, rfl, rfl, rfl, rfl, rfl, Nat.le_of_ble_eq_true rfl, Nat.le_of_ble_eq_true rfl⟩
          conv => whnf
          repeat (first | exact True.intro | (refine And.intro (by first | rfl | ((conv => whnf); exact congrArg (AVal.int .i64) (by omega)) | ((conv => whnf); exact congrArg (AVal.int .i64) (by simp only [Int.natCast_add, Int.natCast_one]; omega))) ?_; conv => whnf))
      · have hl : ¬ (n : Int) < (xs.length : Nat) := hc
        exact leaf0 rfl (congrArg (AVal.int .i64) (idxP_none (crossL ((p, q), (r, s))) xs lT.dflt (fun j hj => h2 j (by omega))).symm) rfl

def hasCrossC : PCtr := fun hg rg _ vals k => match vals with
  | [.row i, .fn 111 [.agg [.int .i64 p, .int .i64 q, .int .i64 r, .int .i64 s]] []] => rowC lT (rg i) fun xs => And (SmL ((p, q), (r, s)) ∧ ∀ x ∈ (xs : List Lf), SmL x) (k [] (.bool (xs.any (crossL ((p, q), (r, s))))))
  | _ => False

theorem hasCross_ok : PCtrOk Try.prog 110 hasCrossC where
  enter := enter_ok Try.func110 (by kernel_rfl) rfl
  calls := by
    intro hg rg lr vals k h
    unfold hasCrossC at h
    split at h
    case h_2 => exact h.elim
    rename_i i p q r s
    obtain ⟨e, own, xs, hi, h⟩ : ∃ e own, ∃ (xs : List Lf), _ := rowC_inv h
    obtain ⟨⟨hl0, hx⟩, hk⟩ := h
    refine ⟨_, _, hk, fun A w hB hR => ?_⟩
    refine enter T_ok (GOk.cons hasCrossx_ok .nil) Try.func110 rfl (K := (· < w.heap.size)) (fun _ h => h) (A := A.pick [] [i]) (vals := [.row 0, .fn 111 [.agg [.int .i64 p, .int .i64 q, .int .i64 r, .int .i64 s]] []]) (n0 := 0) (b0 := 0) (rows := [some ⟨lT, e, false, xs⟩]) (hp := []) rfl (Nat.zero_le _) no_box rfl (one_row (hR i _ hi)) rfl rfl (Nat.le_of_ble_eq_true rfl) ?_
    conv => whnf
    repeat (refine V_step T_ok (GOk.cons hasCrossx_ok .nil) rfl ?_; conv => whnf)
    repeat (any_goals (first
      | (refine V_step T_ok (GOk.cons hasCrossx_ok .nil) rfl ?_; conv => whnf)
      | (refine V_drawA T_ok (GOk.cons hasCrossx_ok .nil) mixed (by kernel_rfl) ?_; conv => whnf)
      | (refine bcond_split (fun hc => ?_) (fun hc => ?_) <;> (try simp only [decide_eq_true_eq, decide_eq_false_iff_not, Bool.not_eq_true', Bool.not_eq_false', Bool.and_eq_true, Bool.or_eq_true, Bool.and_eq_false_imp, Bool.or_eq_false_iff, ne_eq, Decidable.not_not] at hc) <;> conv => whnf)
      | (intro ysK hysK; have hysl := congrArg List.length hysK; (try simp only [List.length_set, List.length_append, List.length_cons, List.length_nil] at hysl); conv => whnf)
      | (refine And.intro (by first | (first | assumption | exact ⟨hl0, hx⟩) | exact True.intro | exact Nat.le_of_ble_eq_true rfl | (refine ⟨by (try simp only [List.length_cons, List.length_nil]); omega, Int.le_trans (Int.mul_le_mul_of_nonneg_left (show (TInfo.bytes _ : Int) ≤ 64 from Int.ofNat_le.2 (Nat.le_of_ble_eq_true rfl)) (by omega)) (by (try simp only [List.length_cons, List.length_nil]); omega)⟩)) ?_; conv => whnf)))
    all_goals exact leaf0 rfl (congrArg AVal.bool (idxP_any (crossL ((p, q), (r, s))) xs)) rfl



/-- What is asked of the leaf with a number. -/
def okAt (xs : List Lf) (i : Nat) : Bool := !((decide (0 < i) && decide (0 ≤ cmpL (xs.getD (i - 1) lT.dflt) (xs.getD i lT.dflt))) || (xs.take i).any (crossL (xs.getD i lT.dflt)))
def lamL (xs : List Lf) : Bool := decide (xs.length ≤ 200) && (xs.all allLY && (List.range xs.length).all (okAt xs))

theorem lam_bad {xs : List Lf} {n : Nat} (h : n < xs.length) (hb : okAt xs n = false) : lamL xs = false := by
  have : (List.range xs.length).all (okAt xs) = false := by
    rw [List.all_eq_false]
    exact ⟨n, List.mem_range.2 h, by rw [hb]; simp⟩
  rw [lamL, this, Bool.and_false, Bool.and_false]

def lamC : PCtr := fun _ rg _ vals k => match vals with
  | [.row i] => rowC lT (rg i) fun xs => True ∧ k [] (.bool (lamL xs))
  | _ => False

abbrev G5 := GOk.cons allL_ok (GOk.cons hasCross_ok (GOk.cons cmpL_ok .nil))
theorem lam_ok : PCtrOk Try.prog 85 lamC where
  enter := enter_ok Try.func85 (by kernel_rfl) rfl
  calls := by
    intro hg rg lr vals k h
    unfold lamC at h
    split at h
    case h_2 => exact h.elim
    rename_i i
    obtain ⟨e, own, xs, hi, h⟩ : ∃ e own, ∃ (xs : List Lf), _ := rowC_inv h
    have hk := h.2
    refine ⟨_, _, hk, fun A w hB hR => ?_⟩
    refine enter T_ok G5 Try.func85 rfl (K := (· < w.heap.size)) (fun _ h => h) (A := A.pick [] [i]) (vals := [.row 0]) (n0 := 0) (b0 := 0) (rows := [some ⟨lT, e, false, xs⟩]) (hp := []) rfl (Nat.zero_le _) no_box rfl (one_row (hR i _ hi)) rfl rfl (Nat.le_of_ble_eq_true rfl) ?_
    conv => whnf
    repeat (refine V_step T_ok G5 rfl ?_; conv => whnf)
    repeat (any_goals (first
      | (refine V_step T_ok G5 rfl ?_; conv => whnf)
      | (refine V_drawA T_ok G5 mixed (by kernel_rfl) ?_; conv => whnf)
      | (refine bcond_split (fun hc => ?_) (fun hc => ?_) <;> (try simp only [decide_eq_true_eq, decide_eq_false_iff_not, Bool.not_eq_true', Bool.not_eq_false', Bool.and_eq_true, Bool.or_eq_true, Bool.and_eq_false_imp, Bool.or_eq_false_iff, ne_eq, Decidable.not_not] at hc) <;> conv => whnf)
      | (intro ysK hysK; have hysl := congrArg List.length hysK; (try simp only [List.length_set, List.length_append, List.length_cons, List.length_nil] at hysl); conv => whnf)
      | (refine And.intro (by first | exact True.intro | (with_reducible assumption) | omega | (simp only [Rng]; omega) | exact Nat.le_of_ble_eq_true rfl | exact True.intro | exact Nat.le_of_ble_eq_true rfl | (refine ⟨by (try simp only [List.length_cons, List.length_nil]); omega, Int.le_trans (Int.mul_le_mul_of_nonneg_left (show (TInfo.bytes _ : Int) ≤ 64 from Int.ofNat_le.2 (Nat.le_of_ble_eq_true rfl)) (by omega)) (by (try simp only [List.length_cons, List.length_nil]); omega)⟩)) ?_; conv => whnf)))
    · have h200 : 200 < (xs.length : Int) := hc
      refine leaf0 rfl (congrArg AVal.bool ?_) rfl
      rw [lamL, show decide (xs.length ≤ 200) = false from by simp; omega, Bool.false_and]
    · have hc : xs.all allLY = false := hc
      refine leaf0 rfl (congrArg AVal.bool ?_) rfl
      rw [lamL, hc, Bool.false_and, Bool.and_false]
    · rename_i hc0
      have h200 : ¬ 200 < (xs.length : Int) := hc0
      have hall : xs.all allLY = true := hc
      have hL : ∀ x ∈ xs, IsL x := fun x hx => by
        have := List.all_eq_true.1 hall x hx
        simpa [allLY] using this
      have hgL : ∀ j, j < xs.length → IsL (xs.getD j lT.dflt) := fun j hj => hL _ (getD_mem hj)
      have hS : ∀ x ∈ xs, SmL x := fun x hx => (hL x hx).sm
      have hgS : ∀ j, j < xs.length → SmL (xs.getD j lT.dflt) := fun j hj => (hgL j hj).sm
      have hgB : ∀ j, j < xs.length → BdL (xs.getD j lT.dflt) := fun j hj => (hgS j hj).bd
      have e200 : decide (xs.length ≤ 200) = true := by simp; omega
      refine V_loopH (γ := Nat) (fun n => n ≤ xs.length ∧ ∀ j, j < n → okAt xs j = true) (fun n => xs.length - n)
        (fun n => [(15, .int .i64 n)]) (fun _ => []) (fun _ => []) 0 ⟨Nat.zero_le _, fun j h => absurd h (Nat.not_lt_zero _)⟩ ?_ ?_
      · conv => whnf
        refine ⟨?_, by (conv => whnf); repeat (first | exact True.intro | (refine And.intro rfl ?_; conv => whnf)), by (conv => whnf); repeat (first | exact True.intro | (refine And.intro (by first | rfl | (subst_vars; rfl)) ?_; conv => whnf)), rfl, rfl, rfl, rfl, rfl, rfl, rfl, Nat.le_of_ble_eq_true rfl, Nat.le_of_ble_eq_true rfl⟩
        conv => whnf
        repeat (first | exact True.intro | (refine And.intro (by first | rfl | ((conv => whnf); exact congrArg (AVal.int .i64) (by omega)) | ((conv => whnf); exact congrArg (AVal.int .i64) (by simp only [Int.natCast_add, Int.natCast_one]; omega))) ?_; conv => whnf))
      · rintro n ⟨h1, h2⟩
        conv => whnf
        refine vcCode_sound T_ok G5 _ _ _ _ _ ?_
        conv => whnf
        repeat (refine V_step T_ok G5 rfl ?_; conv => whnf)
        repeat (any_goals (first
          | (refine V_step T_ok G5 rfl ?_; conv => whnf)
          | (refine V_drawA T_ok G5 mixed (by kernel_rfl) ?_; conv => whnf)
          | (refine bcond_split (fun hc => ?_) (fun hc => ?_) <;> (try simp only [decide_eq_true_eq, decide_eq_false_iff_not, Bool.not_eq_true', Bool.not_eq_false', Bool.and_eq_true, Bool.or_eq_true, Bool.and_eq_false_imp, Bool.or_eq_false_iff, ne_eq, Decidable.not_not] at hc) <;> conv => whnf)
          | (intro ysK hysK; have hysl := congrArg List.length hysK; (try simp only [List.length_set, List.length_append, List.length_cons, List.length_nil] at hysl); conv => whnf)
          | (refine And.intro (by first | (first | exact True.intro | omega | (simp only [Rng]; omega) | exact Nat.le_of_ble_eq_true rfl | exact ⟨hgB _ (by (have hl' : (n : Int) < (List.length (α := Lf) xs : Nat) := by assumption); omega), hgB _ (by (have hl' : (n : Int) < (List.length (α := Lf) xs : Nat) := by assumption); omega)⟩ | exact ⟨hgS _ (by (have hl' : (n : Int) < (List.length (α := Lf) xs : Nat) := by assumption); omega), fun x hx => hS x (List.mem_of_mem_take hx)⟩) | exact True.intro | exact Nat.le_of_ble_eq_true rfl | (refine ⟨by (try simp only [List.length_cons, List.length_nil]); omega, Int.le_trans (Int.mul_le_mul_of_nonneg_left (show (TInfo.bytes _ : Int) ≤ 64 from Int.ofNat_le.2 (Nat.le_of_ble_eq_true rfl)) (by omega)) (by (try simp only [List.length_cons, List.length_nil]); omega)⟩)) ?_; conv => whnf)))
        · rename_i hc1 hc2
          have hl : (n : Int) < (xs.length : Nat) := hc1
          have e1 : ((n : Int) - 1).toNat = n - 1 := by omega
          have hc' : 0 ≤ cmpL (xs.getD (n - 1) lT.dflt) (xs.getD n lT.dflt) := by rw [← e1]; exact hc
          exact leaf0 rfl (congrArg AVal.bool (lam_bad (n := n) (by omega) (by simp only [okAt, decide_eq_true hc', decide_eq_true (show 0 < n by omega)]; rfl)).symm) rfl
        · rename_i hc1 hc2 hc3
          have hl : (n : Int) < (xs.length : Nat) := hc1
          have hc' : (xs.take n).any (crossL (xs.getD n lT.dflt)) = true := hc
          exact leaf0 rfl (congrArg AVal.bool (lam_bad (n := n) (by omega) (by simp only [okAt, hc', Bool.or_true]; rfl)).symm) rfl
        · rename_i hc1 hc2 hc3
          have hl : (n : Int) < (xs.length : Nat) := hc1
          have e1 : ((n : Int) - 1).toNat = n - 1 := by omega
          have hc' : (xs.take n).any (crossL (xs.getD n lT.dflt)) = false := hc
          have hc4 : ¬ 0 ≤ cmpL (xs.getD (n - 1) lT.dflt) (xs.getD n lT.dflt) := by rw [← e1]; exact hc3
          refine ⟨n + 1, ⟨by omega, fun j hj => ?_⟩, by omega, ?_⟩
          · rcases Nat.lt_or_ge j n with h | h
            · exact h2 j h
            · obtain rfl : j = n := by omega
              simp only [okAt, hc', decide_eq_false hc4, Bool.and_false]; rfl
          · conv => whnf
            refine ⟨?_, by (conv => whnf); repeat (first | exact True.intro | (refine And.intro rfl ?_; conv => whnf)), by (conv => whnf); repeat (first | exact True.intro | (refine And.intro (by first | rfl | (subst_vars; rfl)) ?_; conv => whnf)), rfl, rfl, rfl, rfl, rfl, rfl, rfl, Nat.le_of_ble_eq_true rfl, Nat.le_of_ble_eq_true rfl⟩
            conv => whnf
            repeat (first | exact True.intro | (refine And.intro (by first | rfl | ((conv => whnf); exact congrArg (AVal.int .i64) (by omega)) | ((conv => whnf); exact congrArg (AVal.int .i64) (by simp only [Int.natCast_add, Int.natCast_one]; omega))) ?_; conv => whnf))
        · rename_i hc1 hc2
          have hl : (n : Int) < (xs.length : Nat) := hc1
          have hc' : (xs.take n).any (crossL (xs.getD n lT.dflt)) = true := hc
          exact leaf0 rfl (congrArg AVal.bool (lam_bad (n := n) (by omega) (by simp only [okAt, hc', Bool.or_true]; rfl)).symm) rfl
        · rename_i hc1 hc2
          have hl : (n : Int) < (xs.length : Nat) := hc1
          have hc' : (xs.take n).any (crossL (xs.getD n lT.dflt)) = false := hc
          refine ⟨n + 1, ⟨by omega, fun j hj => ?_⟩, by omega, ?_⟩
          · rcases Nat.lt_or_ge j n with h | h
            · exact h2 j h
            · obtain rfl : j = n := by omega
              simp only [okAt, hc', decide_eq_false (show ¬ 0 < j by omega), Bool.false_and]; rfl
          · conv => whnf
            refine ⟨?_, by (conv => whnf); repeat (first | exact True.intro | (refine And.intro rfl ?_; conv => whnf)), by (conv => whnf); repeat (first | exact True.intro | (refine And.intro (by first | rfl | (subst_vars; rfl)) ?_; conv => whnf)), rfl, rfl, rfl, rfl, rfl, rfl, rfl, Nat.le_of_ble_eq_true rfl, Nat.le_of_ble_eq_true rfl⟩
            conv => whnf
            repeat (first | exact True.intro | (refine And.intro (by first | rfl | ((conv => whnf); exact congrArg (AVal.int .i64) (by omega)) | ((conv => whnf); exact congrArg (AVal.int .i64) (by simp only [Int.natCast_add, Int.natCast_one]; omega))) ?_; conv => whnf))
        · have hl : ¬ (n : Int) < (xs.length : Nat) := hc
          refine leaf0 rfl (congrArg AVal.bool ?_) rfl
          rw [lamL, e200, hall, Bool.true_and, Bool.true_and, eq_comm, List.all_eq_true]
          intro j hj
          exact h2 j (by have := List.mem_range.1 hj; omega)

end Go.Proofs.Ytlplngafncobkaa.Fw
