/- Contracts: halves of angles, leaves that arise when a leaf is pulled back. -/
import Derived.Test.YtllagpbbbdekiaaHB
import Derived.Test.YtllagpbbbdekiaaGE
namespace Go.Proofs.Ytllagpbbbdekiaa.Fw
open Go Go.RowKit
set_option linter.unusedVariables false
set_option linter.unusedSimpArgs false
set_option maxRecDepth 100000
set_option maxHeartbeats 2000000

def halvesC : PCtr := fun _ _ _ vals k => match vals with
  | [.agg [.int .i64 n, .int .i64 d]] => Sm (n, d) ∧ k [] (.tup [aV (halfA (n, d)), aV (half2A (n, d))])
  | _ => False
theorem halves_ok : PCtrOk Try.prog 84 halvesC where
  enter := enter_ok Try.func84 (by kernel_rfl) rfl
  calls := by
    intro hg rg lr vals k h
    unfold halvesC at h
    split at h
    case h_2 => exact h.elim
    rename_i n d
    obtain ⟨hn, hk⟩ := h
    refine ⟨_, _, hk, fun A w _ _ => ?_⟩
    refine enter T_ok (GOk.cons angle_ok .nil) Try.func84 rfl (K := (· < w.heap.size)) (fun _ h => h) (A := A) (n0 := 0) (b0 := 0) (rows := []) (hp := []) rfl (Nat.zero_le _) (fun k r h => by cases h) rfl (fun k r h => by cases h) rfl rfl (Nat.le_of_ble_eq_true rfl) ?_
    conv => whnf
    repeat (refine V_step T_ok (GOk.cons angle_ok .nil) rfl ?_; conv => whnf)
    obtain ⟨⟨h1, h2⟩, ⟨h3, h4⟩⟩ := hn
    simp only at h1 h2 h3 h4
    repeat (any_goals (first
      | (refine V_step T_ok (GOk.cons angle_ok .nil) rfl ?_; conv => whnf)
      | (refine V_drawA T_ok (GOk.cons angle_ok .nil) mixed (by kernel_rfl) ?_; conv => whnf)
      | (refine bcond_split (fun hc => ?_) (fun hc => ?_) <;> (try simp only [decide_eq_true_eq, decide_eq_false_iff_not, Bool.not_eq_true', Bool.not_eq_false', Bool.and_eq_true, Bool.or_eq_true, Bool.and_eq_false_imp, Bool.or_eq_false_iff, ne_eq, Decidable.not_not] at hc) <;> conv => whnf)
      | (intro ysK hysK; have hysl := congrArg List.length hysK; (try simp only [List.length_set, List.length_append, List.length_cons, List.length_nil, List.length_take, List.length_drop, List.length_replicate] at hysl); conv => whnf)
      | (refine And.intro (by first | (first | exact True.intro | omega | (simp only [Rng]; omega)) | exact True.intro | exact ⟨rfl, True.intro, fun _ _ => rfl⟩ | exact Nat.le_of_ble_eq_true rfl | (refine ⟨by (try simp only [List.length_cons, List.length_nil]); omega, Int.le_trans (Int.mul_le_mul_of_nonneg_left (show (TInfo.bytes _ : Int) ≤ 64 from Int.ofNat_le.2 (Nat.le_of_ble_eq_true rfl)) (by omega)) (by (try simp only [List.length_cons, List.length_nil]); omega)⟩)) ?_; conv => whnf)))
    all_goals exact leaf0 rfl rfl rfl

def twoC : PCtr := fun _ _ lr vals k => match vals with
  | [.agg [.int .i64 n, .int .i64 d, .int .i64 m, .int .i64 e], .agg [.int .i64 n', .int .i64 d', .int .i64 m', .int .i64 e']] =>
    (BdL ((n, d), (m, e)) ∧ BdL ((n', d'), (m', e'))) ∧ k [⟨lT, 31, true, twoL ((n, d), (m, e)) ((n', d'), (m', e'))⟩] (.row lr)
  | _ => False
theorem two_ok : PCtrOk Try.prog 85 twoC where
  enter := enter_ok Try.func85 (by kernel_rfl) rfl
  calls := by
    intro hg rg lr vals k h
    unfold twoC at h
    split at h
    case h_2 => exact h.elim
    rename_i n d m e n' d' m' e'
    obtain ⟨⟨h1, h2⟩, hk⟩ := h
    refine ⟨_, _, hk, fun A w _ _ => ?_⟩
    refine enter T_ok (GOk.cons cmpL_ok .nil) Try.func85 rfl (K := (· < w.heap.size)) (fun _ h => h) (A := A) (n0 := 0) (b0 := 0) (rows := []) (hp := []) rfl (Nat.zero_le _) (fun k r h => by cases h) rfl (fun k r h => by cases h) rfl rfl (Nat.le_of_ble_eq_true rfl) ?_
    conv => whnf
    repeat (refine V_step T_ok (GOk.cons cmpL_ok .nil) rfl ?_; conv => whnf)
    repeat (any_goals (first
      | (refine V_step T_ok (GOk.cons cmpL_ok .nil) rfl ?_; conv => whnf)
      | (refine V_drawA T_ok (GOk.cons cmpL_ok .nil) mixed (by kernel_rfl) ?_; conv => whnf)
      | (refine bcond_split (fun hc => ?_) (fun hc => ?_) <;> (try simp only [decide_eq_true_eq, decide_eq_false_iff_not, Bool.not_eq_true', Bool.not_eq_false', Bool.and_eq_true, Bool.or_eq_true, Bool.and_eq_false_imp, Bool.or_eq_false_iff, ne_eq, Decidable.not_not] at hc) <;> conv => whnf)
      | (intro ysK hysK; have hysl := congrArg List.length hysK; (try simp only [List.length_set, List.length_append, List.length_cons, List.length_nil, List.length_take, List.length_drop, List.length_replicate] at hysl); conv => whnf)
      | (refine And.intro (by first | (first | exact True.intro | exact ⟨h1, h2⟩) | exact True.intro | exact ⟨rfl, True.intro, fun _ _ => rfl⟩ | exact Nat.le_of_ble_eq_true rfl | (refine ⟨by (try simp only [List.length_cons, List.length_nil]); omega, Int.le_trans (Int.mul_le_mul_of_nonneg_left (show (TInfo.bytes _ : Int) ≤ 64 from Int.ofNat_le.2 (Nat.le_of_ble_eq_true rfl)) (by omega)) (by (try simp only [List.length_cons, List.length_nil]); omega)⟩)) ?_; conv => whnf)))
    · refine leaf1 0 rfl rfl (by rw [twoL, if_pos hc]) rfl (fun B C h => ?_)
      simp [AVal.den, dens, h]
    · refine leaf1 0 rfl rfl (by rw [twoL, if_neg hc]) rfl (fun B C h => ?_)
      simp [AVal.den, dens, h]

def limL1C : PCtr := fun _ _ _ vals k => match vals with
  | [.agg [.int .i64 n, .int .i64 d, .int .i64 m, .int .i64 e]] => True ∧ k [] (.bool (decide (LimL ((n, d), (m, e)))))
  | _ => False
theorem limL1_ok : PCtrOk Try.prog 87 limL1C where
  enter := enter_ok Try.func87 (by kernel_rfl) rfl
  calls := by
    intro hg rg lr vals k h
    unfold limL1C at h
    split at h
    case h_2 => exact h.elim
    rename_i n d m e
    obtain ⟨_, hk⟩ := h
    refine ⟨_, _, hk, fun A w _ _ => ?_⟩
    refine enter T_ok .nil Try.func87 rfl (K := (· < w.heap.size)) (fun _ h => h) (A := A) (n0 := 0) (b0 := 0) (rows := []) (hp := []) rfl (Nat.zero_le _) (fun k r h => by cases h) rfl (fun k r h => by cases h) rfl rfl (Nat.le_of_ble_eq_true rfl) ?_
    conv => whnf
    repeat (refine V_step T_ok .nil rfl ?_; conv => whnf)
    repeat (any_goals (first
      | (refine V_step T_ok .nil rfl ?_; conv => whnf)
      | (refine V_drawA T_ok .nil mixed (by kernel_rfl) ?_; conv => whnf)
      | (refine bcond_split (fun hc => ?_) (fun hc => ?_) <;> (try simp only [decide_eq_true_eq, decide_eq_false_iff_not, Bool.not_eq_true', Bool.not_eq_false', Bool.and_eq_true, Bool.or_eq_true, Bool.and_eq_false_imp, Bool.or_eq_false_iff, ne_eq, Decidable.not_not] at hc) <;> conv => whnf)
      | (intro ysK hysK; have hysl := congrArg List.length hysK; (try simp only [List.length_set, List.length_append, List.length_cons, List.length_nil, List.length_take, List.length_drop, List.length_replicate] at hysl); conv => whnf)
      | (refine And.intro (by first | exact True.intro | (with_reducible assumption) | omega | (simp only [Rng]; omega) | exact Nat.le_of_ble_eq_true rfl | exact True.intro | exact ⟨rfl, True.intro, fun _ _ => rfl⟩ | exact Nat.le_of_ble_eq_true rfl | (refine ⟨by (try simp only [List.length_cons, List.length_nil]); omega, Int.le_trans (Int.mul_le_mul_of_nonneg_left (show (TInfo.bytes _ : Int) ≤ 64 from Int.ofNat_le.2 (Nat.le_of_ble_eq_true rfl)) (by omega)) (by (try simp only [List.length_cons, List.length_nil]); omega)⟩)) ?_; conv => whnf)))
    all_goals refine leaf0 rfl (congrArg AVal.bool ?_) rfl
    all_goals (simp only [LimL]; grind)

/-- The opposite, as a Bool. -/
def limAN (a : Lf) : Bool := !decide (LimL a)
def limA1C : PCtr := fun hg _ _ vals k => match vals with
  | [.agg [.int .i64 n, .int .i64 d, .int .i64 m, .int .i64 e], .loc j 0] => boxF (hg j) 87 (k [] (.bool (limAN ((n, d), (m, e)))))
  | _ => False

theorem limA1_ok : PCtrOk Try.prog 91 limA1C where
  enter := enter_ok Try.func91 (by kernel_rfl) rfl
  calls := by
    intro hg rg lr vals k h
    unfold limA1C at h
    split at h
    case h_2 => exact h.elim
    rename_i n d m e j
    obtain ⟨hj, hk⟩ := boxF_inv h
    refine ⟨_, _, hk, fun A w hB hR => ?_⟩
    refine enter T_ok (GOk.cons limL1_ok .nil) Try.func91 rfl (K := (· < w.heap.size)) (fun _ h => h) (A := A.pick [j] []) (vals := [.agg [.int .i64 n, .int .i64 d, .int .i64 m, .int .i64 e], .loc 0 0]) (n0 := 0) (b0 := 1) (rows := []) (hp := [some [.fn 87 [] []]]) rfl (Nat.zero_le _) (one_box (hB j _ hj)) rfl no_row rfl rfl (Nat.le_of_ble_eq_true rfl) ?_
    conv => whnf
    repeat (refine V_step T_ok (GOk.cons limL1_ok .nil) rfl ?_; conv => whnf)
    repeat (any_goals (first
      | (refine V_step T_ok (GOk.cons limL1_ok .nil) rfl ?_; conv => whnf)
      | (refine V_drawA T_ok (GOk.cons limL1_ok .nil) mixed (by kernel_rfl) ?_; conv => whnf)
      | (refine bcond_split (fun hc => ?_) (fun hc => ?_) <;> (try simp only [decide_eq_true_eq, decide_eq_false_iff_not, Bool.not_eq_true', Bool.not_eq_false', Bool.and_eq_true, Bool.or_eq_true, Bool.and_eq_false_imp, Bool.or_eq_false_iff, ne_eq, Decidable.not_not] at hc) <;> conv => whnf)
      | (intro ysK hysK; have hysl := congrArg List.length hysK; (try simp only [List.length_set, List.length_append, List.length_cons, List.length_nil, List.length_take, List.length_drop, List.length_replicate] at hysl); conv => whnf)
      | (refine And.intro (by first | exact True.intro | (with_reducible assumption) | omega | (simp only [Rng]; omega) | exact Nat.le_of_ble_eq_true rfl | exact True.intro | exact ⟨rfl, True.intro, fun _ _ => rfl⟩ | exact Nat.le_of_ble_eq_true rfl | (refine ⟨by (try simp only [List.length_cons, List.length_nil]); omega, Int.le_trans (Int.mul_le_mul_of_nonneg_left (show (TInfo.bytes _ : Int) ≤ 64 from Int.ofNat_le.2 (Nat.le_of_ble_eq_true rfl)) (by omega)) (by (try simp only [List.length_cons, List.length_nil]); omega)⟩)) ?_; conv => whnf)))
    all_goals exact leaf0 rfl rfl rfl

def limAxC : PCtr := fun hg rg _ vals k => match vals with
  | [.row i, .fn 91 [] [.loc j 0]] => rowC lT (rg i) fun xs => boxF (hg j) 87 (k [] (.int .i64 (idxP limAN xs)))
  | _ => False

theorem limAx_ok : PCtrOk Try.prog 66 limAxC where
  enter := enter_ok Try.func66 (by kernel_rfl) rfl
  calls := by
    intro hg rg lr vals k h
    unfold limAxC at h
    split at h
    case h_2 => exact h.elim
    rename_i i j
    obtain ⟨e, own, xs, hi, h⟩ : ∃ e own, ∃ (xs : List Lf), _ := rowC_inv h
    obtain ⟨hj, hk⟩ := boxF_inv h
    refine ⟨_, _, hk, fun A w hB hR => ?_⟩
    refine enter T_ok (GOk.cons limA1_ok .nil) Try.func66 rfl (K := (· < w.heap.size)) (fun _ h => h) (A := A.pick [j] [i]) (vals := [.row 0, .fn 91 [] [.loc 0 0]]) (n0 := 0) (b0 := 1) (rows := [some ⟨lT, e, false, xs⟩]) (hp := [some [.fn 87 [] []]]) rfl (Nat.zero_le _) (one_box (hB j _ hj)) rfl (one_row (hR i _ hi)) rfl rfl (Nat.le_of_ble_eq_true rfl) ?_
    conv => whnf
    repeat (refine V_step T_ok (GOk.cons limA1_ok .nil) rfl ?_; conv => whnf)
    have hcap' : (@List.length (TyC.α lT) xs : Int) ≤ 9223372036854775807 := by
      have h1 := (hR i _ hi).len
      have h2 := (hR i _ hi).cap
      have h3 := (hR i _ hi).max
      simp only at h1
      have : maxLen = 9223372036854775807 := rfl
      omega
    have hcap : (xs.length : Int) ≤ 9223372036854775807 := hcap'
    refine V_loopH (γ := Nat) (fun n => n ≤ xs.length ∧ ∀ j, j < n → limAN (xs.getD j lT.dflt) = false) (fun n => xs.length - n)
      (fun n => [(8, .int .i64 n)]) (fun _ => []) (fun _ => []) 0 ⟨Nat.zero_le _, fun j h => absurd h (Nat.not_lt_zero _)⟩ ?_ ?_
    · conv => whnf
      refine ⟨?_, by (conv => whnf); repeat (first | exact True.intro | (refine And.intro rfl ?_; conv => whnf)), by (conv => whnf); repeat (first | exact True.intro | (refine And.intro (by first | rfl | (subst_vars; rfl)) ?_; conv => whnf)), rfl, rfl, rfl, rfl, rfl, rfl, rfl, Nat.le_of_ble_eq_true rfl, Nat.le_of_ble_eq_true rfl⟩
      conv => whnf
      repeat (first | exact True.intro | (refine And.intro (by first | rfl | ((conv => whnf); exact congrArg (AVal.int .i64) (by omega)) | ((conv => whnf); exact congrArg (AVal.int .i64) (by simp only [Int.natCast_add, Int.natCast_one]; omega)) | ((conv => whnf); exact congrArg (AVal.irow _) (by first | omega | assumption | (simp only; omega)))) ?_; conv => whnf))
    · rintro n ⟨h1, h2⟩
      conv => whnf
      refine vcCode_sound T_ok (GOk.cons limA1_ok .nil) _ _ _ _ _ ?_
      conv => whnf
      repeat (refine V_step T_ok (GOk.cons limA1_ok .nil) rfl ?_; conv => whnf)
      repeat (any_goals (first
        | (refine V_step T_ok (GOk.cons limA1_ok .nil) rfl ?_; conv => whnf)
        | (refine V_drawA T_ok (GOk.cons limA1_ok .nil) mixed (by kernel_rfl) ?_; conv => whnf)
        | (refine bcond_split (fun hc => ?_) (fun hc => ?_) <;> (try simp only [decide_eq_true_eq, decide_eq_false_iff_not, Bool.not_eq_true', Bool.not_eq_false', Bool.and_eq_true, Bool.or_eq_true, Bool.and_eq_false_imp, Bool.or_eq_false_iff, ne_eq, Decidable.not_not] at hc) <;> conv => whnf)
        | (intro ysK hysK; have hysl := congrArg List.length hysK; (try simp only [List.length_set, List.length_append, List.length_cons, List.length_nil, List.length_take, List.length_drop, List.length_replicate] at hysl); conv => whnf)
        | (refine And.intro (by first | (first | exact True.intro | omega | (simp only [Rng]; omega)) | exact True.intro | exact ⟨rfl, True.intro, fun _ _ => rfl⟩ | exact Nat.le_of_ble_eq_true rfl | (refine ⟨by (try simp only [List.length_cons, List.length_nil]); omega, Int.le_trans (Int.mul_le_mul_of_nonneg_left (show (TInfo.bytes _ : Int) ≤ 64 from Int.ofNat_le.2 (Nat.le_of_ble_eq_true rfl)) (by omega)) (by (try simp only [List.length_cons, List.length_nil]); omega)⟩)) ?_; conv => whnf)))
      · rename_i hc0
        have hl : (n : Int) < (xs.length : Nat) := hc0
        exact leaf0 rfl (congrArg (AVal.int .i64) (idxP_found limAN xs n lT.dflt (by omega) h2 hc).symm) rfl
      · rename_i hc0
        have hl : (n : Int) < (xs.length : Nat) := hc0
        refine ⟨n + 1, ⟨by omega, fun j hj => ?_⟩, by omega, ?_⟩
        · rcases Nat.lt_or_ge j n with h | h
          · exact h2 j h
          · obtain rfl : j = n := by omega
            exact hc
        · conv => whnf
          refine ⟨?_, by (conv => whnf); repeat (first | exact True.intro | (refine And.intro rfl ?_; conv => whnf)), by (conv => whnf); repeat (first | exact True.intro | (refine And.intro (by first | rfl | (subst_vars; rfl)) ?_; conv => whnf)), rfl, rfl, rfl, rfl, rfl, rfl, rfl, Nat.le_of_ble_eq_true rfl, Nat.le_of_ble_eq_true rfl⟩
          conv => whnf
          repeat (first | exact True.intro | (refine And.intro (by first | rfl | ((conv => whnf); exact congrArg (AVal.int .i64) (by omega)) | ((conv => whnf); exact congrArg (AVal.int .i64) (by simp only [Int.natCast_add, Int.natCast_one]; omega)) | ((conv => whnf); exact congrArg (AVal.irow _) (by first | omega | assumption | (simp only; omega)))) ?_; conv => whnf))
      · have hl : ¬ (n : Int) < (xs.length : Nat) := hc
        exact leaf0 rfl (congrArg (AVal.int .i64) (idxP_none limAN xs lT.dflt (fun j hj => h2 j (by omega))).symm) rfl

def limAcC : PCtr := fun hg rg _ vals k => match vals with
  | [.row i, .fn 91 [] [.loc j 0]] => rowC lT (rg i) fun xs => boxF (hg j) 87 (k [] (.bool (xs.any limAN)))
  | _ => False

theorem limAc_ok : PCtrOk Try.prog 34 limAcC where
  enter := enter_ok Try.func34 (by kernel_rfl) rfl
  calls := by
    intro hg rg lr vals k h
    unfold limAcC at h
    split at h
    case h_2 => exact h.elim
    rename_i i j
    obtain ⟨e, own, xs, hi, h⟩ : ∃ e own, ∃ (xs : List Lf), _ := rowC_inv h
    obtain ⟨hj, hk⟩ := boxF_inv h
    refine ⟨_, _, hk, fun A w hB hR => ?_⟩
    refine enter T_ok (GOk.cons limAx_ok .nil) Try.func34 rfl (K := (· < w.heap.size)) (fun _ h => h) (A := A.pick [j] [i]) (vals := [.row 0, .fn 91 [] [.loc 0 0]]) (n0 := 0) (b0 := 1) (rows := [some ⟨lT, e, false, xs⟩]) (hp := [some [.fn 87 [] []]]) rfl (Nat.zero_le _) (one_box (hB j _ hj)) rfl (one_row (hR i _ hi)) rfl rfl (Nat.le_of_ble_eq_true rfl) ?_
    conv => whnf
    repeat (refine V_step T_ok (GOk.cons limAx_ok .nil) rfl ?_; conv => whnf)
    all_goals exact leaf0 rfl (congrArg AVal.bool (idxP_any limAN xs)) rfl

def limAY (a : Lf) : Bool := decide (LimL a)
theorem limA_any (xs : List Lf) : (!xs.any limAN) = xs.all limAY := by
  induction xs with
  | nil => rfl
  | cons x l ih => simp only [List.any_cons, List.all_cons, ← ih, limAN, limAY, Bool.not_or, Bool.not_not]
def limAC : PCtr := fun hg rg _ vals k => match vals with
  | [.row i, .fn f [] []] => rowC lT (rg i) fun xs => isF f 87 (k [] (.bool (xs.all limAY)))
  | _ => False

theorem limA_ok : PCtrOk Try.prog 62 limAC where
  enter := enter_ok Try.func62 (by kernel_rfl) rfl
  calls := by
    intro hg rg lr vals k h
    unfold limAC at h
    split at h
    case h_2 => exact h.elim
    rename_i i f
    obtain ⟨e, own, xs, hi, h⟩ : ∃ e own, ∃ (xs : List Lf), _ := rowC_inv h
    obtain ⟨rfl, hk⟩ := isF_inv h
    refine ⟨_, _, hk, fun A w hB hR => ?_⟩
    refine enter T_ok (GOk.cons limAc_ok .nil) Try.func62 rfl (K := (· < w.heap.size)) (fun _ h => h) (A := A.pick [] [i]) (vals := [.row 0, .fn 87 [] []]) (n0 := 0) (b0 := 0) (rows := [some ⟨lT, e, false, xs⟩]) (hp := []) rfl (Nat.zero_le _) no_box rfl (one_row (hR i _ hi)) rfl rfl (Nat.le_of_ble_eq_true rfl) ?_
    conv => whnf
    repeat (refine V_step T_ok (GOk.cons limAc_ok .nil) rfl ?_; conv => whnf)
    all_goals exact leaf0 rfl (congrArg AVal.bool (limA_any xs)) rfl



def limitedC : PCtr := fun _ rg _ vals k => match vals with
  | [.row i] => rowC lT (rg i) fun xs => bcond ((xs : List Lf).all limAY) (k [] (.tup [.row i, .int .i64 0])) (k [] (.tup [.raw (.slice none 0 0), .int .i64 3]))
  | _ => False
theorem limited_ok : PCtrOk Try.prog 57 limitedC where
  enter := enter_ok Try.func57 (by kernel_rfl) rfl
  calls := by
    intro hg rg lr vals k h
    unfold limitedC at h
    split at h
    case h_2 => exact h.elim
    rename_i i
    obtain ⟨e, own, xs, hi, h⟩ : ∃ e own, ∃ (xs : List Lf), _ := rowC_inv h
    have hk : ∃ v, k [] v ∧ v = if (xs : List Lf).all limAY = true then .tup [.row i, .int .i64 0] else .tup [.raw (.slice none 0 0), .int .i64 3] := by
      cases hb : (xs : List Lf).all limAY with
      | true => rw [hb] at h; exact ⟨_, h, rfl⟩
      | false => rw [hb] at h; exact ⟨_, h, by simp⟩
    obtain ⟨v, hk, hv⟩ := hk
    refine ⟨_, _, hk, fun A w hB hR => ?_⟩
    refine enter T_ok (GOk.cons limA_ok .nil) Try.func57 rfl (K := (· < w.heap.size)) (fun _ h => h) (A := A.pick [] [i]) (vals := [.row 0]) (n0 := 1) (b0 := 0) (rows := [some ⟨lT, e, false, xs⟩]) (hp := []) rfl (Nat.le_refl _) no_box rfl (one_row (hR i _ hi)) rfl rfl (Nat.le_of_ble_eq_true rfl) ?_
    conv => whnf
    repeat (refine V_step T_ok (GOk.cons limA_ok .nil) rfl ?_; conv => whnf)
    repeat (any_goals (first
      | (refine V_step T_ok (GOk.cons limA_ok .nil) rfl ?_; conv => whnf)
      | (refine V_drawA T_ok (GOk.cons limA_ok .nil) mixed (by kernel_rfl) ?_; conv => whnf)
      | (refine bcond_split (fun hc => ?_) (fun hc => ?_) <;> (try simp only [decide_eq_true_eq, decide_eq_false_iff_not, Bool.not_eq_true', Bool.not_eq_false', Bool.and_eq_true, Bool.or_eq_true, Bool.and_eq_false_imp, Bool.or_eq_false_iff, ne_eq, Decidable.not_not] at hc) <;> conv => whnf)
      | (intro ysK hysK; have hysl := congrArg List.length hysK; (try simp only [List.length_set, List.length_append, List.length_cons, List.length_nil, List.length_take, List.length_drop, List.length_replicate] at hysl); conv => whnf)
      | (refine And.intro (by first | exact True.intro | (with_reducible assumption) | omega | (simp only [Rng]; omega) | exact Nat.le_of_ble_eq_true rfl | exact True.intro | exact ⟨rfl, True.intro, fun _ _ => rfl⟩ | exact Nat.le_of_ble_eq_true rfl | (refine ⟨by (try simp only [List.length_cons, List.length_nil]); omega, Int.le_trans (Int.mul_le_mul_of_nonneg_left (show (TInfo.bytes _ : Int) ≤ 64 from Int.ofNat_le.2 (Nat.le_of_ble_eq_true rfl)) (by omega)) (by (try simp only [List.length_cons, List.length_nil]); omega)⟩)) ?_; conv => whnf)))
    · have hc : (xs : List Lf).all limAY = false := hc
      rw [hc] at hv
      subst hv
      exact leafS rfl fun B h => rfl
    · have hc : (xs : List Lf).all limAY = true := hc
      rw [hc] at hv
      subst hv
      refine leafS rfl fun B h => ?_
      have h0 := h 0 Nat.zero_lt_one
      simp [AVal.den, dens, h0, Asg.pick, nthN]

def isEndC : PCtr := fun hg _ _ vals k => match vals with
  | [.agg [.int .i64 n, .int .i64 d], .loc j 0] => boxLf (hg j) fun l => True ∧ k [] (.bool (decide ((n, d) = l.1 ∨ (n, d) = l.2)))
  | _ => False
end Go.Proofs.Ytllagpbbbdekiaa.Fw

/- Contracts: pulling a leaf back past a diameter. -/
namespace Go.Proofs.Ytllagpbbbdekiaa.Fw
open Go Go.RowKit
set_option linter.unusedVariables false
set_option linter.unusedSimpArgs false
set_option maxRecDepth 100000
set_option maxHeartbeats 2000000

theorem Sm.half {a : Ang} (h : IsA a) : Sm (halfA a) := by
  have := ofQ_bd a.1 (2 * a.2) (by have := h.1.1; omega)
  have := h.1
  unfold Sm halfA
  omega
theorem Sm.half2 {a : Ang} (h : IsA a) : Sm (half2A a) := by
  have := ofQ_bd (a.1 + a.2) (2 * a.2) (by have := h.1.1; omega)
  have := h.1
  unfold Sm half2A
  omega
theorem leafOf_sm {a b : Ang} (ha : Sm a) (hb : Sm b) : SmL (leafOf a b) := by
  unfold leafOf; split
  · exact ⟨hb, ha⟩
  · exact ⟨ha, hb⟩
theorem two_mem {l m x : Lf} (h : x ∈ twoL l m) : x = l ∨ x = m := by
  unfold twoL at h
  split at h
  · simp at h; exact h.symm
  · simpa using h
theorem way_sm {l : Lf} (h : IsL l) : ∀ x ∈ wayL l, SmL x := fun x hx => by
  rcases two_mem hx with rfl | rfl
  · exact leafOf_sm (Sm.half h.1) (Sm.half h.2.1)
  · exact leafOf_sm (Sm.half2 h.1) (Sm.half2 h.2.1)

def waysC : PCtr := fun _ _ lr vals k => match vals with
  | [.agg [.int .i64 n, .int .i64 d, .int .i64 m, .int .i64 e]] => (IsA (n, d) ∧ IsA (m, e)) ∧ k [⟨lT, 31, true, wayL ((n, d), (m, e))⟩, ⟨lT, 31, true, way2L ((n, d), (m, e))⟩] (.tup [.row lr, .row (lr + 1)])
  | _ => False
abbrev GW := GOk.cons halves_ok (GOk.cons leaf_ok (GOk.cons two_ok .nil))
theorem ways_ok : PCtrOk Try.prog 56 waysC where
  enter := enter_ok Try.func56 (by kernel_rfl) rfl
  calls := by
    intro hg rg lr vals k h
    unfold waysC at h
    split at h
    case h_2 => exact h.elim
    rename_i n d m e
    obtain ⟨⟨h1, h2⟩, hk⟩ := h
    refine ⟨_, _, hk, fun A w _ _ => ?_⟩
    refine enter T_ok GW Try.func56 rfl (K := (· < w.heap.size)) (fun _ h => h) (A := A) (n0 := 0) (b0 := 0) (rows := []) (hp := []) rfl (Nat.zero_le _) (fun k r h => by cases h) rfl (fun k r h => by cases h) rfl rfl (Nat.le_of_ble_eq_true rfl) ?_
    conv => whnf
    repeat (refine V_step T_ok GW rfl ?_; conv => whnf)
    have s1 := h1.sm
    have s2 := h2.sm
    have a1 := Sm.half h1
    have a2 := Sm.half2 h1
    have a3 := Sm.half h2
    have a4 := Sm.half2 h2
    have b1 := a1.bd
    have b2 := a2.bd
    have b3 := a3.bd
    have b4 := a4.bd
    have c1 := (leafOf_sm a1 a3).bd
    have c2 := (leafOf_sm a2 a4).bd
    have c3 := (leafOf_sm a1 a4).bd
    have c4 := (leafOf_sm a2 a3).bd
    repeat (any_goals (first
      | (refine V_step T_ok GW rfl ?_; conv => whnf)
      | (refine V_drawA T_ok GW mixed (by kernel_rfl) ?_; conv => whnf)
      | (refine bcond_split (fun hc => ?_) (fun hc => ?_) <;> (try simp only [decide_eq_true_eq, decide_eq_false_iff_not, Bool.not_eq_true', Bool.not_eq_false', Bool.and_eq_true, Bool.or_eq_true, Bool.and_eq_false_imp, Bool.or_eq_false_iff, ne_eq, Decidable.not_not] at hc) <;> conv => whnf)
      | (intro ysK hysK; have hysl := congrArg List.length hysK; (try simp only [List.length_set, List.length_append, List.length_cons, List.length_nil, List.length_take, List.length_drop, List.length_replicate] at hysl); conv => whnf)
      | (refine And.intro (by first | (first | exact True.intro | with_reducible assumption | exact ⟨b1, b3⟩ | exact ⟨b2, b4⟩ | exact ⟨b1, b4⟩ | exact ⟨b2, b3⟩ | exact ⟨c1, c2⟩ | exact ⟨c3, c4⟩) | exact True.intro | exact ⟨rfl, True.intro, fun _ _ => rfl⟩ | exact Nat.le_of_ble_eq_true rfl | (refine ⟨by (try simp only [List.length_cons, List.length_nil]); omega, Int.le_trans (Int.mul_le_mul_of_nonneg_left (show (TInfo.bytes _ : Int) ≤ 64 from Int.ofNat_le.2 (Nat.le_of_ble_eq_true rfl)) (by omega)) (by (try simp only [List.length_cons, List.length_nil]); omega)⟩)) ?_; conv => whnf)))
    all_goals refine leaf2 0 1 (by decide) rfl rfl rfl rfl rfl rfl rfl (fun B C h1 h2 => ?_)
    all_goals simp [AVal.den, dens, h1, h2]

def PastP (l d : Lf) : Prop := sDiaL d = true ∧ ¬ (doubleA d.1 = l.1 ∨ doubleA d.1 = l.2)
instance (l d : Lf) : Decidable (PastP l d) := by unfold PastP; infer_instance
def pastO (l d : Lf) : List Lf := if IsL l ∧ IsL d then (if PastP l d then (if okHalf l.1 ∧ okHalf l.2 then sPastW l d else []) else []) else []
def pastN (l d : Lf) : Int := if IsL l ∧ IsL d then (if PastP l d then (if okHalf l.1 ∧ okHalf l.2 then 0 else 3) else 5) else 1
def pastC : PCtr := fun _ _ lr vals k => match vals with
  | [.agg [.int .i64 n, .int .i64 d, .int .i64 m, .int .i64 e], .agg [.int .i64 n', .int .i64 d', .int .i64 m', .int .i64 e']] =>
    True ∧ k [⟨lT, 31, true, pastO ((n, d), (m, e)) ((n', d'), (m', e'))⟩] (.tup [.row lr, .int .i64 (pastN ((n, d), (m, e)) ((n', d'), (m', e')))])
  | _ => False
theorem two_isL (l d : Lf) : (if [l, d].all allLY = true then (0 : Int) else 1) = 0 ↔ IsL l ∧ IsL d := by
  simp [allLY]
theorem limA_eq (xs : List Lf) : xs.all limAY = xs.all (fun l => decide (LimL l)) := rfl
theorem PastP.ne1 {l d : Lf} (h : PastP l d) : l.1 ≠ doubleA d.1 := fun e => h.2 (.inl e.symm)
theorem PastP.ne2 {l d : Lf} (h : PastP l d) : l.2 ≠ doubleA d.1 := fun e => h.2 (.inr e.symm)
theorem past_bad {l d : Lf} (h : ¬ (IsL l ∧ IsL d)) : pastO l d = [] ∧ pastN l d = 1 := by
  unfold pastO pastN
  rw [if_neg h, if_neg h]; exact ⟨rfl, rfl⟩
theorem past_st {l d : Lf} (h : IsL l ∧ IsL d) (hp : ¬ PastP l d) : pastO l d = [] ∧ pastN l d = 5 := by
  unfold pastO pastN
  rw [if_pos h, if_pos h, if_neg hp, if_neg hp]; exact ⟨rfl, rfl⟩
theorem past_no {l d : Lf} (h : IsL l ∧ IsL d) (hp : PastP l d) (ho : ¬ (okHalf l.1 ∧ okHalf l.2)) : pastO l d = [] ∧ pastN l d = 3 := by
  unfold pastO pastN
  rw [if_pos h, if_pos h, if_pos hp, if_pos hp, if_neg ho, if_neg ho]; exact ⟨rfl, rfl⟩
theorem past_yes {l d : Lf} (h : IsL l ∧ IsL d) (hp : PastP l d) (ho : okHalf l.1 ∧ okHalf l.2) : pastO l d = sPastW l d ∧ pastN l d = 0 := by
  unfold pastO pastN
  rw [if_pos h, if_pos h, if_pos hp, if_pos hp, if_pos ho, if_pos ho]; exact ⟨rfl, rfl⟩
theorem past_of {l d : Lf} (h : IsL l ∧ IsL d) (h1 : isDiaL d = true) (h2 : ¬ (((doubleA d.1).1, (doubleA d.1).2) = l.1 ∨ ((doubleA d.1).1, (doubleA d.1).2) = l.2)) : PastP l d :=
  ⟨by rw [← dia_eq h.2]; exact h1, h2⟩
theorem past_w {l d : Lf} (h : IsL l ∧ IsL d) (hp : PastP l d) {b : Bool} (hb : (wayL l).any (crossL d) = b) : (if b = true then way2L l else wayL l) = sPastW l d := by
  rw [← past_eq h.1 h.2 hp.1 hp.ne1 hp.ne2, pastW, hb]
theorem past_k {l d : Lf} {b c : Bool} (hb : (wayL l).any (crossL d) = b) (hc : (if b = true then way2L l else wayL l).all limAY = c) : okHalf l.1 ∧ okHalf l.2 ↔ c = true := by
  rw [← past_lim l d, pastW, hb, ← hc, limA_eq]
abbrev GP := GOk.cons leavesCode_ok (GOk.cons isDia_ok (GOk.cons double_ok ((GOk.cons ways_ok (GOk.cons hasCross_ok (GOk.cons limited_ok .nil))))))
end Go.Proofs.Ytllagpbbbdekiaa.Fw

/- Contracts: the reference pulls a leaf back past a diameter; the law, walked. -/
namespace Go.Proofs.Ytllagpbbbdekiaa.Fw
open Go Go.RowKit
set_option linter.unusedVariables false
set_option linter.unusedSimpArgs false
set_option maxRecDepth 100000
set_option maxHeartbeats 2000000

def sHalvesC : PCtr := fun _ _ _ vals k => match vals with
  | [.agg [.int .i64 n, .int .i64 d]] => Sm (n, d) ∧ k [] (.tup [aV (halfA (n, d)), aV (half2A (n, d)), .bool (decide (okHalf (n, d)))])
  | _ => False
theorem sHalves_ok : PCtrOk Try.prog 49 sHalvesC where
  enter := enter_ok Try.func49 (by kernel_rfl) rfl
  calls := by
    intro hg rg lr vals k h
    unfold sHalvesC at h
    split at h
    case h_2 => exact h.elim
    rename_i n d
    obtain ⟨hn, hk⟩ := h
    refine ⟨_, _, hk, fun A w _ _ => ?_⟩
    refine enter T_ok (GOk.cons sOf_ok .nil) Try.func49 rfl (K := (· < w.heap.size)) (fun _ h => h) (A := A) (n0 := 0) (b0 := 0) (rows := []) (hp := []) rfl (Nat.zero_le _) (fun k r h => by cases h) rfl (fun k r h => by cases h) rfl rfl (Nat.le_of_ble_eq_true rfl) ?_
    conv => whnf
    repeat (refine V_step T_ok (GOk.cons sOf_ok .nil) rfl ?_; conv => whnf)
    obtain ⟨⟨h1, h2⟩, ⟨h3, h4⟩⟩ := hn
    simp only at h1 h2 h3 h4
    repeat (any_goals (first
      | (refine V_step T_ok (GOk.cons sOf_ok .nil) rfl ?_; conv => whnf)
      | (refine V_drawS T_ok (GOk.cons sOf_ok .nil) mixed (by kernel_rfl) ?_; conv => whnf)
      | (refine bcond_split (fun hc => ?_) (fun hc => ?_) <;> (try simp only [decide_eq_true_eq, decide_eq_false_iff_not, Bool.not_eq_true', Bool.not_eq_false', Bool.and_eq_true, Bool.or_eq_true, Bool.and_eq_false_imp, Bool.or_eq_false_iff, ne_eq, Decidable.not_not] at hc) <;> conv => whnf)
      | (intro ysK hysK; have hysl := congrArg List.length hysK; (try simp only [List.length_set, List.length_append, List.length_cons, List.length_nil, List.length_take, List.length_drop, List.length_replicate] at hysl); conv => whnf)
      | (refine And.intro (by first | (first | exact True.intro | omega | (simp only [Rng]; omega)) | exact True.intro | exact ⟨rfl, True.intro, fun _ _ => rfl⟩ | exact Nat.le_of_ble_eq_true rfl | (refine ⟨by (try simp only [List.length_cons, List.length_nil]); omega, Int.le_trans (Int.mul_le_mul_of_nonneg_left (show (TInfo.bytes _ : Int) ≤ 64 from Int.ofNat_le.2 (Nat.le_of_ble_eq_true rfl)) (by omega)) (by (try simp only [List.length_cons, List.length_nil]); omega)⟩)) ?_; conv => whnf)))
    all_goals refine leaf0 rfl ?_ rfl
    all_goals congr 5
    all_goals (simp only [okHalf, halfA, half2A] at *; grind)

abbrev GSP := GOk.cons sIsL_ok (GOk.cons sDouble_ok (GOk.cons sDia_ok (GOk.cons sHalves_ok (GOk.cons sWithin_ok (GOk.cons sLeafOf_ok (GOk.cons sLessL_ok .nil))))))
end Go.Proofs.Ytllagpbbbdekiaa.Fw

/- The law of leaves that are pulled back past a diameter, walked. -/
namespace Go.Proofs.Ytllagpbbbdekiaa.Fw
open Go Go.RowKit
set_option linter.unusedVariables false
set_option linter.unusedSimpArgs false
set_option maxRecDepth 100000
set_option maxHeartbeats 2000000

theorem sTwo_len (l m : Lf) : (sTwoL l m).length = 2 := by unfold sTwoL; split <;> rfl
theorem pastO_len (l d : Lf) : ((pastO l d).length : Int) ≤ 64 := by
  unfold pastO sPastW
  (repeat' split) <;> simp [sTwo_len]

def lawPC : PCtr := fun _ _ _ vals k => match vals with
  | [.agg [.int .i64 n, .int .i64 d, .int .i64 m, .int .i64 e], .agg [.int .i64 n', .int .i64 d', .int .i64 m', .int .i64 e']] => True ∧ k [] (.bool true)
  | _ => False
abbrev GLP := GOk.cons toLeaf_ok (((GOk.cons eqLs_ok (GOk.mcons mkLM_ok (GOk.cons mkLH_ok .nil)))))
end Go.Proofs.Ytllagpbbbdekiaa.Fw
