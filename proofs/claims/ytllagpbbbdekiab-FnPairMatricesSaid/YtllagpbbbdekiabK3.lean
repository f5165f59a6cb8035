/- Contracts: an orbit with the pairs of its angles. -/
import Derived.Test.YtllagpbbbdekiabK2
import Derived.Test.YtllagpbbbdekiabFwY3
namespace Go.Proofs.Ytllagpbbbdekiab.Fw
open Go Go.RowKit
set_option linter.unusedVariables false
set_option linter.unusedSimpArgs false
set_option maxRecDepth 100000
set_option maxHeartbeats 2000000
def lenAC : PCtr := fun _ rg _ vals k => match vals with
  | [.row i] => rowC aT (rg i) fun xs => True ∧ k [] (.int .i64 (List.length (α := Ang) xs : Int))
  | _ => False
theorem lenA_ok : PCtrOk Try.prog 50 lenAC where
  enter := enter_ok Try.func50 (by kernel_rfl) rfl
  calls := by
    intro hg rg lr vals k h
    unfold lenAC at h
    split at h
    case h_2 => exact h.elim
    rename_i i
    obtain ⟨e, own, xs, hi, h⟩ : ∃ e own, ∃ (xs : List Ang), _ := rowC_inv h
    have hk := h.2
    refine ⟨_, _, hk, fun A w hB hR => ?_⟩
    refine enter T_ok .nil Try.func50 rfl (K := (· < w.heap.size)) (fun _ h => h) (A := A.pick [] [i]) (vals := [.row 0]) (n0 := 0) (b0 := 0) (rows := [some ⟨aT, e, false, xs⟩]) (hp := []) rfl (Nat.zero_le _) no_box rfl (one_row (hR i _ hi)) rfl rfl (Nat.le_of_ble_eq_true rfl) ?_
    conv => whnf
    repeat (refine V_step T_ok .nil rfl ?_; conv => whnf)
    have hcap' : (@List.length (TyC.α aT) xs : Int) ≤ 9223372036854775807 := by
      have h1 := (hR i _ hi).len
      have h2 := (hR i _ hi).cap
      have h3 := (hR i _ hi).max
      simp only at h1
      have : maxLen = 9223372036854775807 := rfl
      omega
    repeat (any_goals (first
      | (refine V_step T_ok .nil rfl ?_; conv => whnf)
      | (refine V_drawA T_ok .nil mixed (by kernel_rfl) ?_; conv => whnf)
      | (refine bcond_split (fun hc => ?_) (fun hc => ?_) <;> (try simp only [decide_eq_true_eq, decide_eq_false_iff_not, Bool.not_eq_true', Bool.not_eq_false', Bool.and_eq_true, Bool.or_eq_true, Bool.and_eq_false_imp, Bool.or_eq_false_iff, ne_eq, Decidable.not_not] at hc) <;> conv => whnf)
      | (intro ysK hysK; have hysl := congrArg List.length hysK; (try simp only [List.length_set, List.length_append, List.length_cons, List.length_nil, List.length_take, List.length_drop, List.length_replicate] at hysl); conv => whnf)
      | (refine And.intro (by first | (first | exact True.intro | omega | (simp only [Rng]; omega)) | exact True.intro | exact ⟨rfl, True.intro, fun _ _ => rfl⟩ | exact Nat.le_of_ble_eq_true rfl | (refine ⟨by (try simp only [List.length_cons, List.length_nil]); omega, Int.le_trans (Int.mul_le_mul_of_nonneg_left (show (TInfo.bytes _ : Int) ≤ 64 from Int.ofNat_le.2 (Nat.le_of_ble_eq_true rfl)) (by omega)) (by (try simp only [List.length_cons, List.length_nil]); omega)⟩)) ?_; conv => whnf)))
    all_goals exact leaf0 rfl rfl rfl
def parN (x : Ang) (b : Bool) : Int := if IsA x then (if b = true ∧ ok8 x then 0 else 2) else 1
theorem parN_1 {x : Ang} {b : Bool} (h : ¬ IsA x) : parN x b = 1 := if_neg h
theorem parN_2 {x : Ang} {b : Bool} (h : IsA x) (h2 : ¬ (b = true ∧ ok8 x)) : parN x b = 2 := by unfold parN; rw [if_pos h, if_neg h2]
theorem parN_0 {x : Ang} {b : Bool} (h : IsA x) (h2 : b = true ∧ ok8 x) : parN x b = 0 := by unfold parN; rw [if_pos h, if_pos h2]
def parC : BCtr := fun _ _ lb lr vals k => match vals with
  | [.agg [.int .i64 n, .int .i64 d], .bool b] => True ∧ (parN (n, d) b = 1 → k none [] (.tup [.raw (.pointer none), .int .i64 1])) ∧ (parN (n, d) b = 2 → k none [] (.tup [.raw (.pointer none), .int .i64 2])) ∧
      (parN (n, d) b = 0 → ∀ xs prs, xs = orb8 (n, d) → prs = prJ (xs.length : Int) xs.length → k (some [.row lr, .row (lr + 1)]) [⟨aT, 25, true, xs⟩, ⟨rT, 43, true, prs⟩] (.tup [.loc lb 0, .int .i64 0]))
  | _ => False
abbrev GPar := GOk.cons isAngle_ok (GOk.cons orbit_ok (GOk.cons lenA_ok .nil))
theorem par_ok : BCtrOk Try.prog 28 parC where
  enter := enter_ok Try.func28 (by kernel_rfl) rfl
  calls := by
    intro hg rg lb lr vals k h
    unfold parC at h
    split at h
    case h_2 => exact h.elim
    rename_i n d b
    obtain ⟨_, hk1, hk2, hk0⟩ := h
    by_cases hA : IsA (n, d)
    · by_cases h2 : b = true ∧ ok8 (n, d)
      · refine ⟨_, _, _, hk0 (parN_0 hA h2) _ _ rfl rfl, fun A w hB hR => ?_⟩
        have e8 : orb8 (n, d) = orbX (n, d) := if_pos ⟨hA, h2.2⟩
        rw [e8]
        have hl7 := h2.2.2
        have hb8 := h2.2.1
        clear hk1 hk2 hk0
        obtain ⟨N, hN⟩ : ∃ N, (orbX (n, d)).length = N := ⟨_, rfl⟩
        have hN' : (List.length (α := TyC.α aT) (orbX (n, d))) = N := hN
        refine enter T_ok GPar Try.func28 rfl (K := (· < w.heap.size)) (fun _ h => h) (A := A) (vals := [.agg [.int .i64 n, .int .i64 d], .bool b]) (n0 := 0) (b0 := 0) (rows := []) (hp := []) rfl (Nat.zero_le _) no_box rfl no_row rfl rfl (Nat.le_of_ble_eq_true rfl) ?_
        conv => whnf
        repeat (refine V_step T_ok GPar rfl ?_; conv => whnf)
        repeat (any_goals (first
          | (refine V_step T_ok GPar rfl ?_; conv => whnf)
          | (refine V_drawA T_ok GPar mixed (by kernel_rfl) ?_; conv => whnf)
          | (refine bcond_split (fun hc => ?_) (fun hc => ?_) <;> (try simp only [decide_eq_true_eq, decide_eq_false_iff_not, Bool.not_eq_true', Bool.not_eq_false', Bool.and_eq_true, Bool.or_eq_true, Bool.and_eq_false_imp, Bool.or_eq_false_iff, ne_eq, Decidable.not_not] at hc) <;> conv => whnf)
          | (intro ysK hysK; have hysl := congrArg List.length hysK; (try simp only [List.length_set, List.length_append, List.length_cons, List.length_nil, List.length_take, List.length_drop, List.length_replicate] at hysl); conv => whnf)
          | (refine And.intro (by first | (first | exact True.intro | exact hA | omega | (simp only [Rng]; omega)) | exact True.intro | exact ⟨rfl, True.intro, fun _ _ => rfl⟩ | exact Nat.le_of_ble_eq_true rfl | (refine ⟨by (try simp only [List.length_cons, List.length_nil]); omega, Int.le_trans (Int.mul_le_mul_of_nonneg_left (show (TInfo.bytes _ : Int) ≤ 64 from Int.ofNat_le.2 (Nat.le_of_ble_eq_true rfl)) (by omega)) (by (try simp only [List.length_cons, List.length_nil]); omega)⟩)) ?_; conv => whnf)))
        · exact absurd hA hc
        · rw [h2.1] at hc; cases hc
        · have hc : orbB (n, d) = false := hc
          rw [hb8] at hc; cases hc
        · have hc : (7 : Int) < ((orbX (n, d)).length : Int) := hc
          omega
        · refine V_loopP (γ := Nat) (fun g => g ≤ N) (fun g => N - g) (fun g => [(37, .int .i64 g)]) (fun g => [(1, [.row 0, .row 1])]) (fun _ => []) (fun g => [some ⟨rT, 43, true, prJ N g⟩]) 0 (Nat.zero_le _) ?_ ?_
          · conv => whnf
            refine ⟨?_, by (conv => whnf); repeat (first | exact True.intro | (refine And.intro rfl ?_; conv => whnf)), by (conv => whnf); repeat (first | exact True.intro | (refine And.intro (by first | rfl | (subst_vars; rfl)) ?_; conv => whnf)), rfl, rfl, rfl, rfl, rfl, rfl, rfl, Nat.le_of_ble_eq_true rfl, Nat.le_of_ble_eq_true rfl⟩
            conv => whnf
            repeat (first | exact True.intro | (refine And.intro (by first | rfl | ((conv => whnf); exact congrArg (AVal.int .i64) (by omega)) | ((conv => whnf); exact congrArg (AVal.int .i64) (by simp only [Int.natCast_add, Int.natCast_one]; omega)) | ((conv => whnf); exact congrArg (AVal.irow _) (by first | omega | assumption | (simp only; omega)))) ?_; conv => whnf))
          · rintro g hg
            have hl1 := prJ_len N (by omega) g
            conv => whnf
            refine vcCode_sound T_ok GPar _ _ _ _ _ ?_
            conv => whnf
            repeat (refine V_step T_ok GPar rfl ?_; conv => whnf)
            repeat (any_goals (first
              | (refine V_step T_ok GPar rfl ?_; conv => whnf)
              | (refine V_drawA T_ok GPar mixed (by kernel_rfl) ?_; conv => whnf)
              | (refine bcond_split (fun hc => ?_) (fun hc => ?_) <;> (try simp only [decide_eq_true_eq, decide_eq_false_iff_not, Bool.not_eq_true', Bool.not_eq_false', Bool.and_eq_true, Bool.or_eq_true, Bool.and_eq_false_imp, Bool.or_eq_false_iff, ne_eq, Decidable.not_not] at hc) <;> conv => whnf)
              | (intro ysK hysK; have hysl := congrArg List.length hysK; (try simp only [List.length_set, List.length_append, List.length_cons, List.length_nil, List.length_take, List.length_drop, List.length_replicate] at hysl); conv => whnf)
              | (refine And.intro (by first | (first | exact True.intro | exact hA | omega | (simp only [Rng]; omega)) | exact True.intro | exact ⟨rfl, True.intro, fun _ _ => rfl⟩ | exact Nat.le_of_ble_eq_true rfl | (refine ⟨by (try simp only [List.length_cons, List.length_nil]); omega, Int.le_trans (Int.mul_le_mul_of_nonneg_left (show (TInfo.bytes _ : Int) ≤ 64 from Int.ofNat_le.2 (Nat.le_of_ble_eq_true rfl)) (by omega)) (by (try simp only [List.length_cons, List.length_nil]); omega)⟩)) ?_; conv => whnf)))
            · have hgN : g + 1 ≤ N := by
                have hc : (g : Int) < ((orbX (n, d)).length : Int) := hc
                omega
              have hap : ∀ a b : Nat, a ≤ 5000 → b ≤ 5000 → ((a : Int) + (b : Int) ≤ 9223372036854775807 ∧ ((a : Int) + (b : Int)) * (ti43.bytes : Int) ≤ 140737488355328) := fun a b h1 h2 => by
                have hb : (ti43.bytes : Int) = 24 := rfl
                rw [hb]; omega
              refine V_loopH (γ := Nat × List (List Int)) (fun c => c.1 ≤ N - g - 1 ∧ c.2 = prJ N g ++ prI ((g : Int) + 1) ((g : Int) + 2) c.1) (fun c => N - g - 1 - c.1)
                (fun c => [(11, .int .i64 ((g : Int) + 1 + c.1))]) (fun _ => [(1, [.row 0, .row 1])]) (fun c => [(1, some ⟨rT, 43, true, c.2⟩)]) (0, prJ N g) ⟨Nat.zero_le _, by simp [prI]⟩ ?_ ?_
              · conv => whnf
                refine ⟨?_, by (conv => whnf); repeat (first | exact True.intro | (refine And.intro rfl ?_; conv => whnf)), by (conv => whnf); repeat (first | exact True.intro | (refine And.intro (by first | rfl | (subst_vars; rfl)) ?_; conv => whnf)), rfl, rfl, rfl, rfl, rfl, rfl, rfl, Nat.le_of_ble_eq_true rfl, Nat.le_of_ble_eq_true rfl⟩
                conv => whnf
                repeat (first | exact True.intro | (refine And.intro (by first | rfl | ((conv => whnf); exact congrArg (AVal.int .i64) (by omega)) | ((conv => whnf); exact congrArg (AVal.int .i64) (by simp only [Int.natCast_add, Int.natCast_one]; omega)) | ((conv => whnf); exact congrArg (AVal.irow _) (by first | omega | assumption | (simp only; omega)))) ?_; conv => whnf))
              · rintro ⟨c, out⟩ ⟨hcN, ho⟩
                simp only at hcN ho
                have hl2 := prI_len ((g : Int) + 1) ((g : Int) + 2) c
                have hl3 : List.length (α := List Int) out ≤ 4200 := by rw [ho, List.length_append, hl2]; omega
                conv => whnf
                refine vcCode_sound T_ok GPar _ _ _ _ _ ?_
                conv => whnf
                repeat (refine V_step T_ok GPar rfl ?_; conv => whnf)
                repeat (any_goals (first
                  | (refine V_step T_ok GPar rfl ?_; conv => whnf)
                  | (refine V_drawA T_ok GPar mixed (by kernel_rfl) ?_; conv => whnf)
                  | (refine bcond_split (fun hc => ?_) (fun hc => ?_) <;> (try simp only [decide_eq_true_eq, decide_eq_false_iff_not, Bool.not_eq_true', Bool.not_eq_false', Bool.and_eq_true, Bool.or_eq_true, Bool.and_eq_false_imp, Bool.or_eq_false_iff, ne_eq, Decidable.not_not] at hc) <;> conv => whnf)
                  | (intro ysK hysK; have hysl := congrArg List.length hysK; (try simp only [List.length_set, List.length_append, List.length_cons, List.length_nil, List.length_take, List.length_drop, List.length_replicate] at hysl); conv => whnf)
                  | (refine And.intro (by first | (first | exact True.intro | omega | (simp only [Rng]; omega) | exact hap _ _ (Nat.le_trans hl3 (by omega)) (by simp only [List.length_cons, List.length_nil]; omega)) | exact True.intro | exact ⟨rfl, True.intro, fun _ _ => rfl⟩ | exact Nat.le_of_ble_eq_true rfl | (refine ⟨by (try simp only [List.length_cons, List.length_nil]); omega, Int.le_trans (Int.mul_le_mul_of_nonneg_left (show (TInfo.bytes _ : Int) ≤ 64 from Int.ofNat_le.2 (Nat.le_of_ble_eq_true rfl)) (by omega)) (by (try simp only [List.length_cons, List.length_nil]); omega)⟩)) ?_; conv => whnf)))
                · have hcl : (g : Int) + 1 + c < ((orbX (n, d)).length : Int) := by assumption
                  have hy : ysK = prJ N g ++ prI ((g : Int) + 1) ((g : Int) + 2) (c + 1) := by
                    rw [hysK]
                    show out ++ [[(g : Int) + 1, (g : Int) + 1 + c + 1]] = _
                    rw [ho, prI, List.append_assoc, show (g : Int) + 1 + c + 1 = (g : Int) + 2 + c by omega]
                  clear hysK
                  refine ⟨(c + 1, ysK), ⟨by simp only; omega, hy⟩, by simp only; omega, ?_⟩
                  conv => whnf
                  refine ⟨?_, by (conv => whnf); repeat (first | exact True.intro | (refine And.intro rfl ?_; conv => whnf)), by (conv => whnf); repeat (first | exact True.intro | (refine And.intro (by first | rfl | (subst_vars; rfl)) ?_; conv => whnf)), rfl, rfl, rfl, rfl, rfl, rfl, rfl, Nat.le_of_ble_eq_true rfl, Nat.le_of_ble_eq_true rfl⟩
                  conv => whnf
                  repeat (first | exact True.intro | (refine And.intro (by first | rfl | ((conv => whnf); exact congrArg (AVal.int .i64) (by omega)) | ((conv => whnf); exact congrArg (AVal.int .i64) (by simp only [Int.natCast_add, Int.natCast_one]; omega)) | ((conv => whnf); exact congrArg (AVal.irow _) (by first | omega | assumption | (simp only; omega)))) ?_; conv => whnf))
                · have hc : ¬ (g : Int) + 1 + (c : Int) < ((orbX (n, d)).length : Int) := hc
                  have hcc : c = ((N : Int) - g - 1).toNat := by omega
                  have hJ : out = prJ N (g + 1) := by rw [ho, prJ, ← hcc]
                  subst hJ
                  refine ⟨g + 1, by omega, by omega, ?_⟩
                  conv => whnf
                  refine ⟨?_, by (conv => whnf); repeat (first | exact True.intro | (refine And.intro rfl ?_; conv => whnf)), by (conv => whnf); repeat (first | exact True.intro | (refine And.intro (by first | rfl | (subst_vars; rfl)) ?_; conv => whnf)), rfl, rfl, rfl, rfl, rfl, rfl, rfl, Nat.le_of_ble_eq_true rfl, Nat.le_of_ble_eq_true rfl⟩
                  conv => whnf
                  repeat (first | exact True.intro | (refine And.intro (by first | rfl | ((conv => whnf); exact congrArg (AVal.int .i64) (by omega)) | ((conv => whnf); exact congrArg (AVal.int .i64) (by simp only [Int.natCast_add, Int.natCast_one]; omega)) | ((conv => whnf); exact congrArg (AVal.irow _) (by first | omega | assumption | (simp only; omega)))) ?_; conv => whnf))
            · have hc : ¬ (g : Int) < ((orbX (n, d)).length : Int) := hc
              obtain rfl : g = N := by omega
              rw [hN]
              exact leafB2 1 0 1 rfl (Nat.zero_le _) rfl rfl rfl (by omega) rfl rfl (fun B C h1 h2 h3 => by simp [AVal.den, dens, h1, h2, h3])
      · refine ⟨_, _, _, hk2 (parN_2 hA h2), fun A w hB hR => ?_⟩
        clear hk1 hk2 hk0
        refine enter T_ok GPar Try.func28 rfl (K := (· < w.heap.size)) (fun _ h => h) (A := A) (vals := [.agg [.int .i64 n, .int .i64 d], .bool b]) (n0 := 0) (b0 := 0) (rows := []) (hp := []) rfl (Nat.zero_le _) no_box rfl no_row rfl rfl (Nat.le_of_ble_eq_true rfl) ?_
        conv => whnf
        repeat (refine V_step T_ok GPar rfl ?_; conv => whnf)
        repeat (any_goals (first
          | (refine V_step T_ok GPar rfl ?_; conv => whnf)
          | (refine V_drawA T_ok GPar mixed (by kernel_rfl) ?_; conv => whnf)
          | (refine bcond_split (fun hc => ?_) (fun hc => ?_) <;> (try simp only [decide_eq_true_eq, decide_eq_false_iff_not, Bool.not_eq_true', Bool.not_eq_false', Bool.and_eq_true, Bool.or_eq_true, Bool.and_eq_false_imp, Bool.or_eq_false_iff, ne_eq, Decidable.not_not] at hc) <;> conv => whnf)
          | (intro ysK hysK; have hysl := congrArg List.length hysK; (try simp only [List.length_set, List.length_append, List.length_cons, List.length_nil, List.length_take, List.length_drop, List.length_replicate] at hysl); conv => whnf)
          | (refine And.intro (by first | (first | exact True.intro | exact hA | omega | (simp only [Rng]; omega)) | exact True.intro | exact ⟨rfl, True.intro, fun _ _ => rfl⟩ | exact Nat.le_of_ble_eq_true rfl | (refine ⟨by (try simp only [List.length_cons, List.length_nil]); omega, Int.le_trans (Int.mul_le_mul_of_nonneg_left (show (TInfo.bytes _ : Int) ≤ 64 from Int.ofNat_le.2 (Nat.le_of_ble_eq_true rfl)) (by omega)) (by (try simp only [List.length_cons, List.length_nil]); omega)⟩)) ?_; conv => whnf)))
        · exact absurd hA hc
        · exact leafB0 rfl rfl rfl
        · exact leafB0 rfl rfl rfl
        · exact leafB0 rfl rfl rfl
        · rename_i h5 h6
          exact absurd ⟨h5, h6, by have hc : ¬ (7 : Int) < ((orbX (n, d)).length : Int) := hc; omega⟩ h2
    · refine ⟨_, _, _, hk1 (parN_1 hA), fun A w hB hR => ?_⟩
      clear hk1 hk2 hk0
      refine enter T_ok GPar Try.func28 rfl (K := (· < w.heap.size)) (fun _ h => h) (A := A) (vals := [.agg [.int .i64 n, .int .i64 d], .bool b]) (n0 := 0) (b0 := 0) (rows := []) (hp := []) rfl (Nat.zero_le _) no_box rfl no_row rfl rfl (Nat.le_of_ble_eq_true rfl) ?_
      conv => whnf
      repeat (refine V_step T_ok GPar rfl ?_; conv => whnf)
      repeat (any_goals (first
        | (refine V_step T_ok GPar rfl ?_; conv => whnf)
        | (refine V_drawA T_ok GPar mixed (by kernel_rfl) ?_; conv => whnf)
        | (refine bcond_split (fun hc => ?_) (fun hc => ?_) <;> (try simp only [decide_eq_true_eq, decide_eq_false_iff_not, Bool.not_eq_true', Bool.not_eq_false', Bool.and_eq_true, Bool.or_eq_true, Bool.and_eq_false_imp, Bool.or_eq_false_iff, ne_eq, Decidable.not_not] at hc) <;> conv => whnf)
        | (intro ysK hysK; have hysl := congrArg List.length hysK; (try simp only [List.length_set, List.length_append, List.length_cons, List.length_nil, List.length_take, List.length_drop, List.length_replicate] at hysl); conv => whnf)
        | (refine And.intro (by first | (first | exact True.intro | (exact absurd (by assumption) hA) | omega | (simp only [Rng]; omega)) | exact True.intro | exact ⟨rfl, True.intro, fun _ _ => rfl⟩ | exact Nat.le_of_ble_eq_true rfl | (refine ⟨by (try simp only [List.length_cons, List.length_nil]); omega, Int.le_trans (Int.mul_le_mul_of_nonneg_left (show (TInfo.bytes _ : Int) ≤ 64 from Int.ofNat_le.2 (Nat.le_of_ble_eq_true rfl)) (by omega)) (by (try simp only [List.length_cons, List.length_nil]); omega)⟩)) ?_; conv => whnf)))
      · exact leafB0 rfl rfl rfl
      all_goals exact absurd (by assumption) hA
end Go.Proofs.Ytllagpbbbdekiab.Fw
