/- Contracts: pairs of numbers, as rows of rows. -/
import Derived.Test.YtllagpbbbdekiabL2
namespace Go.Proofs.Ytllagpbbbdekiab.Fw
open Go Go.RowKit
set_option linter.unusedVariables false
set_option linter.unusedSimpArgs false
set_option maxRecDepth 100000
set_option maxHeartbeats 2000000
def prI (i a : Int) : Nat → List (List Int)
  | 0 => []
  | g + 1 => prI i a g ++ [[i, a + g]]
def prJ (m : Int) : Nat → List (List Int)
  | 0 => []
  | g + 1 => prJ m g ++ prI (g + 1) (g + 2) (m - g - 1).toNat
abbrev rT : TyC := .lst iT 2
def prsC : PCtr := fun _ _ lr vals k => match vals with
  | [.int .i64 m] => (0 ≤ m ∧ m ≤ 64) ∧ k [⟨rT, 43, true, prJ m m.toNat⟩] (.row lr)
  | _ => False
theorem prI_len (i a : Int) : ∀ g, (prI i a g).length = g
  | 0 => rfl
  | g + 1 => by simp [prI, prI_len i a g]
theorem prJ_len (m : Nat) (hm : m ≤ 64) : ∀ g : Nat, (prJ m g).length ≤ 64 * g
  | 0 => Nat.le_refl _
  | g + 1 => by
    have := prJ_len m hm g
    simp only [prJ, List.length_append, prI_len]
    omega
theorem sPrs_ok : PCtrOk Try.prog 32 prsC where
  enter := enter_ok Try.func32 (by kernel_rfl) rfl
  calls := by
    intro hg rg lr vals k h
    unfold prsC at h
    split at h
    case h_2 => exact h.elim
    rename_i m
    obtain ⟨hm, hk⟩ := h
    refine ⟨_, _, hk, fun A w _ _ => ?_⟩
    refine enter T_ok .nil Try.func32 rfl (K := (· < w.heap.size)) (fun _ h => h) (A := A) (n0 := 0) (b0 := 0) (rows := []) (hp := []) rfl (Nat.zero_le _) (fun k r h => by cases h) rfl (fun k r h => by cases h) rfl rfl (Nat.le_of_ble_eq_true rfl) ?_
    conv => whnf
    repeat (refine V_step T_ok .nil rfl ?_; conv => whnf)
    obtain ⟨N, rfl⟩ : ∃ N : Nat, m = (N : Int) := ⟨m.toNat, by omega⟩
    repeat (any_goals (first
      | (refine V_step T_ok .nil rfl ?_; conv => whnf)
      | (refine V_drawA T_ok .nil mixed (by kernel_rfl) ?_; conv => whnf)
      | (refine bcond_split (fun hc => ?_) (fun hc => ?_) <;> (try simp only [decide_eq_true_eq, decide_eq_false_iff_not, Bool.not_eq_true', Bool.not_eq_false', Bool.and_eq_true, Bool.or_eq_true, Bool.and_eq_false_imp, Bool.or_eq_false_iff, ne_eq, Decidable.not_not] at hc) <;> conv => whnf)
      | (intro ysK hysK; have hysl := congrArg List.length hysK; (try simp only [List.length_set, List.length_append, List.length_cons, List.length_nil, List.length_take, List.length_drop, List.length_replicate] at hysl); conv => whnf)
      | (refine And.intro (by first | exact True.intro | (with_reducible assumption) | omega | (simp only [Rng]; omega) | exact Nat.le_of_ble_eq_true rfl | exact True.intro | exact ⟨rfl, True.intro, fun _ _ => rfl⟩ | exact Nat.le_of_ble_eq_true rfl | (refine ⟨by (try simp only [List.length_cons, List.length_nil]); omega, Int.le_trans (Int.mul_le_mul_of_nonneg_left (show (TInfo.bytes _ : Int) ≤ 64 from Int.ofNat_le.2 (Nat.le_of_ble_eq_true rfl)) (by omega)) (by (try simp only [List.length_cons, List.length_nil]); omega)⟩)) ?_; conv => whnf)))
    refine V_loopH (γ := Nat) (fun g => g ≤ N) (fun g => N - g)
      (fun g => [(3, .row 0), (4, .int .i64 ((g : Int) + 1)), (6, .junk)]) (fun _ => []) (fun g => [(0, some ⟨rT, 43, true, prJ N g⟩)]) 0 (Nat.zero_le _) ?_ ?_
    · conv => whnf
      refine ⟨?_, by (conv => whnf); repeat (first | exact True.intro | (refine And.intro rfl ?_; conv => whnf)), by (conv => whnf); repeat (first | exact True.intro | (refine And.intro (by first | rfl | (subst_vars; rfl)) ?_; conv => whnf)), rfl, rfl, rfl, rfl, rfl, rfl, rfl, Nat.le_of_ble_eq_true rfl, Nat.le_of_ble_eq_true rfl⟩
      conv => whnf
      repeat (first | exact True.intro | (refine And.intro (by first | rfl | ((conv => whnf); exact congrArg (AVal.int .i64) (by omega)) | ((conv => whnf); exact congrArg (AVal.int .i64) (by simp only [Int.natCast_add, Int.natCast_one]; omega)) | ((conv => whnf); exact congrArg (AVal.irow _) (by first | omega | assumption | (simp only; omega)))) ?_; conv => whnf))
    · rintro g hg
      have hl1 := prJ_len N (by omega) g
      conv => whnf
      refine vcCode_sound T_ok .nil _ _ _ _ _ ?_
      conv => whnf
      repeat (refine V_step T_ok .nil rfl ?_; conv => whnf)
      repeat (any_goals (first
        | (refine V_step T_ok .nil rfl ?_; conv => whnf)
        | (refine V_drawA T_ok .nil mixed (by kernel_rfl) ?_; conv => whnf)
        | (refine bcond_split (fun hc => ?_) (fun hc => ?_) <;> (try simp only [decide_eq_true_eq, decide_eq_false_iff_not, Bool.not_eq_true', Bool.not_eq_false', Bool.and_eq_true, Bool.or_eq_true, Bool.and_eq_false_imp, Bool.or_eq_false_iff, ne_eq, Decidable.not_not] at hc) <;> conv => whnf)
        | (intro ysK hysK; have hysl := congrArg List.length hysK; (try simp only [List.length_set, List.length_append, List.length_cons, List.length_nil, List.length_take, List.length_drop, List.length_replicate] at hysl); conv => whnf)
        | (refine And.intro (by first | (first | exact True.intro | omega | (simp only [Rng]; omega)) | exact True.intro | exact ⟨rfl, True.intro, fun _ _ => rfl⟩ | exact Nat.le_of_ble_eq_true rfl | (refine ⟨by (try simp only [List.length_cons, List.length_nil]); omega, Int.le_trans (Int.mul_le_mul_of_nonneg_left (show (TInfo.bytes _ : Int) ≤ 64 from Int.ofNat_le.2 (Nat.le_of_ble_eq_true rfl)) (by omega)) (by (try simp only [List.length_cons, List.length_nil]); omega)⟩)) ?_; conv => whnf)))
      · have hgN : g + 1 ≤ N := by omega
        have hap : ∀ a b : Nat, a ≤ 5000 → b ≤ 5000 → ((a : Int) + (b : Int) ≤ 9223372036854775807 ∧ ((a : Int) + (b : Int)) * (ti43.bytes : Int) ≤ 140737488355328) := fun a b h1 h2 => by
          have hb : (ti43.bytes : Int) = 24 := rfl
          rw [hb]; omega
        refine V_loopH (γ := Nat × List (List Int)) (fun c => c.1 ≤ N - g - 1 ∧ c.2 = prJ N g ++ prI ((g : Int) + 1) ((g : Int) + 2) c.1) (fun c => N - g - 1 - c.1)
          (fun c => [(3, .row 0), (5, .int .i64 ((g : Int) + 2 + c.1))]) (fun _ => []) (fun c => [(0, some ⟨rT, 43, true, c.2⟩)]) (0, prJ N g) ⟨Nat.zero_le _, by simp [prI]⟩ ?_ ?_
        · conv => whnf
          refine ⟨?_, by (conv => whnf); repeat (first | exact True.intro | (refine And.intro rfl ?_; conv => whnf)), by (conv => whnf); repeat (first | exact True.intro | (refine And.intro (by first | rfl | (subst_vars; rfl)) ?_; conv => whnf)), rfl, rfl, rfl, rfl, rfl, rfl, rfl, Nat.le_of_ble_eq_true rfl, Nat.le_of_ble_eq_true rfl⟩
          conv => whnf
          repeat (first | exact True.intro | (refine And.intro (by first | rfl | ((conv => whnf); exact congrArg (AVal.int .i64) (by omega)) | ((conv => whnf); exact congrArg (AVal.int .i64) (by simp only [Int.natCast_add, Int.natCast_one]; omega)) | ((conv => whnf); exact congrArg (AVal.irow _) (by first | omega | assumption | (simp only; omega)))) ?_; conv => whnf))
        · rintro ⟨c, out⟩ ⟨hcN, ho⟩
          simp only at hcN ho
          have hl2 := prI_len ((g : Int) + 1) ((g : Int) + 2) c
          have hl3 : List.length (α := List Int) out ≤ 4200 := by rw [ho, List.length_append, hl2]; omega
          conv => whnf
          refine vcCode_sound T_ok .nil _ _ _ _ _ ?_
          conv => whnf
          repeat (refine V_step T_ok .nil rfl ?_; conv => whnf)
          repeat (any_goals (first
            | (refine V_step T_ok .nil rfl ?_; conv => whnf)
            | (refine V_drawA T_ok .nil mixed (by kernel_rfl) ?_; conv => whnf)
            | (refine bcond_split (fun hc => ?_) (fun hc => ?_) <;> (try simp only [decide_eq_true_eq, decide_eq_false_iff_not, Bool.not_eq_true', Bool.not_eq_false', Bool.and_eq_true, Bool.or_eq_true, Bool.and_eq_false_imp, Bool.or_eq_false_iff, ne_eq, Decidable.not_not] at hc) <;> conv => whnf)
            | (intro ysK hysK; have hysl := congrArg List.length hysK; (try simp only [List.length_set, List.length_append, List.length_cons, List.length_nil, List.length_take, List.length_drop, List.length_replicate] at hysl); conv => whnf)
            | (refine And.intro (by first | (first | exact True.intro | omega | (simp only [Rng]; omega) | exact hap _ _ (Nat.le_trans hl3 (by omega)) (by simp only [List.length_cons, List.length_nil]; omega)) | exact True.intro | exact ⟨rfl, True.intro, fun _ _ => rfl⟩ | exact Nat.le_of_ble_eq_true rfl | (refine ⟨by (try simp only [List.length_cons, List.length_nil]); omega, Int.le_trans (Int.mul_le_mul_of_nonneg_left (show (TInfo.bytes _ : Int) ≤ 64 from Int.ofNat_le.2 (Nat.le_of_ble_eq_true rfl)) (by omega)) (by (try simp only [List.length_cons, List.length_nil]); omega)⟩)) ?_; conv => whnf)))
          · have hy : ysK = prJ N g ++ prI ((g : Int) + 1) ((g : Int) + 2) (c + 1) := by
              rw [hysK]
              show out ++ [[(g : Int) + 1, (g : Int) + 2 + c]] = _
              rw [ho, prI, List.append_assoc]
            clear hysK
            refine ⟨(c + 1, ysK), ⟨by omega, hy⟩, by simp only; omega, ?_⟩
            conv => whnf
            refine ⟨?_, by (conv => whnf); repeat (first | exact True.intro | (refine And.intro rfl ?_; conv => whnf)), by (conv => whnf); repeat (first | exact True.intro | (refine And.intro (by first | rfl | (subst_vars; rfl)) ?_; conv => whnf)), rfl, rfl, rfl, rfl, rfl, rfl, rfl, Nat.le_of_ble_eq_true rfl, Nat.le_of_ble_eq_true rfl⟩
            conv => whnf
            repeat (first | exact True.intro | (refine And.intro (by first | rfl | ((conv => whnf); exact congrArg (AVal.int .i64) (by omega)) | ((conv => whnf); exact congrArg (AVal.int .i64) (by simp only [Int.natCast_add, Int.natCast_one]; omega)) | ((conv => whnf); exact congrArg (AVal.irow _) (by first | omega | assumption | (simp only; omega)))) ?_; conv => whnf))
          · have hc : ¬ (g : Int) + 2 + (c : Int) ≤ (N : Int) := hc
            have hcc : c = ((N : Int) - g - 1).toNat := by omega
            have hJ : out = prJ N (g + 1) := by rw [ho, prJ, ← hcc]
            subst hJ
            refine ⟨g + 1, by omega, by omega, ?_⟩
            conv => whnf
            refine ⟨?_, by (conv => whnf); repeat (first | exact True.intro | (refine And.intro rfl ?_; conv => whnf)), by (conv => whnf); repeat (first | exact True.intro | (refine And.intro (by first | rfl | (subst_vars; rfl)) ?_; conv => whnf)), rfl, rfl, rfl, rfl, rfl, rfl, rfl, Nat.le_of_ble_eq_true rfl, Nat.le_of_ble_eq_true rfl⟩
            conv => whnf
            repeat (first | exact True.intro | (refine And.intro (by first | rfl | ((conv => whnf); exact congrArg (AVal.int .i64) (by omega)) | ((conv => whnf); exact congrArg (AVal.int .i64) (by simp only [Int.natCast_add, Int.natCast_one]; omega)) | ((conv => whnf); exact congrArg (AVal.irow _) (by first | omega | assumption | (simp only; omega)))) ?_; conv => whnf))
      · have hgN : g = N := by omega
        subst hgN
        refine leaf1 0 rfl rfl rfl rfl (fun B C h => by simp [AVal.den, h])
end Go.Proofs.Ytllagpbbbdekiab.Fw
