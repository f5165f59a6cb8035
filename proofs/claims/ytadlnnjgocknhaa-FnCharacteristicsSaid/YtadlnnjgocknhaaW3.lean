/- Contracts: traces and polynomials of matrices, sums that wrap around, both sides. -/
import Derived.Test.YtadlnnjgocknhaaW2
namespace Go.Proofs.Ytadlnnjgocknhaa.Fw
open Go Go.RowKit
set_option linter.unusedVariables false
set_option linter.unusedSimpArgs false
set_option maxRecDepth 100000
set_option maxHeartbeats 2000000
def trWC : PCtr := fun _ rg _ vals k => match vals with
  | [.row i] => rowC rT (rg i) fun a => (List.length (α := List Int) a ≤ 1000 ∧ ∀ r ∈ (a : List (List Int)), List.length (α := Int) r = List.length (α := List Int) a) ∧ k [] (.int .i64 (trW a (List.length (α := List Int) a)))
  | _ => False
theorem trW_ok : PCtrOk Try.prog 71 trWC where
  enter := enter_ok Try.func71 (by kernel_rfl) rfl
  calls := by
    intro hg rg lr vals k h
    unfold trWC at h
    split at h
    case h_2 => exact h.elim
    rename_i i
    obtain ⟨e, own, a, hi, h⟩ : ∃ e own, ∃ (xs : List (List Int)), _ := rowC_inv h
    obtain ⟨⟨hl, hr⟩, hk⟩ := h
    refine ⟨_, _, hk, fun A w hB hR => ?_⟩
    refine enter T_okW .nil Try.func71 rfl (K := (· < w.heap.size)) (fun _ h => h) (A := A.pick [] [i]) (vals := [.row 0]) (n0 := 0) (b0 := 0) (rows := [some ⟨rT, e, false, a⟩]) (hp := []) rfl (Nat.zero_le _) no_box rfl (one_row (hR i _ hi)) rfl rfl (Nat.le_of_ble_eq_true rfl) ?_
    conv => whnf
    repeat (refine V_step T_okW .nil rfl ?_; conv => whnf)
    have hl : List.length (α := List Int) a ≤ 1000 := hl
    refine V_loopH (γ := Nat) (fun g => g ≤ List.length (α := List Int) a) (fun g => List.length (α := List Int) a - g)
      (fun g => [(3, .int .i64 (trW a g)), (7, .int .i64 g)]) (fun _ => []) (fun _ => []) 0 (Nat.zero_le _) ?_ ?_
    · clear hr
      conv => whnf
      refine ⟨?_, by (conv => whnf); repeat (first | exact True.intro | (refine And.intro rfl ?_; conv => whnf)), by (conv => whnf); repeat (first | exact True.intro | (refine And.intro (by first | rfl | (subst_vars; rfl)) ?_; conv => whnf)), rfl, rfl, rfl, rfl, rfl, rfl, rfl, Nat.le_of_ble_eq_true rfl, Nat.le_of_ble_eq_true rfl⟩
      conv => whnf
      repeat (first | exact True.intro | (refine And.intro (by first | rfl | ((conv => whnf); exact congrArg (AVal.int .i64) (by omega)) | ((conv => whnf); exact congrArg (AVal.int .i64) (by simp only [Int.natCast_add, Int.natCast_one]; omega))) ?_; conv => whnf))
    · rintro g h1
      have hrow : (g : Int) < (List.length (α := List Int) a : Int) → List.length (α := Int) (@List.getD (List Int) a g []) = List.length (α := List Int) a := fun h => hr _ (getD_mem (by omega))
      conv => whnf
      refine vcCode_sound T_okW .nil _ _ _ _ _ ?_
      conv => whnf
      repeat (refine V_step T_okW .nil rfl ?_; conv => whnf)
      repeat (any_goals (first
        | (refine V_step T_okW .nil rfl ?_; conv => whnf)
        | (refine V_drawA T_okW .nil mixed (by kernel_rfl) ?_; conv => whnf)
        | (refine bcond_split (fun hc => ?_) (fun hc => ?_) <;> (try simp only [decide_eq_true_eq, decide_eq_false_iff_not, Bool.not_eq_true', Bool.not_eq_false', Bool.and_eq_true, Bool.or_eq_true, Bool.and_eq_false_imp, Bool.or_eq_false_iff, ne_eq, Decidable.not_not] at hc) <;> conv => whnf)
        | (intro ysK hysK; have hysl := congrArg List.length hysK; (try simp only [List.length_set, List.length_append, List.length_cons, List.length_nil, List.length_take, List.length_drop, List.length_replicate] at hysl); conv => whnf)
        | (refine And.intro (by first | (first | exact True.intro | omega | (have q := hrow (by assumption); simp only [Int.toNat_natCast]; omega) | (simp only [Rng]; omega)) | exact True.intro | exact ⟨rfl, True.intro, fun _ _ => rfl⟩ | exact Nat.le_of_ble_eq_true rfl | (refine ⟨by (try simp only [List.length_cons, List.length_nil]); omega, Int.le_trans (Int.mul_le_mul_of_nonneg_left (show (TInfo.bytes _ : Int) ≤ 64 from Int.ofNat_le.2 (Nat.le_of_ble_eq_true rfl)) (by omega)) (by (try simp only [List.length_cons, List.length_nil]); omega)⟩)) ?_; conv => whnf)))
      · refine ⟨g + 1, by omega, by omega, ?_⟩
        clear hr hrow
        conv => whnf
        refine ⟨?_, by (conv => whnf); repeat (first | exact True.intro | (refine And.intro rfl ?_; conv => whnf)), by (conv => whnf); repeat (first | exact True.intro | (refine And.intro (by first | rfl | (subst_vars; rfl)) ?_; conv => whnf)), rfl, rfl, rfl, rfl, rfl, rfl, rfl, Nat.le_of_ble_eq_true rfl, Nat.le_of_ble_eq_true rfl⟩
        conv => whnf
        repeat (first | exact True.intro | (refine And.intro (by first | rfl | ((conv => whnf); exact congrArg (AVal.int .i64) (by omega)) | ((conv => whnf); exact congrArg (AVal.int .i64) (by simp only [Int.natCast_add, Int.natCast_one]; omega))) ?_; conv => whnf))
      · have hg : g = List.length (α := List Int) a := by
          have hc : ¬ (g : Int) < (List.length (α := List Int) a : Int) := hc
          omega
        subst hg
        exact leaf0 rfl rfl rfl
theorem sTrW_ok : PCtrOk Try.prog 72 trWC where
  enter := enter_ok Try.func72 (by kernel_rfl) rfl
  calls := by
    intro hg rg lr vals k h
    unfold trWC at h
    split at h
    case h_2 => exact h.elim
    rename_i i
    obtain ⟨e, own, a, hi, h⟩ : ∃ e own, ∃ (xs : List (List Int)), _ := rowC_inv h
    obtain ⟨⟨hl, hr⟩, hk⟩ := h
    refine ⟨_, _, hk, fun A w hB hR => ?_⟩
    refine enter T_okW .nil Try.func72 rfl (K := (· < w.heap.size)) (fun _ h => h) (A := A.pick [] [i]) (vals := [.row 0]) (n0 := 0) (b0 := 0) (rows := [some ⟨rT, e, false, a⟩]) (hp := []) rfl (Nat.zero_le _) no_box rfl (one_row (hR i _ hi)) rfl rfl (Nat.le_of_ble_eq_true rfl) ?_
    conv => whnf
    repeat (refine V_step T_okW .nil rfl ?_; conv => whnf)
    have hl : List.length (α := List Int) a ≤ 1000 := hl
    refine V_loopH (γ := Nat) (fun g => g ≤ List.length (α := List Int) a) (fun g => List.length (α := List Int) a - g)
      (fun g => [(3, .int .i64 (trW a g)), (4, .int .i64 g)]) (fun _ => []) (fun _ => []) 0 (Nat.zero_le _) ?_ ?_
    · clear hr
      conv => whnf
      refine ⟨?_, by (conv => whnf); repeat (first | exact True.intro | (refine And.intro rfl ?_; conv => whnf)), by (conv => whnf); repeat (first | exact True.intro | (refine And.intro (by first | rfl | (subst_vars; rfl)) ?_; conv => whnf)), rfl, rfl, rfl, rfl, rfl, rfl, rfl, Nat.le_of_ble_eq_true rfl, Nat.le_of_ble_eq_true rfl⟩
      conv => whnf
      repeat (first | exact True.intro | (refine And.intro (by first | rfl | ((conv => whnf); exact congrArg (AVal.int .i64) (by omega)) | ((conv => whnf); exact congrArg (AVal.int .i64) (by simp only [Int.natCast_add, Int.natCast_one]; omega))) ?_; conv => whnf))
    · rintro g h1
      have hrow : (g : Int) < (List.length (α := List Int) a : Int) → List.length (α := Int) (@List.getD (List Int) a g []) = List.length (α := List Int) a := fun h => hr _ (getD_mem (by omega))
      conv => whnf
      refine vcCode_sound T_okW .nil _ _ _ _ _ ?_
      conv => whnf
      repeat (refine V_step T_okW .nil rfl ?_; conv => whnf)
      repeat (any_goals (first
        | (refine V_step T_okW .nil rfl ?_; conv => whnf)
        | (refine V_drawA T_okW .nil mixed (by kernel_rfl) ?_; conv => whnf)
        | (refine bcond_split (fun hc => ?_) (fun hc => ?_) <;> (try simp only [decide_eq_true_eq, decide_eq_false_iff_not, Bool.not_eq_true', Bool.not_eq_false', Bool.and_eq_true, Bool.or_eq_true, Bool.and_eq_false_imp, Bool.or_eq_false_iff, ne_eq, Decidable.not_not] at hc) <;> conv => whnf)
        | (intro ysK hysK; have hysl := congrArg List.length hysK; (try simp only [List.length_set, List.length_append, List.length_cons, List.length_nil, List.length_take, List.length_drop, List.length_replicate] at hysl); conv => whnf)
        | (refine And.intro (by first | (first | exact True.intro | omega | (have q := hrow (by assumption); simp only [Int.toNat_natCast]; omega) | (simp only [Rng]; omega)) | exact True.intro | exact ⟨rfl, True.intro, fun _ _ => rfl⟩ | exact Nat.le_of_ble_eq_true rfl | (refine ⟨by (try simp only [List.length_cons, List.length_nil]); omega, Int.le_trans (Int.mul_le_mul_of_nonneg_left (show (TInfo.bytes _ : Int) ≤ 64 from Int.ofNat_le.2 (Nat.le_of_ble_eq_true rfl)) (by omega)) (by (try simp only [List.length_cons, List.length_nil]); omega)⟩)) ?_; conv => whnf)))
      · refine ⟨g + 1, by omega, by omega, ?_⟩
        clear hr hrow
        conv => whnf
        refine ⟨?_, by (conv => whnf); repeat (first | exact True.intro | (refine And.intro rfl ?_; conv => whnf)), by (conv => whnf); repeat (first | exact True.intro | (refine And.intro (by first | rfl | (subst_vars; rfl)) ?_; conv => whnf)), rfl, rfl, rfl, rfl, rfl, rfl, rfl, Nat.le_of_ble_eq_true rfl, Nat.le_of_ble_eq_true rfl⟩
        conv => whnf
        repeat (first | exact True.intro | (refine And.intro (by first | rfl | ((conv => whnf); exact congrArg (AVal.int .i64) (by omega)) | ((conv => whnf); exact congrArg (AVal.int .i64) (by simp only [Int.natCast_add, Int.natCast_one]; omega))) ?_; conv => whnf))
      · have hg : g = List.length (α := List Int) a := by
          have hc : ¬ (g : Int) < (List.length (α := List Int) a : Int) := hc
          omega
        subst hg
        exact leaf0 rfl rfl rfl
def charC : PCtr := fun _ rg lr vals k => match vals with
  | [.row i] => rowC rT (rg i) fun a => (List.length (α := List Int) a ≤ 900 ∧ ∀ r ∈ (a : List (List Int)), List.length (α := Int) r = List.length (α := List Int) a) ∧ ∀ ys, ys = chP a → k [⟨iT, 2, true, ys⟩] (.row lr)
  | _ => False
abbrev GChar := GOk.cons unit_ok (GOk.cons prodW_ok (GOk.cons trW_ok .nil))
theorem char_ok : PCtrOk Try.prog 54 charC where
  enter := enter_ok Try.func54 (by kernel_rfl) rfl
  calls := by
    intro hg rg lr vals k h
    unfold charC at h
    split at h
    case h_2 => exact h.elim
    rename_i i
    obtain ⟨e, own, a, hi, h⟩ : ∃ e own, ∃ (xs : List (List Int)), _ := rowC_inv h
    obtain ⟨⟨hl, hr⟩, hk⟩ := h
    replace hk := hk _ rfl
    refine ⟨_, _, hk, fun A w hB hR => ?_⟩
    refine enter T_okW GChar Try.func54 rfl (K := (· < w.heap.size)) (fun _ h => h) (A := A.pick [] [i]) (vals := [.row 0]) (n0 := 0) (b0 := 0) (rows := [some ⟨rT, e, false, a⟩]) (hp := []) rfl (Nat.zero_le _) no_box rfl (one_row (hR i _ hi)) rfl rfl (Nat.le_of_ble_eq_true rfl) ?_
    conv => whnf
    repeat (refine V_step T_okW GChar rfl ?_; conv => whnf)
    have hl : List.length (α := List Int) a ≤ 900 := hl
    obtain ⟨N, hN⟩ : ∃ N, List.length (α := List Int) a = N := ⟨_, rfl⟩
    have hmk : (0 ≤ (List.length (α := List Int) a : Int) + 1 ∧ (List.length (α := List Int) a : Int) + 1 = (List.length (α := List Int) a : Int) + 1 ∧ (ti64w.bytes : Int) * ((List.length (α := List Int) a : Int) + 1) ≤ 281474976710656 ∧ (List.length (α := List Int) a : Int) + 1 ≤ 9223372036854775807) := by
      refine ⟨by omega, rfl, ?_, by omega⟩
      show (8 : Int) * ((List.length (α := List Int) a : Int) + 1) ≤ _
      omega
    have hrl : List.length (α := Int) (List.replicate (((List.length (α := List Int) a : Int) + 1).toNat) (0 : Int)) = N + 1 := by rw [List.length_replicate]; omega
    repeat (any_goals (first
      | (refine V_step T_okW GChar rfl ?_; conv => whnf)
      | (refine V_drawA T_okW GChar mixed (by kernel_rfl) ?_; conv => whnf)
      | (refine bcond_split (fun hc => ?_) (fun hc => ?_) <;> (try simp only [decide_eq_true_eq, decide_eq_false_iff_not, Bool.not_eq_true', Bool.not_eq_false', Bool.and_eq_true, Bool.or_eq_true, Bool.and_eq_false_imp, Bool.or_eq_false_iff, ne_eq, Decidable.not_not] at hc) <;> conv => whnf)
      | (intro ysK hysK; have hysl := congrArg List.length hysK; (try simp only [List.length_set, List.length_append, List.length_cons, List.length_nil, List.length_take, List.length_drop, List.length_replicate] at hysl); conv => whnf)
      | (refine And.intro (by first | (first | exact True.intro | with_reducible exact hmk | (simp only [List.length_replicate]; omega) | omega | (simp only [Rng]; omega)) | exact True.intro | exact ⟨rfl, True.intro, fun _ _ => rfl⟩ | exact Nat.le_of_ble_eq_true rfl | (refine ⟨by (try simp only [List.length_cons, List.length_nil]); omega, Int.le_trans (Int.mul_le_mul_of_nonneg_left (show (TInfo.bytes _ : Int) ≤ 64 from Int.ofNat_le.2 (Nat.le_of_ble_eq_true rfl)) (by omega)) (by (try simp only [List.length_cons, List.length_nil]); omega)⟩)) ?_; conv => whnf)))
    rename_i y1 hy1 _
    have hY1 : y1 = outC a 0 := by
      rw [outC_zero]
      have hq : (List.replicate ((List.length (α := List Int) a : Int) + 1).toNat (0 : Int)) = List.replicate (List.length (α := List Int) a + 1) 0 := congrArg (fun z => List.replicate z (0 : Int)) (by omega)
      have hy1 : y1 = (List.replicate ((List.length (α := List Int) a : Int) + 1).toNat (0 : Int)).set (List.length (α := List Int) a) 1 := hy1
      rw [hy1, hq]
    have hY2 : ysK = chM a 0 := hysK
    clear hysl hysK hy1
    refine V_loopH (γ := Nat × List Int × List (List Int)) (fun g => g.1 ≤ N ∧ g.2.1 = outC a g.1 ∧ g.2.2 = chM a g.1) (fun g => N - g.1)
      (fun g => [(5, .row 2), (6, .int .i64 ((g.1 : Int) + 1)), (17, .junk)]) (fun _ => []) (fun g => [(1, some ⟨iT, 2, true, g.2.1⟩), (2, some ⟨rT, 32, true, g.2.2⟩)]) (0, y1, ysK) ⟨Nat.zero_le _, hY1, hY2⟩ ?_ ?_
    · clear hmk hrl
      conv => whnf
      refine ⟨?_, by (conv => whnf); repeat (first | exact True.intro | (refine And.intro rfl ?_; conv => whnf)), by (conv => whnf); repeat (first | exact True.intro | (refine And.intro (by first | rfl | (subst_vars; rfl)) ?_; conv => whnf)), rfl, rfl, rfl, rfl, rfl, rfl, rfl, Nat.le_of_ble_eq_true rfl, Nat.le_of_ble_eq_true rfl⟩
      conv => whnf
      repeat (first | exact True.intro | (refine And.intro (by first | rfl | ((conv => whnf); exact congrArg (AVal.int .i64) (by omega)) | ((conv => whnf); exact congrArg (AVal.int .i64) (by simp only [Int.natCast_add, Int.natCast_one]; omega))) ?_; conv => whnf))
    · rintro ⟨g, out, M⟩ ⟨h1, h2, h3⟩
      simp only at h1 h2 h3
      have hout : List.length (α := Int) out = N + 1 := by rw [h2, outC_len]; omega
      have hM : List.length (α := List Int) M = List.length (α := List Int) a := by rw [h3, chM_len]
      have hMr : ∀ r ∈ M, List.length (α := Int) r = List.length (α := List Int) a := by rw [h3]; exact chM_row a g
      have hMh : List.length (α := Int) (@List.getD (List Int) M 0 []) = List.length (α := List Int) a := by
        rw [hd_lenW (a := M) (fun r hr => by rw [hMr r hr, hM]), hM]
      have hpr : MzOk a M (List.length (α := Int) (@List.getD (List Int) M 0 [])) := by
        rw [hMh]; exact ⟨by omega, by omega, by omega, fun r hr' => by rw [hr r hr', hM], hMr⟩
      conv => whnf
      refine vcCode_sound T_okW GChar _ _ _ _ _ ?_
      conv => whnf
      repeat (refine V_step T_okW GChar rfl ?_; conv => whnf)
      repeat (any_goals (first
        | (refine V_step T_okW GChar rfl ?_; conv => whnf)
        | (refine V_drawA T_okW GChar mixed (by kernel_rfl) ?_; conv => whnf)
        | (refine bcond_split (fun hc => ?_) (fun hc => ?_) <;> (try simp only [decide_eq_true_eq, decide_eq_false_iff_not, Bool.not_eq_true', Bool.not_eq_false', Bool.and_eq_true, Bool.or_eq_true, Bool.and_eq_false_imp, Bool.or_eq_false_iff, ne_eq, Decidable.not_not] at hc) <;> conv => whnf)
        | (intro ysK hysK; have hysl := congrArg List.length hysK; (try simp only [List.length_set, List.length_append, List.length_cons, List.length_nil, List.length_take, List.length_drop, List.length_replicate] at hysl); conv => whnf)
        | (refine And.intro (by first | (first | exact True.intro | with_reducible exact hpr | omega | (simp only [Rng]; omega)) | exact True.intro | exact ⟨rfl, True.intro, fun _ _ => rfl⟩ | exact Nat.le_of_ble_eq_true rfl | (refine ⟨by (try simp only [List.length_cons, List.length_nil]); omega, Int.le_trans (Int.mul_le_mul_of_nonneg_left (show (TInfo.bytes _ : Int) ≤ 64 from Int.ofNat_le.2 (Nat.le_of_ble_eq_true rfl)) (by omega)) (by (try simp only [List.length_cons, List.length_nil]); omega)⟩)) ?_; conv => whnf)))
      · have hg : g < N := by
          have hc : (g : Int) + 1 ≤ (List.length (α := List Int) a : Int) := by assumption
          omega
        have hP : ysK = mulW a M (List.length (α := List Int) a) := by rw [← hMh]; exact hysK
        have hPl : List.length (α := List Int) ysK = List.length (α := List Int) a := by rw [hP, mulW_len]
        have hPr : ∀ r ∈ ysK, List.length (α := Int) r = List.length (α := List Int) a := by rw [hP]; exact mulW_row _ _ _
        clear hysK hysl
        rename List (List (TyC.α (TyC.int IntKind.i64))) => P
        have htr : List.length (α := List Int) P ≤ 1000 ∧ ∀ r ∈ P, List.length (α := Int) r = List.length (α := List Int) P := ⟨by omega, fun r hr' => by rw [hPr r hr', hPl]⟩
        have hne : (g : Int) + 1 ≠ 0 := by omega
        repeat (any_goals (first
          | (refine V_step T_okW GChar rfl ?_; conv => whnf)
          | (refine V_drawA T_okW GChar mixed (by kernel_rfl) ?_; conv => whnf)
          | (refine bcond_split (fun hc => ?_) (fun hc => ?_) <;> (try simp only [decide_eq_true_eq, decide_eq_false_iff_not, Bool.not_eq_true', Bool.not_eq_false', Bool.and_eq_true, Bool.or_eq_true, Bool.and_eq_false_imp, Bool.or_eq_false_iff, ne_eq, Decidable.not_not] at hc) <;> conv => whnf)
          | (intro ysK hysK; have hysl := congrArg List.length hysK; (try simp only [List.length_set, List.length_append, List.length_cons, List.length_nil, List.length_take, List.length_drop, List.length_replicate] at hysl); conv => whnf)
          | (refine And.intro (by first | (first | exact True.intro | with_reducible exact htr | with_reducible exact hne | omega | (simp only [Rng]; omega)) | exact True.intro | exact ⟨rfl, True.intro, fun _ _ => rfl⟩ | exact Nat.le_of_ble_eq_true rfl | (refine ⟨by (try simp only [List.length_cons, List.length_nil]); omega, Int.le_trans (Int.mul_le_mul_of_nonneg_left (show (TInfo.bytes _ : Int) ≤ 64 from Int.ofNat_le.2 (Nat.le_of_ble_eq_true rfl)) (by omega)) (by (try simp only [List.length_cons, List.length_nil]); omega)⟩)) ?_; conv => whnf)))
        have e0 : (((List.length (α := List Int) a : Int) - ((g : Int) + 1)).toNat) = List.length (α := List Int) a - (g + 1) := by omega
        have hO : ysK = outC a (g + 1) := by
          have e1 : IntKind.i64.wrap ((IntKind.i64.wrap (-trW P (List.length (α := List Int) P))).tdiv ((g : Int) + 1)) = chC a (g + 1) := by
            show _ = coW (g + 1) (mulW a (chM a g) a.length)
            unfold coW
            rw [← h3, ← hP, show ((g + 1 : Nat) : Int) = (g : Int) + 1 by omega]
          simp only at hysK
          rw [hysK, e0, e1, h2]; exact outC_step (by omega)
        have hOl : List.length (α := Int) ysK = N + 1 := by rw [hO, outC_len]; omega
        have hOg : List.getD (α := Int) ysK (List.length (α := List Int) a - (g + 1)) 0 = chC a (g + 1) := by rw [hO]; exact outC_at (Nat.le_refl _) (by omega)
        clear hysK hysl
        rename List (TyC.α iT) => O
        refine V_loopH (γ := Nat × List (List Int)) (fun q => q.1 ≤ N ∧ q.2 = dgK P (chC a (g + 1)) q.1) (fun q => N - q.1)
          (fun q => [(38, .int .i64 q.1)]) (fun _ => []) (fun q => [(3, some ⟨rT, 32, true, q.2⟩)]) (0, P) ⟨Nat.zero_le _, (dgK_zero _ _).symm⟩ ?_ ?_
        · clear hmk hrl
          conv => whnf
          refine ⟨?_, by (conv => whnf); repeat (first | exact True.intro | (refine And.intro rfl ?_; conv => whnf)), by (conv => whnf); repeat (first | exact True.intro | (refine And.intro (by first | rfl | (subst_vars; rfl)) ?_; conv => whnf)), rfl, rfl, rfl, rfl, rfl, rfl, rfl, Nat.le_of_ble_eq_true rfl, Nat.le_of_ble_eq_true rfl⟩
          conv => whnf
          repeat (first | exact True.intro | (refine And.intro (by first | rfl | ((conv => whnf); exact congrArg (AVal.int .i64) (by omega)) | ((conv => whnf); exact congrArg (AVal.int .i64) (by simp only [Int.natCast_add, Int.natCast_one]; omega))) ?_; conv => whnf))
        · rintro ⟨q, L⟩ ⟨q1, q2⟩
          simp only at q1 q2
          have hL : List.length (α := List Int) L = List.length (α := List Int) a := by rw [q2, dgK_len (by omega), hPl]
          have hLq : q < N → L.getD q [] = P.getD q [] := fun h => by rw [q2, dgK_get (by omega)]
          have hrow : (q : Int) < (List.length (α := List Int) P : Int) → List.length (α := Int) (@List.getD (List Int) L q []) = List.length (α := List Int) a := fun h => by rw [hLq (by omega)]; exact hPr _ (getD_mem (by omega))
          conv => whnf
          refine vcCode_sound T_okW GChar _ _ _ _ _ ?_
          conv => whnf
          repeat (refine V_step T_okW GChar rfl ?_; conv => whnf)
          repeat (any_goals (first
            | (refine V_step T_okW GChar rfl ?_; conv => whnf)
            | (refine V_drawA T_okW GChar mixed (by kernel_rfl) ?_; conv => whnf)
            | (refine bcond_split (fun hc => ?_) (fun hc => ?_) <;> (try simp only [decide_eq_true_eq, decide_eq_false_iff_not, Bool.not_eq_true', Bool.not_eq_false', Bool.and_eq_true, Bool.or_eq_true, Bool.and_eq_false_imp, Bool.or_eq_false_iff, ne_eq, Decidable.not_not] at hc) <;> conv => whnf)
            | (intro ysK hysK; have hysl := congrArg List.length hysK; (try simp only [List.length_set, List.length_append, List.length_cons, List.length_nil, List.length_take, List.length_drop, List.length_replicate] at hysl); conv => whnf)
            | (refine And.intro (by first | (first | exact True.intro | omega | (have z := hrow (by assumption); simp only [Int.toNat_natCast]; omega) | (simp only [Rng]; omega)) | exact True.intro | exact ⟨rfl, True.intro, fun _ _ => rfl⟩ | exact Nat.le_of_ble_eq_true rfl | (refine ⟨by (try simp only [List.length_cons, List.length_nil]); omega, Int.le_trans (Int.mul_le_mul_of_nonneg_left (show (TInfo.bytes _ : Int) ≤ 64 from Int.ofNat_le.2 (Nat.le_of_ble_eq_true rfl)) (by omega)) (by (try simp only [List.length_cons, List.length_nil]); omega)⟩)) ?_; conv => whnf)))
          · have hq : q < N := by
              have hc : (q : Int) < (List.length (α := List Int) P : Int) := by assumption
              omega
            have hY : ysK = dgK P (chC a (g + 1)) (q + 1) := by
              have e2 : dgR P (chC a (g + 1)) q = (L.getD q []).set q (IntKind.i64.wrap ((L.getD q []).getD q 0 + List.getD (α := Int) O (List.length (α := List Int) a - (g + 1)) 0)) := by rw [hLq hq, hOg]; rfl
              rw [← dgK_step (by omega), ← q2, e2]
              simp only [Int.toNat_natCast, e0] at hysK
              exact hysK
            clear hysK hysl
            refine ⟨(q + 1, ysK), ⟨by simp only; omega, hY⟩, by simp only; omega, ?_⟩
            clear hmk hrl
            conv => whnf
            refine ⟨?_, by (conv => whnf); repeat (first | exact True.intro | (refine And.intro rfl ?_; conv => whnf)), by (conv => whnf); repeat (first | exact True.intro | (refine And.intro (by first | rfl | (subst_vars; rfl)) ?_; conv => whnf)), rfl, rfl, rfl, rfl, rfl, rfl, rfl, Nat.le_of_ble_eq_true rfl, Nat.le_of_ble_eq_true rfl⟩
            conv => whnf
            repeat (first | exact True.intro | (refine And.intro (by first | rfl | ((conv => whnf); exact congrArg (AVal.int .i64) (by omega)) | ((conv => whnf); exact congrArg (AVal.int .i64) (by simp only [Int.natCast_add, Int.natCast_one]; omega))) ?_; conv => whnf))
          · have hq : q = N := by
              have hc : ¬ (q : Int) < (List.length (α := List Int) P : Int) := hc
              omega
            have hY : L = chM a (g + 1) := by
              rw [q2, hq, show N = P.length by omega, dgK_all, hP, h3]; rfl
            refine ⟨(g + 1, O, L), ⟨by simp only; omega, hO, hY⟩, by simp only; omega, ?_⟩
            have e9 : ((g + 1 : Nat) : Int) + 1 = (g : Int) + 1 + 1 := by omega
            clear hmk hrl
            conv => whnf
            refine ⟨?_, by (conv => whnf); repeat (first | exact True.intro | (refine And.intro rfl ?_; conv => whnf)), by (conv => whnf); repeat (first | exact True.intro | (refine And.intro (by first | rfl | (subst_vars; rfl)) ?_; conv => whnf)), rfl, rfl, rfl, rfl, rfl, rfl, rfl, Nat.le_of_ble_eq_true rfl, Nat.le_of_ble_eq_true rfl⟩
            conv => whnf
            repeat (first | exact True.intro | (refine And.intro (by first | rfl | ((conv => whnf); exact congrArg (AVal.int .i64) (by omega)) | ((conv => whnf); exact congrArg (AVal.int .i64) (by simp only [Int.natCast_add, Int.natCast_one]; omega))) ?_; conv => whnf))
      · have hg : g = N := by
          have hc : ¬ (g : Int) + 1 ≤ (List.length (α := List Int) a : Int) := hc
          omega
        have hY : chP a = out := by rw [h2, hg, ← hN]; rfl
        rw [hY]
        exact leaf1 1 rfl rfl rfl rfl (fun B C h => by simp [AVal.den, h])
abbrev GSChar := GOk.cons sUnit_ok (GOk.cons sTimesW_ok (GOk.cons sTrW_ok .nil))
theorem sChar_ok : PCtrOk Try.prog 53 charC where
  enter := enter_ok Try.func53 (by kernel_rfl) rfl
  calls := by
    intro hg rg lr vals k h
    unfold charC at h
    split at h
    case h_2 => exact h.elim
    rename_i i
    obtain ⟨e, own, a, hi, h⟩ : ∃ e own, ∃ (xs : List (List Int)), _ := rowC_inv h
    obtain ⟨⟨hl, hr⟩, hk⟩ := h
    replace hk := hk _ rfl
    refine ⟨_, _, hk, fun A w hB hR => ?_⟩
    refine enter T_okW GSChar Try.func53 rfl (K := (· < w.heap.size)) (fun _ h => h) (A := A.pick [] [i]) (vals := [.row 0]) (n0 := 0) (b0 := 0) (rows := [some ⟨rT, e, false, a⟩]) (hp := []) rfl (Nat.zero_le _) no_box rfl (one_row (hR i _ hi)) rfl rfl (Nat.le_of_ble_eq_true rfl) ?_
    conv => whnf
    repeat (refine V_step T_okW GSChar rfl ?_; conv => whnf)
    have hl : List.length (α := List Int) a ≤ 900 := hl
    obtain ⟨N, hN⟩ : ∃ N, List.length (α := List Int) a = N := ⟨_, rfl⟩
    have hmk : (0 ≤ (List.length (α := List Int) a : Int) + 1 ∧ (List.length (α := List Int) a : Int) + 1 = (List.length (α := List Int) a : Int) + 1 ∧ (ti64w.bytes : Int) * ((List.length (α := List Int) a : Int) + 1) ≤ 281474976710656 ∧ (List.length (α := List Int) a : Int) + 1 ≤ 9223372036854775807) := by
      refine ⟨by omega, rfl, ?_, by omega⟩
      show (8 : Int) * ((List.length (α := List Int) a : Int) + 1) ≤ _
      omega
    repeat (any_goals (first
      | (refine V_step T_okW GSChar rfl ?_; conv => whnf)
      | (refine V_drawA T_okW GSChar mixed (by kernel_rfl) ?_; conv => whnf)
      | (refine bcond_split (fun hc => ?_) (fun hc => ?_) <;> (try simp only [decide_eq_true_eq, decide_eq_false_iff_not, Bool.not_eq_true', Bool.not_eq_false', Bool.and_eq_true, Bool.or_eq_true, Bool.and_eq_false_imp, Bool.or_eq_false_iff, ne_eq, Decidable.not_not] at hc) <;> conv => whnf)
      | (intro ysK hysK; have hysl := congrArg List.length hysK; (try simp only [List.length_set, List.length_append, List.length_cons, List.length_nil, List.length_take, List.length_drop, List.length_replicate] at hysl); conv => whnf)
      | (refine And.intro (by first | (first | exact True.intro | with_reducible exact hmk | (simp only [List.length_replicate]; omega) | omega | (simp only [Rng]; omega)) | exact True.intro | exact ⟨rfl, True.intro, fun _ _ => rfl⟩ | exact Nat.le_of_ble_eq_true rfl | (refine ⟨by (try simp only [List.length_cons, List.length_nil]); omega, Int.le_trans (Int.mul_le_mul_of_nonneg_left (show (TInfo.bytes _ : Int) ≤ 64 from Int.ofNat_le.2 (Nat.le_of_ble_eq_true rfl)) (by omega)) (by (try simp only [List.length_cons, List.length_nil]); omega)⟩)) ?_; conv => whnf)))
    rename_i z1 hz1 _
    have hY1 : ysK = outC a 0 := by
      rw [outC_zero]
      have hq : (List.replicate ((List.length (α := List Int) a : Int) + 1).toNat (0 : Int)) = List.replicate (List.length (α := List Int) a + 1) 0 := congrArg (fun z => List.replicate z (0 : Int)) (by omega)
      have hy1 : ysK = (List.replicate ((List.length (α := List Int) a : Int) + 1).toNat (0 : Int)).set (List.length (α := List Int) a) 1 := hysK
      rw [hy1, hq]
    have hY2 : z1 = snM a 0 := hz1
    clear hysl hysK hz1
    refine V_loopH (γ := Nat × List Int × List (List Int)) (fun g => g.1 ≤ N ∧ g.2.1 = outC a g.1 ∧ g.2.2 = snM a g.1) (fun g => N - g.1)
      (fun g => [(5, .row 2), (6, .int .i64 ((g.1 : Int) + 1)), (15, .junk)]) (fun _ => []) (fun g => [(1, some ⟨iT, 2, true, g.2.1⟩), (2, some ⟨rT, 32, true, g.2.2⟩)]) (0, ysK, z1) ⟨Nat.zero_le _, hY1, hY2⟩ ?_ ?_
    · clear hmk
      conv => whnf
      refine ⟨?_, by (conv => whnf); repeat (first | exact True.intro | (refine And.intro rfl ?_; conv => whnf)), by (conv => whnf); repeat (first | exact True.intro | (refine And.intro (by first | rfl | (subst_vars; rfl)) ?_; conv => whnf)), rfl, rfl, rfl, rfl, rfl, rfl, rfl, Nat.le_of_ble_eq_true rfl, Nat.le_of_ble_eq_true rfl⟩
      conv => whnf
      repeat (first | exact True.intro | (refine And.intro (by first | rfl | ((conv => whnf); exact congrArg (AVal.int .i64) (by omega)) | ((conv => whnf); exact congrArg (AVal.int .i64) (by simp only [Int.natCast_add, Int.natCast_one]; omega))) ?_; conv => whnf))
    · rintro ⟨g, out, M⟩ ⟨h1, h2, h3⟩
      simp only at h1 h2 h3
      have hout : List.length (α := Int) out = N + 1 := by rw [h2, outC_len]; omega
      have hM : List.length (α := List Int) M = List.length (α := List Int) a := by rw [h3, snM_len]
      have hMr : ∀ r ∈ M, List.length (α := Int) r = List.length (α := List Int) a := by rw [h3]; exact snM_row a g
      have hpr : MzOk a M (List.length (α := List Int) a) ∧ List.length (α := List Int) a = List.length (α := List Int) M := ⟨⟨by omega, by omega, by omega, fun r hr' => by rw [hr r hr', hM], hMr⟩, hM.symm⟩
      conv => whnf
      refine vcCode_sound T_okW GSChar _ _ _ _ _ ?_
      conv => whnf
      repeat (refine V_step T_okW GSChar rfl ?_; conv => whnf)
      repeat (any_goals (first
        | (refine V_step T_okW GSChar rfl ?_; conv => whnf)
        | (refine V_drawA T_okW GSChar mixed (by kernel_rfl) ?_; conv => whnf)
        | (refine bcond_split (fun hc => ?_) (fun hc => ?_) <;> (try simp only [decide_eq_true_eq, decide_eq_false_iff_not, Bool.not_eq_true', Bool.not_eq_false', Bool.and_eq_true, Bool.or_eq_true, Bool.and_eq_false_imp, Bool.or_eq_false_iff, ne_eq, Decidable.not_not] at hc) <;> conv => whnf)
        | (intro ysK hysK; have hysl := congrArg List.length hysK; (try simp only [List.length_set, List.length_append, List.length_cons, List.length_nil, List.length_take, List.length_drop, List.length_replicate] at hysl); conv => whnf)
        | (refine And.intro (by first | (first | exact True.intro | with_reducible exact hpr | omega | (simp only [Rng]; omega)) | exact True.intro | exact ⟨rfl, True.intro, fun _ _ => rfl⟩ | exact Nat.le_of_ble_eq_true rfl | (refine ⟨by (try simp only [List.length_cons, List.length_nil]); omega, Int.le_trans (Int.mul_le_mul_of_nonneg_left (show (TInfo.bytes _ : Int) ≤ 64 from Int.ofNat_le.2 (Nat.le_of_ble_eq_true rfl)) (by omega)) (by (try simp only [List.length_cons, List.length_nil]); omega)⟩)) ?_; conv => whnf)))
      · have hg : g < N := by
          have hc : (g : Int) + 1 ≤ (List.length (α := List Int) a : Int) := by assumption
          omega
        have hP : ysK = mulW a M (List.length (α := List Int) a) := hysK
        have hPl : List.length (α := List Int) ysK = List.length (α := List Int) a := by rw [hP, mulW_len]
        have hPr : ∀ r ∈ ysK, List.length (α := Int) r = List.length (α := List Int) a := by rw [hP]; exact mulW_row _ _ _
        clear hysK hysl
        rename List (List (TyC.α (TyC.int IntKind.i64))) => P
        have e0 : (((List.length (α := List Int) a : Int) - ((g : Int) + 1) + 1).toNat) = List.length (α := List Int) a - g := by omega
        have hOg : List.getD (α := Int) out (List.length (α := List Int) a - g) 0 = chC a g := by rw [h2]; exact outC_at (Nat.le_refl _) (by omega)
        refine V_loopH (γ := Nat × List (List Int)) (fun q => q.1 ≤ N ∧ q.2 = dgK P (chC a g) q.1) (fun q => N - q.1)
          (fun q => [(7, .int .i64 q.1)]) (fun _ => []) (fun q => [(3, some ⟨rT, 32, true, q.2⟩)]) (0, P) ⟨Nat.zero_le _, (dgK_zero _ _).symm⟩ ?_ ?_
        · clear hmk
          conv => whnf
          refine ⟨?_, by (conv => whnf); repeat (first | exact True.intro | (refine And.intro rfl ?_; conv => whnf)), by (conv => whnf); repeat (first | exact True.intro | (refine And.intro (by first | rfl | (subst_vars; rfl)) ?_; conv => whnf)), rfl, rfl, rfl, rfl, rfl, rfl, rfl, Nat.le_of_ble_eq_true rfl, Nat.le_of_ble_eq_true rfl⟩
          conv => whnf
          repeat (first | exact True.intro | (refine And.intro (by first | rfl | ((conv => whnf); exact congrArg (AVal.int .i64) (by omega)) | ((conv => whnf); exact congrArg (AVal.int .i64) (by simp only [Int.natCast_add, Int.natCast_one]; omega))) ?_; conv => whnf))
        · rintro ⟨q, L⟩ ⟨q1, q2⟩
          simp only at q1 q2
          have hL : List.length (α := List Int) L = List.length (α := List Int) a := by rw [q2, dgK_len (by omega), hPl]
          have hLq : q < N → L.getD q [] = P.getD q [] := fun h => by rw [q2, dgK_get (by omega)]
          have hrow : (q : Int) < (List.length (α := List Int) a : Int) → List.length (α := Int) (@List.getD (List Int) L q []) = List.length (α := List Int) a := fun h => by rw [hLq (by omega)]; exact hPr _ (getD_mem (by omega))
          have hLl : q = N → L = snM a (g + 1) := fun h => by rw [q2, h, show N = P.length by omega, dgK_all, hP, h3]; exact snM_step a g
          have hpr2 : q = N → (MzOk a L (List.length (α := List Int) a) ∧ List.length (α := List Int) a = List.length (α := List Int) L) := fun h => ⟨⟨by omega, by omega, by omega, fun r hr' => by rw [hr r hr', hL], fun r hr' => snM_row a (g + 1) r (by rw [← hLl h]; exact hr')⟩, hL.symm⟩
          conv => whnf
          refine vcCode_sound T_okW GSChar _ _ _ _ _ ?_
          conv => whnf
          repeat (refine V_step T_okW GSChar rfl ?_; conv => whnf)
          repeat (any_goals (first
            | (refine V_step T_okW GSChar rfl ?_; conv => whnf)
            | (refine V_drawA T_okW GSChar mixed (by kernel_rfl) ?_; conv => whnf)
            | (refine bcond_split (fun hc => ?_) (fun hc => ?_) <;> (try simp only [decide_eq_true_eq, decide_eq_false_iff_not, Bool.not_eq_true', Bool.not_eq_false', Bool.and_eq_true, Bool.or_eq_true, Bool.and_eq_false_imp, Bool.or_eq_false_iff, ne_eq, Decidable.not_not] at hc) <;> conv => whnf)
            | (intro ysK hysK; have hysl := congrArg List.length hysK; (try simp only [List.length_set, List.length_append, List.length_cons, List.length_nil, List.length_take, List.length_drop, List.length_replicate] at hysl); conv => whnf)
            | (refine And.intro (by first | (first | exact True.intro | omega | exact hpr2 (by omega) | (have z := hrow (by assumption); simp only [Int.toNat_natCast]; omega) | (simp only [Rng]; omega)) | exact True.intro | exact ⟨rfl, True.intro, fun _ _ => rfl⟩ | exact Nat.le_of_ble_eq_true rfl | (refine ⟨by (try simp only [List.length_cons, List.length_nil]); omega, Int.le_trans (Int.mul_le_mul_of_nonneg_left (show (TInfo.bytes _ : Int) ≤ 64 from Int.ofNat_le.2 (Nat.le_of_ble_eq_true rfl)) (by omega)) (by (try simp only [List.length_cons, List.length_nil]); omega)⟩)) ?_; conv => whnf)))
          · have hq : q < N := by
              have hc : (q : Int) < (List.length (α := List Int) a : Int) := by assumption
              omega
            have hY : ysK = dgK P (chC a g) (q + 1) := by
              have e2 : dgR P (chC a g) q = (L.getD q []).set q (IntKind.i64.wrap ((L.getD q []).getD q 0 + List.getD (α := Int) out (List.length (α := List Int) a - g) 0)) := by rw [hLq hq, hOg]; rfl
              rw [← dgK_step (by omega), ← q2, e2]
              simp only [Int.toNat_natCast, e0] at hysK
              exact hysK
            clear hysK hysl
            refine ⟨(q + 1, ysK), ⟨by simp only; omega, hY⟩, by simp only; omega, ?_⟩
            clear hmk
            conv => whnf
            refine ⟨?_, by (conv => whnf); repeat (first | exact True.intro | (refine And.intro rfl ?_; conv => whnf)), by (conv => whnf); repeat (first | exact True.intro | (refine And.intro (by first | rfl | (subst_vars; rfl)) ?_; conv => whnf)), rfl, rfl, rfl, rfl, rfl, rfl, rfl, Nat.le_of_ble_eq_true rfl, Nat.le_of_ble_eq_true rfl⟩
            conv => whnf
            repeat (first | exact True.intro | (refine And.intro (by first | rfl | ((conv => whnf); exact congrArg (AVal.int .i64) (by omega)) | ((conv => whnf); exact congrArg (AVal.int .i64) (by simp only [Int.natCast_add, Int.natCast_one]; omega))) ?_; conv => whnf))
          · have hq : q = N := by
              have hc : ¬ (q : Int) < (List.length (α := List Int) a : Int) := by assumption
              omega
            have hQ : ysK = mulW a L (List.length (α := List Int) a) := hysK
            have hQl : List.length (α := List Int) ysK = List.length (α := List Int) a := by rw [hQ, mulW_len]
            have hQr : ∀ r ∈ ysK, List.length (α := Int) r = List.length (α := List Int) a := by rw [hQ]; exact mulW_row _ _ _
            clear hysK hysl
            obtain ⟨Q, hQQ⟩ : ∃ Q, ysK = Q := ⟨_, rfl⟩
            rw [hQQ] at hQ hQl hQr ⊢
            clear hQQ ysK
            have htr : List.length (α := List Int) Q ≤ 1000 ∧ ∀ r ∈ Q, List.length (α := Int) r = List.length (α := List Int) Q := ⟨by omega, fun r hr' => by rw [hQr r hr', hQl]⟩
            have hne : (g : Int) + 1 ≠ 0 := by omega
            repeat (any_goals (first
              | (refine V_step T_okW GSChar rfl ?_; conv => whnf)
              | (refine V_drawA T_okW GSChar mixed (by kernel_rfl) ?_; conv => whnf)
              | (refine bcond_split (fun hc => ?_) (fun hc => ?_) <;> (try simp only [decide_eq_true_eq, decide_eq_false_iff_not, Bool.not_eq_true', Bool.not_eq_false', Bool.and_eq_true, Bool.or_eq_true, Bool.and_eq_false_imp, Bool.or_eq_false_iff, ne_eq, Decidable.not_not] at hc) <;> conv => whnf)
              | (intro ysK hysK; have hysl := congrArg List.length hysK; (try simp only [List.length_set, List.length_append, List.length_cons, List.length_nil, List.length_take, List.length_drop, List.length_replicate] at hysl); conv => whnf)
              | (refine And.intro (by first | (first | exact True.intro | with_reducible exact htr | with_reducible exact hne | omega | (simp only [Rng]; omega)) | exact True.intro | exact ⟨rfl, True.intro, fun _ _ => rfl⟩ | exact Nat.le_of_ble_eq_true rfl | (refine ⟨by (try simp only [List.length_cons, List.length_nil]); omega, Int.le_trans (Int.mul_le_mul_of_nonneg_left (show (TInfo.bytes _ : Int) ≤ 64 from Int.ofNat_le.2 (Nat.le_of_ble_eq_true rfl)) (by omega)) (by (try simp only [List.length_cons, List.length_nil]); omega)⟩)) ?_; conv => whnf)))
            have e3 : (((List.length (α := List Int) a : Int) - ((g : Int) + 1)).toNat) = List.length (α := List Int) a - (g + 1) := by omega
            have hO : ysK = outC a (g + 1) := by
              have e1 : IntKind.i64.wrap ((IntKind.i64.wrap (-trW Q (List.length (α := List Int) Q))).tdiv ((g : Int) + 1)) = chC a (g + 1) := by
                show _ = coW (g + 1) (mulW a (chM a g) a.length)
                unfold coW
                have e4 : chM a g = L := (hLl hq).symm
                rw [e4, ← hQ, show ((g + 1 : Nat) : Int) = (g : Int) + 1 by omega]
              simp only at hysK
              rw [hysK, e3, e1, h2]; exact outC_step (by omega)
            clear hysK hysl
            refine ⟨(g + 1, ysK, L), ⟨by simp only; omega, hO, hLl hq⟩, by simp only; omega, ?_⟩
            have e9 : ((g + 1 : Nat) : Int) + 1 = (g : Int) + 1 + 1 := by omega
            clear hmk
            conv => whnf
            refine ⟨?_, by (conv => whnf); repeat (first | exact True.intro | (refine And.intro rfl ?_; conv => whnf)), by (conv => whnf); repeat (first | exact True.intro | (refine And.intro (by first | rfl | (subst_vars; rfl)) ?_; conv => whnf)), rfl, rfl, rfl, rfl, rfl, rfl, rfl, Nat.le_of_ble_eq_true rfl, Nat.le_of_ble_eq_true rfl⟩
            conv => whnf
            repeat (first | exact True.intro | (refine And.intro (by first | rfl | ((conv => whnf); exact congrArg (AVal.int .i64) (by omega)) | ((conv => whnf); exact congrArg (AVal.int .i64) (by simp only [Int.natCast_add, Int.natCast_one]; omega))) ?_; conv => whnf))
      · have hg : g = N := by
          have hc : ¬ (g : Int) + 1 ≤ (List.length (α := List Int) a : Int) := hc
          omega
        have hY : chP a = out := by rw [h2, hg, ← hN]; rfl
        rw [hY]
        exact leaf1 1 rfl rfl rfl rfl (fun B C h => by simp [AVal.den, h])
end Go.Proofs.Ytadlnnjgocknhaa.Fw
-- %wrap
