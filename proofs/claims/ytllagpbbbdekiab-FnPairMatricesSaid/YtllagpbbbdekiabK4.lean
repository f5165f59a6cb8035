/- Contracts: separated pairs, places of pairs. -/
import Derived.Test.YtllagpbbbdekiabK3
namespace Go.Proofs.Ytllagpbbbdekiab.Fw
open Go Go.RowKit
set_option linter.unusedVariables false
set_option linter.unusedSimpArgs false
set_option maxRecDepth 100000
set_option maxHeartbeats 2000000
theorem ap1 {x y t : Ang} (h1 : ¬ letA x t = letA y t) (h2 : ¬ letA x t = 42) : (!decide (letA y t = 42)) = apB x y t := by
  unfold apB
  rcases let_3 x t with h | h | h <;> rcases let_3 y t with h' | h' | h' <;> simp_all
theorem ap2 {x y t : Ang} (h2 : letA x t = 42) : false = apB x y t := by unfold apB; simp [h2]
theorem ap3 {x y t : Ang} (h2 : letA x t = letA y t) : false = apB x y t := by
  unfold apB; rw [h2]
  rcases let_3 y t with h | h | h <;> simp [h]
theorem minI (x y : Int) : (if y < x then y else x) = min x y := by split <;> omega
theorem maxI (x y : Int) : (if y > x then y else x) = max x y := by split <;> omega
theorem plA_le (xs : List Ang) (x : Ang) : 0 ≤ plA xs x ∧ plA xs x ≤ (List.length (α := Int × Int) xs : Int) := by
  unfold plA
  have h1 := idxP_ge (eqA x) xs
  rcases idxP_cases (eqA x) (0, 0) xs with ⟨h, _⟩ | ⟨n, h, h2, _⟩ <;> omega
def sepC : PCtr := fun hg rg _ vals k => match vals with
  | [.loc j 0, .row i] => boxRR (hg j) fun r s => rowC aT (rg r) fun xs => rowC rT (rg s) fun prs => rowC iT (rg i) fun p =>
      ((∀ x ∈ (xs : List Ang), IsA x) ∧ (1 ≤ (p : List Int).getD 0 0 ∧ (p : List Int).getD 0 0 ≤ (List.length (α := Ang) xs : Int)) ∧ (1 ≤ (p : List Int).getD 1 0 ∧ (p : List Int).getD 1 0 ≤ (List.length (α := Ang) xs : Int)) ∧ 2 ≤ List.length (α := Int) p ∧ List.length (α := Ang) xs ≤ 100) ∧
      k [] (.bool (apB ((xs : List Ang).getD ((p : List Int).getD 0 0 - 1).toNat (0, 0)) ((xs : List Ang).getD ((p : List Int).getD 1 0 - 1).toNat (0, 0)) ((xs : List Ang).getD 0 (0, 0))))
  | _ => False
theorem sep_ok : PCtrOk Try.prog 35 sepC where
  enter := enter_ok Try.func35 (by kernel_rfl) rfl
  calls := by
    intro hg rg lr vals k h
    unfold sepC at h
    split at h
    case h_2 => exact h.elim
    rename_i j i
    obtain ⟨r, s, hj, h⟩ := boxRR_inv h
    obtain ⟨e, own, xs, hr, h⟩ : ∃ e own, ∃ (xs : List Ang), _ := rowC_inv h
    obtain ⟨e2, own2, prs, hs, h⟩ : ∃ e own, ∃ (xs : List (List Int)), _ := rowC_inv h
    obtain ⟨e3, own3, p, hi, h⟩ : ∃ e own, ∃ (xs : List Int), _ := rowC_inv h
    obtain ⟨⟨hx, hp0, hp1, hpl, hxl⟩, hk⟩ := h
    refine ⟨_, _, hk, fun A w hB hR => ?_⟩
    refine enter T_ok (GOk.cons let_ok .nil) Try.func35 rfl (K := (· < w.heap.size)) (fun _ h => h) (A := A.pick [j] [r, s, i]) (vals := [.loc 0 0, .row 2]) (n0 := 0) (b0 := 1) (rows := [some ⟨aT, e, false, xs⟩, some ⟨rT, e2, false, prs⟩, some ⟨iT, e3, false, p⟩]) (hp := [some [.row 0, .row 1]]) rfl (Nat.zero_le _) (one_box (hB j _ hj)) rfl (three_rows (hR r _ hr) (hR s _ hs) (hR i _ hi)) rfl rfl (Nat.le_of_ble_eq_true rfl) ?_
    conv => whnf
    repeat (refine V_step T_ok (GOk.cons let_ok .nil) rfl ?_; conv => whnf)
    have hp0 : 1 ≤ p.getD 0 0 ∧ p.getD 0 0 ≤ (List.length (α := Int × Int) xs : Int) := hp0
    have hp1 : 1 ≤ p.getD 1 0 ∧ p.getD 1 0 ≤ (List.length (α := Int × Int) xs : Int) := hp1
    have hpl : 2 ≤ List.length (α := Int) p := hpl
    have hxl : List.length (α := Int × Int) xs ≤ 100 := hxl
    have q0 : p.getD (Int.toNat 0) iT.dflt = p.getD 0 0 := rfl
    have q1 : p.getD (Int.toNat 1) iT.dflt = p.getD 1 0 := rfl
    have hpl' : (List.length (α := TyC.α iT) p) = List.length p := rfl
    have hxl' : (List.length (α := TyC.α aT) xs) = List.length xs := rfl
    have a0 : IsA (xs.getD 0 (0, 0)) := hx _ (getD_mem (by omega))
    have a1 : IsA (xs.getD (p.getD 0 0 - 1).toNat (0, 0)) := hx _ (getD_mem (by omega))
    have a2 : IsA (xs.getD (p.getD 1 0 - 1).toNat (0, 0)) := hx _ (getD_mem (by omega))
    repeat (any_goals (first
      | (refine V_step T_ok (GOk.cons let_ok .nil) rfl ?_; conv => whnf)
      | (refine V_drawA T_ok (GOk.cons let_ok .nil) mixed (by kernel_rfl) ?_; conv => whnf)
      | (refine bcond_split (fun hc => ?_) (fun hc => ?_) <;> (try simp only [decide_eq_true_eq, decide_eq_false_iff_not, Bool.not_eq_true', Bool.not_eq_false', Bool.and_eq_true, Bool.or_eq_true, Bool.and_eq_false_imp, Bool.or_eq_false_iff, ne_eq, Decidable.not_not] at hc) <;> conv => whnf)
      | (intro ysK hysK; have hysl := congrArg List.length hysK; (try simp only [List.length_set, List.length_append, List.length_cons, List.length_nil, List.length_take, List.length_drop, List.length_replicate] at hysl); conv => whnf)
      | (refine And.intro (by first | (first | exact True.intro | exact ⟨a1, a0⟩ | exact ⟨a2, a0⟩ | (simp only [q0, q1, hpl', hxl', Rng]; omega) | omega) | exact True.intro | exact ⟨rfl, True.intro, fun _ _ => rfl⟩ | exact Nat.le_of_ble_eq_true rfl | (refine ⟨by (try simp only [List.length_cons, List.length_nil]); omega, Int.le_trans (Int.mul_le_mul_of_nonneg_left (show (TInfo.bytes _ : Int) ≤ 64 from Int.ofNat_le.2 (Nat.le_of_ble_eq_true rfl)) (by omega)) (by (try simp only [List.length_cons, List.length_nil]); omega)⟩)) ?_; conv => whnf)))
    · rename_i h5
      exact leaf0 rfl (congrArg AVal.bool (ap1 (x := xs.getD (p.getD 0 0 - 1).toNat (0, 0)) (y := xs.getD (p.getD 1 0 - 1).toNat (0, 0)) (t := xs.getD 0 (0, 0)) h5 hc)) rfl
    · exact leaf0 rfl (congrArg AVal.bool (ap2 (x := xs.getD (p.getD 0 0 - 1).toNat (0, 0)) (y := xs.getD (p.getD 1 0 - 1).toNat (0, 0)) (t := xs.getD 0 (0, 0)) hc)) rfl
    · exact leaf0 rfl (congrArg AVal.bool (ap3 (x := xs.getD (p.getD 0 0 - 1).toNat (0, 0)) (y := xs.getD (p.getD 1 0 - 1).toNat (0, 0)) (t := xs.getD 0 (0, 0)) hc)) rfl
def pl1C : PCtr := fun hg rg _ vals k => match vals with
  | [.row i, .loc a 0, .loc b 0] => boxI (hg a) fun x => boxI (hg b) fun y => rowC iT (rg i) fun p => 2 ≤ List.length (α := Int) p ∧ k [] (.bool (isP x y p))
  | _ => False
theorem pl1_ok : PCtrOk Try.prog 74 pl1C where
  enter := enter_ok Try.func74 (by kernel_rfl) rfl
  calls := by
    intro hg rg lr vals k h
    unfold pl1C at h
    split at h
    case h_2 => exact h.elim
    rename_i i a b
    obtain ⟨x, ha, h⟩ := boxI_inv h
    obtain ⟨y, hb, h⟩ := boxI_inv h
    obtain ⟨e, own, p, hi, h⟩ : ∃ e own, ∃ (xs : List Int), _ := rowC_inv h
    obtain ⟨hpl, hk⟩ := h
    refine ⟨_, _, hk, fun A w hB hR => ?_⟩
    refine enter T_ok .nil Try.func74 rfl (K := (· < w.heap.size)) (fun _ h => h) (A := A.pick [a, b] [i]) (vals := [.row 0, .loc 0 0, .loc 1 0]) (n0 := 0) (b0 := 2) (rows := [some ⟨iT, e, false, p⟩]) (hp := [some [.int .i64 x], some [.int .i64 y]]) rfl (Nat.zero_le _) (two_boxes (hB a _ ha) (hB b _ hb)) rfl (one_row (hR i _ hi)) rfl rfl (Nat.le_of_ble_eq_true rfl) ?_
    conv => whnf
    repeat (refine V_step T_ok .nil rfl ?_; conv => whnf)
    have hpl : 2 ≤ List.length (α := Int) p := hpl
    repeat (any_goals (first
      | (refine V_step T_ok .nil rfl ?_; conv => whnf)
      | (refine V_drawA T_ok .nil mixed (by kernel_rfl) ?_; conv => whnf)
      | (refine bcond_split (fun hc => ?_) (fun hc => ?_) <;> (try simp only [decide_eq_true_eq, decide_eq_false_iff_not, Bool.not_eq_true', Bool.not_eq_false', Bool.and_eq_true, Bool.or_eq_true, Bool.and_eq_false_imp, Bool.or_eq_false_iff, ne_eq, Decidable.not_not] at hc) <;> conv => whnf)
      | (intro ysK hysK; have hysl := congrArg List.length hysK; (try simp only [List.length_set, List.length_append, List.length_cons, List.length_nil, List.length_take, List.length_drop, List.length_replicate] at hysl); conv => whnf)
      | (refine And.intro (by first | (first | exact True.intro | omega) | exact True.intro | exact ⟨rfl, True.intro, fun _ _ => rfl⟩ | exact Nat.le_of_ble_eq_true rfl | (refine ⟨by (try simp only [List.length_cons, List.length_nil]); omega, Int.le_trans (Int.mul_le_mul_of_nonneg_left (show (TInfo.bytes _ : Int) ≤ 64 from Int.ofNat_le.2 (Nat.le_of_ble_eq_true rfl)) (by omega)) (by (try simp only [List.length_cons, List.length_nil]); omega)⟩)) ?_; conv => whnf)))
    all_goals refine leaf0 rfl (congrArg AVal.bool ?_) rfl
    · show decide (p.getD 1 0 = if y > x then y else x) = isP x y p
      rw [maxI]
      have hc : p.getD 0 0 = if y < x then y else x := hc
      rw [minI] at hc
      unfold isP
      rw [hc]
      simp only [true_and]
    · have hc : ¬ p.getD 0 0 = if y < x then y else x := hc
      rw [minI] at hc
      unfold isP
      exact (decide_eq_false (fun h => hc h.1)).symm
def pixC : PCtr := fun hg rg _ vals k => match vals with
  | [.row i, .fn f [] [.loc a 0, .loc b 0]] => isF f 74 (boxI (hg a) fun x => boxI (hg b) fun y => rowC rT (rg i) fun prs => (∀ p ∈ (prs : List (List Int)), 2 ≤ List.length (α := Int) p) ∧ k [] (.int .i64 (idxP (α := List Int) (isP x y) prs)))
  | _ => False
theorem pix_ok : PCtrOk Try.prog 63 pixC where
  enter := enter_ok Try.func63 (by kernel_rfl) rfl
  calls := by
    intro hg rg lr vals k h
    unfold pixC at h
    split at h
    case h_2 => exact h.elim
    rename_i i f a b
    obtain ⟨rfl, h⟩ := isF_inv h
    obtain ⟨x, ha, h⟩ := boxI_inv h
    obtain ⟨y, hb, h⟩ := boxI_inv h
    obtain ⟨e, own, prs, hi, h⟩ : ∃ e own, ∃ (xs : List (List Int)), _ := rowC_inv h
    obtain ⟨hpl, hk⟩ := h
    refine ⟨_, _, hk, fun A w hB hR => ?_⟩
    refine enter T_ok (GOk.cons pl1_ok .nil) Try.func63 rfl (K := (· < w.heap.size)) (fun _ h => h) (A := A.pick [a, b] [i]) (vals := [.row 0, .fn 74 [] [.loc 0 0, .loc 1 0]]) (n0 := 0) (b0 := 2) (rows := [some ⟨rT, e, false, prs⟩]) (hp := [some [.int .i64 x], some [.int .i64 y]]) rfl (Nat.zero_le _) (two_boxes (hB a _ ha) (hB b _ hb)) rfl (one_row (hR i _ hi)) rfl rfl (Nat.le_of_ble_eq_true rfl) ?_
    conv => whnf
    repeat (refine V_step T_ok (GOk.cons pl1_ok .nil) rfl ?_; conv => whnf)
    have hcap' : (@List.length (List Int) prs : Int) ≤ 9223372036854775807 := by
      have h1 := (hR i _ hi).len
      have h2 := (hR i _ hi).cap
      have h3 := (hR i _ hi).max
      simp only at h1
      have : maxLen = 9223372036854775807 := rfl
      have h1 : (A.rw i).len = @List.length (List Int) prs := h1
      omega
    have hpl : ∀ n : Nat, (n : Int) < (@List.length (List Int) prs : Int) → 2 ≤ List.length (α := Int) (@List.getD (List Int) prs n []) := fun n hn => hpl _ (getD_mem (by omega))
    refine V_loopH (γ := Nat) (fun n => n ≤ List.length (α := List Int) prs ∧ ∀ j, j < n → isP x y (prs.getD j []) = false) (fun n => List.length (α := List Int) prs - n)
      (fun n => [(8, .int .i64 n)]) (fun _ => []) (fun _ => []) 0 ⟨Nat.zero_le _, fun j h => absurd h (Nat.not_lt_zero _)⟩ ?_ ?_
    · conv => whnf
      refine ⟨?_, by (conv => whnf); repeat (first | exact True.intro | (refine And.intro rfl ?_; conv => whnf)), by (conv => whnf); repeat (first | exact True.intro | (refine And.intro (by first | rfl | (subst_vars; rfl)) ?_; conv => whnf)), rfl, rfl, rfl, rfl, rfl, rfl, rfl, Nat.le_of_ble_eq_true rfl, Nat.le_of_ble_eq_true rfl⟩
      conv => whnf
      repeat (first | exact True.intro | (refine And.intro (by first | rfl | ((conv => whnf); exact congrArg (AVal.int .i64) (by omega)) | ((conv => whnf); exact congrArg (AVal.int .i64) (by simp only [Int.natCast_add, Int.natCast_one]; omega)) | ((conv => whnf); exact congrArg (AVal.irow _) (by first | omega | assumption | (simp only; omega)))) ?_; conv => whnf))
    · rintro n ⟨h1, h2⟩
      conv => whnf
      refine vcCode_sound T_ok (GOk.cons pl1_ok .nil) _ _ _ _ _ ?_
      conv => whnf
      repeat (refine V_step T_ok (GOk.cons pl1_ok .nil) rfl ?_; conv => whnf)
      repeat (any_goals (first
        | (refine V_step T_ok (GOk.cons pl1_ok .nil) rfl ?_; conv => whnf)
        | (refine V_drawA T_ok (GOk.cons pl1_ok .nil) mixed (by kernel_rfl) ?_; conv => whnf)
        | (refine bcond_split (fun hc => ?_) (fun hc => ?_) <;> (try simp only [decide_eq_true_eq, decide_eq_false_iff_not, Bool.not_eq_true', Bool.not_eq_false', Bool.and_eq_true, Bool.or_eq_true, Bool.and_eq_false_imp, Bool.or_eq_false_iff, ne_eq, Decidable.not_not] at hc) <;> conv => whnf)
        | (intro ysK hysK; have hysl := congrArg List.length hysK; (try simp only [List.length_set, List.length_append, List.length_cons, List.length_nil, List.length_take, List.length_drop, List.length_replicate] at hysl); conv => whnf)
        | (refine And.intro (by first | (first | exact True.intro | exact hpl n (by assumption) | omega | (simp only [Rng]; omega)) | exact True.intro | exact ⟨rfl, True.intro, fun _ _ => rfl⟩ | exact Nat.le_of_ble_eq_true rfl | (refine ⟨by (try simp only [List.length_cons, List.length_nil]); omega, Int.le_trans (Int.mul_le_mul_of_nonneg_left (show (TInfo.bytes _ : Int) ≤ 64 from Int.ofNat_le.2 (Nat.le_of_ble_eq_true rfl)) (by omega)) (by (try simp only [List.length_cons, List.length_nil]); omega)⟩)) ?_; conv => whnf)))
      · rename_i hc0
        have hl : (n : Int) < (List.length (α := List Int) prs : Nat) := hc0
        exact leaf0 rfl (congrArg (AVal.int .i64) (idxP_found (isP x y) prs n [] (by omega) h2 hc).symm) rfl
      · rename_i hc0
        have hl : (n : Int) < (List.length (α := List Int) prs : Nat) := hc0
        refine ⟨n + 1, ⟨by omega, fun j hj => ?_⟩, by omega, ?_⟩
        · rcases Nat.lt_or_ge j n with h | h
          · exact h2 j h
          · obtain rfl : j = n := by omega
            exact hc
        · conv => whnf
          refine ⟨?_, by (conv => whnf); repeat (first | exact True.intro | (refine And.intro rfl ?_; conv => whnf)), by (conv => whnf); repeat (first | exact True.intro | (refine And.intro (by first | rfl | (subst_vars; rfl)) ?_; conv => whnf)), rfl, rfl, rfl, rfl, rfl, rfl, rfl, Nat.le_of_ble_eq_true rfl, Nat.le_of_ble_eq_true rfl⟩
          conv => whnf
          repeat (first | exact True.intro | (refine And.intro (by first | rfl | ((conv => whnf); exact congrArg (AVal.int .i64) (by omega)) | ((conv => whnf); exact congrArg (AVal.int .i64) (by simp only [Int.natCast_add, Int.natCast_one]; omega)) | ((conv => whnf); exact congrArg (AVal.irow _) (by first | omega | assumption | (simp only; omega)))) ?_; conv => whnf))
      · have hl : ¬ (n : Int) < (List.length (α := List Int) prs : Nat) := hc
        exact leaf0 rfl (congrArg (AVal.int .i64) (idxP_none (isP x y) prs [] (fun j hj => h2 j (by omega))).symm) rfl
def placeC : PCtr := fun hg rg _ vals k => match vals with
  | [.loc j 0, .agg [.int .i64 n, .int .i64 d], .agg [.int .i64 m, .int .i64 e]] => boxRR (hg j) fun r s => rowC aT (rg r) fun xs => rowC rT (rg s) fun prs =>
      (List.length (α := Ang) xs ≤ 100 ∧ ∀ p ∈ (prs : List (List Int)), 2 ≤ List.length (α := Int) p) ∧ k [] (.int .i64 (idxP (α := List Int) (isP (plA xs (n, d)) (plA xs (m, e))) prs))
  | _ => False
theorem place_ok : PCtrOk Try.prog 51 placeC where
  enter := enter_ok Try.func51 (by kernel_rfl) rfl
  calls := by
    intro hg rg lr vals k h
    unfold placeC at h
    split at h
    case h_2 => exact h.elim
    rename_i j n d m e
    obtain ⟨r, s, hj, h⟩ := boxRR_inv h
    obtain ⟨e1, own, xs, hr, h⟩ : ∃ e own, ∃ (xs : List Ang), _ := rowC_inv h
    obtain ⟨e2, own2, prs, hs, h⟩ : ∃ e own, ∃ (xs : List (List Int)), _ := rowC_inv h
    obtain ⟨⟨hxl, hpl⟩, hk⟩ := h
    refine ⟨_, _, hk, fun A w hB hR => ?_⟩
    refine enter T_ok (GOk.cons idxA_ok (GOk.cons pix_ok .nil)) Try.func51 rfl (K := (· < w.heap.size)) (fun _ h => h) (A := A.pick [j] [r, s]) (vals := [.loc 0 0, .agg [.int .i64 n, .int .i64 d], .agg [.int .i64 m, .int .i64 e]]) (n0 := 0) (b0 := 1) (rows := [some ⟨aT, e1, false, xs⟩, some ⟨rT, e2, false, prs⟩]) (hp := [some [.row 0, .row 1]]) rfl (Nat.zero_le _) (one_box (hB j _ hj)) rfl (two_rows (hR r _ hr) (hR s _ hs)) rfl rfl (Nat.le_of_ble_eq_true rfl) ?_
    conv => whnf
    repeat (refine V_step T_ok (GOk.cons idxA_ok (GOk.cons pix_ok .nil)) rfl ?_; conv => whnf)
    have r1 := plA_le xs (n, d)
    have r2 := plA_le xs (m, e)
    unfold plA at r1 r2
    have hxl : List.length (α := Int × Int) xs ≤ 100 := hxl
    repeat (any_goals (first
      | (refine V_step T_ok (GOk.cons idxA_ok (GOk.cons pix_ok .nil)) rfl ?_; conv => whnf)
      | (refine V_drawN T_ok (GOk.cons idxA_ok (GOk.cons pix_ok .nil)) mixed (by kernel_rfl) ?_; conv => whnf)
      | (refine bcond_split (fun hc => ?_) (fun hc => ?_) <;> (try simp only [decide_eq_true_eq, decide_eq_false_iff_not, Bool.not_eq_true', Bool.not_eq_false', Bool.and_eq_true, Bool.or_eq_true, Bool.and_eq_false_imp, Bool.or_eq_false_iff, ne_eq, Decidable.not_not] at hc) <;> conv => whnf)
      | (intro ysK hysK; have hysl := congrArg List.length hysK; (try simp only [List.length_set, List.length_append, List.length_cons, List.length_nil, List.length_take, List.length_drop, List.length_replicate] at hysl); conv => whnf)
      | (refine And.intro (by first | (first | exact True.intro | exact hpl | (simp only [Rng]; omega) | omega) | exact True.intro | exact ⟨rfl, True.intro, fun _ _ => rfl⟩ | exact Nat.le_of_ble_eq_true rfl | (refine ⟨by (try simp only [List.length_cons, List.length_nil]); omega, Int.le_trans (Int.mul_le_mul_of_nonneg_left (show (TInfo.bytes _ : Int) ≤ 64 from Int.ofNat_le.2 (Nat.le_of_ble_eq_true rfl)) (by omega)) (by (try simp only [List.length_cons, List.length_nil]); omega)⟩)) ?_; conv => whnf)))
    all_goals exact leaf0 rfl rfl rfl
end Go.Proofs.Ytllagpbbbdekiab.Fw
