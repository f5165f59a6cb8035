/- Contracts: powers of pair matrices, counts of paths. -/
import Derived.Test.YtllagpbbbdekiabK13
namespace Go.Proofs.Ytllagpbbbdekiab.Fw
open Go Go.RowKit
set_option linter.unusedVariables false
set_option linter.unusedSimpArgs false
set_option maxRecDepth 100000
set_option maxHeartbeats 2000000
theorem matP_21 {xs : List Ang} (ho : Orb xs) : (matP xs).length ≤ 21 := by
  have := ho.len
  rw [matP_len]; exact prJ7 _ (by omega)
theorem matP_ok {xs : List Ang} (ho : Orb xs) {k : Nat} (hk : k ≤ 40) : PrOk (powM (matP xs) k) (matP xs) (matP xs).length :=
  powM_ok (by have := matP_21 ho; omega) (matP_nn ho) (matP_sq xs) hk
theorem hd_len {a : List (List Int)} (h : ∀ r ∈ a, r.length = a.length) : (a.getD 0 []).length = a.length := by
  cases a with
  | nil => rfl
  | cons r l => exact h r (by simp)
def powerC : PCtr := fun hg rg lr vals k => match vals with
  | [.loc j 0, .int .i64 q] => boxRR (hg j) fun r s => rowC aT (rg r) fun xs => rowC rT (rg s) fun prs => (Orb xs ∧ (prs : List (List Int)) = prJ (List.length (α := Ang) xs : Int) (List.length (α := Ang) xs) ∧ 0 ≤ q ∧ q ≤ 40) ∧ ∀ ys, ys = powM (matP xs) q.toNat → k [⟨rT, 43, true, ys⟩] (.row lr)
  | _ => False
abbrev GPow := GOk.cons mat_ok (GOk.cons unit_ok (GOk.cons prod_ok .nil))
theorem power_ok : PCtrOk Try.prog 41 powerC where
  enter := enter_ok Try.func41 (by kernel_rfl) rfl
  calls := by
    intro hg rg lr vals k h
    unfold powerC at h
    split at h
    case h_2 => exact h.elim
    rename_i j q
    obtain ⟨r, s, hj, h⟩ := boxRR_inv h
    obtain ⟨e1, own, xs, hr, h⟩ : ∃ e own, ∃ (xs : List Ang), _ := rowC_inv h
    obtain ⟨e2, own2, prs, hs, h⟩ : ∃ e own, ∃ (xs : List (List Int)), _ := rowC_inv h
    obtain ⟨⟨ho, hprs, hq⟩, hk⟩ := h
    replace hk := hk _ rfl
    refine ⟨_, _, hk, fun A w hB hR => ?_⟩
    refine enter T_ok GPow Try.func41 rfl (K := (· < w.heap.size)) (fun _ h => h) (A := A.pick [j] [r, s]) (vals := [.loc 0 0, .int .i64 q]) (n0 := 0) (b0 := 1) (rows := [some ⟨aT, e1, false, xs⟩, some ⟨rT, e2, false, prs⟩]) (hp := [some [.row 0, .row 1]]) rfl (Nat.zero_le _) (one_box (hB j _ hj)) rfl (two_rows (hR r _ hr) (hR s _ hs)) rfl rfl (Nat.le_of_ble_eq_true rfl) ?_
    conv => whnf
    repeat (refine V_step T_ok GPow rfl ?_; conv => whnf)
    have ho : Orb xs := ho
    obtain ⟨K, rfl⟩ : ∃ K : Nat, q = (K : Int) := ⟨q.toNat, by omega⟩
    have h21 := matP_21 ho
    have hhd := hd_len (matP_sq xs)
    repeat (any_goals (first
      | (refine V_step T_ok GPow rfl ?_; conv => whnf)
      | (refine V_drawA T_ok GPow mixed (by kernel_rfl) ?_; conv => whnf)
      | (refine bcond_split (fun hc => ?_) (fun hc => ?_) <;> (try simp only [decide_eq_true_eq, decide_eq_false_iff_not, Bool.not_eq_true', Bool.not_eq_false', Bool.and_eq_true, Bool.or_eq_true, Bool.and_eq_false_imp, Bool.or_eq_false_iff, ne_eq, Decidable.not_not] at hc) <;> conv => whnf)
      | (intro ysK hysK; have hysl := congrArg List.length hysK; (try simp only [List.length_set, List.length_append, List.length_cons, List.length_nil, List.length_take, List.length_drop, List.length_replicate] at hysl); conv => whnf)
      | (refine And.intro (by first | (first | exact True.intro | exact ⟨ho, hprs⟩ | omega) | exact True.intro | exact ⟨rfl, True.intro, fun _ _ => rfl⟩ | exact Nat.le_of_ble_eq_true rfl | (refine ⟨by (try simp only [List.length_cons, List.length_nil]); omega, Int.le_trans (Int.mul_le_mul_of_nonneg_left (show (TInfo.bytes _ : Int) ≤ 64 from Int.ofNat_le.2 (Nat.le_of_ble_eq_true rfl)) (by omega)) (by (try simp only [List.length_cons, List.length_nil]); omega)⟩)) ?_; conv => whnf)))
    rename_i aM haM _
    have haM : aM = matP xs := haM
    subst haM
    refine V_loopH (γ := Nat × List (List Int)) (fun g => g.1 ≤ K ∧ g.2 = powM (matP xs) g.1) (fun g => K - g.1)
      (fun g => [(6, .row 3), (11, .junk), (13, .int .i64 g.1)]) (fun _ => []) (fun g => [(3, some ⟨rT, 43, true, g.2⟩)]) (0, ysK) ⟨Nat.zero_le _, hysK⟩ ?_ ?_
    · conv => whnf
      refine ⟨?_, by (conv => whnf); repeat (first | exact True.intro | (refine And.intro rfl ?_; conv => whnf)), by (conv => whnf); repeat (first | exact True.intro | (refine And.intro (by first | rfl | (subst_vars; rfl)) ?_; conv => whnf)), rfl, rfl, rfl, rfl, rfl, rfl, rfl, Nat.le_of_ble_eq_true rfl, Nat.le_of_ble_eq_true rfl⟩
      conv => whnf
      repeat (first | exact True.intro | (refine And.intro (by first | rfl | ((conv => whnf); exact congrArg (AVal.int .i64) (by omega)) | ((conv => whnf); exact congrArg (AVal.int .i64) (by simp only [Int.natCast_add, Int.natCast_one]; omega)) | ((conv => whnf); exact congrArg (AVal.irow _) (by first | omega | assumption | (simp only; omega)))) ?_; conv => whnf))
    · rintro ⟨g, M⟩ ⟨h1, h2⟩
      simp only at h1 h2
      have hpr : PrOk M (matP xs) (List.length (α := Int) (@List.getD (List Int) (matP xs) 0 [])) := by
        rw [hhd, h2]; exact matP_ok ho (by omega)
      conv => whnf
      refine vcCode_sound T_ok GPow _ _ _ _ _ ?_
      conv => whnf
      repeat (refine V_step T_ok GPow rfl ?_; conv => whnf)
      repeat (any_goals (first
        | (refine V_step T_ok GPow rfl ?_; conv => whnf)
        | (refine V_drawA T_ok GPow mixed (by kernel_rfl) ?_; conv => whnf)
        | (refine bcond_split (fun hc => ?_) (fun hc => ?_) <;> (try simp only [decide_eq_true_eq, decide_eq_false_iff_not, Bool.not_eq_true', Bool.not_eq_false', Bool.and_eq_true, Bool.or_eq_true, Bool.and_eq_false_imp, Bool.or_eq_false_iff, ne_eq, Decidable.not_not] at hc) <;> conv => whnf)
        | (intro ysK hysK; have hysl := congrArg List.length hysK; (try simp only [List.length_set, List.length_append, List.length_cons, List.length_nil, List.length_take, List.length_drop, List.length_replicate] at hysl); conv => whnf)
        | (refine And.intro (by first | (first | exact True.intro | exact hpr | omega | (simp only [Rng]; omega)) | exact True.intro | exact ⟨rfl, True.intro, fun _ _ => rfl⟩ | exact Nat.le_of_ble_eq_true rfl | (refine ⟨by (try simp only [List.length_cons, List.length_nil]); omega, Int.le_trans (Int.mul_le_mul_of_nonneg_left (show (TInfo.bytes _ : Int) ≤ 64 from Int.ofNat_le.2 (Nat.le_of_ble_eq_true rfl)) (by omega)) (by (try simp only [List.length_cons, List.length_nil]); omega)⟩)) ?_; conv => whnf)))
      · have hY : ysK = powM (matP xs) (g + 1) := by
          have hy : ysK = mulM M (matP xs) ((matP xs).getD 0 []).length := hysK
          rw [hy, hhd, h2]; rfl
        clear hysK hysl
        refine ⟨(g + 1, ysK), ⟨by simp only; omega, hY⟩, by simp only; omega, ?_⟩
        conv => whnf
        refine ⟨?_, by (conv => whnf); repeat (first | exact True.intro | (refine And.intro rfl ?_; conv => whnf)), by (conv => whnf); repeat (first | exact True.intro | (refine And.intro (by first | rfl | (subst_vars; rfl)) ?_; conv => whnf)), rfl, rfl, rfl, rfl, rfl, rfl, rfl, Nat.le_of_ble_eq_true rfl, Nat.le_of_ble_eq_true rfl⟩
        conv => whnf
        repeat (first | exact True.intro | (refine And.intro (by first | rfl | ((conv => whnf); exact congrArg (AVal.int .i64) (by omega)) | ((conv => whnf); exact congrArg (AVal.int .i64) (by simp only [Int.natCast_add, Int.natCast_one]; omega)) | ((conv => whnf); exact congrArg (AVal.irow _) (by first | omega | assumption | (simp only; omega)))) ?_; conv => whnf))
      · have hg : g = K := by
          have hc : ¬ (g : Int) < (K : Int) := hc
          omega
        have hY : powM (matP xs) (Int.toNat (K : Int)) = M := by rw [h2, hg]; rfl
        rw [hY]
        exact leaf1 3 rfl rfl rfl rfl (fun B C h => by simp [AVal.den, h])
def sPowC : PCtr := fun _ rg lr vals k => match vals with
  | [.row i, .int .i64 q] => rowC rT (rg i) fun a => ((List.length (α := List Int) a ≤ 1000 ∧ (∀ r ∈ (a : List (List Int)), Nn 2 r) ∧ (∀ r ∈ (a : List (List Int)), List.length (α := Int) r = List.length (α := List Int) a)) ∧ 0 ≤ q ∧ q ≤ 40) ∧ ∀ ys, ys = powM a q.toNat → k [⟨rT, 43, true, ys⟩] (.row lr)
  | _ => False
abbrev GSPow := GOk.cons sUnit_ok (GOk.cons sTimes_ok .nil)
theorem sPow_ok : PCtrOk Try.prog 46 sPowC where
  enter := enter_ok Try.func46 (by kernel_rfl) rfl
  calls := by
    intro hg rg lr vals k h
    unfold sPowC at h
    split at h
    case h_2 => exact h.elim
    rename_i i q
    obtain ⟨e, own, a, hi, h⟩ : ∃ e own, ∃ (xs : List (List Int)), _ := rowC_inv h
    obtain ⟨⟨⟨hl, hn, hr⟩, hq⟩, hk⟩ := h
    replace hk := hk _ rfl
    refine ⟨_, _, hk, fun A w hB hR => ?_⟩
    refine enter T_ok GSPow Try.func46 rfl (K := (· < w.heap.size)) (fun _ h => h) (A := A.pick [] [i]) (vals := [.row 0, .int .i64 q]) (n0 := 0) (b0 := 0) (rows := [some ⟨rT, e, false, a⟩]) (hp := []) rfl (Nat.zero_le _) no_box rfl (one_row (hR i _ hi)) rfl rfl (Nat.le_of_ble_eq_true rfl) ?_
    conv => whnf
    repeat (refine V_step T_ok GSPow rfl ?_; conv => whnf)
    have hl : List.length (α := List Int) a ≤ 1000 := hl
    obtain ⟨K, rfl⟩ : ∃ K : Nat, q = (K : Int) := ⟨q.toNat, by omega⟩
    repeat (any_goals (first
      | (refine V_step T_ok GSPow rfl ?_; conv => whnf)
      | (refine V_drawA T_ok GSPow mixed (by kernel_rfl) ?_; conv => whnf)
      | (refine bcond_split (fun hc => ?_) (fun hc => ?_) <;> (try simp only [decide_eq_true_eq, decide_eq_false_iff_not, Bool.not_eq_true', Bool.not_eq_false', Bool.and_eq_true, Bool.or_eq_true, Bool.and_eq_false_imp, Bool.or_eq_false_iff, ne_eq, Decidable.not_not] at hc) <;> conv => whnf)
      | (intro ysK hysK; have hysl := congrArg List.length hysK; (try simp only [List.length_set, List.length_append, List.length_cons, List.length_nil, List.length_take, List.length_drop, List.length_replicate] at hysl); conv => whnf)
      | (refine And.intro (by first | (first | exact True.intro | omega) | exact True.intro | exact ⟨rfl, True.intro, fun _ _ => rfl⟩ | exact Nat.le_of_ble_eq_true rfl | (refine ⟨by (try simp only [List.length_cons, List.length_nil]); omega, Int.le_trans (Int.mul_le_mul_of_nonneg_left (show (TInfo.bytes _ : Int) ≤ 64 from Int.ofNat_le.2 (Nat.le_of_ble_eq_true rfl)) (by omega)) (by (try simp only [List.length_cons, List.length_nil]); omega)⟩)) ?_; conv => whnf)))
    refine V_loopH (γ := Nat × List (List Int)) (fun g => g.1 ≤ K ∧ g.2 = powM a (K - g.1)) (fun g => g.1)
      (fun g => [(1, .int .i64 g.1), (5, .row 1), (8, .junk)]) (fun _ => []) (fun g => [(1, some ⟨rT, 43, true, g.2⟩)]) (K, ysK) ⟨Nat.le_refl _, by rw [Nat.sub_self]; exact hysK⟩ ?_ ?_
    · conv => whnf
      refine ⟨?_, by (conv => whnf); repeat (first | exact True.intro | (refine And.intro rfl ?_; conv => whnf)), by (conv => whnf); repeat (first | exact True.intro | (refine And.intro (by first | rfl | (subst_vars; rfl)) ?_; conv => whnf)), rfl, rfl, rfl, rfl, rfl, rfl, rfl, Nat.le_of_ble_eq_true rfl, Nat.le_of_ble_eq_true rfl⟩
      conv => whnf
      repeat (first | exact True.intro | (refine And.intro (by first | rfl | ((conv => whnf); exact congrArg (AVal.int .i64) (by omega)) | ((conv => whnf); exact congrArg (AVal.int .i64) (by simp only [Int.natCast_add, Int.natCast_one]; omega)) | ((conv => whnf); exact congrArg (AVal.irow _) (by first | omega | assumption | (simp only; omega)))) ?_; conv => whnf))
    · rintro ⟨g, M⟩ ⟨h1, h2⟩
      simp only at h1 h2
      have hpr : PrOk M a (List.length (α := List Int) M) ∧ List.length (α := List Int) M = List.length (α := List Int) a := by
        have e : M.length = a.length := by rw [h2, powM_len]
        refine ⟨?_, e⟩
        rw [e, h2]
        exact powM_ok hl hn hr (by omega)
      conv => whnf
      refine vcCode_sound T_ok GSPow _ _ _ _ _ ?_
      conv => whnf
      repeat (refine V_step T_ok GSPow rfl ?_; conv => whnf)
      repeat (any_goals (first
        | (refine V_step T_ok GSPow rfl ?_; conv => whnf)
        | (refine V_drawA T_ok GSPow mixed (by kernel_rfl) ?_; conv => whnf)
        | (refine bcond_split (fun hc => ?_) (fun hc => ?_) <;> (try simp only [decide_eq_true_eq, decide_eq_false_iff_not, Bool.not_eq_true', Bool.not_eq_false', Bool.and_eq_true, Bool.or_eq_true, Bool.and_eq_false_imp, Bool.or_eq_false_iff, ne_eq, Decidable.not_not] at hc) <;> conv => whnf)
        | (intro ysK hysK; have hysl := congrArg List.length hysK; (try simp only [List.length_set, List.length_append, List.length_cons, List.length_nil, List.length_take, List.length_drop, List.length_replicate] at hysl); conv => whnf)
        | (refine And.intro (by first | (first | exact True.intro | exact hpr | omega | (simp only [Rng]; omega)) | exact True.intro | exact ⟨rfl, True.intro, fun _ _ => rfl⟩ | exact Nat.le_of_ble_eq_true rfl | (refine ⟨by (try simp only [List.length_cons, List.length_nil]); omega, Int.le_trans (Int.mul_le_mul_of_nonneg_left (show (TInfo.bytes _ : Int) ≤ 64 from Int.ofNat_le.2 (Nat.le_of_ble_eq_true rfl)) (by omega)) (by (try simp only [List.length_cons, List.length_nil]); omega)⟩)) ?_; conv => whnf)))
      · have hg : 0 < g := by
          have hc : (0 : Int) < (g : Int) := by assumption
          omega
        have hY : ysK = powM a (K - (g - 1)) := by
          have hy : ysK = mulM M a M.length := hysK
          rw [hy, hpr.2, h2, show K - (g - 1) = (K - g) + 1 by omega]; rfl
        clear hysK hysl
        refine ⟨(g - 1, ysK), ⟨by simp only; omega, hY⟩, by simp only; omega, ?_⟩
        have hgg : ((g - 1 : Nat) : Int) = (g : Int) - 1 := by omega
        conv => whnf
        refine ⟨?_, by (conv => whnf); repeat (first | exact True.intro | (refine And.intro rfl ?_; conv => whnf)), by (conv => whnf); repeat (first | exact True.intro | (refine And.intro (by first | rfl | (subst_vars; rfl)) ?_; conv => whnf)), rfl, rfl, rfl, rfl, rfl, rfl, rfl, Nat.le_of_ble_eq_true rfl, Nat.le_of_ble_eq_true rfl⟩
        conv => whnf
        repeat (first | exact True.intro | (refine And.intro (by first | rfl | ((conv => whnf); exact congrArg (AVal.int .i64) (by omega)) | ((conv => whnf); exact congrArg (AVal.int .i64) (by simp only [Int.natCast_add, Int.natCast_one]; omega)) | ((conv => whnf); exact congrArg (AVal.irow _) (by first | omega | assumption | (simp only; omega)))) ?_; conv => whnf))
      · have hg : g = 0 := by
          have hc : ¬ (0 : Int) < (g : Int) := hc
          omega
        have hY : powM a (Int.toNat (K : Int)) = M := by rw [h2, hg]; rfl
        rw [hY]
        exact leaf1 1 rfl rfl rfl rfl (fun B C h => by simp [AVal.den, h])
end Go.Proofs.Ytllagpbbbdekiab.Fw
