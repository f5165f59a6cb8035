/- Contracts: products of matrices, as the reference makes them. -/
import Derived.Test.YtllagpbbbdekiabK12
namespace Go.Proofs.Ytllagpbbbdekiab.Fw
open Go Go.RowKit
set_option linter.unusedVariables false
set_option linter.unusedSimpArgs false
set_option maxRecDepth 100000
set_option maxHeartbeats 2000000
theorem midM_skip {r : List Int} {b : List (List Int)} {w k j : Nat} (h : r.getD k 0 = 0) : midM r b w k j = rowM r b w (k + 1) := by
  unfold midM; rw [rowM_skip h, List.take_append_drop]
def timesC : PCtr := fun _ rg lr vals k => match vals with
  | [.row i, .row j] => rowC rT (rg i) fun a => rowC rT (rg j) fun b => (PrOk a b (List.length (α := List Int) a) ∧ List.length (α := List Int) a = List.length (α := List Int) b) ∧ ∀ ys, ys = mulM a b (List.length (α := List Int) a) → k [⟨rT, 43, true, ys⟩] (.row lr)
  | _ => False
theorem sTimes_ok : PCtrOk Try.prog 70 timesC where
  enter := enter_ok Try.func70 (by kernel_rfl) rfl
  calls := by
    intro hg rg lr vals k h
    unfold timesC at h
    split at h
    case h_2 => exact h.elim
    rename_i i j
    obtain ⟨e, own, a, hi, h⟩ : ∃ e own, ∃ (xs : List (List Int)), _ := rowC_inv h
    obtain ⟨e2, own2, b, hj, h⟩ : ∃ e own, ∃ (xs : List (List Int)), _ := rowC_inv h
    obtain ⟨⟨hp, hab⟩, hk⟩ := h
    replace hk := hk _ rfl
    refine ⟨_, _, hk, fun A w hB hR => ?_⟩
    refine enter T_ok .nil Try.func70 rfl (K := (· < w.heap.size)) (fun _ h => h) (A := A.pick [] [i, j]) (vals := [.row 0, .row 1]) (n0 := 0) (b0 := 0) (rows := [some ⟨rT, e, false, a⟩, some ⟨rT, e2, false, b⟩]) (hp := []) rfl (Nat.zero_le _) no_box rfl (two_rows (hR i _ hi) (hR j _ hj)) rfl rfl (Nat.le_of_ble_eq_true rfl) ?_
    conv => whnf
    repeat (refine V_step T_ok .nil rfl ?_; conv => whnf)
    have ha := hp.la
    have hab : List.length (α := List Int) a = List.length (α := List Int) b := hab
    obtain ⟨w, hw⟩ : ∃ w, List.length (α := List Int) a = w := ⟨_, rfl⟩
    rw [hw] at hp ⊢
    have hmw : (0 ≤ (List.length (α := List Int) a : Int) ∧ (List.length (α := List Int) a : Int) = (List.length (α := List Int) a : Int) ∧ (ti2.bytes : Int) * (List.length (α := List Int) a : Int) ≤ 281474976710656 ∧ (List.length (α := List Int) a : Int) ≤ 9223372036854775807) := by
      refine ⟨by omega, rfl, ?_, by omega⟩
      show (8 : Int) * (List.length (α := List Int) a : Int) ≤ _
      omega
    repeat (any_goals (first
      | (refine V_step T_ok .nil rfl ?_; conv => whnf)
      | (refine V_drawA T_ok .nil mixed (by kernel_rfl) ?_; conv => whnf)
      | (refine bcond_split (fun hc => ?_) (fun hc => ?_) <;> (try simp only [decide_eq_true_eq, decide_eq_false_iff_not, Bool.not_eq_true', Bool.not_eq_false', Bool.and_eq_true, Bool.or_eq_true, Bool.and_eq_false_imp, Bool.or_eq_false_iff, ne_eq, Decidable.not_not] at hc) <;> conv => whnf)
      | (intro ysK hysK; have hysl := congrArg List.length hysK; (try simp only [List.length_set, List.length_append, List.length_cons, List.length_nil, List.length_take, List.length_drop, List.length_replicate] at hysl); conv => whnf)
      | (refine And.intro (by first | (first | exact True.intro | omega | (simp only [Rng]; omega)) | exact True.intro | exact ⟨rfl, True.intro, fun _ _ => rfl⟩ | exact Nat.le_of_ble_eq_true rfl | (refine ⟨by (try simp only [List.length_cons, List.length_nil]); omega, Int.le_trans (Int.mul_le_mul_of_nonneg_left (show (TInfo.bytes _ : Int) ≤ 64 from Int.ofNat_le.2 (Nat.le_of_ble_eq_true rfl)) (by omega)) (by (try simp only [List.length_cons, List.length_nil]); omega)⟩)) ?_; conv => whnf)))
    refine V_loopH (γ := Nat × List (List Int)) (fun g => g.1 ≤ w ∧ g.2 = (a.take g.1).map (fun r => rowM r b w r.length)) (fun g => w - g.1)
      (fun g => [(5, .row 2), (6, .int .i64 g.1), (10, .junk)]) (fun _ => []) (fun g => [(2, some ⟨rT, 43, true, g.2⟩)]) (0, []) ⟨Nat.zero_le _, rfl⟩ ?_ ?_
    · clear hmw
      conv => whnf
      refine ⟨?_, by (conv => whnf); repeat (first | exact True.intro | (refine And.intro rfl ?_; conv => whnf)), by (conv => whnf); repeat (first | exact True.intro | (refine And.intro (by first | rfl | (subst_vars; rfl)) ?_; conv => whnf)), rfl, rfl, rfl, rfl, rfl, rfl, rfl, Nat.le_of_ble_eq_true rfl, Nat.le_of_ble_eq_true rfl⟩
      conv => whnf
      repeat (first | exact True.intro | (refine And.intro (by first | rfl | ((conv => whnf); exact congrArg (AVal.int .i64) (by omega)) | ((conv => whnf); exact congrArg (AVal.int .i64) (by simp only [Int.natCast_add, Int.natCast_one]; omega)) | ((conv => whnf); exact congrArg (AVal.irow _) (by first | omega | assumption | (simp only; omega)))) ?_; conv => whnf))
    · rintro ⟨n, L⟩ ⟨h1, h2⟩
      simp only at h1 h2
      have hL : List.length (α := List Int) L = n := by rw [h2, List.length_map, List.length_take]; omega
      have hap : ∀ a b : Nat, a ≤ 5000 → b ≤ 5000 → ((a : Int) + (b : Int) ≤ 9223372036854775807 ∧ ((a : Int) + (b : Int)) * (ti43.bytes : Int) ≤ 140737488355328) := fun a b h1 h2 => by
        have hb : (ti43.bytes : Int) = 24 := rfl
        rw [hb]; omega
      conv => whnf
      refine vcCode_sound T_ok .nil _ _ _ _ _ ?_
      conv => whnf
      repeat (refine V_step T_ok .nil rfl ?_; conv => whnf)
      repeat (any_goals (first
        | (refine V_step T_ok .nil rfl ?_; conv => whnf)
        | (refine V_drawA T_ok .nil mixed (by kernel_rfl) ?_; conv => whnf)
        | (refine bcond_split (fun hc => ?_) (fun hc => ?_) <;> (try simp only [decide_eq_true_eq, decide_eq_false_iff_not, Bool.not_eq_true', Bool.not_eq_false', Bool.and_eq_true, Bool.or_eq_true, Bool.and_eq_false_imp, Bool.or_eq_false_iff, ne_eq, Decidable.not_not] at hc) <;> conv => whnf)
        | (intro ysK hysK; have hysl := congrArg List.length hysK; (try simp only [List.length_set, List.length_append, List.length_cons, List.length_nil, List.length_take, List.length_drop, List.length_replicate] at hysl); conv => whnf)
        | (refine And.intro (by first | (first | exact True.intro | with_reducible exact hmw | omega | (simp only [Rng]; omega)) | exact True.intro | exact ⟨rfl, True.intro, fun _ _ => rfl⟩ | exact Nat.le_of_ble_eq_true rfl | (refine ⟨by (try simp only [List.length_cons, List.length_nil]); omega, Int.le_trans (Int.mul_le_mul_of_nonneg_left (show (TInfo.bytes _ : Int) ≤ 64 from Int.ofNat_le.2 (Nat.le_of_ble_eq_true rfl)) (by omega)) (by (try simp only [List.length_cons, List.length_nil]); omega)⟩)) ?_; conv => whnf)))
      · have hn : n < List.length (α := List Int) a := by
          have hc : (n : Int) < (List.length (α := List Int) a : Int) := by assumption
          omega
        obtain ⟨r, hr⟩ : ∃ r, a.getD n [] = r := ⟨_, rfl⟩
        have hrm : r ∈ a := by rw [← hr]; exact getD_mem hn
        have hrl := hp.ra r hrm
        have hr2 : List.length (α := Int) (@List.getD (List Int) a n []) = w := by rw [hr]; omega
        refine V_loopH (γ := Nat × List Int) (fun g => g.1 ≤ w ∧ g.2 = rowM r b w g.1) (fun g => w - g.1)
          (fun g => [(8, .int .i64 g.1)]) (fun _ => []) (fun g => [(3, some ⟨iT, 2, true, g.2⟩)]) (0, List.replicate w 0) ⟨Nat.zero_le _, (rowM_zero r b w).symm⟩ ?_ ?_
        · subst hw
          conv => whnf
          refine ⟨?_, by (conv => whnf); repeat (first | exact True.intro | (refine And.intro rfl ?_; conv => whnf)), by (conv => whnf); repeat (first | exact True.intro | (refine And.intro (by first | rfl | (subst_vars; rfl)) ?_; conv => whnf)), rfl, rfl, rfl, rfl, rfl, rfl, rfl, Nat.le_of_ble_eq_true rfl, Nat.le_of_ble_eq_true rfl⟩
          conv => whnf
          repeat (first | exact True.intro | (refine And.intro (by first | rfl | ((conv => whnf); exact congrArg (AVal.int .i64) (by omega)) | ((conv => whnf); exact congrArg (AVal.int .i64) (by simp only [Int.natCast_add, Int.natCast_one]; omega)) | ((conv => whnf); exact congrArg (AVal.irow _) (by first | omega | assumption | (simp only; omega)))) ?_; conv => whnf))
        · rintro ⟨k, M⟩ ⟨k1, k2⟩
          simp only at k1 k2
          have hM : List.length (α := Int) M = w := by rw [k2, rowM_len]
          conv => whnf
          refine vcCode_sound T_ok .nil _ _ _ _ _ ?_
          conv => whnf
          repeat (refine V_step T_ok .nil rfl ?_; conv => whnf)
          repeat (any_goals (first
            | (refine V_step T_ok .nil rfl ?_; conv => whnf)
            | (refine V_drawA T_ok .nil mixed (by kernel_rfl) ?_; conv => whnf)
            | (refine bcond_split (fun hc => ?_) (fun hc => ?_) <;> (try simp only [decide_eq_true_eq, decide_eq_false_iff_not, Bool.not_eq_true', Bool.not_eq_false', Bool.and_eq_true, Bool.or_eq_true, Bool.and_eq_false_imp, Bool.or_eq_false_iff, ne_eq, Decidable.not_not] at hc) <;> conv => whnf)
            | (intro ysK hysK; have hysl := congrArg List.length hysK; (try simp only [List.length_set, List.length_append, List.length_cons, List.length_nil, List.length_take, List.length_drop, List.length_replicate] at hysl); conv => whnf)
            | (refine And.intro (by first | (first | exact True.intro | omega | (simp only [Rng]; omega)) | exact True.intro | exact ⟨rfl, True.intro, fun _ _ => rfl⟩ | exact Nat.le_of_ble_eq_true rfl | (refine ⟨by (try simp only [List.length_cons, List.length_nil]); omega, Int.le_trans (Int.mul_le_mul_of_nonneg_left (show (TInfo.bytes _ : Int) ≤ 64 from Int.ofNat_le.2 (Nat.le_of_ble_eq_true rfl)) (by omega)) (by (try simp only [List.length_cons, List.length_nil]); omega)⟩)) ?_; conv => whnf)))
          · have hk : k < w := by
              have hc : (k : Int) < (List.length (α := List Int) a : Int) := by assumption
              omega
            have hbw : List.length (α := Int) (@List.getD (List Int) b k []) = w := hp.rb _ (getD_mem (by omega))
            have hdot := fun j hj => hp.dot hrm (j := j) (k := k) hj (by omega)
            refine V_loopH (γ := Nat × List Int) (fun g => g.1 ≤ w ∧ g.2 = midM r b w k g.1) (fun g => w - g.1)
              (fun g => [(9, .int .i64 g.1)]) (fun _ => []) (fun g => [(3, some ⟨iT, 2, true, g.2⟩)]) (0, M) ⟨Nat.zero_le _, by rw [midM_zero]; exact k2⟩ ?_ ?_
            · conv => whnf
              refine ⟨?_, by (conv => whnf); repeat (first | exact True.intro | (refine And.intro rfl ?_; conv => whnf)), by (conv => whnf); repeat (first | exact True.intro | (refine And.intro (by first | rfl | (subst_vars; rfl)) ?_; conv => whnf)), rfl, rfl, rfl, rfl, rfl, rfl, rfl, Nat.le_of_ble_eq_true rfl, Nat.le_of_ble_eq_true rfl⟩
              conv => whnf
              repeat (first | exact True.intro | (refine And.intro (by first | rfl | ((conv => whnf); exact congrArg (AVal.int .i64) (by omega)) | ((conv => whnf); exact congrArg (AVal.int .i64) (by simp only [Int.natCast_add, Int.natCast_one]; omega)) | ((conv => whnf); exact congrArg (AVal.irow _) (by first | omega | assumption | (simp only; omega)))) ?_; conv => whnf))
            · rintro ⟨j, Q⟩ ⟨j1, j2⟩
              simp only at j1 j2
              have hQ : List.length (α := Int) Q = w := by rw [j2, midM_len j1]
              have hx : (@List.getD (List Int) a n []).getD k iT.dflt = r.getD k 0 := by rw [hr]; rfl
              have hy : (@List.getD (List Int) b k []).getD j iT.dflt = ent b k j := rfl
              have hz : j < w → (@List.getD Int Q j iT.dflt) = dotN r b j k := fun h => by rw [j2]; exact midM_get h
              have hd := fun (h : (j : Int) < (List.length (α := List Int) a : Int)) => hdot j (by omega)
              conv => whnf
              refine vcCode_sound T_ok .nil _ _ _ _ _ ?_
              conv => whnf
              repeat (refine V_step T_ok .nil rfl ?_; conv => whnf)
              repeat (any_goals (first
                | (refine V_step T_ok .nil rfl ?_; conv => whnf)
                | (refine V_drawA T_ok .nil mixed (by kernel_rfl) ?_; conv => whnf)
                | (refine bcond_split (fun hc => ?_) (fun hc => ?_) <;> (try simp only [decide_eq_true_eq, decide_eq_false_iff_not, Bool.not_eq_true', Bool.not_eq_false', Bool.and_eq_true, Bool.or_eq_true, Bool.and_eq_false_imp, Bool.or_eq_false_iff, ne_eq, Decidable.not_not] at hc) <;> conv => whnf)
                | (intro ysK hysK; have hysl := congrArg List.length hysK; (try simp only [List.length_set, List.length_append, List.length_cons, List.length_nil, List.length_take, List.length_drop, List.length_replicate] at hysl); conv => whnf)
                | (refine And.intro (by first | (first | exact True.intro | (simp only [Int.toNat_natCast]; omega) | omega | (have q := hd (by assumption); have q2 := hz (by omega); simp only [Int.toNat_natCast, hx, hy, q2, Rng]; omega) | (simp only [Rng]; omega)) | exact True.intro | exact ⟨rfl, True.intro, fun _ _ => rfl⟩ | exact Nat.le_of_ble_eq_true rfl | (refine ⟨by (try simp only [List.length_cons, List.length_nil]); omega, Int.le_trans (Int.mul_le_mul_of_nonneg_left (show (TInfo.bytes _ : Int) ≤ 64 from Int.ofNat_le.2 (Nat.le_of_ble_eq_true rfl)) (by omega)) (by (try simp only [List.length_cons, List.length_nil]); omega)⟩)) ?_; conv => whnf)))
              · have hjw : j < w := by
                  have hc : (j : Int) < (List.length (α := List Int) a : Int) := by assumption
                  omega
                have hY : ysK = midM r b w k (j + 1) := by
                  have e3 := hz hjw
                  simp only [Int.toNat_natCast, hx, hy, e3] at hysK
                  rw [hysK, j2, midM_step hjw]
                clear hysK hysl
                refine ⟨(j + 1, ysK), ⟨by simp only; omega, hY⟩, by simp only; omega, ?_⟩
                conv => whnf
                refine ⟨?_, by (conv => whnf); repeat (first | exact True.intro | (refine And.intro rfl ?_; conv => whnf)), by (conv => whnf); repeat (first | exact True.intro | (refine And.intro (by first | rfl | (subst_vars; rfl)) ?_; conv => whnf)), rfl, rfl, rfl, rfl, rfl, rfl, rfl, Nat.le_of_ble_eq_true rfl, Nat.le_of_ble_eq_true rfl⟩
                conv => whnf
                repeat (first | exact True.intro | (refine And.intro (by first | rfl | ((conv => whnf); exact congrArg (AVal.int .i64) (by omega)) | ((conv => whnf); exact congrArg (AVal.int .i64) (by simp only [Int.natCast_add, Int.natCast_one]; omega)) | ((conv => whnf); exact congrArg (AVal.irow _) (by first | omega | assumption | (simp only; omega)))) ?_; conv => whnf))
              · have hr0 : r.getD k 0 = 0 := by rw [← hx]; exact hc
                have hY : Q = rowM r b w (k + 1) := by rw [j2, midM_skip hr0]
                refine ⟨(k + 1, Q), ⟨by simp only; omega, hY⟩, by simp only; omega, ?_⟩
                conv => whnf
                refine ⟨?_, by (conv => whnf); repeat (first | exact True.intro | (refine And.intro rfl ?_; conv => whnf)), by (conv => whnf); repeat (first | exact True.intro | (refine And.intro (by first | rfl | (subst_vars; rfl)) ?_; conv => whnf)), rfl, rfl, rfl, rfl, rfl, rfl, rfl, Nat.le_of_ble_eq_true rfl, Nat.le_of_ble_eq_true rfl⟩
                conv => whnf
                repeat (first | exact True.intro | (refine And.intro (by first | rfl | ((conv => whnf); exact congrArg (AVal.int .i64) (by omega)) | ((conv => whnf); exact congrArg (AVal.int .i64) (by simp only [Int.natCast_add, Int.natCast_one]; omega)) | ((conv => whnf); exact congrArg (AVal.irow _) (by first | omega | assumption | (simp only; omega)))) ?_; conv => whnf))
              · have hjw : j = w := by
                  have hc : ¬ (j : Int) < (List.length (α := List Int) a : Int) := hc
                  omega
                have hY : Q = rowM r b w (k + 1) := by rw [j2, hjw, midM_all]
                refine ⟨(k + 1, Q), ⟨by simp only; omega, hY⟩, by simp only; omega, ?_⟩
                conv => whnf
                refine ⟨?_, by (conv => whnf); repeat (first | exact True.intro | (refine And.intro rfl ?_; conv => whnf)), by (conv => whnf); repeat (first | exact True.intro | (refine And.intro (by first | rfl | (subst_vars; rfl)) ?_; conv => whnf)), rfl, rfl, rfl, rfl, rfl, rfl, rfl, Nat.le_of_ble_eq_true rfl, Nat.le_of_ble_eq_true rfl⟩
                conv => whnf
                repeat (first | exact True.intro | (refine And.intro (by first | rfl | ((conv => whnf); exact congrArg (AVal.int .i64) (by omega)) | ((conv => whnf); exact congrArg (AVal.int .i64) (by simp only [Int.natCast_add, Int.natCast_one]; omega)) | ((conv => whnf); exact congrArg (AVal.irow _) (by first | omega | assumption | (simp only; omega)))) ?_; conv => whnf))
          · have hk : k = w := by
              have hc : ¬ (k : Int) < (List.length (α := List Int) a : Int) := hc
              omega
            repeat (any_goals (first
              | (refine V_step T_ok .nil rfl ?_; conv => whnf)
              | (refine V_drawA T_ok .nil mixed (by kernel_rfl) ?_; conv => whnf)
              | (refine bcond_split (fun hc => ?_) (fun hc => ?_) <;> (try simp only [decide_eq_true_eq, decide_eq_false_iff_not, Bool.not_eq_true', Bool.not_eq_false', Bool.and_eq_true, Bool.or_eq_true, Bool.and_eq_false_imp, Bool.or_eq_false_iff, ne_eq, Decidable.not_not] at hc) <;> conv => whnf)
              | (intro ysK hysK; have hysl := congrArg List.length hysK; (try simp only [List.length_set, List.length_append, List.length_cons, List.length_nil, List.length_take, List.length_drop, List.length_replicate] at hysl); conv => whnf)
              | (refine And.intro (by first | (first | exact True.intro | omega | exact hap _ _ (by omega) (by simp only [List.length_cons, List.length_nil]; omega)) | exact True.intro | exact ⟨rfl, True.intro, fun _ _ => rfl⟩ | exact Nat.le_of_ble_eq_true rfl | (refine ⟨by (try simp only [List.length_cons, List.length_nil]); omega, Int.le_trans (Int.mul_le_mul_of_nonneg_left (show (TInfo.bytes _ : Int) ≤ 64 from Int.ofNat_le.2 (Nat.le_of_ble_eq_true rfl)) (by omega)) (by (try simp only [List.length_cons, List.length_nil]); omega)⟩)) ?_; conv => whnf)))
            have hY : ysK = (a.take (n + 1)).map (fun r => rowM r b w r.length) := by
              have e9 : rowM r b w r.length = M := by rw [hrl, ← hab, hw, k2, hk]
              rw [take_map_snoc (fun r => rowM r b w r.length) a [] n hn, ← h2, hr, e9]
              exact hysK
            clear hysK hysl
            refine ⟨(n + 1, ysK), ⟨by simp only; omega, hY⟩, by simp only; omega, ?_⟩
            conv => whnf
            refine ⟨?_, by (conv => whnf); repeat (first | exact True.intro | (refine And.intro rfl ?_; conv => whnf)), by (conv => whnf); repeat (first | exact True.intro | (refine And.intro (by first | rfl | (subst_vars; rfl)) ?_; conv => whnf)), rfl, rfl, rfl, rfl, rfl, rfl, rfl, Nat.le_of_ble_eq_true rfl, Nat.le_of_ble_eq_true rfl⟩
            conv => whnf
            repeat (first | exact True.intro | (refine And.intro (by first | rfl | ((conv => whnf); exact congrArg (AVal.int .i64) (by omega)) | ((conv => whnf); exact congrArg (AVal.int .i64) (by simp only [Int.natCast_add, Int.natCast_one]; omega)) | ((conv => whnf); exact congrArg (AVal.irow _) (by first | omega | assumption | (simp only; omega)))) ?_; conv => whnf))
      · have hn : n = w := by
          have hc : ¬ (n : Int) < (List.length (α := List Int) a : Int) := hc
          omega
        have hY : mulM a b w = L := by rw [h2, hn, ← hw, List.take_length]; rfl
        rw [hY]
        exact leaf1 2 rfl rfl rfl rfl (fun B C h => by simp [AVal.den, h])
end Go.Proofs.Ytllagpbbbdekiab.Fw
