/- Contracts: products of matrices whose sums wrap around. -/
import Derived.Test.YtadlnnjgocknhaaW1
namespace Go.Proofs.Ytadlnnjgocknhaa.Fw
open Go Go.RowKit
set_option linter.unusedVariables false
set_option linter.unusedSimpArgs false
set_option maxRecDepth 100000
set_option maxHeartbeats 2000000
def prodWC : PCtr := fun _ rg lr vals k => match vals with
  | [.row i, .row j] => rowC rT (rg i) fun a => rowC rT (rg j) fun b => MzOk a b (List.length (α := Int) (@List.getD (List Int) b 0 [])) ∧ ∀ ys, ys = mulW a b (List.length (α := Int) (@List.getD (List Int) b 0 [])) → k [⟨rT, 32, true, ys⟩] (.row lr)
  | _ => False
theorem prodW_ok : PCtrOk Try.prog 84 prodWC where
  enter := enter_ok Try.func84 (by kernel_rfl) rfl
  calls := by
    intro hg rg lr vals k h
    unfold prodWC at h
    split at h
    case h_2 => exact h.elim
    rename_i i j
    obtain ⟨e, own, a, hi, h⟩ : ∃ e own, ∃ (xs : List (List Int)), _ := rowC_inv h
    obtain ⟨e2, own2, b, hj, h⟩ : ∃ e own, ∃ (xs : List (List Int)), _ := rowC_inv h
    obtain ⟨hp, hk⟩ := h
    replace hk := hk _ rfl
    refine ⟨_, _, hk, fun A w hB hR => ?_⟩
    refine enter T_okW .nil Try.func84 rfl (K := (· < w.heap.size)) (fun _ h => h) (A := A.pick [] [i, j]) (vals := [.row 0, .row 1]) (n0 := 0) (b0 := 0) (rows := [some ⟨rT, e, false, a⟩, some ⟨rT, e2, false, b⟩]) (hp := []) rfl (Nat.zero_le _) no_box rfl (two_rows (hR i _ hi) (hR j _ hj)) rfl rfl (Nat.le_of_ble_eq_true rfl) ?_
    conv => whnf
    repeat (refine V_step T_okW .nil rfl ?_; conv => whnf)
    have hp : MzOk a b (b.getD 0 []).length := hp
    have ha := hp.la
    have hb := hp.lb
    have hwl := hp.lw
    obtain ⟨w, hw⟩ : ∃ w, (b.getD 0 []).length = w := ⟨_, rfl⟩
    have hw' : List.length (α := Int) (@List.getD (List Int) b 0 []) = w := hw
    have hmk : (0 ≤ (List.length (α := List Int) a : Int) ∧ (List.length (α := List Int) a : Int) = (List.length (α := List Int) a : Int) ∧ (ti32.bytes : Int) * (List.length (α := List Int) a : Int) ≤ 281474976710656 ∧ (List.length (α := List Int) a : Int) ≤ 9223372036854775807) := by
      refine ⟨by omega, rfl, ?_, by omega⟩
      show (24 : Int) * (List.length (α := List Int) a : Int) ≤ _
      omega
    repeat (any_goals (first
      | (refine V_step T_okW .nil rfl ?_; conv => whnf)
      | (refine V_drawA T_okW .nil mixed (by kernel_rfl) ?_; conv => whnf)
      | (refine bcond_split (fun hc => ?_) (fun hc => ?_) <;> (try simp only [decide_eq_true_eq, decide_eq_false_iff_not, Bool.not_eq_true', Bool.not_eq_false', Bool.and_eq_true, Bool.or_eq_true, Bool.and_eq_false_imp, Bool.or_eq_false_iff, ne_eq, Decidable.not_not] at hc) <;> conv => whnf)
      | (intro ysK hysK; have hysl := congrArg List.length hysK; (try simp only [List.length_set, List.length_append, List.length_cons, List.length_nil, List.length_take, List.length_drop, List.length_replicate] at hysl); conv => whnf)
      | (refine And.intro (by first | (first | exact True.intro | with_reducible exact hmk | omega | (simp only [Rng]; omega)) | exact True.intro | exact ⟨rfl, True.intro, fun _ _ => rfl⟩ | exact Nat.le_of_ble_eq_true rfl | (refine ⟨by (try simp only [List.length_cons, List.length_nil]); omega, Int.le_trans (Int.mul_le_mul_of_nonneg_left (show (TInfo.bytes _ : Int) ≤ 64 from Int.ofNat_le.2 (Nat.le_of_ble_eq_true rfl)) (by omega)) (by (try simp only [List.length_cons, List.length_nil]); omega)⟩)) ?_; conv => whnf)))
    all_goals rw [hw]
    all_goals (
      refine V_loopH (γ := Nat × List (List Int)) (fun g => g.1 ≤ List.length (α := List Int) a ∧ g.2 = outW a b w g.1) (fun g => List.length (α := List Int) a - g.1)
        (fun g => [(6, .int .i64 (w : Int)), (25, .int .i64 g.1)]) (fun _ => []) (fun g => [(2, some ⟨rT, 32, true, g.2⟩)]) (0, List.replicate (List.length (α := List Int) a) []) ⟨Nat.zero_le _, (outW_zero a b w).symm⟩ ?_ ?_
      · have hw0 : ¬ 0 < (List.length (α := List Int) b : Int) → w = 0 := fun h => by
          rw [← hw, List.getD_eq_getElem?_getD, List.getElem?_eq_none (by omega)]; rfl
        have hw2 : (List.length (α := Int) (@List.getD (List Int) b (Int.toNat 0) []) : Int) = (w : Int) := by
          have : List.length (α := Int) (@List.getD (List Int) b (Int.toNat 0) []) = w := hw'
          omega
        clear hmk
        conv => whnf
        refine ⟨?_, by (conv => whnf); repeat (first | exact True.intro | (refine And.intro rfl ?_; conv => whnf)), by (conv => whnf); repeat (first | exact True.intro | (refine And.intro (by first | rfl | (subst_vars; rfl)) ?_; conv => whnf)), rfl, rfl, rfl, rfl, rfl, rfl, rfl, Nat.le_of_ble_eq_true rfl, Nat.le_of_ble_eq_true rfl⟩
        conv => whnf
        repeat (first | exact True.intro | (refine And.intro (by first | rfl | ((conv => whnf); exact congrArg (AVal.int .i64) (by omega)) | ((conv => whnf); exact congrArg (AVal.int .i64) (by simp only [Int.natCast_add, Int.natCast_one]; omega))) ?_; conv => whnf))
      · rintro ⟨n, L⟩ ⟨h1, h2⟩
        simp only at h1 h2
        have hL : List.length (α := List Int) L = List.length (α := List Int) a := by rw [h2]; exact outW_len h1
        have hmw : (0 ≤ (w : Int) ∧ (w : Int) = (w : Int) ∧ (ti64w.bytes : Int) * (w : Int) ≤ 281474976710656 ∧ (w : Int) ≤ 9223372036854775807) := by
          refine ⟨by omega, rfl, ?_, by omega⟩
          show (8 : Int) * (w : Int) ≤ _
          omega
        conv => whnf
        refine vcCode_sound T_okW .nil _ _ _ _ _ ?_
        conv => whnf
        repeat (refine V_step T_okW .nil rfl ?_; conv => whnf)
        repeat (any_goals (first
          | (refine V_step T_okW .nil rfl ?_; conv => whnf)
          | (refine V_drawA T_okW .nil mixed (by kernel_rfl) ?_; conv => whnf)
          | (refine bcond_split (fun hc => ?_) (fun hc => ?_) <;> (try simp only [decide_eq_true_eq, decide_eq_false_iff_not, Bool.not_eq_true', Bool.not_eq_false', Bool.and_eq_true, Bool.or_eq_true, Bool.and_eq_false_imp, Bool.or_eq_false_iff, ne_eq, Decidable.not_not] at hc) <;> conv => whnf)
          | (intro ysK hysK; have hysl := congrArg List.length hysK; (try simp only [List.length_set, List.length_append, List.length_cons, List.length_nil, List.length_take, List.length_drop, List.length_replicate] at hysl); conv => whnf)
          | (refine And.intro (by first | (first | exact True.intro | with_reducible exact hmw | omega | (simp only [Rng]; omega)) | exact True.intro | exact ⟨rfl, True.intro, fun _ _ => rfl⟩ | exact Nat.le_of_ble_eq_true rfl | (refine ⟨by (try simp only [List.length_cons, List.length_nil]); omega, Int.le_trans (Int.mul_le_mul_of_nonneg_left (show (TInfo.bytes _ : Int) ≤ 64 from Int.ofNat_le.2 (Nat.le_of_ble_eq_true rfl)) (by omega)) (by (try simp only [List.length_cons, List.length_nil]); omega)⟩)) ?_; conv => whnf)))
        · have hn : n < List.length (α := List Int) a := by
            have hc : (n : Int) < (List.length (α := List Int) a : Int) := by assumption
            omega
          obtain ⟨r, hr⟩ : ∃ r, a.getD n [] = r := ⟨_, rfl⟩
          have hrm : r ∈ a := by rw [← hr]; exact getD_mem hn
          have hrl := hp.ra r hrm
          have hr' : List.length (α := Int) (@List.getD (List Int) a n []) = List.length (α := List Int) b := by rw [hr]; exact hrl
          have hr2 : List.length (α := Int) (@List.getD (List Int) a (Int.toNat (n : Int)) []) = List.length (α := List Int) b := hr'
          refine V_loopH (γ := Nat × List (List Int)) (fun g => g.1 ≤ List.length (α := List Int) b ∧ g.2 = L.set n (rowW r b w g.1)) (fun g => List.length (α := List Int) b - g.1)
            (fun g => [(37, .int .i64 g.1)]) (fun _ => []) (fun g => [(2, some ⟨rT, 32, true, g.2⟩)]) (0, ysK) ⟨Nat.zero_le _, by rw [rowW_zero]; exact hysK⟩ ?_ ?_
          · conv => whnf
            refine ⟨?_, by (conv => whnf); repeat (first | exact True.intro | (refine And.intro rfl ?_; conv => whnf)), by (conv => whnf); repeat (first | exact True.intro | (refine And.intro (by first | rfl | (subst_vars; rfl)) ?_; conv => whnf)), rfl, rfl, rfl, rfl, rfl, rfl, rfl, Nat.le_of_ble_eq_true rfl, Nat.le_of_ble_eq_true rfl⟩
            conv => whnf
            repeat (first | exact True.intro | (refine And.intro (by first | rfl | ((conv => whnf); exact congrArg (AVal.int .i64) (by omega)) | ((conv => whnf); exact congrArg (AVal.int .i64) (by simp only [Int.natCast_add, Int.natCast_one]; omega))) ?_; conv => whnf))
          · rintro ⟨k, M⟩ ⟨k1, k2⟩
            simp only at k1 k2
            have hM : List.length (α := List Int) M = List.length (α := List Int) a := by rw [k2, List.length_set]; exact hL
            conv => whnf
            refine vcCode_sound T_okW .nil _ _ _ _ _ ?_
            conv => whnf
            repeat (refine V_step T_okW .nil rfl ?_; conv => whnf)
            repeat (any_goals (first
              | (refine V_step T_okW .nil rfl ?_; conv => whnf)
              | (refine V_drawA T_okW .nil mixed (by kernel_rfl) ?_; conv => whnf)
              | (refine bcond_split (fun hc => ?_) (fun hc => ?_) <;> (try simp only [decide_eq_true_eq, decide_eq_false_iff_not, Bool.not_eq_true', Bool.not_eq_false', Bool.and_eq_true, Bool.or_eq_true, Bool.and_eq_false_imp, Bool.or_eq_false_iff, ne_eq, Decidable.not_not] at hc) <;> conv => whnf)
              | (intro ysK hysK; have hysl := congrArg List.length hysK; (try simp only [List.length_set, List.length_append, List.length_cons, List.length_nil, List.length_take, List.length_drop, List.length_replicate] at hysl); conv => whnf)
              | (refine And.intro (by first | (first | exact True.intro | (simp only [Int.toNat_natCast]; omega) | omega | (simp only [Rng]; omega)) | exact True.intro | exact ⟨rfl, True.intro, fun _ _ => rfl⟩ | exact Nat.le_of_ble_eq_true rfl | (refine ⟨by (try simp only [List.length_cons, List.length_nil]); omega, Int.le_trans (Int.mul_le_mul_of_nonneg_left (show (TInfo.bytes _ : Int) ≤ 64 from Int.ofNat_le.2 (Nat.le_of_ble_eq_true rfl)) (by omega)) (by (try simp only [List.length_cons, List.length_nil]); omega)⟩)) ?_; conv => whnf)))
            · have hk : k < List.length (α := List Int) b := by
                have hc : (k : Int) < (List.length (α := Int) (@List.getD (List Int) a (Int.toNat (n : Int)) []) : Int) := by assumption
                omega
              have hbw : List.length (α := Int) (@List.getD (List Int) b k []) = w := by rw [hp.rb _ (getD_mem hk)]; exact hw
              have hbw2 : List.length (α := Int) (@List.getD (List Int) b (Int.toNat (k : Int)) []) = w := hbw
              refine V_loopH (γ := Nat × List (List Int)) (fun g => g.1 ≤ w ∧ g.2 = L.set n (midW r b w k g.1)) (fun g => w - g.1)
                (fun g => [(47, .int .i64 g.1)]) (fun _ => []) (fun g => [(2, some ⟨rT, 32, true, g.2⟩)]) (0, M) ⟨Nat.zero_le _, by rw [midW_zero]; exact k2⟩ ?_ ?_
              · conv => whnf
                refine ⟨?_, by (conv => whnf); repeat (first | exact True.intro | (refine And.intro rfl ?_; conv => whnf)), by (conv => whnf); repeat (first | exact True.intro | (refine And.intro (by first | rfl | (subst_vars; rfl)) ?_; conv => whnf)), rfl, rfl, rfl, rfl, rfl, rfl, rfl, Nat.le_of_ble_eq_true rfl, Nat.le_of_ble_eq_true rfl⟩
                conv => whnf
                repeat (first | exact True.intro | (refine And.intro (by first | rfl | ((conv => whnf); exact congrArg (AVal.int .i64) (by omega)) | ((conv => whnf); exact congrArg (AVal.int .i64) (by simp only [Int.natCast_add, Int.natCast_one]; omega))) ?_; conv => whnf))
              · rintro ⟨j, Q⟩ ⟨j1, j2⟩
                simp only at j1 j2
                have hQ : List.length (α := List Int) Q = List.length (α := List Int) a := by rw [j2, List.length_set]; exact hL
                have hQn : Q.getD n [] = midW r b w k j := by rw [j2, getD_set (by omega)]
                have hQl : List.length (α := Int) (@List.getD (List Int) Q n []) = w := by rw [hQn, midW_len j1]
                have hx : (@List.getD (List Int) a n []).getD k iT.dflt = r.getD k 0 := by rw [hr]; rfl
                have hy : (@List.getD (List Int) b k []).getD j iT.dflt = ent b k j := rfl
                have hz : j < w → (@List.getD (List Int) Q n []).getD j iT.dflt = dotW r b j k := fun h => by rw [hQn]; exact midW_get h
                conv => whnf
                refine vcCode_sound T_okW .nil _ _ _ _ _ ?_
                conv => whnf
                repeat (refine V_step T_okW .nil rfl ?_; conv => whnf)
                repeat (any_goals (first
                  | (refine V_step T_okW .nil rfl ?_; conv => whnf)
                  | (refine V_drawA T_okW .nil mixed (by kernel_rfl) ?_; conv => whnf)
                  | (refine bcond_split (fun hc => ?_) (fun hc => ?_) <;> (try simp only [decide_eq_true_eq, decide_eq_false_iff_not, Bool.not_eq_true', Bool.not_eq_false', Bool.and_eq_true, Bool.or_eq_true, Bool.and_eq_false_imp, Bool.or_eq_false_iff, ne_eq, Decidable.not_not] at hc) <;> conv => whnf)
                  | (intro ysK hysK; have hysl := congrArg List.length hysK; (try simp only [List.length_set, List.length_append, List.length_cons, List.length_nil, List.length_take, List.length_drop, List.length_replicate] at hysl); conv => whnf)
                  | (refine And.intro (by first | (first | exact True.intro | (simp only [Int.toNat_natCast]; omega) | omega | (simp only [Rng]; omega)) | exact True.intro | exact ⟨rfl, True.intro, fun _ _ => rfl⟩ | exact Nat.le_of_ble_eq_true rfl | (refine ⟨by (try simp only [List.length_cons, List.length_nil]); omega, Int.le_trans (Int.mul_le_mul_of_nonneg_left (show (TInfo.bytes _ : Int) ≤ 64 from Int.ofNat_le.2 (Nat.le_of_ble_eq_true rfl)) (by omega)) (by (try simp only [List.length_cons, List.length_nil]); omega)⟩)) ?_; conv => whnf)))
                · have hjw : j < w := by
                    have hc : (j : Int) < (List.length (α := Int) (@List.getD (List Int) b (Int.toNat (k : Int)) []) : Int) := by assumption
                    omega
                  have hY : ysK = L.set n (midW r b w k (j + 1)) := by
                    have e3 := hz hjw
                    simp only [Int.toNat_natCast, hx, hy, e3] at hysK
                    rw [hysK, hQn, midW_step hjw, j2, set_set]
                  clear hysK hysl
                  refine ⟨(j + 1, ysK), ⟨by simp only; omega, hY⟩, by simp only; omega, ?_⟩
                  conv => whnf
                  refine ⟨?_, by (conv => whnf); repeat (first | exact True.intro | (refine And.intro rfl ?_; conv => whnf)), by (conv => whnf); repeat (first | exact True.intro | (refine And.intro (by first | rfl | (subst_vars; rfl)) ?_; conv => whnf)), rfl, rfl, rfl, rfl, rfl, rfl, rfl, Nat.le_of_ble_eq_true rfl, Nat.le_of_ble_eq_true rfl⟩
                  conv => whnf
                  repeat (first | exact True.intro | (refine And.intro (by first | rfl | ((conv => whnf); exact congrArg (AVal.int .i64) (by omega)) | ((conv => whnf); exact congrArg (AVal.int .i64) (by simp only [Int.natCast_add, Int.natCast_one]; omega))) ?_; conv => whnf))
                · have hjw : j = w := by
                    have hc : ¬ (j : Int) < (List.length (α := Int) (@List.getD (List Int) b (Int.toNat (k : Int)) []) : Int) := hc
                    omega
                  have hY : Q = L.set n (rowW r b w (k + 1)) := by rw [j2, hjw, midW_all]
                  refine ⟨(k + 1, Q), ⟨by simp only; omega, hY⟩, by simp only; omega, ?_⟩
                  conv => whnf
                  refine ⟨?_, by (conv => whnf); repeat (first | exact True.intro | (refine And.intro rfl ?_; conv => whnf)), by (conv => whnf); repeat (first | exact True.intro | (refine And.intro (by first | rfl | (subst_vars; rfl)) ?_; conv => whnf)), rfl, rfl, rfl, rfl, rfl, rfl, rfl, Nat.le_of_ble_eq_true rfl, Nat.le_of_ble_eq_true rfl⟩
                  conv => whnf
                  repeat (first | exact True.intro | (refine And.intro (by first | rfl | ((conv => whnf); exact congrArg (AVal.int .i64) (by omega)) | ((conv => whnf); exact congrArg (AVal.int .i64) (by simp only [Int.natCast_add, Int.natCast_one]; omega))) ?_; conv => whnf))
            · have hk : k = List.length (α := List Int) b := by
                have hc : ¬ (k : Int) < (List.length (α := Int) (@List.getD (List Int) a (Int.toNat (n : Int)) []) : Int) := hc
                omega
              have hy : M = outW a b w (n + 1) := by
                rw [← outW_set hn, ← h2, hr, hrl, ← hk]; exact k2
              subst hy
              refine ⟨(n + 1, outW a b w (n + 1)), ⟨by simp only; omega, rfl⟩, by simp only; omega, ?_⟩
              conv => whnf
              refine ⟨?_, by (conv => whnf); repeat (first | exact True.intro | (refine And.intro rfl ?_; conv => whnf)), by (conv => whnf); repeat (first | exact True.intro | (refine And.intro (by first | rfl | (subst_vars; rfl)) ?_; conv => whnf)), rfl, rfl, rfl, rfl, rfl, rfl, rfl, Nat.le_of_ble_eq_true rfl, Nat.le_of_ble_eq_true rfl⟩
              conv => whnf
              repeat (first | exact True.intro | (refine And.intro (by first | rfl | ((conv => whnf); exact congrArg (AVal.int .i64) (by omega)) | ((conv => whnf); exact congrArg (AVal.int .i64) (by simp only [Int.natCast_add, Int.natCast_one]; omega))) ?_; conv => whnf))
        · have hn : n = List.length (α := List Int) a := by
            have hc : ¬ (n : Int) < (List.length (α := List Int) a : Int) := hc
            omega
          rw [hn, outW_all] at h2
          subst h2
          exact leaf1 2 rfl rfl rfl rfl (fun B C h => by simp [AVal.den, h]))
def timesWC : PCtr := fun _ rg lr vals k => match vals with
  | [.row i, .row j] => rowC rT (rg i) fun a => rowC rT (rg j) fun b => (MzOk a b (List.length (α := List Int) a) ∧ List.length (α := List Int) a = List.length (α := List Int) b) ∧ ∀ ys, ys = mulW a b (List.length (α := List Int) a) → k [⟨rT, 32, true, ys⟩] (.row lr)
  | _ => False
theorem sTimesW_ok : PCtrOk Try.prog 89 timesWC where
  enter := enter_ok Try.func89 (by kernel_rfl) rfl
  calls := by
    intro hg rg lr vals k h
    unfold timesWC at h
    split at h
    case h_2 => exact h.elim
    rename_i i j
    obtain ⟨e, own, a, hi, h⟩ : ∃ e own, ∃ (xs : List (List Int)), _ := rowC_inv h
    obtain ⟨e2, own2, b, hj, h⟩ : ∃ e own, ∃ (xs : List (List Int)), _ := rowC_inv h
    obtain ⟨⟨hp, hab⟩, hk⟩ := h
    replace hk := hk _ rfl
    refine ⟨_, _, hk, fun A w hB hR => ?_⟩
    refine enter T_okW .nil Try.func89 rfl (K := (· < w.heap.size)) (fun _ h => h) (A := A.pick [] [i, j]) (vals := [.row 0, .row 1]) (n0 := 0) (b0 := 0) (rows := [some ⟨rT, e, false, a⟩, some ⟨rT, e2, false, b⟩]) (hp := []) rfl (Nat.zero_le _) no_box rfl (two_rows (hR i _ hi) (hR j _ hj)) rfl rfl (Nat.le_of_ble_eq_true rfl) ?_
    conv => whnf
    repeat (refine V_step T_okW .nil rfl ?_; conv => whnf)
    have ha := hp.la
    have hab : List.length (α := List Int) a = List.length (α := List Int) b := hab
    obtain ⟨w, hw⟩ : ∃ w, List.length (α := List Int) a = w := ⟨_, rfl⟩
    rw [hw] at hp ⊢
    have hmw : (0 ≤ (List.length (α := List Int) a : Int) ∧ (List.length (α := List Int) a : Int) = (List.length (α := List Int) a : Int) ∧ (ti64w.bytes : Int) * (List.length (α := List Int) a : Int) ≤ 281474976710656 ∧ (List.length (α := List Int) a : Int) ≤ 9223372036854775807) := by
      refine ⟨by omega, rfl, ?_, by omega⟩
      show (8 : Int) * (List.length (α := List Int) a : Int) ≤ _
      omega
    repeat (any_goals (first
      | (refine V_step T_okW .nil rfl ?_; conv => whnf)
      | (refine V_drawA T_okW .nil mixed (by kernel_rfl) ?_; conv => whnf)
      | (refine bcond_split (fun hc => ?_) (fun hc => ?_) <;> (try simp only [decide_eq_true_eq, decide_eq_false_iff_not, Bool.not_eq_true', Bool.not_eq_false', Bool.and_eq_true, Bool.or_eq_true, Bool.and_eq_false_imp, Bool.or_eq_false_iff, ne_eq, Decidable.not_not] at hc) <;> conv => whnf)
      | (intro ysK hysK; have hysl := congrArg List.length hysK; (try simp only [List.length_set, List.length_append, List.length_cons, List.length_nil, List.length_take, List.length_drop, List.length_replicate] at hysl); conv => whnf)
      | (refine And.intro (by first | (first | exact True.intro | omega | (simp only [Rng]; omega)) | exact True.intro | exact ⟨rfl, True.intro, fun _ _ => rfl⟩ | exact Nat.le_of_ble_eq_true rfl | (refine ⟨by (try simp only [List.length_cons, List.length_nil]); omega, Int.le_trans (Int.mul_le_mul_of_nonneg_left (show (TInfo.bytes _ : Int) ≤ 64 from Int.ofNat_le.2 (Nat.le_of_ble_eq_true rfl)) (by omega)) (by (try simp only [List.length_cons, List.length_nil]); omega)⟩)) ?_; conv => whnf)))
    refine V_loopH (γ := Nat × List (List Int)) (fun g => g.1 ≤ w ∧ g.2 = (a.take g.1).map (fun r => rowW r b w r.length)) (fun g => w - g.1)
      (fun g => [(5, .row 2), (6, .int .i64 g.1), (10, .junk)]) (fun _ => []) (fun g => [(2, some ⟨rT, 32, true, g.2⟩)]) (0, []) ⟨Nat.zero_le _, rfl⟩ ?_ ?_
    · clear hmw
      conv => whnf
      refine ⟨?_, by (conv => whnf); repeat (first | exact True.intro | (refine And.intro rfl ?_; conv => whnf)), by (conv => whnf); repeat (first | exact True.intro | (refine And.intro (by first | rfl | (subst_vars; rfl)) ?_; conv => whnf)), rfl, rfl, rfl, rfl, rfl, rfl, rfl, Nat.le_of_ble_eq_true rfl, Nat.le_of_ble_eq_true rfl⟩
      conv => whnf
      repeat (first | exact True.intro | (refine And.intro (by first | rfl | ((conv => whnf); exact congrArg (AVal.int .i64) (by omega)) | ((conv => whnf); exact congrArg (AVal.int .i64) (by simp only [Int.natCast_add, Int.natCast_one]; omega))) ?_; conv => whnf))
    · rintro ⟨n, L⟩ ⟨h1, h2⟩
      simp only at h1 h2
      have hL : List.length (α := List Int) L = n := by rw [h2, List.length_map, List.length_take]; omega
      have hap : ∀ a b : Nat, a ≤ 5000 → b ≤ 5000 → ((a : Int) + (b : Int) ≤ 9223372036854775807 ∧ ((a : Int) + (b : Int)) * (ti32.bytes : Int) ≤ 140737488355328) := fun a b h1 h2 => by
        have hb : (ti32.bytes : Int) = 24 := rfl
        rw [hb]; omega
      conv => whnf
      refine vcCode_sound T_okW .nil _ _ _ _ _ ?_
      conv => whnf
      repeat (refine V_step T_okW .nil rfl ?_; conv => whnf)
      repeat (any_goals (first
        | (refine V_step T_okW .nil rfl ?_; conv => whnf)
        | (refine V_drawA T_okW .nil mixed (by kernel_rfl) ?_; conv => whnf)
        | (refine bcond_split (fun hc => ?_) (fun hc => ?_) <;> (try simp only [decide_eq_true_eq, decide_eq_false_iff_not, Bool.not_eq_true', Bool.not_eq_false', Bool.and_eq_true, Bool.or_eq_true, Bool.and_eq_false_imp, Bool.or_eq_false_iff, ne_eq, Decidable.not_not] at hc) <;> conv => whnf)
        | (intro ysK hysK; have hysl := congrArg List.length hysK; (try simp only [List.length_set, List.length_append, List.length_cons, List.length_nil, List.length_take, List.length_drop, List.length_replicate] at hysl); conv => whnf)
        | (refine And.intro (by first | (first | exact True.intro | with_reducible exact hmw | omega | (simp only [Rng]; omega)) | exact True.intro | exact ⟨rfl, True.intro, fun _ _ => rfl⟩ | exact Nat.le_of_ble_eq_true rfl | (refine ⟨by (try simp only [List.length_cons, List.length_nil]); omega, Int.le_trans (Int.mul_le_mul_of_nonneg_left (show (TInfo.bytes _ : Int) ≤ 64 from Int.ofNat_le.2 (Nat.le_of_ble_eq_true rfl)) (by omega)) (by (try simp only [List.length_cons, List.length_nil]); omega)⟩)) ?_; conv => whnf)))
      · have hn : n < List.length (α := List Int) a := by
          have hc : (n : Int) < (List.length (α := List Int) a : Int) := by assumption
          omega
        obtain ⟨r, hr⟩ : ∃ r, a.getD n [] = r := ⟨_, rfl⟩
        have hrm : r ∈ a := by rw [← hr]; exact getD_mem hn
        have hrl := hp.ra r hrm
        have hr2 : List.length (α := Int) (@List.getD (List Int) a n []) = w := by rw [hr]; omega
        refine V_loopH (γ := Nat × List Int) (fun g => g.1 ≤ w ∧ g.2 = rowW r b w g.1) (fun g => w - g.1)
          (fun g => [(8, .int .i64 g.1)]) (fun _ => []) (fun g => [(3, some ⟨iT, 2, true, g.2⟩)]) (0, List.replicate w 0) ⟨Nat.zero_le _, (rowW_zero r b w).symm⟩ ?_ ?_
        · subst hw
          conv => whnf
          refine ⟨?_, by (conv => whnf); repeat (first | exact True.intro | (refine And.intro rfl ?_; conv => whnf)), by (conv => whnf); repeat (first | exact True.intro | (refine And.intro (by first | rfl | (subst_vars; rfl)) ?_; conv => whnf)), rfl, rfl, rfl, rfl, rfl, rfl, rfl, Nat.le_of_ble_eq_true rfl, Nat.le_of_ble_eq_true rfl⟩
          conv => whnf
          repeat (first | exact True.intro | (refine And.intro (by first | rfl | ((conv => whnf); exact congrArg (AVal.int .i64) (by omega)) | ((conv => whnf); exact congrArg (AVal.int .i64) (by simp only [Int.natCast_add, Int.natCast_one]; omega))) ?_; conv => whnf))
        · rintro ⟨k, M⟩ ⟨k1, k2⟩
          simp only at k1 k2
          have hM : List.length (α := Int) M = w := by rw [k2, rowW_len]
          conv => whnf
          refine vcCode_sound T_okW .nil _ _ _ _ _ ?_
          conv => whnf
          repeat (refine V_step T_okW .nil rfl ?_; conv => whnf)
          repeat (any_goals (first
            | (refine V_step T_okW .nil rfl ?_; conv => whnf)
            | (refine V_drawA T_okW .nil mixed (by kernel_rfl) ?_; conv => whnf)
            | (refine bcond_split (fun hc => ?_) (fun hc => ?_) <;> (try simp only [decide_eq_true_eq, decide_eq_false_iff_not, Bool.not_eq_true', Bool.not_eq_false', Bool.and_eq_true, Bool.or_eq_true, Bool.and_eq_false_imp, Bool.or_eq_false_iff, ne_eq, Decidable.not_not] at hc) <;> conv => whnf)
            | (intro ysK hysK; have hysl := congrArg List.length hysK; (try simp only [List.length_set, List.length_append, List.length_cons, List.length_nil, List.length_take, List.length_drop, List.length_replicate] at hysl); conv => whnf)
            | (refine And.intro (by first | (first | exact True.intro | omega | (simp only [Rng]; omega)) | exact True.intro | exact ⟨rfl, True.intro, fun _ _ => rfl⟩ | exact Nat.le_of_ble_eq_true rfl | (refine ⟨by (try simp only [List.length_cons, List.length_nil]); omega, Int.le_trans (Int.mul_le_mul_of_nonneg_left (show (TInfo.bytes _ : Int) ≤ 64 from Int.ofNat_le.2 (Nat.le_of_ble_eq_true rfl)) (by omega)) (by (try simp only [List.length_cons, List.length_nil]); omega)⟩)) ?_; conv => whnf)))
          · have hk : k < w := by
              have hc : (k : Int) < (List.length (α := List Int) a : Int) := by assumption
              omega
            have hbw : List.length (α := Int) (@List.getD (List Int) b k []) = w := hp.rb _ (getD_mem (by omega))
            refine V_loopH (γ := Nat × List Int) (fun g => g.1 ≤ w ∧ g.2 = midW r b w k g.1) (fun g => w - g.1)
              (fun g => [(9, .int .i64 g.1)]) (fun _ => []) (fun g => [(3, some ⟨iT, 2, true, g.2⟩)]) (0, M) ⟨Nat.zero_le _, by rw [midW_zero]; exact k2⟩ ?_ ?_
            · conv => whnf
              refine ⟨?_, by (conv => whnf); repeat (first | exact True.intro | (refine And.intro rfl ?_; conv => whnf)), by (conv => whnf); repeat (first | exact True.intro | (refine And.intro (by first | rfl | (subst_vars; rfl)) ?_; conv => whnf)), rfl, rfl, rfl, rfl, rfl, rfl, rfl, Nat.le_of_ble_eq_true rfl, Nat.le_of_ble_eq_true rfl⟩
              conv => whnf
              repeat (first | exact True.intro | (refine And.intro (by first | rfl | ((conv => whnf); exact congrArg (AVal.int .i64) (by omega)) | ((conv => whnf); exact congrArg (AVal.int .i64) (by simp only [Int.natCast_add, Int.natCast_one]; omega))) ?_; conv => whnf))
            · rintro ⟨j, Q⟩ ⟨j1, j2⟩
              simp only at j1 j2
              have hQ : List.length (α := Int) Q = w := by rw [j2, midW_len j1]
              have hx : (@List.getD (List Int) a n []).getD k iT.dflt = r.getD k 0 := by rw [hr]; rfl
              have hy : (@List.getD (List Int) b k []).getD j iT.dflt = ent b k j := rfl
              have hz : j < w → (@List.getD Int Q j iT.dflt) = dotW r b j k := fun h => by rw [j2]; exact midW_get h
              conv => whnf
              refine vcCode_sound T_okW .nil _ _ _ _ _ ?_
              conv => whnf
              repeat (refine V_step T_okW .nil rfl ?_; conv => whnf)
              repeat (any_goals (first
                | (refine V_step T_okW .nil rfl ?_; conv => whnf)
                | (refine V_drawA T_okW .nil mixed (by kernel_rfl) ?_; conv => whnf)
                | (refine bcond_split (fun hc => ?_) (fun hc => ?_) <;> (try simp only [decide_eq_true_eq, decide_eq_false_iff_not, Bool.not_eq_true', Bool.not_eq_false', Bool.and_eq_true, Bool.or_eq_true, Bool.and_eq_false_imp, Bool.or_eq_false_iff, ne_eq, Decidable.not_not] at hc) <;> conv => whnf)
                | (intro ysK hysK; have hysl := congrArg List.length hysK; (try simp only [List.length_set, List.length_append, List.length_cons, List.length_nil, List.length_take, List.length_drop, List.length_replicate] at hysl); conv => whnf)
                | (refine And.intro (by first | (first | exact True.intro | (simp only [Int.toNat_natCast]; omega) | omega | (simp only [Rng]; omega)) | exact True.intro | exact ⟨rfl, True.intro, fun _ _ => rfl⟩ | exact Nat.le_of_ble_eq_true rfl | (refine ⟨by (try simp only [List.length_cons, List.length_nil]); omega, Int.le_trans (Int.mul_le_mul_of_nonneg_left (show (TInfo.bytes _ : Int) ≤ 64 from Int.ofNat_le.2 (Nat.le_of_ble_eq_true rfl)) (by omega)) (by (try simp only [List.length_cons, List.length_nil]); omega)⟩)) ?_; conv => whnf)))
              · have hjw : j < w := by
                  have hc : (j : Int) < (List.length (α := List Int) a : Int) := by assumption
                  omega
                have hY : ysK = midW r b w k (j + 1) := by
                  have e3 := hz hjw
                  simp only [Int.toNat_natCast, hx, hy, e3] at hysK
                  rw [hysK, j2, midW_step hjw]
                clear hysK hysl
                refine ⟨(j + 1, ysK), ⟨by simp only; omega, hY⟩, by simp only; omega, ?_⟩
                conv => whnf
                refine ⟨?_, by (conv => whnf); repeat (first | exact True.intro | (refine And.intro rfl ?_; conv => whnf)), by (conv => whnf); repeat (first | exact True.intro | (refine And.intro (by first | rfl | (subst_vars; rfl)) ?_; conv => whnf)), rfl, rfl, rfl, rfl, rfl, rfl, rfl, Nat.le_of_ble_eq_true rfl, Nat.le_of_ble_eq_true rfl⟩
                conv => whnf
                repeat (first | exact True.intro | (refine And.intro (by first | rfl | ((conv => whnf); exact congrArg (AVal.int .i64) (by omega)) | ((conv => whnf); exact congrArg (AVal.int .i64) (by simp only [Int.natCast_add, Int.natCast_one]; omega))) ?_; conv => whnf))
              · have hr0 : r.getD k 0 = 0 := by rw [← hx]; exact hc
                have hY : Q = rowW r b w (k + 1) := by rw [j2, midW_skip hr0]
                refine ⟨(k + 1, Q), ⟨by simp only; omega, hY⟩, by simp only; omega, ?_⟩
                conv => whnf
                refine ⟨?_, by (conv => whnf); repeat (first | exact True.intro | (refine And.intro rfl ?_; conv => whnf)), by (conv => whnf); repeat (first | exact True.intro | (refine And.intro (by first | rfl | (subst_vars; rfl)) ?_; conv => whnf)), rfl, rfl, rfl, rfl, rfl, rfl, rfl, Nat.le_of_ble_eq_true rfl, Nat.le_of_ble_eq_true rfl⟩
                conv => whnf
                repeat (first | exact True.intro | (refine And.intro (by first | rfl | ((conv => whnf); exact congrArg (AVal.int .i64) (by omega)) | ((conv => whnf); exact congrArg (AVal.int .i64) (by simp only [Int.natCast_add, Int.natCast_one]; omega))) ?_; conv => whnf))
              · have hjw : j = w := by
                  have hc : ¬ (j : Int) < (List.length (α := List Int) a : Int) := hc
                  omega
                have hY : Q = rowW r b w (k + 1) := by rw [j2, hjw, midW_all]
                refine ⟨(k + 1, Q), ⟨by simp only; omega, hY⟩, by simp only; omega, ?_⟩
                conv => whnf
                refine ⟨?_, by (conv => whnf); repeat (first | exact True.intro | (refine And.intro rfl ?_; conv => whnf)), by (conv => whnf); repeat (first | exact True.intro | (refine And.intro (by first | rfl | (subst_vars; rfl)) ?_; conv => whnf)), rfl, rfl, rfl, rfl, rfl, rfl, rfl, Nat.le_of_ble_eq_true rfl, Nat.le_of_ble_eq_true rfl⟩
                conv => whnf
                repeat (first | exact True.intro | (refine And.intro (by first | rfl | ((conv => whnf); exact congrArg (AVal.int .i64) (by omega)) | ((conv => whnf); exact congrArg (AVal.int .i64) (by simp only [Int.natCast_add, Int.natCast_one]; omega))) ?_; conv => whnf))
          · have hk : k = w := by
              have hc : ¬ (k : Int) < (List.length (α := List Int) a : Int) := hc
              omega
            repeat (any_goals (first
              | (refine V_step T_okW .nil rfl ?_; conv => whnf)
              | (refine V_drawA T_okW .nil mixed (by kernel_rfl) ?_; conv => whnf)
              | (refine bcond_split (fun hc => ?_) (fun hc => ?_) <;> (try simp only [decide_eq_true_eq, decide_eq_false_iff_not, Bool.not_eq_true', Bool.not_eq_false', Bool.and_eq_true, Bool.or_eq_true, Bool.and_eq_false_imp, Bool.or_eq_false_iff, ne_eq, Decidable.not_not] at hc) <;> conv => whnf)
              | (intro ysK hysK; have hysl := congrArg List.length hysK; (try simp only [List.length_set, List.length_append, List.length_cons, List.length_nil, List.length_take, List.length_drop, List.length_replicate] at hysl); conv => whnf)
              | (refine And.intro (by first | (first | exact True.intro | omega | exact hap _ _ (by omega) (by simp only [List.length_cons, List.length_nil]; omega)) | exact True.intro | exact ⟨rfl, True.intro, fun _ _ => rfl⟩ | exact Nat.le_of_ble_eq_true rfl | (refine ⟨by (try simp only [List.length_cons, List.length_nil]); omega, Int.le_trans (Int.mul_le_mul_of_nonneg_left (show (TInfo.bytes _ : Int) ≤ 64 from Int.ofNat_le.2 (Nat.le_of_ble_eq_true rfl)) (by omega)) (by (try simp only [List.length_cons, List.length_nil]); omega)⟩)) ?_; conv => whnf)))
            have hY : ysK = (a.take (n + 1)).map (fun r => rowW r b w r.length) := by
              have e9 : rowW r b w r.length = M := by rw [hrl, ← hab, hw, k2, hk]
              rw [take_map_snoc (fun r => rowW r b w r.length) a [] n hn, ← h2, hr, e9]
              exact hysK
            clear hysK hysl
            refine ⟨(n + 1, ysK), ⟨by simp only; omega, hY⟩, by simp only; omega, ?_⟩
            conv => whnf
            refine ⟨?_, by (conv => whnf); repeat (first | exact True.intro | (refine And.intro rfl ?_; conv => whnf)), by (conv => whnf); repeat (first | exact True.intro | (refine And.intro (by first | rfl | (subst_vars; rfl)) ?_; conv => whnf)), rfl, rfl, rfl, rfl, rfl, rfl, rfl, Nat.le_of_ble_eq_true rfl, Nat.le_of_ble_eq_true rfl⟩
            conv => whnf
            repeat (first | exact True.intro | (refine And.intro (by first | rfl | ((conv => whnf); exact congrArg (AVal.int .i64) (by omega)) | ((conv => whnf); exact congrArg (AVal.int .i64) (by simp only [Int.natCast_add, Int.natCast_one]; omega))) ?_; conv => whnf))
      · have hn : n = w := by
          have hc : ¬ (n : Int) < (List.length (α := List Int) a : Int) := hc
          omega
        have hY : mulW a b w = L := by rw [h2, hn, ← hw, List.take_length]; rfl
        rw [hY]
        exact leaf1 2 rfl rfl rfl rfl (fun B C h => by simp [AVal.den, h])
end Go.Proofs.Ytadlnnjgocknhaa.Fw
-- %wrap
