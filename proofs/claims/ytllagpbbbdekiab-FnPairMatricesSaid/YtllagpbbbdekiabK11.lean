/- Contracts: products of matrices, as the program makes them. -/
import Derived.Test.YtllagpbbbdekiabK8
namespace Go.Proofs.Ytllagpbbbdekiab.Fw
open Go Go.RowKit
set_option linter.unusedVariables false
set_option linter.unusedSimpArgs false
set_option maxRecDepth 100000
set_option maxHeartbeats 2000000
theorem set_set {α : Type} (l : List α) (n : Nat) (x y : α) : (l.set n x).set n y = l.set n y := by simp
def outB (a b : List (List Int)) (w n : Nat) : List (List Int) := (a.take n).map (fun r => rowM r b w r.length) ++ List.replicate (a.length - n) []
theorem outB_len {a b : List (List Int)} {w n : Nat} (h : n ≤ a.length) : (outB a b w n).length = a.length := by
  unfold outB; simp; omega
theorem outB_zero (a b : List (List Int)) (w : Nat) : outB a b w 0 = List.replicate a.length [] := by simp [outB]
theorem outB_all (a b : List (List Int)) (w : Nat) : outB a b w a.length = mulM a b w := by simp [outB, mulM]
theorem outB_set {a b : List (List Int)} {w n : Nat} (h : n < a.length) : (outB a b w n).set n (rowM (a.getD n []) b w (a.getD n []).length) = outB a b w (n + 1) := by
  have h1 : a.length - n = (a.length - (n + 1)) + 1 := by omega
  have h2 : ((a.take n).map (fun r => rowM r b w r.length)).length = n := by simp; omega
  unfold outB
  rw [h1, List.replicate_succ, List.set_append_right _ _ (by omega), h2, Nat.sub_self, List.set_cons_zero, take_map_snoc (fun r => rowM r b w r.length) a [] n h, List.append_assoc]; rfl
def prodC : PCtr := fun _ rg lr vals k => match vals with
  | [.row i, .row j] => rowC rT (rg i) fun a => rowC rT (rg j) fun b => PrOk a b (List.length (α := Int) (@List.getD (List Int) b 0 [])) ∧ ∀ ys, ys = mulM a b (List.length (α := Int) (@List.getD (List Int) b 0 [])) → k [⟨rT, 43, true, ys⟩] (.row lr)
  | _ => False
theorem prod_ok : PCtrOk Try.prog 67 prodC where
  enter := enter_ok Try.func67 (by kernel_rfl) rfl
  calls := by
    intro hg rg lr vals k h
    unfold prodC at h
    split at h
    case h_2 => exact h.elim
    rename_i i j
    obtain ⟨e, own, a, hi, h⟩ : ∃ e own, ∃ (xs : List (List Int)), _ := rowC_inv h
    obtain ⟨e2, own2, b, hj, h⟩ : ∃ e own, ∃ (xs : List (List Int)), _ := rowC_inv h
    obtain ⟨hp, hk⟩ := h
    replace hk := hk _ rfl
    refine ⟨_, _, hk, fun A w hB hR => ?_⟩
    refine enter T_ok .nil Try.func67 rfl (K := (· < w.heap.size)) (fun _ h => h) (A := A.pick [] [i, j]) (vals := [.row 0, .row 1]) (n0 := 0) (b0 := 0) (rows := [some ⟨rT, e, false, a⟩, some ⟨rT, e2, false, b⟩]) (hp := []) rfl (Nat.zero_le _) no_box rfl (two_rows (hR i _ hi) (hR j _ hj)) rfl rfl (Nat.le_of_ble_eq_true rfl) ?_
    conv => whnf
    repeat (refine V_step T_ok .nil rfl ?_; conv => whnf)
    have hp : PrOk a b (b.getD 0 []).length := hp
    have ha := hp.la
    have hb := hp.lb
    have hwl := hp.lw
    obtain ⟨w, hw⟩ : ∃ w, (b.getD 0 []).length = w := ⟨_, rfl⟩
    have hw' : List.length (α := Int) (@List.getD (List Int) b 0 []) = w := hw
    have hmk : (0 ≤ (List.length (α := List Int) a : Int) ∧ (List.length (α := List Int) a : Int) = (List.length (α := List Int) a : Int) ∧ (ti43.bytes : Int) * (List.length (α := List Int) a : Int) ≤ 281474976710656 ∧ (List.length (α := List Int) a : Int) ≤ 9223372036854775807) := by
      refine ⟨by omega, rfl, ?_, by omega⟩
      show (24 : Int) * (List.length (α := List Int) a : Int) ≤ _
      omega
    repeat (any_goals (first
      | (refine V_step T_ok .nil rfl ?_; conv => whnf)
      | (refine V_drawA T_ok .nil mixed (by kernel_rfl) ?_; conv => whnf)
      | (refine bcond_split (fun hc => ?_) (fun hc => ?_) <;> (try simp only [decide_eq_true_eq, decide_eq_false_iff_not, Bool.not_eq_true', Bool.not_eq_false', Bool.and_eq_true, Bool.or_eq_true, Bool.and_eq_false_imp, Bool.or_eq_false_iff, ne_eq, Decidable.not_not] at hc) <;> conv => whnf)
      | (intro ysK hysK; have hysl := congrArg List.length hysK; (try simp only [List.length_set, List.length_append, List.length_cons, List.length_nil, List.length_take, List.length_drop, List.length_replicate] at hysl); conv => whnf)
      | (refine And.intro (by first | (first | exact True.intro | with_reducible exact hmk | omega | (simp only [Rng]; omega)) | exact True.intro | exact ⟨rfl, True.intro, fun _ _ => rfl⟩ | exact Nat.le_of_ble_eq_true rfl | (refine ⟨by (try simp only [List.length_cons, List.length_nil]); omega, Int.le_trans (Int.mul_le_mul_of_nonneg_left (show (TInfo.bytes _ : Int) ≤ 64 from Int.ofNat_le.2 (Nat.le_of_ble_eq_true rfl)) (by omega)) (by (try simp only [List.length_cons, List.length_nil]); omega)⟩)) ?_; conv => whnf)))
    all_goals rw [hw]
    all_goals (
      refine V_loopH (γ := Nat × List (List Int)) (fun g => g.1 ≤ List.length (α := List Int) a ∧ g.2 = outB a b w g.1) (fun g => List.length (α := List Int) a - g.1)
        (fun g => [(6, .int .i64 (w : Int)), (25, .int .i64 g.1)]) (fun _ => []) (fun g => [(2, some ⟨rT, 43, true, g.2⟩)]) (0, List.replicate (List.length (α := List Int) a) []) ⟨Nat.zero_le _, (outB_zero a b w).symm⟩ ?_ ?_
      · have hw0 : ¬ 0 < (List.length (α := List Int) b : Int) → w = 0 := fun h => by
          rw [← hw, List.getD_eq_getElem?_getD, List.getElem?_eq_none (by omega)]; rfl
        have hw2 : (List.length (α := Int) (@List.getD (List Int) b (Int.toNat 0) []) : Int) = (w : Int) := by
          have : List.length (α := Int) (@List.getD (List Int) b (Int.toNat 0) []) = w := hw'
          omega
        clear hmk
        conv => whnf
        refine ⟨?_, by (conv => whnf); repeat (first | exact True.intro | (refine And.intro rfl ?_; conv => whnf)), by (conv => whnf); repeat (first | exact True.intro | (refine And.intro (by first | rfl | (subst_vars; rfl)) ?_; conv => whnf)), rfl, rfl, rfl, rfl, rfl, rfl, rfl, Nat.le_of_ble_eq_true rfl, Nat.le_of_ble_eq_true rfl⟩
        conv => whnf
        repeat (first | exact True.intro | (refine And.intro (by first | rfl | ((conv => whnf); exact congrArg (AVal.int .i64) (by omega)) | ((conv => whnf); exact congrArg (AVal.int .i64) (by simp only [Int.natCast_add, Int.natCast_one]; omega)) | ((conv => whnf); exact congrArg (AVal.irow _) (by first | omega | assumption | (simp only; omega)))) ?_; conv => whnf))
      · rintro ⟨n, L⟩ ⟨h1, h2⟩
        simp only at h1 h2
        have hL : List.length (α := List Int) L = List.length (α := List Int) a := by rw [h2]; exact outB_len h1
        have hmw : (0 ≤ (w : Int) ∧ (w : Int) = (w : Int) ∧ (ti2.bytes : Int) * (w : Int) ≤ 281474976710656 ∧ (w : Int) ≤ 9223372036854775807) := by
          refine ⟨by omega, rfl, ?_, by omega⟩
          show (8 : Int) * (w : Int) ≤ _
          omega
        conv => whnf
        refine vcCode_sound T_ok .nil _ _ _ _ _ ?_
        conv => whnf
        repeat (refine V_step T_ok .nil rfl ?_; conv => whnf)
        repeat (any_goals (first
          | (refine V_step T_ok .nil rfl ?_; conv => whnf)
          | (refine V_drawA T_ok .nil mixed (by kernel_rfl) ?_; conv => whnf)
          | (refine bcond_split (fun hc => ?_) (fun hc => ?_) <;> (try simp only [decide_eq_true_eq, decide_eq_false_iff_not, Bool.not_eq_true', Bool.not_eq_false', Bool.and_eq_true, Bool.or_eq_true, Bool.and_eq_false_imp, Bool.or_eq_false_iff, ne_eq, Decidable.not_not] at hc) <;> conv => whnf)
          | (intro ysK hysK; have hysl := congrArg List.length hysK; (try simp only [List.length_set, List.length_append, List.length_cons, List.length_nil, List.length_take, List.length_drop, List.length_replicate] at hysl); conv => whnf)
          | (refine And.intro (by first | (first | exact True.intro | with_reducible exact hmw | omega | (simp only [Rng]; omega)) | exact True.intro | exact ⟨rfl, True.intro, fun _ _ => rfl⟩ | exact Nat.le_of_ble_eq_true rfl | (refine ⟨by (try simp only [List.length_cons, List.length_nil]); omega, Int.le_trans (Int.mul_le_mul_of_nonneg_left (show (TInfo.bytes _ : Int) ≤ 64 from Int.ofNat_le.2 (Nat.le_of_ble_eq_true rfl)) (by omega)) (by (try simp only [List.length_cons, List.length_nil]); omega)⟩)) ?_; conv => whnf)))
        · have hn : n < List.length (α := List Int) a := by
            have hc : (n : Int) < (List.length (α := List Int) a : Int) := by assumption
            omega
          obtain ⟨r, hr⟩ : ∃ r, a.getD n [] = r := ⟨_, rfl⟩
          have hrm : r ∈ a := by rw [← hr]; exact getD_mem hn
          have hrl := hp.ra r hrm
          have hr' : List.length (α := Int) (@List.getD (List Int) a n []) = List.length (α := List Int) b := by rw [hr]; exact hrl
          have hr2 : List.length (α := Int) (@List.getD (List Int) a (Int.toNat (n : Int)) []) = List.length (α := List Int) b := hr'
          refine V_loopH (γ := Nat × List (List Int)) (fun g => g.1 ≤ List.length (α := List Int) b ∧ g.2 = L.set n (rowM r b w g.1)) (fun g => List.length (α := List Int) b - g.1)
            (fun g => [(37, .int .i64 g.1)]) (fun _ => []) (fun g => [(2, some ⟨rT, 43, true, g.2⟩)]) (0, ysK) ⟨Nat.zero_le _, by rw [rowM_zero]; exact hysK⟩ ?_ ?_
          · conv => whnf
            refine ⟨?_, by (conv => whnf); repeat (first | exact True.intro | (refine And.intro rfl ?_; conv => whnf)), by (conv => whnf); repeat (first | exact True.intro | (refine And.intro (by first | rfl | (subst_vars; rfl)) ?_; conv => whnf)), rfl, rfl, rfl, rfl, rfl, rfl, rfl, Nat.le_of_ble_eq_true rfl, Nat.le_of_ble_eq_true rfl⟩
            conv => whnf
            repeat (first | exact True.intro | (refine And.intro (by first | rfl | ((conv => whnf); exact congrArg (AVal.int .i64) (by omega)) | ((conv => whnf); exact congrArg (AVal.int .i64) (by simp only [Int.natCast_add, Int.natCast_one]; omega)) | ((conv => whnf); exact congrArg (AVal.irow _) (by first | omega | assumption | (simp only; omega)))) ?_; conv => whnf))
          · rintro ⟨k, M⟩ ⟨k1, k2⟩
            simp only at k1 k2
            have hM : List.length (α := List Int) M = List.length (α := List Int) a := by rw [k2, List.length_set]; exact hL
            conv => whnf
            refine vcCode_sound T_ok .nil _ _ _ _ _ ?_
            conv => whnf
            repeat (refine V_step T_ok .nil rfl ?_; conv => whnf)
            repeat (any_goals (first
              | (refine V_step T_ok .nil rfl ?_; conv => whnf)
              | (refine V_drawA T_ok .nil mixed (by kernel_rfl) ?_; conv => whnf)
              | (refine bcond_split (fun hc => ?_) (fun hc => ?_) <;> (try simp only [decide_eq_true_eq, decide_eq_false_iff_not, Bool.not_eq_true', Bool.not_eq_false', Bool.and_eq_true, Bool.or_eq_true, Bool.and_eq_false_imp, Bool.or_eq_false_iff, ne_eq, Decidable.not_not] at hc) <;> conv => whnf)
              | (intro ysK hysK; have hysl := congrArg List.length hysK; (try simp only [List.length_set, List.length_append, List.length_cons, List.length_nil, List.length_take, List.length_drop, List.length_replicate] at hysl); conv => whnf)
              | (refine And.intro (by first | (first | exact True.intro | (simp only [Int.toNat_natCast]; omega) | omega | (simp only [Rng]; omega)) | exact True.intro | exact ⟨rfl, True.intro, fun _ _ => rfl⟩ | exact Nat.le_of_ble_eq_true rfl | (refine ⟨by (try simp only [List.length_cons, List.length_nil]); omega, Int.le_trans (Int.mul_le_mul_of_nonneg_left (show (TInfo.bytes _ : Int) ≤ 64 from Int.ofNat_le.2 (Nat.le_of_ble_eq_true rfl)) (by omega)) (by (try simp only [List.length_cons, List.length_nil]); omega)⟩)) ?_; conv => whnf)))
            · have hk : k < List.length (α := List Int) b := by
                have hc : (k : Int) < (List.length (α := Int) (@List.getD (List Int) a (Int.toNat (n : Int)) []) : Int) := by assumption
                omega
              have hbw : List.length (α := Int) (@List.getD (List Int) b k []) = w := by rw [hp.rb _ (getD_mem hk)]; exact hw
              have hbw2 : List.length (α := Int) (@List.getD (List Int) b (Int.toNat (k : Int)) []) = w := hbw
              have hdot := fun j hj => hp.dot hrm (j := j) (k := k) hj hk
              rw [hw] at hdot
              refine V_loopH (γ := Nat × List (List Int)) (fun g => g.1 ≤ w ∧ g.2 = L.set n (midM r b w k g.1)) (fun g => w - g.1)
                (fun g => [(47, .int .i64 g.1)]) (fun _ => []) (fun g => [(2, some ⟨rT, 43, true, g.2⟩)]) (0, M) ⟨Nat.zero_le _, by rw [midM_zero]; exact k2⟩ ?_ ?_
              · conv => whnf
                refine ⟨?_, by (conv => whnf); repeat (first | exact True.intro | (refine And.intro rfl ?_; conv => whnf)), by (conv => whnf); repeat (first | exact True.intro | (refine And.intro (by first | rfl | (subst_vars; rfl)) ?_; conv => whnf)), rfl, rfl, rfl, rfl, rfl, rfl, rfl, Nat.le_of_ble_eq_true rfl, Nat.le_of_ble_eq_true rfl⟩
                conv => whnf
                repeat (first | exact True.intro | (refine And.intro (by first | rfl | ((conv => whnf); exact congrArg (AVal.int .i64) (by omega)) | ((conv => whnf); exact congrArg (AVal.int .i64) (by simp only [Int.natCast_add, Int.natCast_one]; omega)) | ((conv => whnf); exact congrArg (AVal.irow _) (by first | omega | assumption | (simp only; omega)))) ?_; conv => whnf))
              · rintro ⟨j, Q⟩ ⟨j1, j2⟩
                simp only at j1 j2
                have hQ : List.length (α := List Int) Q = List.length (α := List Int) a := by rw [j2, List.length_set]; exact hL
                have hQn : Q.getD n [] = midM r b w k j := by rw [j2, getD_set (by omega)]
                have hQl : List.length (α := Int) (@List.getD (List Int) Q n []) = w := by rw [hQn, midM_len j1]
                have hx : (@List.getD (List Int) a n []).getD k iT.dflt = r.getD k 0 := by rw [hr]; rfl
                have hy : (@List.getD (List Int) b k []).getD j iT.dflt = ent b k j := rfl
                have hz : j < w → (@List.getD (List Int) Q n []).getD j iT.dflt = dotN r b j k := fun h => by rw [hQn]; exact midM_get h
                have hd := fun (h : (j : Int) < (List.length (α := Int) (@List.getD (List Int) b (Int.toNat (k : Int)) []) : Int)) => hdot j (by omega)
                conv => whnf
                refine vcCode_sound T_ok .nil _ _ _ _ _ ?_
                conv => whnf
                repeat (refine V_step T_ok .nil rfl ?_; conv => whnf)
                repeat (any_goals (first
                  | (refine V_step T_ok .nil rfl ?_; conv => whnf)
                  | (refine V_drawA T_ok .nil mixed (by kernel_rfl) ?_; conv => whnf)
                  | (refine bcond_split (fun hc => ?_) (fun hc => ?_) <;> (try simp only [decide_eq_true_eq, decide_eq_false_iff_not, Bool.not_eq_true', Bool.not_eq_false', Bool.and_eq_true, Bool.or_eq_true, Bool.and_eq_false_imp, Bool.or_eq_false_iff, ne_eq, Decidable.not_not] at hc) <;> conv => whnf)
                  | (intro ysK hysK; have hysl := congrArg List.length hysK; (try simp only [List.length_set, List.length_append, List.length_cons, List.length_nil, List.length_take, List.length_drop, List.length_replicate] at hysl); conv => whnf)
                  | (refine And.intro (by first | (first | exact True.intro | (simp only [Int.toNat_natCast]; omega) | omega | (have q := hd (by assumption); have q2 := hz (by omega); simp only [Int.toNat_natCast, hx, hy, q2, Rng]; omega) | (simp only [Rng]; omega)) | exact True.intro | exact ⟨rfl, True.intro, fun _ _ => rfl⟩ | exact Nat.le_of_ble_eq_true rfl | (refine ⟨by (try simp only [List.length_cons, List.length_nil]); omega, Int.le_trans (Int.mul_le_mul_of_nonneg_left (show (TInfo.bytes _ : Int) ≤ 64 from Int.ofNat_le.2 (Nat.le_of_ble_eq_true rfl)) (by omega)) (by (try simp only [List.length_cons, List.length_nil]); omega)⟩)) ?_; conv => whnf)))
                · have hjw : j < w := by
                    have hc : (j : Int) < (List.length (α := Int) (@List.getD (List Int) b (Int.toNat (k : Int)) []) : Int) := by assumption
                    omega
                  have hY : ysK = L.set n (midM r b w k (j + 1)) := by
                    have e3 := hz hjw
                    simp only [Int.toNat_natCast, hx, hy, e3] at hysK
                    rw [hysK, hQn, midM_step hjw, j2, set_set]
                  clear hysK hysl
                  refine ⟨(j + 1, ysK), ⟨by simp only; omega, hY⟩, by simp only; omega, ?_⟩
                  conv => whnf
                  refine ⟨?_, by (conv => whnf); repeat (first | exact True.intro | (refine And.intro rfl ?_; conv => whnf)), by (conv => whnf); repeat (first | exact True.intro | (refine And.intro (by first | rfl | (subst_vars; rfl)) ?_; conv => whnf)), rfl, rfl, rfl, rfl, rfl, rfl, rfl, Nat.le_of_ble_eq_true rfl, Nat.le_of_ble_eq_true rfl⟩
                  conv => whnf
                  repeat (first | exact True.intro | (refine And.intro (by first | rfl | ((conv => whnf); exact congrArg (AVal.int .i64) (by omega)) | ((conv => whnf); exact congrArg (AVal.int .i64) (by simp only [Int.natCast_add, Int.natCast_one]; omega)) | ((conv => whnf); exact congrArg (AVal.irow _) (by first | omega | assumption | (simp only; omega)))) ?_; conv => whnf))
                · have hjw : j = w := by
                    have hc : ¬ (j : Int) < (List.length (α := Int) (@List.getD (List Int) b (Int.toNat (k : Int)) []) : Int) := hc
                    omega
                  have hY : Q = L.set n (rowM r b w (k + 1)) := by rw [j2, hjw, midM_all]
                  refine ⟨(k + 1, Q), ⟨by simp only; omega, hY⟩, by simp only; omega, ?_⟩
                  conv => whnf
                  refine ⟨?_, by (conv => whnf); repeat (first | exact True.intro | (refine And.intro rfl ?_; conv => whnf)), by (conv => whnf); repeat (first | exact True.intro | (refine And.intro (by first | rfl | (subst_vars; rfl)) ?_; conv => whnf)), rfl, rfl, rfl, rfl, rfl, rfl, rfl, Nat.le_of_ble_eq_true rfl, Nat.le_of_ble_eq_true rfl⟩
                  conv => whnf
                  repeat (first | exact True.intro | (refine And.intro (by first | rfl | ((conv => whnf); exact congrArg (AVal.int .i64) (by omega)) | ((conv => whnf); exact congrArg (AVal.int .i64) (by simp only [Int.natCast_add, Int.natCast_one]; omega)) | ((conv => whnf); exact congrArg (AVal.irow _) (by first | omega | assumption | (simp only; omega)))) ?_; conv => whnf))
            · have hk : k = List.length (α := List Int) b := by
                have hc : ¬ (k : Int) < (List.length (α := Int) (@List.getD (List Int) a (Int.toNat (n : Int)) []) : Int) := hc
                omega
              have hy : M = outB a b w (n + 1) := by
                rw [← outB_set hn, ← h2, hr, hrl, ← hk]; exact k2
              subst hy
              refine ⟨(n + 1, outB a b w (n + 1)), ⟨by simp only; omega, rfl⟩, by simp only; omega, ?_⟩
              conv => whnf
              refine ⟨?_, by (conv => whnf); repeat (first | exact True.intro | (refine And.intro rfl ?_; conv => whnf)), by (conv => whnf); repeat (first | exact True.intro | (refine And.intro (by first | rfl | (subst_vars; rfl)) ?_; conv => whnf)), rfl, rfl, rfl, rfl, rfl, rfl, rfl, Nat.le_of_ble_eq_true rfl, Nat.le_of_ble_eq_true rfl⟩
              conv => whnf
              repeat (first | exact True.intro | (refine And.intro (by first | rfl | ((conv => whnf); exact congrArg (AVal.int .i64) (by omega)) | ((conv => whnf); exact congrArg (AVal.int .i64) (by simp only [Int.natCast_add, Int.natCast_one]; omega)) | ((conv => whnf); exact congrArg (AVal.irow _) (by first | omega | assumption | (simp only; omega)))) ?_; conv => whnf))
        · have hn : n = List.length (α := List Int) a := by
            have hc : ¬ (n : Int) < (List.length (α := List Int) a : Int) := hc
            omega
          rw [hn, outB_all] at h2
          subst h2
          exact leaf1 2 rfl rfl rfl rfl (fun B C h => by simp [AVal.den, h]))
end Go.Proofs.Ytllagpbbbdekiab.Fw
