/- Contracts: a row times a matrix, steps. -/
import Derived.Test.YtllagpbbbdekiabK14
namespace Go.Proofs.Ytllagpbbbdekiab.Fw
open Go Go.RowKit
set_option linter.unusedVariables false
set_option linter.unusedSimpArgs false
set_option maxRecDepth 100000
set_option maxHeartbeats 2000000
def boxIr (o : Option (List AVal)) (X : Nat → Nat → Prop) : Prop := match o with | some [.irow r i] => X r i | _ => False
theorem boxIr_inv {o : Option (List AVal)} {X : Nat → Nat → Prop} (h : boxIr o X) : ∃ r i, o = some [.irow r i] ∧ X r i := by
  unfold boxIr at h
  split at h
  · exact ⟨_, _, rfl, h⟩
  · exact h.elim
def prod1C : PCtr := fun hg rg lr vals k => match vals with
  | [.bsl b 1, .row j] => boxIr (hg b) fun r q => rowC rT (rg r) fun xs => rowC rT (rg j) fun a => (q < List.length (α := List Int) xs ∧ PrOk [@List.getD (List Int) xs q []] a (List.length (α := Int) (@List.getD (List Int) a 0 []))) ∧ ∀ ys, ys = mulM [@List.getD (List Int) xs q []] a (List.length (α := Int) (@List.getD (List Int) a 0 [])) → k [⟨rT, 43, true, ys⟩] (.row lr)
  | _ => False
theorem prod1_ok : PCtrOk Try.prog 67 prod1C where
  enter := enter_ok Try.func67 (by kernel_rfl) rfl
  calls := by
    intro hg rg lr vals k h
    unfold prod1C at h
    split at h
    case h_2 => exact h.elim
    rename_i b j
    obtain ⟨r, q, hb, h⟩ := boxIr_inv h
    obtain ⟨e, own, xs, hr, h⟩ : ∃ e own, ∃ (xs : List (List Int)), _ := rowC_inv h
    obtain ⟨e2, own2, a, hj, h⟩ : ∃ e own, ∃ (xs : List (List Int)), _ := rowC_inv h
    obtain ⟨⟨hq, hp⟩, hk⟩ := h
    replace hk := hk _ rfl
    refine ⟨_, _, hk, fun A w hB hR => ?_⟩
    refine enter T_ok .nil Try.func67 rfl (K := (· < w.heap.size)) (fun _ h => h) (A := A.pick [b] [r, j]) (vals := [.bsl 0 1, .row 1]) (n0 := 0) (b0 := 1) (rows := [some ⟨rT, e, false, xs⟩, some ⟨rT, e2, false, a⟩]) (hp := [some [.irow 0 q]]) rfl (Nat.zero_le _) (one_box (hB b _ hb)) rfl (two_rows (hR r _ hr) (hR j _ hj)) rfl rfl (Nat.le_of_ble_eq_true rfl) ?_
    conv => whnf
    repeat (refine V_step T_ok .nil rfl ?_; conv => whnf)
    have hq : q < List.length (α := List Int) xs := hq
    obtain ⟨v, hv⟩ : ∃ v, xs.getD q [] = v := ⟨_, rfl⟩
    have hp : PrOk [v] a (a.getD 0 []).length := by rw [← hv]; exact hp
    have hb := hp.lb
    have hwl := hp.lw
    obtain ⟨w, hw⟩ : ∃ w, (a.getD 0 []).length = w := ⟨_, rfl⟩
    have hw' : List.length (α := Int) (@List.getD (List Int) a 0 []) = w := hw
    have hvl : v.length = a.length := hp.ra v (by simp)
    have hmk : (0 ≤ (1 : Int) ∧ (1 : Int) = (1 : Int) ∧ (ti43.bytes : Int) * (1 : Int) ≤ 281474976710656 ∧ (1 : Int) ≤ 9223372036854775807) := by
      refine ⟨by omega, rfl, ?_, by omega⟩
      show (24 : Int) * (1 : Int) ≤ _
      omega
    have hmw : ∀ z : Nat, z = w → (0 ≤ (z : Int) ∧ (z : Int) = (z : Int) ∧ (ti2.bytes : Int) * (z : Int) ≤ 281474976710656 ∧ (z : Int) ≤ 9223372036854775807) := fun z hz => by
      refine ⟨by omega, rfl, ?_, by omega⟩
      show (8 : Int) * (z : Int) ≤ _
      omega
    repeat (any_goals (first
      | (refine V_step T_ok .nil rfl ?_; conv => whnf)
      | (refine V_drawA T_ok .nil mixed (by kernel_rfl) ?_; conv => whnf)
      | (refine bcond_split (fun hc => ?_) (fun hc => ?_) <;> (try simp only [decide_eq_true_eq, decide_eq_false_iff_not, Bool.not_eq_true', Bool.not_eq_false', Bool.and_eq_true, Bool.or_eq_true, Bool.and_eq_false_imp, Bool.or_eq_false_iff, ne_eq, Decidable.not_not] at hc) <;> conv => whnf)
      | (intro ysK hysK; have hysl := congrArg List.length hysK; (try simp only [List.length_set, List.length_append, List.length_cons, List.length_nil, List.length_take, List.length_drop, List.length_replicate] at hysl); conv => whnf)
      | (refine And.intro (by first | (first | exact True.intro | exact hmk | omega | (simp only [Rng]; omega)) | exact True.intro | exact ⟨rfl, True.intro, fun _ _ => rfl⟩ | exact Nat.le_of_ble_eq_true rfl | (refine ⟨by (try simp only [List.length_cons, List.length_nil]); omega, Int.le_trans (Int.mul_le_mul_of_nonneg_left (show (TInfo.bytes _ : Int) ≤ 64 from Int.ofNat_le.2 (Nat.le_of_ble_eq_true rfl)) (by omega)) (by (try simp only [List.length_cons, List.length_nil]); omega)⟩)) ?_; conv => whnf)))
    all_goals (
      refine V_loopN 2 ?_
      conv => whnf
      refine V_step T_ok .nil rfl ?_
      conv => whnf
      have hw0 : ¬ 0 < (List.length (α := List Int) a : Int) → (0 : Nat) = w := fun h => by
        rw [← hw, List.getD_eq_getElem?_getD, List.getElem?_eq_none (by omega)]; rfl
      have hxl : List.length (α := Int) (@List.getD (List Int) xs q []) = List.length (α := List Int) a := by rw [hv]; exact hvl
      have hxl2 : (List.length (α := Int) (@List.getD (List Int) xs q []) : Int) = (List.length (α := List Int) a : Int) := by omega
      repeat (any_goals (first
        | (refine V_step T_ok .nil rfl ?_; conv => whnf)
        | (refine V_drawA T_ok .nil mixed (by kernel_rfl) ?_; conv => whnf)
        | (refine bcond_split (fun hc => ?_) (fun hc => ?_) <;> (try simp only [decide_eq_true_eq, decide_eq_false_iff_not, Bool.not_eq_true', Bool.not_eq_false', Bool.and_eq_true, Bool.or_eq_true, Bool.and_eq_false_imp, Bool.or_eq_false_iff, ne_eq, Decidable.not_not] at hc) <;> conv => whnf)
        | (intro ysK hysK; have hysl := congrArg List.length hysK; (try simp only [List.length_set, List.length_append, List.length_cons, List.length_nil, List.length_take, List.length_drop, List.length_replicate] at hysl); conv => whnf)
        | (refine And.intro (by first | (first | exact True.intro | exact hmw _ hw' | exact hmw 0 (hw0 (by assumption)) | (simp only [List.length_replicate]; omega) | (simp only [Rng]; omega) | omega | decide) | exact True.intro | exact ⟨rfl, True.intro, fun _ _ => rfl⟩ | exact Nat.le_of_ble_eq_true rfl | (refine ⟨by (try simp only [List.length_cons, List.length_nil]); omega, Int.le_trans (Int.mul_le_mul_of_nonneg_left (show (TInfo.bytes _ : Int) ≤ 64 from Int.ofNat_le.2 (Nat.le_of_ble_eq_true rfl)) (by omega)) (by (try simp only [List.length_cons, List.length_nil]); omega)⟩)) ?_; conv => whnf)))
      have hY0 : ysK = [rowM v a w 0] := by
        rw [rowM_zero]
        first
          | (have hq1 : ysK = [List.replicate (List.length (α := Int) (@List.getD (List Int) a 0 [])) 0] := hysK; rw [hq1, hw'])
          | (have hq1 : ysK = [List.replicate 0 0] := hysK; rw [hq1, hw0 (by assumption)])
      clear hysK hysl hmk hmw
      have hdot := fun j k hj hk => hp.dot (r := v) (by simp) (j := j) (k := k) hj hk
      rw [hw] at hdot
      refine V_loopH (γ := Nat × List (List Int)) (fun g => g.1 ≤ List.length (α := List Int) a ∧ g.2 = [rowM v a w g.1]) (fun g => List.length (α := List Int) a - g.1)
        (fun g => [(37, .int .i64 g.1)]) (fun _ => []) (fun g => [(2, some ⟨rT, 43, true, g.2⟩)]) (0, ysK) ⟨Nat.zero_le _, hY0⟩ ?_ ?_
      · conv => whnf
        refine ⟨?_, by (conv => whnf); repeat (first | exact True.intro | (refine And.intro rfl ?_; conv => whnf)), by (conv => whnf); repeat (first | exact True.intro | (refine And.intro (by first | rfl | (subst_vars; rfl)) ?_; conv => whnf)), rfl, rfl, rfl, rfl, rfl, rfl, rfl, Nat.le_of_ble_eq_true rfl, Nat.le_of_ble_eq_true rfl⟩
        conv => whnf
        repeat (first | exact True.intro | (refine And.intro (by first | rfl | ((conv => whnf); exact congrArg (AVal.int .i64) (by omega)) | ((conv => whnf); exact congrArg (AVal.int .i64) (by simp only [Int.natCast_add, Int.natCast_one]; omega)) | ((conv => whnf); exact congrArg (AVal.irow _) (by first | omega | assumption | (simp only; omega)))) ?_; conv => whnf))
      · rintro ⟨k, M⟩ ⟨k1, k2⟩
        simp only at k1 k2
        have hM : List.length (α := List Int) M = 1 := by rw [k2]; rfl
        conv => whnf
        refine vcCode_sound T_ok .nil _ _ _ _ _ ?_
        conv => whnf
        repeat (refine V_step T_ok .nil rfl ?_; conv => whnf)
        repeat (any_goals (first
          | (refine V_step T_ok .nil rfl ?_; conv => whnf)
          | (refine V_drawA T_ok .nil mixed (by kernel_rfl) ?_; conv => whnf)
          | (refine bcond_split (fun hc => ?_) (fun hc => ?_) <;> (try simp only [decide_eq_true_eq, decide_eq_false_iff_not, Bool.not_eq_true', Bool.not_eq_false', Bool.and_eq_true, Bool.or_eq_true, Bool.and_eq_false_imp, Bool.or_eq_false_iff, ne_eq, Decidable.not_not] at hc) <;> conv => whnf)
          | (intro ysK hysK; have hysl := congrArg List.length hysK; (try simp only [List.length_set, List.length_append, List.length_cons, List.length_nil, List.length_take, List.length_drop, List.length_replicate] at hysl); conv => whnf)
          | (refine And.intro (by first | (first | exact True.intro | (simp only [Int.toNat_natCast]; omega) | omega | (simp only [Rng]; omega)) | exact True.intro | exact ⟨rfl, True.intro, fun _ _ => rfl⟩ | exact Nat.le_of_ble_eq_true rfl | (refine ⟨by (try simp only [List.length_cons, List.length_nil]); omega, Int.le_trans (Int.mul_le_mul_of_nonneg_left (show (TInfo.bytes _ : Int) ≤ 64 from Int.ofNat_le.2 (Nat.le_of_ble_eq_true rfl)) (by omega)) (by (try simp only [List.length_cons, List.length_nil]); omega)⟩)) ?_; conv => whnf)))
        · have hk : k < List.length (α := List Int) a := by
            have hc : (k : Int) < (List.length (α := Int) (@List.getD (List Int) xs q []) : Int) := by assumption
            omega
          have hbw : List.length (α := Int) (@List.getD (List Int) a k []) = w := by rw [hp.rb _ (getD_mem hk)]; exact hw
          have hbw2 : List.length (α := Int) (@List.getD (List Int) a (Int.toNat (k : Int)) []) = w := hbw
          have hbw3 : (List.length (α := Int) (@List.getD (List Int) a k []) : Int) = (w : Int) := by omega
          refine V_loopH (γ := Nat × List (List Int)) (fun g => g.1 ≤ w ∧ g.2 = [midM v a w k g.1]) (fun g => w - g.1)
            (fun g => [(47, .int .i64 g.1)]) (fun _ => []) (fun g => [(2, some ⟨rT, 43, true, g.2⟩)]) (0, M) ⟨Nat.zero_le _, by rw [midM_zero]; exact k2⟩ ?_ ?_
          · conv => whnf
            refine ⟨?_, by (conv => whnf); repeat (first | exact True.intro | (refine And.intro rfl ?_; conv => whnf)), by (conv => whnf); repeat (first | exact True.intro | (refine And.intro (by first | rfl | (subst_vars; rfl)) ?_; conv => whnf)), rfl, rfl, rfl, rfl, rfl, rfl, rfl, Nat.le_of_ble_eq_true rfl, Nat.le_of_ble_eq_true rfl⟩
            conv => whnf
            repeat (first | exact True.intro | (refine And.intro (by first | rfl | ((conv => whnf); exact congrArg (AVal.int .i64) (by omega)) | ((conv => whnf); exact congrArg (AVal.int .i64) (by simp only [Int.natCast_add, Int.natCast_one]; omega)) | ((conv => whnf); exact congrArg (AVal.irow _) (by first | omega | assumption | (simp only; omega)))) ?_; conv => whnf))
          · rintro ⟨j, Q⟩ ⟨j1, j2⟩
            simp only at j1 j2
            have hQ : List.length (α := List Int) Q = 1 := by rw [j2]; rfl
            have hQn : Q.getD 0 [] = midM v a w k j := by rw [j2]; rfl
            have hQl : List.length (α := Int) (@List.getD (List Int) Q 0 []) = w := by rw [hQn, midM_len j1]
            have hx : (@List.getD (List Int) xs q []).getD k iT.dflt = v.getD k 0 := by rw [hv]; rfl
            have hy : (@List.getD (List Int) a k []).getD j iT.dflt = ent a k j := rfl
            have hz : j < w → (@List.getD (List Int) Q 0 []).getD j iT.dflt = dotN v a j k := fun h => by rw [hQn]; exact midM_get h
            have hd := fun (h : (j : Int) < (List.length (α := Int) (@List.getD (List Int) a (Int.toNat (k : Int)) []) : Int)) => hdot j k (by omega) (by omega)
            conv => whnf
            refine vcCode_sound T_ok .nil _ _ _ _ _ ?_
            conv => whnf
            repeat (refine V_step T_ok .nil rfl ?_; conv => whnf)
            repeat (any_goals (first
              | (refine V_step T_ok .nil rfl ?_; conv => whnf)
              | (refine V_drawA T_ok .nil mixed (by kernel_rfl) ?_; conv => whnf)
              | (refine bcond_split (fun hc => ?_) (fun hc => ?_) <;> (try simp only [decide_eq_true_eq, decide_eq_false_iff_not, Bool.not_eq_true', Bool.not_eq_false', Bool.and_eq_true, Bool.or_eq_true, Bool.and_eq_false_imp, Bool.or_eq_false_iff, ne_eq, Decidable.not_not] at hc) <;> conv => whnf)
              | (intro ysK hysK; have hysl := congrArg List.length hysK; (try simp only [List.length_set, List.length_append, List.length_cons, List.length_nil, List.length_take, List.length_drop, List.length_replicate] at hysl); conv => whnf)
              | (refine And.intro (by first | (first | exact True.intro | (simp only [Int.toNat_natCast, Int.toNat_zero]; omega) | omega | (have q := hd (by assumption); have q2 := hz (by omega); simp only [Int.toNat_natCast, Int.toNat_zero, hx, hy, q2, Rng]; omega) | (simp only [Rng]; omega)) | exact True.intro | exact ⟨rfl, True.intro, fun _ _ => rfl⟩ | exact Nat.le_of_ble_eq_true rfl | (refine ⟨by (try simp only [List.length_cons, List.length_nil]); omega, Int.le_trans (Int.mul_le_mul_of_nonneg_left (show (TInfo.bytes _ : Int) ≤ 64 from Int.ofNat_le.2 (Nat.le_of_ble_eq_true rfl)) (by omega)) (by (try simp only [List.length_cons, List.length_nil]); omega)⟩)) ?_; conv => whnf)))
            · have hjw : j < w := by
                have hc : (j : Int) < (List.length (α := Int) (@List.getD (List Int) a (Int.toNat (k : Int)) []) : Int) := by assumption
                omega
              have hY : ysK = [midM v a w k (j + 1)] := by
                have e3 := hz hjw
                simp only [Int.toNat_natCast, Int.toNat_zero, hx, hy, e3] at hysK
                rw [hysK, hQn, midM_step hjw, j2]; rfl
              clear hysK hysl
              refine ⟨(j + 1, ysK), ⟨by simp only; omega, hY⟩, by simp only; omega, ?_⟩
              conv => whnf
              refine ⟨?_, by (conv => whnf); repeat (first | exact True.intro | (refine And.intro rfl ?_; conv => whnf)), by (conv => whnf); repeat (first | exact True.intro | (refine And.intro (by first | rfl | (subst_vars; rfl)) ?_; conv => whnf)), rfl, rfl, rfl, rfl, rfl, rfl, rfl, Nat.le_of_ble_eq_true rfl, Nat.le_of_ble_eq_true rfl⟩
              conv => whnf
              repeat (first | exact True.intro | (refine And.intro (by first | rfl | ((conv => whnf); exact congrArg (AVal.int .i64) (by omega)) | ((conv => whnf); exact congrArg (AVal.int .i64) (by simp only [Int.natCast_add, Int.natCast_one]; omega)) | ((conv => whnf); exact congrArg (AVal.irow _) (by first | omega | assumption | (simp only; omega)))) ?_; conv => whnf))
            · have hjw : j = w := by
                have hc : ¬ (j : Int) < (List.length (α := Int) (@List.getD (List Int) a (Int.toNat (k : Int)) []) : Int) := hc
                omega
              have hY : Q = [rowM v a w (k + 1)] := by rw [j2, hjw, midM_all]
              refine ⟨(k + 1, Q), ⟨by simp only; omega, hY⟩, by simp only; omega, ?_⟩
              conv => whnf
              refine ⟨?_, by (conv => whnf); repeat (first | exact True.intro | (refine And.intro rfl ?_; conv => whnf)), by (conv => whnf); repeat (first | exact True.intro | (refine And.intro (by first | rfl | (subst_vars; rfl)) ?_; conv => whnf)), rfl, rfl, rfl, rfl, rfl, rfl, rfl, Nat.le_of_ble_eq_true rfl, Nat.le_of_ble_eq_true rfl⟩
              conv => whnf
              repeat (first | exact True.intro | (refine And.intro (by first | rfl | ((conv => whnf); exact congrArg (AVal.int .i64) (by omega)) | ((conv => whnf); exact congrArg (AVal.int .i64) (by simp only [Int.natCast_add, Int.natCast_one]; omega)) | ((conv => whnf); exact congrArg (AVal.irow _) (by first | omega | assumption | (simp only; omega)))) ?_; conv => whnf))
        · have hk : k = List.length (α := List Int) a := by
            have hc : ¬ (k : Int) < (List.length (α := Int) (@List.getD (List Int) xs q []) : Int) := hc
            omega
          repeat (any_goals (first
            | (refine V_step T_ok .nil rfl ?_; conv => whnf)
            | (refine V_drawA T_ok .nil mixed (by kernel_rfl) ?_; conv => whnf)
            | (refine bcond_split (fun hc => ?_) (fun hc => ?_) <;> (try simp only [decide_eq_true_eq, decide_eq_false_iff_not, Bool.not_eq_true', Bool.not_eq_false', Bool.and_eq_true, Bool.or_eq_true, Bool.and_eq_false_imp, Bool.or_eq_false_iff, ne_eq, Decidable.not_not] at hc) <;> conv => whnf)
            | (intro ysK hysK; have hysl := congrArg List.length hysK; (try simp only [List.length_set, List.length_append, List.length_cons, List.length_nil, List.length_take, List.length_drop, List.length_replicate] at hysl); conv => whnf)
            | (refine And.intro (by first | (first | exact True.intro | omega | (simp only [Rng]; omega)) | exact True.intro | exact ⟨rfl, True.intro, fun _ _ => rfl⟩ | exact Nat.le_of_ble_eq_true rfl | (refine ⟨by (try simp only [List.length_cons, List.length_nil]); omega, Int.le_trans (Int.mul_le_mul_of_nonneg_left (show (TInfo.bytes _ : Int) ≤ 64 from Int.ofNat_le.2 (Nat.le_of_ble_eq_true rfl)) (by omega)) (by (try simp only [List.length_cons, List.length_nil]); omega)⟩)) ?_; conv => whnf)))
          have hY : mulM [@List.getD (List Int) xs q []] a (List.length (α := Int) (@List.getD (List Int) a 0 [])) = M := by
            rw [k2, hk, hw', hv, ← hvl]; rfl
          rw [hY]
          exact leaf1 2 rfl rfl rfl rfl (fun B C h => by simp [AVal.den, h]))
end Go.Proofs.Ytllagpbbbdekiab.Fw
