/- Contracts: counts of paths and traces, both sides. -/
import Derived.Test.YtllagpbbbdekiabK15
namespace Go.Proofs.Ytllagpbbbdekiab.Fw
open Go Go.RowKit
set_option linter.unusedVariables false
set_option linter.unusedSimpArgs false
set_option maxRecDepth 100000
set_option maxHeartbeats 2000000
abbrev GPC := GOk.cons isPower_ok (GOk.bcons par_ok (GOk.cons power_ok .nil))
theorem pc_ok : PCtrOk Try.prog 14 pcC where
  enter := enter_ok Try.func14 (by kernel_rfl) rfl
  calls := by
    intro hg rg lr vals k h
    unfold pcC at h
    split at h
    case h_2 => exact h.elim
    rename_i n d q
    obtain ⟨_, hk⟩ := h
    refine ⟨_, _, hk, fun A w _ _ => ?_⟩
    refine enter T_ok GPC Try.func14 rfl (K := (· < w.heap.size)) (fun _ h => h) (A := A) (n0 := 0) (b0 := 0) (rows := []) (hp := []) rfl (Nat.zero_le _) (fun k r h => by cases h) rfl (fun k r h => by cases h) rfl rfl (Nat.le_of_ble_eq_true rfl) ?_
    conv => whnf
    repeat (refine V_step T_ok GPC rfl ?_; conv => whnf)
    repeat (any_goals (first
      | (refine V_step T_ok GPC rfl ?_; conv => whnf)
      | (refine V_drawA T_ok GPC mixed (by kernel_rfl) ?_; conv => whnf)
      | (refine bcond_split (fun hc => ?_) (fun hc => ?_) <;> (try simp only [decide_eq_true_eq, decide_eq_false_iff_not, Bool.not_eq_true', Bool.not_eq_false', Bool.and_eq_true, Bool.or_eq_true, Bool.and_eq_false_imp, Bool.or_eq_false_iff, ne_eq, Decidable.not_not] at hc) <;> conv => whnf)
      | (intro ysK hysK; have hysl := congrArg List.length hysK; (try simp only [List.length_set, List.length_append, List.length_cons, List.length_nil, List.length_take, List.length_drop, List.length_replicate] at hysl); conv => whnf)
      | (refine And.intro (by first | exact True.intro | (with_reducible assumption) | omega | (simp only [Rng]; omega) | exact Nat.le_of_ble_eq_true rfl | exact True.intro | exact ⟨rfl, True.intro, fun _ _ => rfl⟩ | exact Nat.le_of_ble_eq_true rfl | (refine ⟨by (try simp only [List.length_cons, List.length_nil]); omega, Int.le_trans (Int.mul_le_mul_of_nonneg_left (show (TInfo.bytes _ : Int) ≤ 64 from Int.ofNat_le.2 (Nat.le_of_ble_eq_true rfl)) (by omega)) (by (try simp only [List.length_cons, List.length_nil]); omega)⟩)) ?_; conv => whnf)))
    refine ⟨fun h1 => ?_, fun h2 => ?_, fun h0 xs prs hxs hprs => ?_⟩ <;> conv => whnf
    · skip
      repeat (any_goals (first
        | (refine V_step T_ok GPC rfl ?_; conv => whnf)
        | (refine V_drawA T_ok GPC mixed (by kernel_rfl) ?_; conv => whnf)
        | (refine bcond_split (fun hc => ?_) (fun hc => ?_) <;> (try simp only [decide_eq_true_eq, decide_eq_false_iff_not, Bool.not_eq_true', Bool.not_eq_false', Bool.and_eq_true, Bool.or_eq_true, Bool.and_eq_false_imp, Bool.or_eq_false_iff, ne_eq, Decidable.not_not] at hc) <;> conv => whnf)
        | (intro ysK hysK; have hysl := congrArg List.length hysK; (try simp only [List.length_set, List.length_append, List.length_cons, List.length_nil, List.length_take, List.length_drop, List.length_replicate] at hysl); conv => whnf)
        | (refine And.intro (by first | exact True.intro | (with_reducible assumption) | omega | (simp only [Rng]; omega) | exact Nat.le_of_ble_eq_true rfl | exact True.intro | exact ⟨rfl, True.intro, fun _ _ => rfl⟩ | exact Nat.le_of_ble_eq_true rfl | (refine ⟨by (try simp only [List.length_cons, List.length_nil]); omega, Int.le_trans (Int.mul_le_mul_of_nonneg_left (show (TInfo.bytes _ : Int) ≤ 64 from Int.ofNat_le.2 (Nat.le_of_ble_eq_true rfl)) (by omega)) (by (try simp only [List.length_cons, List.length_nil]); omega)⟩)) ?_; conv => whnf)))
      have h1 : pcN (n, d) q = 1 := h1
      exact leaf0 rfl (by rw [pcV, if_neg (by omega), h1]) rfl
    · skip
      repeat (any_goals (first
        | (refine V_step T_ok GPC rfl ?_; conv => whnf)
        | (refine V_drawA T_ok GPC mixed (by kernel_rfl) ?_; conv => whnf)
        | (refine bcond_split (fun hc => ?_) (fun hc => ?_) <;> (try simp only [decide_eq_true_eq, decide_eq_false_iff_not, Bool.not_eq_true', Bool.not_eq_false', Bool.and_eq_true, Bool.or_eq_true, Bool.and_eq_false_imp, Bool.or_eq_false_iff, ne_eq, Decidable.not_not] at hc) <;> conv => whnf)
        | (intro ysK hysK; have hysl := congrArg List.length hysK; (try simp only [List.length_set, List.length_append, List.length_cons, List.length_nil, List.length_take, List.length_drop, List.length_replicate] at hysl); conv => whnf)
        | (refine And.intro (by first | exact True.intro | (with_reducible assumption) | omega | (simp only [Rng]; omega) | exact Nat.le_of_ble_eq_true rfl | exact True.intro | exact ⟨rfl, True.intro, fun _ _ => rfl⟩ | exact Nat.le_of_ble_eq_true rfl | (refine ⟨by (try simp only [List.length_cons, List.length_nil]); omega, Int.le_trans (Int.mul_le_mul_of_nonneg_left (show (TInfo.bytes _ : Int) ≤ 64 from Int.ofNat_le.2 (Nat.le_of_ble_eq_true rfl)) (by omega)) (by (try simp only [List.length_cons, List.length_nil]); omega)⟩)) ?_; conv => whnf)))
      have h1 : pcN (n, d) q = 2 := h2
      exact leaf0 rfl (by rw [pcV, if_neg (by omega), h1]) rfl
    · have h0 : pcN (n, d) q = 0 := h0
      obtain ⟨ho, hq⟩ := pcN_0 h0
      rw [← hxs] at ho
      have hall := powM_all ho (k := q.toNat) (by omega)
      repeat (any_goals (first
        | (refine V_step T_ok GPC rfl ?_; conv => whnf)
        | (refine V_drawA T_ok GPC mixed (by kernel_rfl) ?_; conv => whnf)
        | (refine bcond_split (fun hc => ?_) (fun hc => ?_) <;> (try simp only [decide_eq_true_eq, decide_eq_false_iff_not, Bool.not_eq_true', Bool.not_eq_false', Bool.and_eq_true, Bool.or_eq_true, Bool.and_eq_false_imp, Bool.or_eq_false_iff, ne_eq, Decidable.not_not] at hc) <;> conv => whnf)
        | (intro ysK hysK; have hysl := congrArg List.length hysK; (try simp only [List.length_set, List.length_append, List.length_cons, List.length_nil, List.length_take, List.length_drop, List.length_replicate] at hysl); conv => whnf)
        | (refine And.intro (by first | (first | exact True.intro | exact ⟨ho, hprs, hq⟩) | exact True.intro | exact ⟨rfl, True.intro, fun _ _ => rfl⟩ | exact Nat.le_of_ble_eq_true rfl | (refine ⟨by (try simp only [List.length_cons, List.length_nil]); omega, Int.le_trans (Int.mul_le_mul_of_nonneg_left (show (TInfo.bytes _ : Int) ≤ 64 from Int.ofNat_le.2 (Nat.le_of_ble_eq_true rfl)) (by omega)) (by (try simp only [List.length_cons, List.length_nil]); omega)⟩)) ?_; conv => whnf)))
      have hY : ysK = powM (matP xs) q.toNat := hysK
      have hres : pcV (n, d) q = allM ysK := by rw [pcV, if_pos h0, ← hxs, hY]
      rw [← hY] at hall
      clear hysK hysl
      rw [h0, hres]
      clear hres hY
      obtain ⟨M, hM⟩ : ∃ M, ysK = M := ⟨_, rfl⟩
      rw [hM] at hall ⊢
      clear hM ysK
      have hlen := hall.len
      refine V_loopH (γ := Nat) (fun g => g ≤ List.length (α := List Int) M) (fun g => List.length (α := List Int) M - g)
        (fun g => [(8, .int .i64 (sumN (sumR M) g)), (27, .int .i64 g)]) (fun _ => []) (fun _ => []) 0 (Nat.zero_le _) ?_ ?_
      · clear hall
        conv => whnf
        refine ⟨?_, by (conv => whnf); repeat (first | exact True.intro | (refine And.intro rfl ?_; conv => whnf)), by (conv => whnf); repeat (first | exact True.intro | (refine And.intro (by first | rfl | (subst_vars; rfl)) ?_; conv => whnf)), rfl, rfl, rfl, rfl, rfl, rfl, rfl, Nat.le_of_ble_eq_true rfl, Nat.le_of_ble_eq_true rfl⟩
        conv => whnf
        repeat (first | exact True.intro | (refine And.intro (by first | rfl | ((conv => whnf); exact congrArg (AVal.int .i64) (by omega)) | ((conv => whnf); exact congrArg (AVal.int .i64) (by simp only [Int.natCast_add, Int.natCast_one]; omega)) | ((conv => whnf); exact congrArg (AVal.irow _) (by first | omega | assumption | (simp only; omega)))) ?_; conv => whnf))
      · rintro g hg
        conv => whnf
        refine vcCode_sound T_ok GPC _ _ _ _ _ ?_
        conv => whnf
        repeat (refine V_step T_ok GPC rfl ?_; conv => whnf)
        repeat (any_goals (first
          | (refine V_step T_ok GPC rfl ?_; conv => whnf)
          | (refine V_drawA T_ok GPC mixed (by kernel_rfl) ?_; conv => whnf)
          | (refine bcond_split (fun hc => ?_) (fun hc => ?_) <;> (try simp only [decide_eq_true_eq, decide_eq_false_iff_not, Bool.not_eq_true', Bool.not_eq_false', Bool.and_eq_true, Bool.or_eq_true, Bool.and_eq_false_imp, Bool.or_eq_false_iff, ne_eq, Decidable.not_not] at hc) <;> conv => whnf)
          | (intro ysK hysK; have hysl := congrArg List.length hysK; (try simp only [List.length_set, List.length_append, List.length_cons, List.length_nil, List.length_take, List.length_drop, List.length_replicate] at hysl); conv => whnf)
          | (refine And.intro (by first | (first | exact True.intro | omega | (simp only [Rng]; omega)) | exact True.intro | exact ⟨rfl, True.intro, fun _ _ => rfl⟩ | exact Nat.le_of_ble_eq_true rfl | (refine ⟨by (try simp only [List.length_cons, List.length_nil]); omega, Int.le_trans (Int.mul_le_mul_of_nonneg_left (show (TInfo.bytes _ : Int) ≤ 64 from Int.ofNat_le.2 (Nat.le_of_ble_eq_true rfl)) (by omega)) (by (try simp only [List.length_cons, List.length_nil]); omega)⟩)) ?_; conv => whnf)))
        · have hgl : g < List.length (α := List Int) M := by
            have hc : (g : Int) < (List.length (α := List Int) M : Int) := by assumption
            omega
          refine V_loopH (γ := Nat) (fun j => j ≤ List.length (α := Int) (@List.getD (List Int) M g [])) (fun j => List.length (α := Int) (@List.getD (List Int) M g []) - j)
            (fun j => [(8, .int .i64 (sumN (sumR M) g + sumN (fun c => ent M g c) j)), (33, .int .i64 j)]) (fun _ => []) (fun _ => []) 0 (Nat.zero_le _) ?_ ?_
          · have e0 : sumN (sumR M) g + sumN (fun c => ent M g c) 0 = sumN (sumR M) g := by simp [sumN]
            clear hall
            conv => whnf
            refine ⟨?_, by (conv => whnf); repeat (first | exact True.intro | (refine And.intro rfl ?_; conv => whnf)), by (conv => whnf); repeat (first | exact True.intro | (refine And.intro (by first | rfl | (subst_vars; rfl)) ?_; conv => whnf)), rfl, rfl, rfl, rfl, rfl, rfl, rfl, Nat.le_of_ble_eq_true rfl, Nat.le_of_ble_eq_true rfl⟩
            conv => whnf
            repeat (first | exact True.intro | (refine And.intro (by first | rfl | ((conv => whnf); exact congrArg (AVal.int .i64) (by omega)) | ((conv => whnf); exact congrArg (AVal.int .i64) (by simp only [Int.natCast_add, Int.natCast_one]; omega)) | ((conv => whnf); exact congrArg (AVal.irow _) (by first | omega | assumption | (simp only; omega)))) ?_; conv => whnf))
          · rintro j hj
            have hrl : List.length (α := Int) (@List.getD (List Int) M g []) = List.length (α := List Int) M := hall.sq _ (getD_mem hgl)
            have hrl2 : List.length (α := Int) (@List.getD (List Int) M (Int.toNat (g : Int)) []) = List.length (α := List Int) M := hrl
            have hbd := fun (h : (j : Int) < (List.length (α := Int) (@List.getD (List Int) M g []) : Int)) => hall.bd hgl (j := j + 1) (by omega)
            conv => whnf
            refine vcCode_sound T_ok GPC _ _ _ _ _ ?_
            conv => whnf
            repeat (refine V_step T_ok GPC rfl ?_; conv => whnf)
            repeat (any_goals (first
              | (refine V_step T_ok GPC rfl ?_; conv => whnf)
              | (refine V_drawA T_ok GPC mixed (by kernel_rfl) ?_; conv => whnf)
              | (refine bcond_split (fun hc => ?_) (fun hc => ?_) <;> (try simp only [decide_eq_true_eq, decide_eq_false_iff_not, Bool.not_eq_true', Bool.not_eq_false', Bool.and_eq_true, Bool.or_eq_true, Bool.and_eq_false_imp, Bool.or_eq_false_iff, ne_eq, Decidable.not_not] at hc) <;> conv => whnf)
              | (intro ysK hysK; have hysl := congrArg List.length hysK; (try simp only [List.length_set, List.length_append, List.length_cons, List.length_nil, List.length_take, List.length_drop, List.length_replicate] at hysl); conv => whnf)
              | (refine And.intro (by first | (first | exact True.intro | omega | (simp only [Int.toNat_natCast]; omega) | (have q := hbd (by assumption); simp only [Int.toNat_natCast, Rng]; simp only [sumN] at q; show _ ≤ _ + ent M g j ∧ _ + ent M g j ≤ _; omega) | (simp only [Rng]; omega)) | exact True.intro | exact ⟨rfl, True.intro, fun _ _ => rfl⟩ | exact Nat.le_of_ble_eq_true rfl | (refine ⟨by (try simp only [List.length_cons, List.length_nil]); omega, Int.le_trans (Int.mul_le_mul_of_nonneg_left (show (TInfo.bytes _ : Int) ≤ 64 from Int.ofNat_le.2 (Nat.le_of_ble_eq_true rfl)) (by omega)) (by (try simp only [List.length_cons, List.length_nil]); omega)⟩)) ?_; conv => whnf)))
            · have hcj : (j : Int) < (List.length (α := Int) (@List.getD (List Int) M (Int.toNat (g : Int)) []) : Int) := by assumption
              refine ⟨j + 1, by omega, by omega, ?_⟩
              have e1 : sumN (sumR M) g + sumN (fun c => ent M g c) (j + 1) = sumN (sumR M) g + sumN (fun c => ent M g c) j + (@List.getD (List Int) M (Int.toNat (g : Int)) []).getD (Int.toNat (j : Int)) iT.dflt := by
                simp only [sumN]
                have e2 : (@List.getD (List Int) M (Int.toNat (g : Int)) []).getD (Int.toNat (j : Int)) iT.dflt = ent M g j := rfl
                rw [e2]; omega
              clear hall hbd
              conv => whnf
              refine ⟨?_, by (conv => whnf); repeat (first | exact True.intro | (refine And.intro rfl ?_; conv => whnf)), by (conv => whnf); repeat (first | exact True.intro | (refine And.intro (by first | rfl | (subst_vars; rfl)) ?_; conv => whnf)), rfl, rfl, rfl, rfl, rfl, rfl, rfl, Nat.le_of_ble_eq_true rfl, Nat.le_of_ble_eq_true rfl⟩
              conv => whnf
              repeat (first | exact True.intro | (refine And.intro (by first | rfl | ((conv => whnf); exact congrArg (AVal.int .i64) (by omega)) | ((conv => whnf); exact congrArg (AVal.int .i64) (by simp only [Int.natCast_add, Int.natCast_one]; omega)) | ((conv => whnf); exact congrArg (AVal.irow _) (by first | omega | assumption | (simp only; omega)))) ?_; conv => whnf))
            · have hj2 : j = List.length (α := Int) (@List.getD (List Int) M g []) := by
                have hc : ¬ (j : Int) < (List.length (α := Int) (@List.getD (List Int) M (Int.toNat (g : Int)) []) : Int) := hc
                omega
              refine ⟨g + 1, by omega, by omega, ?_⟩
              have e1 : sumN (sumR M) (g + 1) = sumN (sumR M) g + sumN (fun c => ent M g c) j := by rw [hj2]; rfl
              clear hall hbd
              conv => whnf
              refine ⟨?_, by (conv => whnf); repeat (first | exact True.intro | (refine And.intro rfl ?_; conv => whnf)), by (conv => whnf); repeat (first | exact True.intro | (refine And.intro (by first | rfl | (subst_vars; rfl)) ?_; conv => whnf)), rfl, rfl, rfl, rfl, rfl, rfl, rfl, Nat.le_of_ble_eq_true rfl, Nat.le_of_ble_eq_true rfl⟩
              conv => whnf
              repeat (first | exact True.intro | (refine And.intro (by first | rfl | ((conv => whnf); exact congrArg (AVal.int .i64) (by omega)) | ((conv => whnf); exact congrArg (AVal.int .i64) (by simp only [Int.natCast_add, Int.natCast_one]; omega)) | ((conv => whnf); exact congrArg (AVal.irow _) (by first | omega | assumption | (simp only; omega)))) ?_; conv => whnf))
        · have hg2 : g = List.length (α := List Int) M := by
            have hc : ¬ (g : Int) < (List.length (α := List Int) M : Int) := hc
            omega
          exact leaf0 rfl (by rw [hg2]; rfl) rfl
def lenC : PCtr := fun _ _ lr vals k => match vals with
  | [.agg [.int .i64 n, .int .i64 d], .int .i64 q, .int .i64 m] => True ∧ ∀ ys, ys = orb8 (n, d) → k [⟨aT, 25, true, ys⟩] (.tup [.row lr, .int .i64 (parN (n, d) (decide (0 ≤ q ∧ q ≤ m)))])
  | _ => False
theorem parN_len (x : Ang) (b : Bool) : parN x b = if orbN8 x = 0 then (if b = true then 0 else 2) else orbN8 x := by
  unfold parN orbN8
  by_cases h1 : IsA x <;> by_cases h2 : ok8 x <;> by_cases h3 : b = true <;> simp [h1, h2, h3]
abbrev GLen := GOk.cons sOrb8_ok (GOk.cons sIn_ok .nil)
theorem sLen_ok : PCtrOk Try.prog 42 lenC where
  enter := enter_ok Try.func42 (by kernel_rfl) rfl
  calls := by
    intro hg rg lr vals k h
    unfold lenC at h
    split at h
    case h_2 => exact h.elim
    rename_i n d q m
    obtain ⟨_, hk⟩ := h
    replace hk := hk _ rfl
    refine ⟨_, _, hk, fun A w _ _ => ?_⟩
    refine enter T_ok GLen Try.func42 rfl (K := (· < w.heap.size)) (fun _ h => h) (A := A) (n0 := 0) (b0 := 0) (rows := []) (hp := []) rfl (Nat.zero_le _) (fun k r h => by cases h) rfl (fun k r h => by cases h) rfl rfl (Nat.le_of_ble_eq_true rfl) ?_
    conv => whnf
    repeat (refine V_step T_ok GLen rfl ?_; conv => whnf)
    repeat (any_goals (first
      | (refine V_step T_ok GLen rfl ?_; conv => whnf)
      | (refine V_drawA T_ok GLen mixed (by kernel_rfl) ?_; conv => whnf)
      | (refine bcond_split (fun hc => ?_) (fun hc => ?_) <;> (try simp only [decide_eq_true_eq, decide_eq_false_iff_not, Bool.not_eq_true', Bool.not_eq_false', Bool.and_eq_true, Bool.or_eq_true, Bool.and_eq_false_imp, Bool.or_eq_false_iff, ne_eq, Decidable.not_not] at hc) <;> conv => whnf)
      | (intro ysK hysK; have hysl := congrArg List.length hysK; (try simp only [List.length_set, List.length_append, List.length_cons, List.length_nil, List.length_take, List.length_drop, List.length_replicate] at hysl); conv => whnf)
      | (refine And.intro (by first | exact True.intro | (with_reducible assumption) | omega | (simp only [Rng]; omega) | exact Nat.le_of_ble_eq_true rfl | exact True.intro | exact ⟨rfl, True.intro, fun _ _ => rfl⟩ | exact Nat.le_of_ble_eq_true rfl | (refine ⟨by (try simp only [List.length_cons, List.length_nil]); omega, Int.le_trans (Int.mul_le_mul_of_nonneg_left (show (TInfo.bytes _ : Int) ≤ 64 from Int.ofNat_le.2 (Nat.le_of_ble_eq_true rfl)) (by omega)) (by (try simp only [List.length_cons, List.length_nil]); omega)⟩)) ?_; conv => whnf)))
    all_goals (
      have hY : ysK = orb8 (n, d) := hysK
      clear hysK hysl
      subst hY
      refine leaf1 0 rfl rfl rfl rfl (fun B C h => ?_)
      simp only [AVal.den, dens, h, parN_len])
    · rename_i h0
      have h0 : orbN8 (n, d) = 0 := h0
      rw [if_pos h0, if_neg (by simpa using hc)]
    · rename_i h0
      have h0 : orbN8 (n, d) = 0 := h0
      rw [if_pos h0, if_pos (decide_eq_true hc), h0]
    · rw [if_neg hc]
def pathsC : PCtr := fun _ rg _ vals k => match vals with
  | [.row i, .int .i64 q] => rowC aT (rg i) fun xs => (Orb xs ∧ 0 ≤ q ∧ q ≤ 40) ∧ ∀ y, y = allM (powM (matP xs) q.toNat) → k [] (.int .i64 y)
  | _ => False
abbrev GPaths := GOk.cons sMat_ok (GOk.cons sPow_ok .nil)
theorem sPaths_ok : PCtrOk Try.prog 43 pathsC where
  enter := enter_ok Try.func43 (by kernel_rfl) rfl
  calls := by
    intro hg rg lr vals k h
    unfold pathsC at h
    split at h
    case h_2 => exact h.elim
    rename_i i q
    obtain ⟨e, own, xs, hi, h⟩ : ∃ e own, ∃ (xs : List Ang), _ := rowC_inv h
    obtain ⟨⟨ho, hq⟩, hk⟩ := h
    replace hk := hk _ rfl
    refine ⟨_, _, hk, fun A w hB hR => ?_⟩
    refine enter T_ok GPaths Try.func43 rfl (K := (· < w.heap.size)) (fun _ h => h) (A := A.pick [] [i]) (vals := [.row 0, .int .i64 q]) (n0 := 0) (b0 := 0) (rows := [some ⟨aT, e, false, xs⟩]) (hp := []) rfl (Nat.zero_le _) no_box rfl (one_row (hR i _ hi)) rfl rfl (Nat.le_of_ble_eq_true rfl) ?_
    conv => whnf
    repeat (refine V_step T_ok GPaths rfl ?_; conv => whnf)
    have ho : Orb xs := ho
    have hall := powM_all ho (k := q.toNat) (by omega)
    have hma : ((List.length (α := List Int) (matP xs) ≤ 1000 ∧ (∀ r ∈ matP xs, Nn 2 r) ∧ (∀ r ∈ matP xs, List.length (α := Int) r = List.length (α := List Int) (matP xs))) ∧ 0 ≤ q ∧ q ≤ 40) := ⟨⟨by have := matP_21 ho; omega, matP_nn ho, matP_sq xs⟩, hq⟩
    repeat (any_goals (first
      | (refine V_step T_ok GPaths rfl ?_; conv => whnf)
      | (refine V_drawA T_ok GPaths mixed (by kernel_rfl) ?_; conv => whnf)
      | (refine bcond_split (fun hc => ?_) (fun hc => ?_) <;> (try simp only [decide_eq_true_eq, decide_eq_false_iff_not, Bool.not_eq_true', Bool.not_eq_false', Bool.and_eq_true, Bool.or_eq_true, Bool.and_eq_false_imp, Bool.or_eq_false_iff, ne_eq, Decidable.not_not] at hc) <;> conv => whnf)
      | (intro ysK hysK; have hysl := congrArg List.length hysK; (try simp only [List.length_set, List.length_append, List.length_cons, List.length_nil, List.length_take, List.length_drop, List.length_replicate] at hysl); conv => whnf)
      | (refine And.intro (by first | (first | exact True.intro | exact ho) | exact True.intro | exact ⟨rfl, True.intro, fun _ _ => rfl⟩ | exact Nat.le_of_ble_eq_true rfl | (refine ⟨by (try simp only [List.length_cons, List.length_nil]); omega, Int.le_trans (Int.mul_le_mul_of_nonneg_left (show (TInfo.bytes _ : Int) ≤ 64 from Int.ofNat_le.2 (Nat.le_of_ble_eq_true rfl)) (by omega)) (by (try simp only [List.length_cons, List.length_nil]); omega)⟩)) ?_; conv => whnf)))
    have hA : ysK = matP xs := hysK
    rw [← hA] at hma hall ⊢
    clear hysK hysl
    rename List (List Int) => aM
    repeat (any_goals (first
      | (refine V_step T_ok GPaths rfl ?_; conv => whnf)
      | (refine V_drawA T_ok GPaths mixed (by kernel_rfl) ?_; conv => whnf)
      | (refine bcond_split (fun hc => ?_) (fun hc => ?_) <;> (try simp only [decide_eq_true_eq, decide_eq_false_iff_not, Bool.not_eq_true', Bool.not_eq_false', Bool.and_eq_true, Bool.or_eq_true, Bool.and_eq_false_imp, Bool.or_eq_false_iff, ne_eq, Decidable.not_not] at hc) <;> conv => whnf)
      | (intro ysK hysK; have hysl := congrArg List.length hysK; (try simp only [List.length_set, List.length_append, List.length_cons, List.length_nil, List.length_take, List.length_drop, List.length_replicate] at hysl); conv => whnf)
      | (refine And.intro (by first | (first | exact True.intro | exact hma) | exact True.intro | exact ⟨rfl, True.intro, fun _ _ => rfl⟩ | exact Nat.le_of_ble_eq_true rfl | (refine ⟨by (try simp only [List.length_cons, List.length_nil]); omega, Int.le_trans (Int.mul_le_mul_of_nonneg_left (show (TInfo.bytes _ : Int) ≤ 64 from Int.ofNat_le.2 (Nat.le_of_ble_eq_true rfl)) (by omega)) (by (try simp only [List.length_cons, List.length_nil]); omega)⟩)) ?_; conv => whnf)))
    have hY : ysK = powM aM q.toNat := hysK
    rw [← hY] at hall ⊢
    clear hysK hysl hY
    rename List (List Int) => M
    have hlen := hall.len
    refine V_loopH (γ := Nat) (fun g => g ≤ List.length (α := List Int) M) (fun g => List.length (α := List Int) M - g)
      (fun g => [(6, .int .i64 (sumN (sumR M) g)), (7, .int .i64 g)]) (fun _ => []) (fun _ => []) 0 (Nat.zero_le _) ?_ ?_
    · clear hall hma
      conv => whnf
      refine ⟨?_, by (conv => whnf); repeat (first | exact True.intro | (refine And.intro rfl ?_; conv => whnf)), by (conv => whnf); repeat (first | exact True.intro | (refine And.intro (by first | rfl | (subst_vars; rfl)) ?_; conv => whnf)), rfl, rfl, rfl, rfl, rfl, rfl, rfl, Nat.le_of_ble_eq_true rfl, Nat.le_of_ble_eq_true rfl⟩
      conv => whnf
      repeat (first | exact True.intro | (refine And.intro (by first | rfl | ((conv => whnf); exact congrArg (AVal.int .i64) (by omega)) | ((conv => whnf); exact congrArg (AVal.int .i64) (by simp only [Int.natCast_add, Int.natCast_one]; omega)) | ((conv => whnf); exact congrArg (AVal.irow _) (by first | omega | assumption | (simp only; omega)))) ?_; conv => whnf))
    · rintro g hg
      conv => whnf
      refine vcCode_sound T_ok GPaths _ _ _ _ _ ?_
      conv => whnf
      repeat (refine V_step T_ok GPaths rfl ?_; conv => whnf)
      repeat (any_goals (first
        | (refine V_step T_ok GPaths rfl ?_; conv => whnf)
        | (refine V_drawA T_ok GPaths mixed (by kernel_rfl) ?_; conv => whnf)
        | (refine bcond_split (fun hc => ?_) (fun hc => ?_) <;> (try simp only [decide_eq_true_eq, decide_eq_false_iff_not, Bool.not_eq_true', Bool.not_eq_false', Bool.and_eq_true, Bool.or_eq_true, Bool.and_eq_false_imp, Bool.or_eq_false_iff, ne_eq, Decidable.not_not] at hc) <;> conv => whnf)
        | (intro ysK hysK; have hysl := congrArg List.length hysK; (try simp only [List.length_set, List.length_append, List.length_cons, List.length_nil, List.length_take, List.length_drop, List.length_replicate] at hysl); conv => whnf)
        | (refine And.intro (by first | (first | exact True.intro | omega | (simp only [Rng]; omega)) | exact True.intro | exact ⟨rfl, True.intro, fun _ _ => rfl⟩ | exact Nat.le_of_ble_eq_true rfl | (refine ⟨by (try simp only [List.length_cons, List.length_nil]); omega, Int.le_trans (Int.mul_le_mul_of_nonneg_left (show (TInfo.bytes _ : Int) ≤ 64 from Int.ofNat_le.2 (Nat.le_of_ble_eq_true rfl)) (by omega)) (by (try simp only [List.length_cons, List.length_nil]); omega)⟩)) ?_; conv => whnf)))
      · have hgl : g < List.length (α := List Int) M := by
          have hc : (g : Int) < (List.length (α := List Int) M : Int) := by assumption
          omega
        have hrl : List.length (α := Int) (@List.getD (List Int) M g []) = List.length (α := List Int) M := hall.sq _ (getD_mem hgl)
        have hrl2 : List.length (α := Int) (@List.getD (List Int) M (Int.toNat (g : Int)) []) = List.length (α := List Int) M := hrl
        refine V_loopH (γ := Nat) (fun j => j ≤ List.length (α := List Int) M) (fun j => List.length (α := List Int) M - j)
          (fun j => [(6, .int .i64 (sumN (sumR M) g + sumN (fun c => ent M g c) j)), (8, .int .i64 j)]) (fun _ => []) (fun _ => []) 0 (Nat.zero_le _) ?_ ?_
        · have e0 : sumN (sumR M) g + sumN (fun c => ent M g c) 0 = sumN (sumR M) g := by simp [sumN]
          clear hall hma
          conv => whnf
          refine ⟨?_, by (conv => whnf); repeat (first | exact True.intro | (refine And.intro rfl ?_; conv => whnf)), by (conv => whnf); repeat (first | exact True.intro | (refine And.intro (by first | rfl | (subst_vars; rfl)) ?_; conv => whnf)), rfl, rfl, rfl, rfl, rfl, rfl, rfl, Nat.le_of_ble_eq_true rfl, Nat.le_of_ble_eq_true rfl⟩
          conv => whnf
          repeat (first | exact True.intro | (refine And.intro (by first | rfl | ((conv => whnf); exact congrArg (AVal.int .i64) (by omega)) | ((conv => whnf); exact congrArg (AVal.int .i64) (by simp only [Int.natCast_add, Int.natCast_one]; omega)) | ((conv => whnf); exact congrArg (AVal.irow _) (by first | omega | assumption | (simp only; omega)))) ?_; conv => whnf))
        · rintro j hj
          have hbd := fun (h : (j : Int) < (List.length (α := List Int) M : Int)) => hall.bd hgl (j := j + 1) (by omega)
          conv => whnf
          refine vcCode_sound T_ok GPaths _ _ _ _ _ ?_
          conv => whnf
          repeat (refine V_step T_ok GPaths rfl ?_; conv => whnf)
          repeat (any_goals (first
            | (refine V_step T_ok GPaths rfl ?_; conv => whnf)
            | (refine V_drawA T_ok GPaths mixed (by kernel_rfl) ?_; conv => whnf)
            | (refine bcond_split (fun hc => ?_) (fun hc => ?_) <;> (try simp only [decide_eq_true_eq, decide_eq_false_iff_not, Bool.not_eq_true', Bool.not_eq_false', Bool.and_eq_true, Bool.or_eq_true, Bool.and_eq_false_imp, Bool.or_eq_false_iff, ne_eq, Decidable.not_not] at hc) <;> conv => whnf)
            | (intro ysK hysK; have hysl := congrArg List.length hysK; (try simp only [List.length_set, List.length_append, List.length_cons, List.length_nil, List.length_take, List.length_drop, List.length_replicate] at hysl); conv => whnf)
            | (refine And.intro (by first | (first | exact True.intro | omega | (simp only [Int.toNat_natCast]; omega) | (have q := hbd (by assumption); simp only [Int.toNat_natCast, Rng]; simp only [sumN] at q; show _ ≤ _ + ent M g j ∧ _ + ent M g j ≤ _; omega) | (simp only [Rng]; omega)) | exact True.intro | exact ⟨rfl, True.intro, fun _ _ => rfl⟩ | exact Nat.le_of_ble_eq_true rfl | (refine ⟨by (try simp only [List.length_cons, List.length_nil]); omega, Int.le_trans (Int.mul_le_mul_of_nonneg_left (show (TInfo.bytes _ : Int) ≤ 64 from Int.ofNat_le.2 (Nat.le_of_ble_eq_true rfl)) (by omega)) (by (try simp only [List.length_cons, List.length_nil]); omega)⟩)) ?_; conv => whnf)))
          · have hcj : (j : Int) < (List.length (α := List Int) M : Int) := by assumption
            refine ⟨j + 1, by omega, by omega, ?_⟩
            have e1 : sumN (sumR M) g + sumN (fun c => ent M g c) (j + 1) = sumN (sumR M) g + sumN (fun c => ent M g c) j + (@List.getD (List Int) M (Int.toNat (g : Int)) []).getD (Int.toNat (j : Int)) iT.dflt := by
              simp only [sumN]
              have e2 : (@List.getD (List Int) M (Int.toNat (g : Int)) []).getD (Int.toNat (j : Int)) iT.dflt = ent M g j := rfl
              rw [e2]; omega
            clear hall hbd hma
            conv => whnf
            refine ⟨?_, by (conv => whnf); repeat (first | exact True.intro | (refine And.intro rfl ?_; conv => whnf)), by (conv => whnf); repeat (first | exact True.intro | (refine And.intro (by first | rfl | (subst_vars; rfl)) ?_; conv => whnf)), rfl, rfl, rfl, rfl, rfl, rfl, rfl, Nat.le_of_ble_eq_true rfl, Nat.le_of_ble_eq_true rfl⟩
            conv => whnf
            repeat (first | exact True.intro | (refine And.intro (by first | rfl | ((conv => whnf); exact congrArg (AVal.int .i64) (by omega)) | ((conv => whnf); exact congrArg (AVal.int .i64) (by simp only [Int.natCast_add, Int.natCast_one]; omega)) | ((conv => whnf); exact congrArg (AVal.irow _) (by first | omega | assumption | (simp only; omega)))) ?_; conv => whnf))
          · have hj2 : j = List.length (α := Int) (@List.getD (List Int) M g []) := by
              have hc : ¬ (j : Int) < (List.length (α := List Int) M : Int) := hc
              omega
            refine ⟨g + 1, by omega, by omega, ?_⟩
            have e1 : sumN (sumR M) (g + 1) = sumN (sumR M) g + sumN (fun c => ent M g c) j := by rw [hj2]; rfl
            clear hall hbd hma
            conv => whnf
            refine ⟨?_, by (conv => whnf); repeat (first | exact True.intro | (refine And.intro rfl ?_; conv => whnf)), by (conv => whnf); repeat (first | exact True.intro | (refine And.intro (by first | rfl | (subst_vars; rfl)) ?_; conv => whnf)), rfl, rfl, rfl, rfl, rfl, rfl, rfl, Nat.le_of_ble_eq_true rfl, Nat.le_of_ble_eq_true rfl⟩
            conv => whnf
            repeat (first | exact True.intro | (refine And.intro (by first | rfl | ((conv => whnf); exact congrArg (AVal.int .i64) (by omega)) | ((conv => whnf); exact congrArg (AVal.int .i64) (by simp only [Int.natCast_add, Int.natCast_one]; omega)) | ((conv => whnf); exact congrArg (AVal.irow _) (by first | omega | assumption | (simp only; omega)))) ?_; conv => whnf))
      · have hg2 : g = List.length (α := List Int) M := by
          have hc : ¬ (g : Int) < (List.length (α := List Int) M : Int) := hc
          omega
        exact leaf0 rfl (by rw [hg2]; rfl) rfl
abbrev GSPc := GOk.cons sLen_ok (GOk.cons sPaths_ok .nil)
theorem sPc_ok : PCtrOk Try.prog 15 pcC where
  enter := enter_ok Try.func15 (by kernel_rfl) rfl
  calls := by
    intro hg rg lr vals k h
    unfold pcC at h
    split at h
    case h_2 => exact h.elim
    rename_i n d q
    obtain ⟨_, hk⟩ := h
    refine ⟨_, _, hk, fun A w _ _ => ?_⟩
    refine enter T_ok GSPc Try.func15 rfl (K := (· < w.heap.size)) (fun _ h => h) (A := A) (n0 := 0) (b0 := 0) (rows := []) (hp := []) rfl (Nat.zero_le _) (fun k r h => by cases h) rfl (fun k r h => by cases h) rfl rfl (Nat.le_of_ble_eq_true rfl) ?_
    conv => whnf
    repeat (refine V_step T_ok GSPc rfl ?_; conv => whnf)
    repeat (any_goals (first
      | (refine V_step T_ok GSPc rfl ?_; conv => whnf)
      | (refine V_drawA T_ok GSPc mixed (by kernel_rfl) ?_; conv => whnf)
      | (refine bcond_split (fun hc => ?_) (fun hc => ?_) <;> (try simp only [decide_eq_true_eq, decide_eq_false_iff_not, Bool.not_eq_true', Bool.not_eq_false', Bool.and_eq_true, Bool.or_eq_true, Bool.and_eq_false_imp, Bool.or_eq_false_iff, ne_eq, Decidable.not_not] at hc) <;> conv => whnf)
      | (intro ysK hysK; have hysl := congrArg List.length hysK; (try simp only [List.length_set, List.length_append, List.length_cons, List.length_nil, List.length_take, List.length_drop, List.length_replicate] at hysl); conv => whnf)
      | (refine And.intro (by first | exact True.intro | (with_reducible assumption) | omega | (simp only [Rng]; omega) | exact Nat.le_of_ble_eq_true rfl | exact True.intro | exact ⟨rfl, True.intro, fun _ _ => rfl⟩ | exact Nat.le_of_ble_eq_true rfl | (refine ⟨by (try simp only [List.length_cons, List.length_nil]); omega, Int.le_trans (Int.mul_le_mul_of_nonneg_left (show (TInfo.bytes _ : Int) ≤ 64 from Int.ofNat_le.2 (Nat.le_of_ble_eq_true rfl)) (by omega)) (by (try simp only [List.length_cons, List.length_nil]); omega)⟩)) ?_; conv => whnf)))
    · have hc : ¬ pcN (n, d) q = 0 := hc
      exact leaf0 rfl (by rw [pcV, if_neg hc]; rfl) rfl
    · have h0 : pcN (n, d) q = 0 := hc
      obtain ⟨ho, hq⟩ := pcN_0 h0
      have hY : ysK = orb8 (n, d) := hysK
      clear hysK hysl
      subst hY
      repeat (any_goals (first
        | (refine V_step T_ok GSPc rfl ?_; conv => whnf)
        | (refine V_drawA T_ok GSPc mixed (by kernel_rfl) ?_; conv => whnf)
        | (refine bcond_split (fun hc => ?_) (fun hc => ?_) <;> (try simp only [decide_eq_true_eq, decide_eq_false_iff_not, Bool.not_eq_true', Bool.not_eq_false', Bool.and_eq_true, Bool.or_eq_true, Bool.and_eq_false_imp, Bool.or_eq_false_iff, ne_eq, Decidable.not_not] at hc) <;> conv => whnf)
        | (intro ysK hysK; have hysl := congrArg List.length hysK; (try simp only [List.length_set, List.length_append, List.length_cons, List.length_nil, List.length_take, List.length_drop, List.length_replicate] at hysl); conv => whnf)
        | (refine And.intro (by first | (first | exact True.intro | exact ⟨ho, hq⟩) | exact True.intro | exact ⟨rfl, True.intro, fun _ _ => rfl⟩ | exact Nat.le_of_ble_eq_true rfl | (refine ⟨by (try simp only [List.length_cons, List.length_nil]); omega, Int.le_trans (Int.mul_le_mul_of_nonneg_left (show (TInfo.bytes _ : Int) ≤ 64 from Int.ofNat_le.2 (Nat.le_of_ble_eq_true rfl)) (by omega)) (by (try simp only [List.length_cons, List.length_nil]); omega)⟩)) ?_; conv => whnf)))
      intro y hy
      conv => whnf
      repeat (any_goals (first
        | (refine V_step T_ok GSPc rfl ?_; conv => whnf)
        | (refine V_drawA T_ok GSPc mixed (by kernel_rfl) ?_; conv => whnf)
        | (refine bcond_split (fun hc => ?_) (fun hc => ?_) <;> (try simp only [decide_eq_true_eq, decide_eq_false_iff_not, Bool.not_eq_true', Bool.not_eq_false', Bool.and_eq_true, Bool.or_eq_true, Bool.and_eq_false_imp, Bool.or_eq_false_iff, ne_eq, Decidable.not_not] at hc) <;> conv => whnf)
        | (intro ysK hysK; have hysl := congrArg List.length hysK; (try simp only [List.length_set, List.length_append, List.length_cons, List.length_nil, List.length_take, List.length_drop, List.length_replicate] at hysl); conv => whnf)
        | (refine And.intro (by first | exact True.intro | (with_reducible assumption) | omega | (simp only [Rng]; omega) | exact Nat.le_of_ble_eq_true rfl | exact True.intro | exact ⟨rfl, True.intro, fun _ _ => rfl⟩ | exact Nat.le_of_ble_eq_true rfl | (refine ⟨by (try simp only [List.length_cons, List.length_nil]); omega, Int.le_trans (Int.mul_le_mul_of_nonneg_left (show (TInfo.bytes _ : Int) ≤ 64 from Int.ofNat_le.2 (Nat.le_of_ble_eq_true rfl)) (by omega)) (by (try simp only [List.length_cons, List.length_nil]); omega)⟩)) ?_; conv => whnf)))
      have e : pcV (n, d) q = y := by rw [pcV, if_pos h0, hy]
      rw [e, h0]
      exact leaf0 rfl rfl rfl
abbrev GSPt := GOk.cons sLen_ok (GOk.cons sMat_ok (GOk.cons sPow_ok (GOk.cons sTr_ok .nil)))
theorem sPt_ok : PCtrOk Try.prog 17 ptC where
  enter := enter_ok Try.func17 (by kernel_rfl) rfl
  calls := by
    intro hg rg lr vals k h
    unfold ptC at h
    split at h
    case h_2 => exact h.elim
    rename_i n d q
    obtain ⟨_, hk⟩ := h
    refine ⟨_, _, hk, fun A w _ _ => ?_⟩
    refine enter T_ok GSPt Try.func17 rfl (K := (· < w.heap.size)) (fun _ h => h) (A := A) (n0 := 0) (b0 := 0) (rows := []) (hp := []) rfl (Nat.zero_le _) (fun k r h => by cases h) rfl (fun k r h => by cases h) rfl rfl (Nat.le_of_ble_eq_true rfl) ?_
    conv => whnf
    repeat (refine V_step T_ok GSPt rfl ?_; conv => whnf)
    repeat (any_goals (first
      | (refine V_step T_ok GSPt rfl ?_; conv => whnf)
      | (refine V_drawA T_ok GSPt mixed (by kernel_rfl) ?_; conv => whnf)
      | (refine bcond_split (fun hc => ?_) (fun hc => ?_) <;> (try simp only [decide_eq_true_eq, decide_eq_false_iff_not, Bool.not_eq_true', Bool.not_eq_false', Bool.and_eq_true, Bool.or_eq_true, Bool.and_eq_false_imp, Bool.or_eq_false_iff, ne_eq, Decidable.not_not] at hc) <;> conv => whnf)
      | (intro ysK hysK; have hysl := congrArg List.length hysK; (try simp only [List.length_set, List.length_append, List.length_cons, List.length_nil, List.length_take, List.length_drop, List.length_replicate] at hysl); conv => whnf)
      | (refine And.intro (by first | exact True.intro | (with_reducible assumption) | omega | (simp only [Rng]; omega) | exact Nat.le_of_ble_eq_true rfl | exact True.intro | exact ⟨rfl, True.intro, fun _ _ => rfl⟩ | exact Nat.le_of_ble_eq_true rfl | (refine ⟨by (try simp only [List.length_cons, List.length_nil]); omega, Int.le_trans (Int.mul_le_mul_of_nonneg_left (show (TInfo.bytes _ : Int) ≤ 64 from Int.ofNat_le.2 (Nat.le_of_ble_eq_true rfl)) (by omega)) (by (try simp only [List.length_cons, List.length_nil]); omega)⟩)) ?_; conv => whnf)))
    · have hc : ¬ pcN (n, d) q = 0 := hc
      exact leaf0 rfl (by rw [ptV, if_neg hc]; rfl) rfl
    · have h0 : pcN (n, d) q = 0 := hc
      obtain ⟨ho, hq⟩ := pcN_0 h0
      have hY : ysK = orb8 (n, d) := hysK
      clear hysK hysl
      subst hY
      have htr := powM_tr ho (k := q.toNat) (by omega)
      have hma : ((List.length (α := List Int) (matP (orb8 (n, d))) ≤ 1000 ∧ (∀ r ∈ matP (orb8 (n, d)), Nn 2 r) ∧ (∀ r ∈ matP (orb8 (n, d)), List.length (α := Int) r = List.length (α := List Int) (matP (orb8 (n, d))))) ∧ 0 ≤ q ∧ q ≤ 40) := ⟨⟨by have := matP_21 ho; omega, matP_nn ho, matP_sq _⟩, hq⟩
      have e : ptV (n, d) q = trM (powM (matP (orb8 (n, d))) q.toNat) := by rw [ptV, if_pos h0]
      rw [h0, e]
      repeat (any_goals (first
        | (refine V_step T_ok GSPt rfl ?_; conv => whnf)
        | (refine V_drawA T_ok GSPt mixed (by kernel_rfl) ?_; conv => whnf)
        | (refine bcond_split (fun hc => ?_) (fun hc => ?_) <;> (try simp only [decide_eq_true_eq, decide_eq_false_iff_not, Bool.not_eq_true', Bool.not_eq_false', Bool.and_eq_true, Bool.or_eq_true, Bool.and_eq_false_imp, Bool.or_eq_false_iff, ne_eq, Decidable.not_not] at hc) <;> conv => whnf)
        | (intro ysK hysK; have hysl := congrArg List.length hysK; (try simp only [List.length_set, List.length_append, List.length_cons, List.length_nil, List.length_take, List.length_drop, List.length_replicate] at hysl); conv => whnf)
        | (refine And.intro (by first | (first | exact True.intro | exact ho) | exact True.intro | exact ⟨rfl, True.intro, fun _ _ => rfl⟩ | exact Nat.le_of_ble_eq_true rfl | (refine ⟨by (try simp only [List.length_cons, List.length_nil]); omega, Int.le_trans (Int.mul_le_mul_of_nonneg_left (show (TInfo.bytes _ : Int) ≤ 64 from Int.ofNat_le.2 (Nat.le_of_ble_eq_true rfl)) (by omega)) (by (try simp only [List.length_cons, List.length_nil]); omega)⟩)) ?_; conv => whnf)))
      have hA : ysK = matP (orb8 (n, d)) := hysK
      rw [← hA] at hma htr ⊢
      clear hysK hysl hA e
      rename List (List Int) => aM
      repeat (any_goals (first
        | (refine V_step T_ok GSPt rfl ?_; conv => whnf)
        | (refine V_drawA T_ok GSPt mixed (by kernel_rfl) ?_; conv => whnf)
        | (refine bcond_split (fun hc => ?_) (fun hc => ?_) <;> (try simp only [decide_eq_true_eq, decide_eq_false_iff_not, Bool.not_eq_true', Bool.not_eq_false', Bool.and_eq_true, Bool.or_eq_true, Bool.and_eq_false_imp, Bool.or_eq_false_iff, ne_eq, Decidable.not_not] at hc) <;> conv => whnf)
        | (intro ysK hysK; have hysl := congrArg List.length hysK; (try simp only [List.length_set, List.length_append, List.length_cons, List.length_nil, List.length_take, List.length_drop, List.length_replicate] at hysl); conv => whnf)
        | (refine And.intro (by first | (first | exact True.intro | exact hma) | exact True.intro | exact ⟨rfl, True.intro, fun _ _ => rfl⟩ | exact Nat.le_of_ble_eq_true rfl | (refine ⟨by (try simp only [List.length_cons, List.length_nil]); omega, Int.le_trans (Int.mul_le_mul_of_nonneg_left (show (TInfo.bytes _ : Int) ≤ 64 from Int.ofNat_le.2 (Nat.le_of_ble_eq_true rfl)) (by omega)) (by (try simp only [List.length_cons, List.length_nil]); omega)⟩)) ?_; conv => whnf)))
      have hB : ysK = powM aM q.toNat := hysK
      rw [← hB] at htr ⊢
      clear hysK hysl hB
      repeat (any_goals (first
        | (refine V_step T_ok GSPt rfl ?_; conv => whnf)
        | (refine V_drawA T_ok GSPt mixed (by kernel_rfl) ?_; conv => whnf)
        | (refine bcond_split (fun hc => ?_) (fun hc => ?_) <;> (try simp only [decide_eq_true_eq, decide_eq_false_iff_not, Bool.not_eq_true', Bool.not_eq_false', Bool.and_eq_true, Bool.or_eq_true, Bool.and_eq_false_imp, Bool.or_eq_false_iff, ne_eq, Decidable.not_not] at hc) <;> conv => whnf)
        | (intro ysK hysK; have hysl := congrArg List.length hysK; (try simp only [List.length_set, List.length_append, List.length_cons, List.length_nil, List.length_take, List.length_drop, List.length_replicate] at hysl); conv => whnf)
        | (refine And.intro (by first | (first | exact True.intro | exact htr) | exact True.intro | exact ⟨rfl, True.intro, fun _ _ => rfl⟩ | exact Nat.le_of_ble_eq_true rfl | (refine ⟨by (try simp only [List.length_cons, List.length_nil]); omega, Int.le_trans (Int.mul_le_mul_of_nonneg_left (show (TInfo.bytes _ : Int) ≤ 64 from Int.ofNat_le.2 (Nat.le_of_ble_eq_true rfl)) (by omega)) (by (try simp only [List.length_cons, List.length_nil]); omega)⟩)) ?_; conv => whnf)))
      exact leaf0 rfl rfl rfl
end Go.Proofs.Ytllagpbbbdekiab.Fw
