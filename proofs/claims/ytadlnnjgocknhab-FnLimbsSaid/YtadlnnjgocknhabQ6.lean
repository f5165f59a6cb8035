/- Contracts: limbs, as the reference finds them; obstructions. -/
import Derived.Test.YtadlnnjgocknhabQ5
namespace Go.Proofs.Ytadlnnjgocknhab.Fw
open Go Go.RowKit
set_option linter.unusedVariables false
set_option linter.unusedSimpArgs false
set_option maxRecDepth 100000
set_option maxHeartbeats 2000000
theorem limG_y {x : Ang} {p q : Lf} (h : inEB x p = true) (hc : lessA p.1 q.1) : limG x (some q) p = some p := by simp [limG, h, hc]
theorem limG_n {x : Ang} {p q : Lf} (h : inEB x p = true) (hc : ¬ lessA p.1 q.1) : limG x (some q) p = some q := by simp [limG, h, hc]
theorem inEB_w {x : Ang} {p : Lf} (hp : IsL p) (h : sWithinA x p.1 p.2 = true) : inEB x p = true := inEB_3 (by rw [← within_in hp]; exact h)
theorem inEB_1' {x : Ang} {p : Lf} (h : x.1 = p.1.1 ∧ x.2 = p.1.2) : inEB x p = true := inEB_1 (Prod.ext h.1.symm h.2.symm)
theorem inEB_2' {x : Ang} {p : Lf} (h : x.1 = p.2.1 ∧ x.2 = p.2.2) : inEB x p = true := inEB_2 (Prod.ext h.1.symm h.2.symm)
theorem inEB_no' {x : Ang} {p : Lf} (hp : IsL p) (h3 : sWithinA x p.1 p.2 = false) (h1 : x.1 = p.1.1 → ¬ x.2 = p.1.2) (h2 : x.1 = p.2.1 → ¬ x.2 = p.2.2) : ¬ inEB x p = true :=
  inEB_no (fun a b => h1 a.symm b.symm) (fun a b => h2 a.symm b.symm) (by rw [← within_in hp]; exact h3)
abbrev GSL := GOk.cons sPairs_ok (GOk.cons sIns_ok (GOk.cons sLess_ok .nil))
theorem sLimb_ok : PCtrOk Try.prog 58 limbC where
  enter := enter_ok Try.func58 (by kernel_rfl) rfl
  calls := by
    intro hg rg lr vals k h
    unfold limbC at h
    split at h
    case h_2 => exact h.elim
    rename_i n d
    obtain ⟨hA, hk⟩ := h
    replace hk := hk _ rfl
    refine ⟨_, _, hk, fun A w _ _ => ?_⟩
    refine enter T_ok GSL Try.func58 rfl (K := (· < w.heap.size)) (fun _ h => h) (A := A) (n0 := 0) (b0 := 0) (rows := []) (hp := []) rfl (Nat.zero_le _) (fun k r h => by cases h) rfl (fun k r h => by cases h) rfl rfl (Nat.le_of_ble_eq_true rfl) ?_
    conv => whnf
    repeat (refine V_step T_ok GSL rfl ?_; conv => whnf)
    have hlen := prN_len (m := 7) (by omega)
    have hfg : (prN 7).foldl (limG (n, d)) none = limO (n, d) := rfl
    have hL := prN_isL (m := 7) (Nat.le_refl _)
    repeat (any_goals (first
      | (refine V_step T_ok GSL rfl ?_; conv => whnf)
      | (refine V_drawA T_ok GSL mixed (by kernel_rfl) ?_; conv => whnf)
      | (refine bcond_split (fun hc => ?_) (fun hc => ?_) <;> (try simp only [decide_eq_true_eq, decide_eq_false_iff_not, Bool.not_eq_true', Bool.not_eq_false', Bool.and_eq_true, Bool.or_eq_true, Bool.and_eq_false_imp, Bool.or_eq_false_iff, ne_eq, Decidable.not_not] at hc) <;> conv => whnf)
      | (intro ysK hysK; have hysl := congrArg List.length hysK; (try simp only [List.length_set, List.length_append, List.length_cons, List.length_nil, List.length_take, List.length_drop, List.length_replicate] at hysl); conv => whnf)
      | (refine And.intro (by first | exact True.intro | (with_reducible assumption) | omega | (simp only [Rng]; omega) | exact Nat.le_of_ble_eq_true rfl | exact True.intro | exact ⟨rfl, True.intro, fun _ _ => rfl⟩ | exact Nat.le_of_ble_eq_true rfl | (refine ⟨by (try simp only [List.length_cons, List.length_nil]); omega, Int.le_trans (Int.mul_le_mul_of_nonneg_left (show (TInfo.bytes _ : Int) ≤ 64 from Int.ofNat_le.2 (Nat.le_of_ble_eq_true rfl)) (by omega)) (by (try simp only [List.length_cons, List.length_nil]); omega)⟩)) ?_; conv => whnf)))
    have hZ' : prN ((8 : Int).toNat - 1) = prN 7 := rfl
    rw [hZ']
    generalize prN 7 = zs at *
    have hl8 : (List.length (α := Lf) zs : Int) ≤ 2000 := by omega
    refine V_loopH (γ := Nat × Option Lf) (fun g => g.1 ≤ zs.length ∧ g.2 = (zs.take g.1).foldl (limG (n, d)) none ∧ ∀ q, g.2 = some q → IsL q) (fun g => zs.length - g.1)
      (fun g => [(6, .bool g.2.isSome), (7, .int .i64 g.1)]) (fun g => [(2, [.int .i64 (lvO g.2).1.1, .int .i64 (lvO g.2).1.2, .int .i64 (lvO g.2).2.1, .int .i64 (lvO g.2).2.2])]) (fun _ => []) (0, none) ⟨Nat.zero_le _, rfl, fun _ h => by cases h⟩ ?_ ?_
    · conv => whnf
      refine ⟨?_, by (conv => whnf); repeat (first | exact True.intro | (refine And.intro rfl ?_; conv => whnf)), by (conv => whnf); repeat (first | exact True.intro | (refine And.intro (by first | rfl | (subst_vars; rfl)) ?_; conv => whnf)), rfl, rfl, rfl, rfl, rfl, rfl, rfl, Nat.le_of_ble_eq_true rfl, Nat.le_of_ble_eq_true rfl⟩
      conv => whnf
      repeat (first | exact True.intro | (refine And.intro (by first | rfl | ((conv => whnf); exact congrArg (AVal.int .i64) (by omega)) | ((conv => whnf); exact congrArg (AVal.int .i64) (by simp only [Int.natCast_add, Int.natCast_one]; omega)) | ((conv => whnf); exact congrArg (AVal.irow _) (by first | omega | assumption | (simp only; omega)))) ?_; conv => whnf))
    · rintro ⟨j, b⟩ ⟨h1, h2, h3⟩
      simp only at h1 h2 h3
      have hp : (j : Int) < (List.length (α := Lf) zs : Nat) → IsL (zs.getD j lT.dflt) := fun h => hL _ (getD_mem (by omega))
      have hst : ∀ b', (j : Int) < (List.length (α := Lf) zs : Nat) → b' = limG (n, d) ((zs.take j).foldl (limG (n, d)) none) (zs.getD j lT.dflt) → b' = (zs.take (j + 1)).foldl (limG (n, d)) none := fun b' h e => by rw [fold_step (d := lT.dflt) (by omega)]; exact e
      cases b
      · skip
        conv => whnf
        refine vcCode_sound T_ok GSL _ _ _ _ _ ?_
        conv => whnf
        repeat (refine V_step T_ok GSL rfl ?_; conv => whnf)
        repeat (any_goals (first
          | (refine V_step T_ok GSL rfl ?_; conv => whnf)
          | (refine V_drawA T_ok GSL mixed (by kernel_rfl) ?_; conv => whnf)
          | (refine bcond_split (fun hc => ?_) (fun hc => ?_) <;> (try simp only [decide_eq_true_eq, decide_eq_false_iff_not, Bool.not_eq_true', Bool.not_eq_false', Bool.and_eq_true, Bool.or_eq_true, Bool.and_eq_false_imp, Bool.or_eq_false_iff, ne_eq, Decidable.not_not] at hc) <;> conv => whnf)
          | (intro ysK hysK; have hysl := congrArg List.length hysK; (try simp only [List.length_set, List.length_append, List.length_cons, List.length_nil, List.length_take, List.length_drop, List.length_replicate] at hysl); conv => whnf)
          | (refine And.intro (by first | (first | exact True.intro | omega | (simp only [Rng]; omega) | exact ⟨hA.bd, (hp (by assumption)).1.bd, (hp (by assumption)).2.1.bd⟩) | exact True.intro | exact ⟨rfl, True.intro, fun _ _ => rfl⟩ | exact Nat.le_of_ble_eq_true rfl | (refine ⟨by (try simp only [List.length_cons, List.length_nil]); omega, Int.le_trans (Int.mul_le_mul_of_nonneg_left (show (TInfo.bytes _ : Int) ≤ 64 from Int.ofNat_le.2 (Nat.le_of_ble_eq_true rfl)) (by omega)) (by (try simp only [List.length_cons, List.length_nil]); omega)⟩)) ?_; conv => whnf)))
        · rename_i hc0 hcW hcL
          have hin : ¬ inEB (n, d) (zs.getD j lT.dflt) = true := inEB_no' (hp hc0) hcW hcL hc
          refine ⟨(j + 1, none), ⟨by have : (j : Int) < (zs.length : Nat) := hc0; omega, hst _ hc0 ?_, fun q' h => by cases h⟩, by have : (j : Int) < (zs.length : Nat) := hc0; simp only; omega, ?_⟩
          · rw [← h2, limG, if_neg hin]
          · conv => whnf
            refine ⟨?_, by (conv => whnf); repeat (first | exact True.intro | (refine And.intro rfl ?_; conv => whnf)), by (conv => whnf); repeat (first | exact True.intro | (refine And.intro (by first | rfl | (subst_vars; rfl)) ?_; conv => whnf)), rfl, rfl, rfl, rfl, rfl, rfl, rfl, Nat.le_of_ble_eq_true rfl, Nat.le_of_ble_eq_true rfl⟩
            conv => whnf
            repeat (first | exact True.intro | (refine And.intro (by first | rfl | ((conv => whnf); exact congrArg (AVal.int .i64) (by omega)) | ((conv => whnf); exact congrArg (AVal.int .i64) (by simp only [Int.natCast_add, Int.natCast_one]; omega)) | ((conv => whnf); exact congrArg (AVal.irow _) (by first | omega | assumption | (simp only; omega)))) ?_; conv => whnf))
        · rename_i hc0 hcW hcL
          have hin : inEB (n, d) (zs.getD j lT.dflt) = true := inEB_2' hc
          refine ⟨(j + 1, some (zs.getD j lT.dflt)), ⟨by have : (j : Int) < (zs.length : Nat) := hc0; omega, hst _ hc0 ?_, fun q' h => by cases h; exact hp hc0⟩, by have : (j : Int) < (zs.length : Nat) := hc0; simp only; omega, ?_⟩
          · rw [← h2, limG, if_pos hin]
          · conv => whnf
            refine ⟨?_, by (conv => whnf); repeat (first | exact True.intro | (refine And.intro rfl ?_; conv => whnf)), by (conv => whnf); repeat (first | exact True.intro | (refine And.intro (by first | rfl | (subst_vars; rfl)) ?_; conv => whnf)), rfl, rfl, rfl, rfl, rfl, rfl, rfl, Nat.le_of_ble_eq_true rfl, Nat.le_of_ble_eq_true rfl⟩
            conv => whnf
            repeat (first | exact True.intro | (refine And.intro (by first | rfl | ((conv => whnf); exact congrArg (AVal.int .i64) (by omega)) | ((conv => whnf); exact congrArg (AVal.int .i64) (by simp only [Int.natCast_add, Int.natCast_one]; omega)) | ((conv => whnf); exact congrArg (AVal.irow _) (by first | omega | assumption | (simp only; omega)))) ?_; conv => whnf))
        · rename_i hc0 hcW
          have hin : inEB (n, d) (zs.getD j lT.dflt) = true := inEB_1' hc
          refine ⟨(j + 1, some (zs.getD j lT.dflt)), ⟨by have : (j : Int) < (zs.length : Nat) := hc0; omega, hst _ hc0 ?_, fun q' h => by cases h; exact hp hc0⟩, by have : (j : Int) < (zs.length : Nat) := hc0; simp only; omega, ?_⟩
          · rw [← h2, limG, if_pos hin]
          · conv => whnf
            refine ⟨?_, by (conv => whnf); repeat (first | exact True.intro | (refine And.intro rfl ?_; conv => whnf)), by (conv => whnf); repeat (first | exact True.intro | (refine And.intro (by first | rfl | (subst_vars; rfl)) ?_; conv => whnf)), rfl, rfl, rfl, rfl, rfl, rfl, rfl, Nat.le_of_ble_eq_true rfl, Nat.le_of_ble_eq_true rfl⟩
            conv => whnf
            repeat (first | exact True.intro | (refine And.intro (by first | rfl | ((conv => whnf); exact congrArg (AVal.int .i64) (by omega)) | ((conv => whnf); exact congrArg (AVal.int .i64) (by simp only [Int.natCast_add, Int.natCast_one]; omega)) | ((conv => whnf); exact congrArg (AVal.irow _) (by first | omega | assumption | (simp only; omega)))) ?_; conv => whnf))
        · rename_i hc0
          have hin : inEB (n, d) (zs.getD j lT.dflt) = true := inEB_w (hp hc0) hc
          refine ⟨(j + 1, some (zs.getD j lT.dflt)), ⟨by have : (j : Int) < (zs.length : Nat) := hc0; omega, hst _ hc0 ?_, fun q' h => by cases h; exact hp hc0⟩, by have : (j : Int) < (zs.length : Nat) := hc0; simp only; omega, ?_⟩
          · rw [← h2, limG, if_pos hin]
          · conv => whnf
            refine ⟨?_, by (conv => whnf); repeat (first | exact True.intro | (refine And.intro rfl ?_; conv => whnf)), by (conv => whnf); repeat (first | exact True.intro | (refine And.intro (by first | rfl | (subst_vars; rfl)) ?_; conv => whnf)), rfl, rfl, rfl, rfl, rfl, rfl, rfl, Nat.le_of_ble_eq_true rfl, Nat.le_of_ble_eq_true rfl⟩
            conv => whnf
            repeat (first | exact True.intro | (refine And.intro (by first | rfl | ((conv => whnf); exact congrArg (AVal.int .i64) (by omega)) | ((conv => whnf); exact congrArg (AVal.int .i64) (by simp only [Int.natCast_add, Int.natCast_one]; omega)) | ((conv => whnf); exact congrArg (AVal.irow _) (by first | omega | assumption | (simp only; omega)))) ?_; conv => whnf))
        · have hl : ¬ (j : Int) < (zs.length : Nat) := hc
          rw [List.take_of_length_le (by omega), hfg] at h2
          exact leaf0 rfl (by rw [← h2] <;> rfl) rfl
      · rename_i q
        have hq := h3 q rfl
        conv => whnf
        refine vcCode_sound T_ok GSL _ _ _ _ _ ?_
        conv => whnf
        repeat (refine V_step T_ok GSL rfl ?_; conv => whnf)
        repeat (any_goals (first
          | (refine V_step T_ok GSL rfl ?_; conv => whnf)
          | (refine V_drawA T_ok GSL mixed (by kernel_rfl) ?_; conv => whnf)
          | (refine bcond_split (fun hc => ?_) (fun hc => ?_) <;> (try simp only [decide_eq_true_eq, decide_eq_false_iff_not, Bool.not_eq_true', Bool.not_eq_false', Bool.and_eq_true, Bool.or_eq_true, Bool.and_eq_false_imp, Bool.or_eq_false_iff, ne_eq, Decidable.not_not] at hc) <;> conv => whnf)
          | (intro ysK hysK; have hysl := congrArg List.length hysK; (try simp only [List.length_set, List.length_append, List.length_cons, List.length_nil, List.length_take, List.length_drop, List.length_replicate] at hysl); conv => whnf)
          | (refine And.intro (by first | (first | exact True.intro | omega | (simp only [Rng]; omega) | exact ⟨hA.bd, (hp (by assumption)).1.bd, (hp (by assumption)).2.1.bd⟩ | exact ⟨(hp (by assumption)).1.bd, hq.1.bd⟩) | exact True.intro | exact ⟨rfl, True.intro, fun _ _ => rfl⟩ | exact Nat.le_of_ble_eq_true rfl | (refine ⟨by (try simp only [List.length_cons, List.length_nil]); omega, Int.le_trans (Int.mul_le_mul_of_nonneg_left (show (TInfo.bytes _ : Int) ≤ 64 from Int.ofNat_le.2 (Nat.le_of_ble_eq_true rfl)) (by omega)) (by (try simp only [List.length_cons, List.length_nil]); omega)⟩)) ?_; conv => whnf)))
        · rename_i hc0 hcW hcL
          have hin : ¬ inEB (n, d) (zs.getD j lT.dflt) = true := inEB_no' (hp hc0) hcW hcL hc
          refine ⟨(j + 1, some q), ⟨by have : (j : Int) < (zs.length : Nat) := hc0; omega, hst _ hc0 ?_, fun q' h => by cases h; exact hq⟩, by have : (j : Int) < (zs.length : Nat) := hc0; simp only; omega, ?_⟩
          · rw [← h2, limG, if_neg hin]
          · conv => whnf
            refine ⟨?_, by (conv => whnf); repeat (first | exact True.intro | (refine And.intro rfl ?_; conv => whnf)), by (conv => whnf); repeat (first | exact True.intro | (refine And.intro (by first | rfl | (subst_vars; rfl)) ?_; conv => whnf)), rfl, rfl, rfl, rfl, rfl, rfl, rfl, Nat.le_of_ble_eq_true rfl, Nat.le_of_ble_eq_true rfl⟩
            conv => whnf
            repeat (first | exact True.intro | (refine And.intro (by first | rfl | ((conv => whnf); exact congrArg (AVal.int .i64) (by omega)) | ((conv => whnf); exact congrArg (AVal.int .i64) (by simp only [Int.natCast_add, Int.natCast_one]; omega)) | ((conv => whnf); exact congrArg (AVal.irow _) (by first | omega | assumption | (simp only; omega)))) ?_; conv => whnf))
        · rename_i hc0 hcW hcL hcE
          have hin : inEB (n, d) (zs.getD j lT.dflt) = true := inEB_2' hcE
          refine ⟨(j + 1, some (zs.getD j lT.dflt)), ⟨by have : (j : Int) < (zs.length : Nat) := hc0; omega, hst _ hc0 ?_, fun q' h => by cases h; exact hp hc0⟩, by have : (j : Int) < (zs.length : Nat) := hc0; simp only; omega, ?_⟩
          · rw [← h2]; exact (limG_y hin hc).symm
          · conv => whnf
            refine ⟨?_, by (conv => whnf); repeat (first | exact True.intro | (refine And.intro rfl ?_; conv => whnf)), by (conv => whnf); repeat (first | exact True.intro | (refine And.intro (by first | rfl | (subst_vars; rfl)) ?_; conv => whnf)), rfl, rfl, rfl, rfl, rfl, rfl, rfl, Nat.le_of_ble_eq_true rfl, Nat.le_of_ble_eq_true rfl⟩
            conv => whnf
            repeat (first | exact True.intro | (refine And.intro (by first | rfl | ((conv => whnf); exact congrArg (AVal.int .i64) (by omega)) | ((conv => whnf); exact congrArg (AVal.int .i64) (by simp only [Int.natCast_add, Int.natCast_one]; omega)) | ((conv => whnf); exact congrArg (AVal.irow _) (by first | omega | assumption | (simp only; omega)))) ?_; conv => whnf))
        · rename_i hc0 hcW hcL hcE
          have hin : inEB (n, d) (zs.getD j lT.dflt) = true := inEB_2' hcE
          refine ⟨(j + 1, some (q)), ⟨by have : (j : Int) < (zs.length : Nat) := hc0; omega, hst _ hc0 ?_, fun q' h => by cases h; exact hq⟩, by have : (j : Int) < (zs.length : Nat) := hc0; simp only; omega, ?_⟩
          · rw [← h2]; exact (limG_n hin hc).symm
          · conv => whnf
            refine ⟨?_, by (conv => whnf); repeat (first | exact True.intro | (refine And.intro rfl ?_; conv => whnf)), by (conv => whnf); repeat (first | exact True.intro | (refine And.intro (by first | rfl | (subst_vars; rfl)) ?_; conv => whnf)), rfl, rfl, rfl, rfl, rfl, rfl, rfl, Nat.le_of_ble_eq_true rfl, Nat.le_of_ble_eq_true rfl⟩
            conv => whnf
            repeat (first | exact True.intro | (refine And.intro (by first | rfl | ((conv => whnf); exact congrArg (AVal.int .i64) (by omega)) | ((conv => whnf); exact congrArg (AVal.int .i64) (by simp only [Int.natCast_add, Int.natCast_one]; omega)) | ((conv => whnf); exact congrArg (AVal.irow _) (by first | omega | assumption | (simp only; omega)))) ?_; conv => whnf))
        · rename_i hc0 hcW hcE
          have hin : inEB (n, d) (zs.getD j lT.dflt) = true := inEB_1' hcE
          refine ⟨(j + 1, some (zs.getD j lT.dflt)), ⟨by have : (j : Int) < (zs.length : Nat) := hc0; omega, hst _ hc0 ?_, fun q' h => by cases h; exact hp hc0⟩, by have : (j : Int) < (zs.length : Nat) := hc0; simp only; omega, ?_⟩
          · rw [← h2]; exact (limG_y hin hc).symm
          · conv => whnf
            refine ⟨?_, by (conv => whnf); repeat (first | exact True.intro | (refine And.intro rfl ?_; conv => whnf)), by (conv => whnf); repeat (first | exact True.intro | (refine And.intro (by first | rfl | (subst_vars; rfl)) ?_; conv => whnf)), rfl, rfl, rfl, rfl, rfl, rfl, rfl, Nat.le_of_ble_eq_true rfl, Nat.le_of_ble_eq_true rfl⟩
            conv => whnf
            repeat (first | exact True.intro | (refine And.intro (by first | rfl | ((conv => whnf); exact congrArg (AVal.int .i64) (by omega)) | ((conv => whnf); exact congrArg (AVal.int .i64) (by simp only [Int.natCast_add, Int.natCast_one]; omega)) | ((conv => whnf); exact congrArg (AVal.irow _) (by first | omega | assumption | (simp only; omega)))) ?_; conv => whnf))
        · rename_i hc0 hcW hcE
          have hin : inEB (n, d) (zs.getD j lT.dflt) = true := inEB_1' hcE
          refine ⟨(j + 1, some (q)), ⟨by have : (j : Int) < (zs.length : Nat) := hc0; omega, hst _ hc0 ?_, fun q' h => by cases h; exact hq⟩, by have : (j : Int) < (zs.length : Nat) := hc0; simp only; omega, ?_⟩
          · rw [← h2]; exact (limG_n hin hc).symm
          · conv => whnf
            refine ⟨?_, by (conv => whnf); repeat (first | exact True.intro | (refine And.intro rfl ?_; conv => whnf)), by (conv => whnf); repeat (first | exact True.intro | (refine And.intro (by first | rfl | (subst_vars; rfl)) ?_; conv => whnf)), rfl, rfl, rfl, rfl, rfl, rfl, rfl, Nat.le_of_ble_eq_true rfl, Nat.le_of_ble_eq_true rfl⟩
            conv => whnf
            repeat (first | exact True.intro | (refine And.intro (by first | rfl | ((conv => whnf); exact congrArg (AVal.int .i64) (by omega)) | ((conv => whnf); exact congrArg (AVal.int .i64) (by simp only [Int.natCast_add, Int.natCast_one]; omega)) | ((conv => whnf); exact congrArg (AVal.irow _) (by first | omega | assumption | (simp only; omega)))) ?_; conv => whnf))
        · rename_i hc0 hcE
          have hin : inEB (n, d) (zs.getD j lT.dflt) = true := inEB_w (hp hc0) hcE
          refine ⟨(j + 1, some (zs.getD j lT.dflt)), ⟨by have : (j : Int) < (zs.length : Nat) := hc0; omega, hst _ hc0 ?_, fun q' h => by cases h; exact hp hc0⟩, by have : (j : Int) < (zs.length : Nat) := hc0; simp only; omega, ?_⟩
          · rw [← h2]; exact (limG_y hin hc).symm
          · conv => whnf
            refine ⟨?_, by (conv => whnf); repeat (first | exact True.intro | (refine And.intro rfl ?_; conv => whnf)), by (conv => whnf); repeat (first | exact True.intro | (refine And.intro (by first | rfl | (subst_vars; rfl)) ?_; conv => whnf)), rfl, rfl, rfl, rfl, rfl, rfl, rfl, Nat.le_of_ble_eq_true rfl, Nat.le_of_ble_eq_true rfl⟩
            conv => whnf
            repeat (first | exact True.intro | (refine And.intro (by first | rfl | ((conv => whnf); exact congrArg (AVal.int .i64) (by omega)) | ((conv => whnf); exact congrArg (AVal.int .i64) (by simp only [Int.natCast_add, Int.natCast_one]; omega)) | ((conv => whnf); exact congrArg (AVal.irow _) (by first | omega | assumption | (simp only; omega)))) ?_; conv => whnf))
        · rename_i hc0 hcE
          have hin : inEB (n, d) (zs.getD j lT.dflt) = true := inEB_w (hp hc0) hcE
          refine ⟨(j + 1, some (q)), ⟨by have : (j : Int) < (zs.length : Nat) := hc0; omega, hst _ hc0 ?_, fun q' h => by cases h; exact hq⟩, by have : (j : Int) < (zs.length : Nat) := hc0; simp only; omega, ?_⟩
          · rw [← h2]; exact (limG_n hin hc).symm
          · conv => whnf
            refine ⟨?_, by (conv => whnf); repeat (first | exact True.intro | (refine And.intro rfl ?_; conv => whnf)), by (conv => whnf); repeat (first | exact True.intro | (refine And.intro (by first | rfl | (subst_vars; rfl)) ?_; conv => whnf)), rfl, rfl, rfl, rfl, rfl, rfl, rfl, Nat.le_of_ble_eq_true rfl, Nat.le_of_ble_eq_true rfl⟩
            conv => whnf
            repeat (first | exact True.intro | (refine And.intro (by first | rfl | ((conv => whnf); exact congrArg (AVal.int .i64) (by omega)) | ((conv => whnf); exact congrArg (AVal.int .i64) (by simp only [Int.natCast_add, Int.natCast_one]; omega)) | ((conv => whnf); exact congrArg (AVal.irow _) (by first | omega | assumption | (simp only; omega)))) ?_; conv => whnf))
        · have hl : ¬ (j : Int) < (zs.length : Nat) := hc
          rw [List.take_of_length_le (by omega), hfg] at h2
          exact leaf0 rfl (by rw [← h2] <;> rfl) rfl
def limN (x : Ang) : Int := if IsA x then (if (limO x).isSome = true then 0 else 4) else 1
def limV (x : Ang) : Lf := if IsA x then lvO (limO x) else prZ
def limbOC : PCtr := fun _ _ _ vals k => match vals with
  | [.agg [.int .i64 n, .int .i64 d]] => True ∧ k [] (.tup [lV (limV (n, d)), .int .i64 (limN (n, d))])
  | _ => False
theorem lvO_none {x : Ang} (h : (limO x).isSome = false) : lvO (limO x) = prZ := by
  cases hl : limO x with
  | none => rfl
  | some q => rw [hl] at h; cases h
theorem limbOf_ok : PCtrOk Try.prog 9 limbOC where
  enter := enter_ok Try.func9 (by kernel_rfl) rfl
  calls := by
    intro hg rg lr vals k h
    unfold limbOC at h
    split at h
    case h_2 => exact h.elim
    rename_i n d
    obtain ⟨_, hk⟩ := h
    refine ⟨_, _, hk, fun A w _ _ => ?_⟩
    refine enter T_ok (GOk.cons anglesCode_ok (GOk.cons limb_ok .nil)) Try.func9 rfl (K := (· < w.heap.size)) (fun _ h => h) (A := A) (n0 := 0) (b0 := 0) (rows := []) (hp := []) rfl (Nat.zero_le _) (fun k r h => by cases h) rfl (fun k r h => by cases h) rfl rfl (Nat.le_of_ble_eq_true rfl) ?_
    conv => whnf
    repeat (refine V_step T_ok (GOk.cons anglesCode_ok (GOk.cons limb_ok .nil)) rfl ?_; conv => whnf)
    repeat (any_goals (first
      | (refine V_step T_ok (GOk.cons anglesCode_ok (GOk.cons limb_ok .nil)) rfl ?_; conv => whnf)
      | (refine V_drawA T_ok (GOk.cons anglesCode_ok (GOk.cons limb_ok .nil)) mixed (by kernel_rfl) ?_; conv => whnf)
      | (refine bcond_split (fun hc => ?_) (fun hc => ?_) <;> (try simp only [decide_eq_true_eq, decide_eq_false_iff_not, Bool.not_eq_true', Bool.not_eq_false', Bool.and_eq_true, Bool.or_eq_true, Bool.and_eq_false_imp, Bool.or_eq_false_iff, ne_eq, Decidable.not_not] at hc) <;> conv => whnf)
      | (intro ysK hysK; have hysl := congrArg List.length hysK; (try simp only [List.length_set, List.length_append, List.length_cons, List.length_nil, List.length_take, List.length_drop, List.length_replicate] at hysl); conv => whnf)
      | (refine And.intro (by first | (first | exact True.intro | exact (one_isA _).1 (by assumption)) | exact True.intro | exact ⟨rfl, True.intro, fun _ _ => rfl⟩ | exact Nat.le_of_ble_eq_true rfl | (refine ⟨by (try simp only [List.length_cons, List.length_nil]); omega, Int.le_trans (Int.mul_le_mul_of_nonneg_left (show (TInfo.bytes _ : Int) ≤ 64 from Int.ofNat_le.2 (Nat.le_of_ble_eq_true rfl)) (by omega)) (by (try simp only [List.length_cons, List.length_nil]); omega)⟩)) ?_; conv => whnf)))
    · have ha : ¬ IsA (n, d) := fun h => hc ((one_isA _).2 h)
      exact leaf0 rfl (by rw [limV, if_neg ha, limN, if_neg ha, one_isA' ha] <;> rfl) rfl
    · have ha := (one_isA _).1 hc
      intro b hb
      cases b
      · conv => whnf
        repeat (any_goals (first
          | (refine V_step T_ok (GOk.cons anglesCode_ok (GOk.cons limb_ok .nil)) rfl ?_; conv => whnf)
          | (refine V_drawA T_ok (GOk.cons anglesCode_ok (GOk.cons limb_ok .nil)) mixed (by kernel_rfl) ?_; conv => whnf)
          | (refine bcond_split (fun hc => ?_) (fun hc => ?_) <;> (try simp only [decide_eq_true_eq, decide_eq_false_iff_not, Bool.not_eq_true', Bool.not_eq_false', Bool.and_eq_true, Bool.or_eq_true, Bool.and_eq_false_imp, Bool.or_eq_false_iff, ne_eq, Decidable.not_not] at hc) <;> conv => whnf)
          | (intro ysK hysK; have hysl := congrArg List.length hysK; (try simp only [List.length_set, List.length_append, List.length_cons, List.length_nil, List.length_take, List.length_drop, List.length_replicate] at hysl); conv => whnf)
          | (refine And.intro (by first | exact True.intro | (with_reducible assumption) | omega | (simp only [Rng]; omega) | exact Nat.le_of_ble_eq_true rfl | exact True.intro | exact ⟨rfl, True.intro, fun _ _ => rfl⟩ | exact Nat.le_of_ble_eq_true rfl | (refine ⟨by (try simp only [List.length_cons, List.length_nil]); omega, Int.le_trans (Int.mul_le_mul_of_nonneg_left (show (TInfo.bytes _ : Int) ≤ 64 from Int.ofNat_le.2 (Nat.le_of_ble_eq_true rfl)) (by omega)) (by (try simp only [List.length_cons, List.length_nil]); omega)⟩)) ?_; conv => whnf)))
        all_goals exact leaf0 rfl (by rw [limV, if_pos ha, limN, if_pos ha, ← hb] <;> rfl) rfl
      · conv => whnf
        repeat (any_goals (first
          | (refine V_step T_ok (GOk.cons anglesCode_ok (GOk.cons limb_ok .nil)) rfl ?_; conv => whnf)
          | (refine V_drawA T_ok (GOk.cons anglesCode_ok (GOk.cons limb_ok .nil)) mixed (by kernel_rfl) ?_; conv => whnf)
          | (refine bcond_split (fun hc => ?_) (fun hc => ?_) <;> (try simp only [decide_eq_true_eq, decide_eq_false_iff_not, Bool.not_eq_true', Bool.not_eq_false', Bool.and_eq_true, Bool.or_eq_true, Bool.and_eq_false_imp, Bool.or_eq_false_iff, ne_eq, Decidable.not_not] at hc) <;> conv => whnf)
          | (intro ysK hysK; have hysl := congrArg List.length hysK; (try simp only [List.length_set, List.length_append, List.length_cons, List.length_nil, List.length_take, List.length_drop, List.length_replicate] at hysl); conv => whnf)
          | (refine And.intro (by first | exact True.intro | (with_reducible assumption) | omega | (simp only [Rng]; omega) | exact Nat.le_of_ble_eq_true rfl | exact True.intro | exact ⟨rfl, True.intro, fun _ _ => rfl⟩ | exact Nat.le_of_ble_eq_true rfl | (refine ⟨by (try simp only [List.length_cons, List.length_nil]); omega, Int.le_trans (Int.mul_le_mul_of_nonneg_left (show (TInfo.bytes _ : Int) ≤ 64 from Int.ofNat_le.2 (Nat.le_of_ble_eq_true rfl)) (by omega)) (by (try simp only [List.length_cons, List.length_nil]); omega)⟩)) ?_; conv => whnf)))
        all_goals exact leaf0 rfl (by rw [limV, if_pos ha, limN, if_pos ha, ← hb] <;> rfl) rfl
theorem sLimbOf_ok : PCtrOk Try.prog 10 limbOC where
  enter := enter_ok Try.func10 (by kernel_rfl) rfl
  calls := by
    intro hg rg lr vals k h
    unfold limbOC at h
    split at h
    case h_2 => exact h.elim
    rename_i n d
    obtain ⟨_, hk⟩ := h
    refine ⟨_, _, hk, fun A w _ _ => ?_⟩
    refine enter T_ok (GOk.cons sIs_ok (GOk.cons sLimb_ok .nil)) Try.func10 rfl (K := (· < w.heap.size)) (fun _ h => h) (A := A) (n0 := 0) (b0 := 0) (rows := []) (hp := []) rfl (Nat.zero_le _) (fun k r h => by cases h) rfl (fun k r h => by cases h) rfl rfl (Nat.le_of_ble_eq_true rfl) ?_
    conv => whnf
    repeat (refine V_step T_ok (GOk.cons sIs_ok (GOk.cons sLimb_ok .nil)) rfl ?_; conv => whnf)
    repeat (any_goals (first
      | (refine V_step T_ok (GOk.cons sIs_ok (GOk.cons sLimb_ok .nil)) rfl ?_; conv => whnf)
      | (refine V_drawA T_ok (GOk.cons sIs_ok (GOk.cons sLimb_ok .nil)) mixed (by kernel_rfl) ?_; conv => whnf)
      | (refine bcond_split (fun hc => ?_) (fun hc => ?_) <;> (try simp only [decide_eq_true_eq, decide_eq_false_iff_not, Bool.not_eq_true', Bool.not_eq_false', Bool.and_eq_true, Bool.or_eq_true, Bool.and_eq_false_imp, Bool.or_eq_false_iff, ne_eq, Decidable.not_not] at hc) <;> conv => whnf)
      | (intro ysK hysK; have hysl := congrArg List.length hysK; (try simp only [List.length_set, List.length_append, List.length_cons, List.length_nil, List.length_take, List.length_drop, List.length_replicate] at hysl); conv => whnf)
      | (refine And.intro (by first | (first | exact True.intro | (with_reducible assumption)) | exact True.intro | exact ⟨rfl, True.intro, fun _ _ => rfl⟩ | exact Nat.le_of_ble_eq_true rfl | (refine ⟨by (try simp only [List.length_cons, List.length_nil]); omega, Int.le_trans (Int.mul_le_mul_of_nonneg_left (show (TInfo.bytes _ : Int) ≤ 64 from Int.ofNat_le.2 (Nat.le_of_ble_eq_true rfl)) (by omega)) (by (try simp only [List.length_cons, List.length_nil]); omega)⟩)) ?_; conv => whnf)))
    · have ha : ¬ IsA (n, d) := hc
      exact leaf0 rfl (by rw [limV, if_neg ha, limN, if_neg ha] <;> rfl) rfl
    · have ha : IsA (n, d) := hc
      intro b hb
      cases b
      · conv => whnf
        repeat (any_goals (first
          | (refine V_step T_ok (GOk.cons sIs_ok (GOk.cons sLimb_ok .nil)) rfl ?_; conv => whnf)
          | (refine V_drawA T_ok (GOk.cons sIs_ok (GOk.cons sLimb_ok .nil)) mixed (by kernel_rfl) ?_; conv => whnf)
          | (refine bcond_split (fun hc => ?_) (fun hc => ?_) <;> (try simp only [decide_eq_true_eq, decide_eq_false_iff_not, Bool.not_eq_true', Bool.not_eq_false', Bool.and_eq_true, Bool.or_eq_true, Bool.and_eq_false_imp, Bool.or_eq_false_iff, ne_eq, Decidable.not_not] at hc) <;> conv => whnf)
          | (intro ysK hysK; have hysl := congrArg List.length hysK; (try simp only [List.length_set, List.length_append, List.length_cons, List.length_nil, List.length_take, List.length_drop, List.length_replicate] at hysl); conv => whnf)
          | (refine And.intro (by first | exact True.intro | (with_reducible assumption) | omega | (simp only [Rng]; omega) | exact Nat.le_of_ble_eq_true rfl | exact True.intro | exact ⟨rfl, True.intro, fun _ _ => rfl⟩ | exact Nat.le_of_ble_eq_true rfl | (refine ⟨by (try simp only [List.length_cons, List.length_nil]); omega, Int.le_trans (Int.mul_le_mul_of_nonneg_left (show (TInfo.bytes _ : Int) ≤ 64 from Int.ofNat_le.2 (Nat.le_of_ble_eq_true rfl)) (by omega)) (by (try simp only [List.length_cons, List.length_nil]); omega)⟩)) ?_; conv => whnf)))
        all_goals exact leaf0 rfl (by rw [limV, if_pos ha, limN, if_pos ha, ← hb] <;> rfl) rfl
      · conv => whnf
        repeat (any_goals (first
          | (refine V_step T_ok (GOk.cons sIs_ok (GOk.cons sLimb_ok .nil)) rfl ?_; conv => whnf)
          | (refine V_drawA T_ok (GOk.cons sIs_ok (GOk.cons sLimb_ok .nil)) mixed (by kernel_rfl) ?_; conv => whnf)
          | (refine bcond_split (fun hc => ?_) (fun hc => ?_) <;> (try simp only [decide_eq_true_eq, decide_eq_false_iff_not, Bool.not_eq_true', Bool.not_eq_false', Bool.and_eq_true, Bool.or_eq_true, Bool.and_eq_false_imp, Bool.or_eq_false_iff, ne_eq, Decidable.not_not] at hc) <;> conv => whnf)
          | (intro ysK hysK; have hysl := congrArg List.length hysK; (try simp only [List.length_set, List.length_append, List.length_cons, List.length_nil, List.length_take, List.length_drop, List.length_replicate] at hysl); conv => whnf)
          | (refine And.intro (by first | exact True.intro | (with_reducible assumption) | omega | (simp only [Rng]; omega) | exact Nat.le_of_ble_eq_true rfl | exact True.intro | exact ⟨rfl, True.intro, fun _ _ => rfl⟩ | exact Nat.le_of_ble_eq_true rfl | (refine ⟨by (try simp only [List.length_cons, List.length_nil]); omega, Int.le_trans (Int.mul_le_mul_of_nonneg_left (show (TInfo.bytes _ : Int) ≤ 64 from Int.ofNat_le.2 (Nat.le_of_ble_eq_true rfl)) (by omega)) (by (try simp only [List.length_cons, List.length_nil]); omega)⟩)) ?_; conv => whnf)))
        all_goals exact leaf0 rfl (by rw [limV, if_pos ha, limN, if_pos ha, ← hb] <;> rfl) rfl
end Go.Proofs.Ytadlnnjgocknhab.Fw
