/- Contracts: PairsOfOrbit both sides, GrowsFaster, the law's sum. -/
import Derived.Test.YtllagpbbbdekiabX1
import Derived.Test.YtllagpbbbdekiabK16
import Derived.Test.YtllagpbbbdekiabU4
namespace Go.Proofs.Ytllagpbbbdekiab.Fw
open Go Go.RowKit
set_option linter.unusedVariables false
set_option linter.unusedSimpArgs false
set_option maxRecDepth 100000
set_option maxHeartbeats 2000000
def psoO (x : Ang) : List (List Int) := if orbN8 x = 0 then prJ ((orb8 x).length : Int) (orb8 x).length else []
def psoC : PCtr := fun _ _ lr vals k => match vals with
  | [.agg [.int .i64 n, .int .i64 d]] => True ∧ ∀ ys, ys = psoO (n, d) → k [⟨rT, 43, true, ys⟩] (.tup [.row lr, .int .i64 (orbN8 (n, d))])
  | _ => False
abbrev GPso := GOk.bcons par_ok .nil
theorem pso_ok : PCtrOk Try.prog 9 psoC where
  enter := enter_ok Try.func9 (by kernel_rfl) rfl
  calls := by
    intro hg rg lr vals k h
    unfold psoC at h
    split at h
    case h_2 => exact h.elim
    rename_i n d
    obtain ⟨_, hk⟩ := h
    replace hk := hk _ rfl
    refine ⟨_, _, hk, fun A w _ _ => ?_⟩
    refine enter T_ok GPso Try.func9 rfl (K := (· < w.heap.size)) (fun _ h => h) (A := A) (n0 := 0) (b0 := 0) (rows := []) (hp := []) rfl (Nat.zero_le _) (fun k r h => by cases h) rfl (fun k r h => by cases h) rfl rfl (Nat.le_of_ble_eq_true rfl) ?_
    conv => whnf
    repeat (refine V_step T_ok GPso rfl ?_; conv => whnf)
    repeat (any_goals (first
      | (refine V_step T_ok GPso rfl ?_; conv => whnf)
      | (refine V_drawA T_ok GPso mixed (by kernel_rfl) ?_; conv => whnf)
      | (refine bcond_split (fun hc => ?_) (fun hc => ?_) <;> (try simp only [decide_eq_true_eq, decide_eq_false_iff_not, Bool.not_eq_true', Bool.not_eq_false', Bool.and_eq_true, Bool.or_eq_true, Bool.and_eq_false_imp, Bool.or_eq_false_iff, ne_eq, Decidable.not_not] at hc) <;> conv => whnf)
      | (intro ysK hysK; have hysl := congrArg List.length hysK; (try simp only [List.length_set, List.length_append, List.length_cons, List.length_nil, List.length_take, List.length_drop, List.length_replicate] at hysl); conv => whnf)
      | (refine And.intro (by first | exact True.intro | (with_reducible assumption) | omega | (simp only [Rng]; omega) | exact Nat.le_of_ble_eq_true rfl | exact True.intro | exact ⟨rfl, True.intro, fun _ _ => rfl⟩ | exact Nat.le_of_ble_eq_true rfl | (refine ⟨by (try simp only [List.length_cons, List.length_nil]); omega, Int.le_trans (Int.mul_le_mul_of_nonneg_left (show (TInfo.bytes _ : Int) ≤ 64 from Int.ofNat_le.2 (Nat.le_of_ble_eq_true rfl)) (by omega)) (by (try simp only [List.length_cons, List.length_nil]); omega)⟩)) ?_; conv => whnf)))
    refine ⟨fun h1 => ?_, fun h2 => ?_, fun h0 xs prs hxs hprs => ?_⟩ <;> conv => whnf
    · skip
      repeat (any_goals (first
        | (refine V_step T_ok GPso rfl ?_; conv => whnf)
        | (refine V_drawA T_ok GPso mixed (by kernel_rfl) ?_; conv => whnf)
        | (refine bcond_split (fun hc => ?_) (fun hc => ?_) <;> (try simp only [decide_eq_true_eq, decide_eq_false_iff_not, Bool.not_eq_true', Bool.not_eq_false', Bool.and_eq_true, Bool.or_eq_true, Bool.and_eq_false_imp, Bool.or_eq_false_iff, ne_eq, Decidable.not_not] at hc) <;> conv => whnf)
        | (intro ysK hysK; have hysl := congrArg List.length hysK; (try simp only [List.length_set, List.length_append, List.length_cons, List.length_nil, List.length_take, List.length_drop, List.length_replicate] at hysl); conv => whnf)
        | (refine And.intro (by first | exact True.intro | (with_reducible assumption) | omega | (simp only [Rng]; omega) | exact Nat.le_of_ble_eq_true rfl | exact True.intro | exact ⟨rfl, True.intro, fun _ _ => rfl⟩ | exact Nat.le_of_ble_eq_true rfl | (refine ⟨by (try simp only [List.length_cons, List.length_nil]); omega, Int.le_trans (Int.mul_le_mul_of_nonneg_left (show (TInfo.bytes _ : Int) ≤ 64 from Int.ofNat_le.2 (Nat.le_of_ble_eq_true rfl)) (by omega)) (by (try simp only [List.length_cons, List.length_nil]); omega)⟩)) ?_; conv => whnf)))
      rw [parN_orbN8] at h1
      refine leafN rfl (by unfold psoO; rw [if_neg (by omega)]) (fun B C h => ?_)
      simp [AVal.den, dens, h, h1, Hdr.val]
    · skip
      repeat (any_goals (first
        | (refine V_step T_ok GPso rfl ?_; conv => whnf)
        | (refine V_drawA T_ok GPso mixed (by kernel_rfl) ?_; conv => whnf)
        | (refine bcond_split (fun hc => ?_) (fun hc => ?_) <;> (try simp only [decide_eq_true_eq, decide_eq_false_iff_not, Bool.not_eq_true', Bool.not_eq_false', Bool.and_eq_true, Bool.or_eq_true, Bool.and_eq_false_imp, Bool.or_eq_false_iff, ne_eq, Decidable.not_not] at hc) <;> conv => whnf)
        | (intro ysK hysK; have hysl := congrArg List.length hysK; (try simp only [List.length_set, List.length_append, List.length_cons, List.length_nil, List.length_take, List.length_drop, List.length_replicate] at hysl); conv => whnf)
        | (refine And.intro (by first | exact True.intro | (with_reducible assumption) | omega | (simp only [Rng]; omega) | exact Nat.le_of_ble_eq_true rfl | exact True.intro | exact ⟨rfl, True.intro, fun _ _ => rfl⟩ | exact Nat.le_of_ble_eq_true rfl | (refine ⟨by (try simp only [List.length_cons, List.length_nil]); omega, Int.le_trans (Int.mul_le_mul_of_nonneg_left (show (TInfo.bytes _ : Int) ≤ 64 from Int.ofNat_le.2 (Nat.le_of_ble_eq_true rfl)) (by omega)) (by (try simp only [List.length_cons, List.length_nil]); omega)⟩)) ?_; conv => whnf)))
      rw [parN_orbN8] at h2
      refine leafN rfl (by unfold psoO; rw [if_neg (by omega)]) (fun B C h => ?_)
      simp [AVal.den, dens, h, h2, Hdr.val]
    · rw [parN_orbN8] at h0
      repeat (any_goals (first
        | (refine V_step T_ok GPso rfl ?_; conv => whnf)
        | (refine V_drawA T_ok GPso mixed (by kernel_rfl) ?_; conv => whnf)
        | (refine bcond_split (fun hc => ?_) (fun hc => ?_) <;> (try simp only [decide_eq_true_eq, decide_eq_false_iff_not, Bool.not_eq_true', Bool.not_eq_false', Bool.and_eq_true, Bool.or_eq_true, Bool.and_eq_false_imp, Bool.or_eq_false_iff, ne_eq, Decidable.not_not] at hc) <;> conv => whnf)
        | (intro ysK hysK; have hysl := congrArg List.length hysK; (try simp only [List.length_set, List.length_append, List.length_cons, List.length_nil, List.length_take, List.length_drop, List.length_replicate] at hysl); conv => whnf)
        | (refine And.intro (by first | exact True.intro | (with_reducible assumption) | omega | (simp only [Rng]; omega) | exact Nat.le_of_ble_eq_true rfl | exact True.intro | exact ⟨rfl, True.intro, fun _ _ => rfl⟩ | exact Nat.le_of_ble_eq_true rfl | (refine ⟨by (try simp only [List.length_cons, List.length_nil]); omega, Int.le_trans (Int.mul_le_mul_of_nonneg_left (show (TInfo.bytes _ : Int) ≤ 64 from Int.ofNat_le.2 (Nat.le_of_ble_eq_true rfl)) (by omega)) (by (try simp only [List.length_cons, List.length_nil]); omega)⟩)) ?_; conv => whnf)))
      have hy : prs = psoO (n, d) := by unfold psoO; rw [if_pos h0, ← hxs]; exact hprs
      subst hy
      refine leaf1 1 rfl rfl rfl rfl (fun B C h => ?_)
      simp [AVal.den, dens, h, h0]
abbrev GSPso := GOk.cons sOrb8_ok (GOk.cons sPrs_ok .nil)
theorem sPso_ok : PCtrOk Try.prog 10 psoC where
  enter := enter_ok Try.func10 (by kernel_rfl) rfl
  calls := by
    intro hg rg lr vals k h
    unfold psoC at h
    split at h
    case h_2 => exact h.elim
    rename_i n d
    obtain ⟨_, hk⟩ := h
    replace hk := hk _ rfl
    refine ⟨_, _, hk, fun A w _ _ => ?_⟩
    refine enter T_ok GSPso Try.func10 rfl (K := (· < w.heap.size)) (fun _ h => h) (A := A) (n0 := 0) (b0 := 0) (rows := []) (hp := []) rfl (Nat.zero_le _) (fun k r h => by cases h) rfl (fun k r h => by cases h) rfl rfl (Nat.le_of_ble_eq_true rfl) ?_
    conv => whnf
    repeat (refine V_step T_ok GSPso rfl ?_; conv => whnf)
    repeat (any_goals (first
      | (refine V_step T_ok GSPso rfl ?_; conv => whnf)
      | (refine V_drawA T_ok GSPso mixed (by kernel_rfl) ?_; conv => whnf)
      | (refine bcond_split (fun hc => ?_) (fun hc => ?_) <;> (try simp only [decide_eq_true_eq, decide_eq_false_iff_not, Bool.not_eq_true', Bool.not_eq_false', Bool.and_eq_true, Bool.or_eq_true, Bool.and_eq_false_imp, Bool.or_eq_false_iff, ne_eq, Decidable.not_not] at hc) <;> conv => whnf)
      | (intro ysK hysK; have hysl := congrArg List.length hysK; (try simp only [List.length_set, List.length_append, List.length_cons, List.length_nil, List.length_take, List.length_drop, List.length_replicate] at hysl); conv => whnf)
      | (refine And.intro (by first | exact True.intro | (with_reducible assumption) | omega | (simp only [Rng]; omega) | exact Nat.le_of_ble_eq_true rfl | exact True.intro | exact ⟨rfl, True.intro, fun _ _ => rfl⟩ | exact Nat.le_of_ble_eq_true rfl | (refine ⟨by (try simp only [List.length_cons, List.length_nil]); omega, Int.le_trans (Int.mul_le_mul_of_nonneg_left (show (TInfo.bytes _ : Int) ≤ 64 from Int.ofNat_le.2 (Nat.le_of_ble_eq_true rfl)) (by omega)) (by (try simp only [List.length_cons, List.length_nil]); omega)⟩)) ?_; conv => whnf)))
    · refine leafN rfl (by unfold psoO; rw [if_neg hc]) (fun B C h => ?_)
      simp [AVal.den, dens, h, Hdr.val]
    · have hO : Orb ysK := by rw [hysK]; exact orb8_orb (orb8_N hc)
      obtain ⟨xs, hxs⟩ : ∃ xs, ysK = xs := ⟨_, rfl⟩
      rw [hxs] at hysK hO ⊢
      clear hysl hxs ysK
      have h64 : (0 ≤ ((List.length (α := Ang) xs : Nat) : Int) ∧ ((List.length (α := Ang) xs : Nat) : Int) ≤ 64) := by
        have := hO.len
        exact ⟨by omega, by omega⟩
      repeat (any_goals (first
        | (refine V_step T_ok GSPso rfl ?_; conv => whnf)
        | (refine V_drawA T_ok GSPso mixed (by kernel_rfl) ?_; conv => whnf)
        | (refine bcond_split (fun hc => ?_) (fun hc => ?_) <;> (try simp only [decide_eq_true_eq, decide_eq_false_iff_not, Bool.not_eq_true', Bool.not_eq_false', Bool.and_eq_true, Bool.or_eq_true, Bool.and_eq_false_imp, Bool.or_eq_false_iff, ne_eq, Decidable.not_not] at hc) <;> conv => whnf)
        | (intro ysK hysK; have hysl := congrArg List.length hysK; (try simp only [List.length_set, List.length_append, List.length_cons, List.length_nil, List.length_take, List.length_drop, List.length_replicate] at hysl); conv => whnf)
        | (refine And.intro (by first | (first | exact True.intro | exact h64 | omega) | exact True.intro | exact ⟨rfl, True.intro, fun _ _ => rfl⟩ | exact Nat.le_of_ble_eq_true rfl | (refine ⟨by (try simp only [List.length_cons, List.length_nil]); omega, Int.le_trans (Int.mul_le_mul_of_nonneg_left (show (TInfo.bytes _ : Int) ≤ 64 from Int.ofNat_le.2 (Nat.le_of_ble_eq_true rfl)) (by omega)) (by (try simp only [List.length_cons, List.length_nil]); omega)⟩)) ?_; conv => whnf)))
      have e : prJ ((List.length (α := Ang) xs : Nat) : Int) ((List.length (α := Ang) xs : Nat) : Int).toNat = psoO (n, d) := by
        unfold psoO
        rw [if_pos hc, ← hysK, Int.toNat_natCast]
      refine leaf1 1 rfl rfl (congrArg (fun ys => (⟨rT, 43, true, ys⟩ : Row)) e) rfl (fun B C h => ?_)
      simp [AVal.den, dens, h, hc]
def sumC : PCtr := fun _ rg _ vals k => match vals with
  | [.row i] => rowC iT (rg i) fun xs => ((List.length (α := Int) xs ≤ 1000) ∧ (∀ x ∈ (xs : List Int), 0 ≤ x) ∧ sumI xs ≤ 4000000000000000000) ∧ k [] (.int .i64 (sumI xs))
  | _ => False
theorem sumI_part {xs : List Int} (h : ∀ x ∈ xs, 0 ≤ x) (g : Nat) : 0 ≤ sumI (xs.take g) ∧ sumI (xs.take g) ≤ sumI xs := by
  have e := sumI_append (xs.take g) (xs.drop g)
  rw [List.take_append_drop] at e
  have h1 := sumI_nn (l := xs.take g) fun x hx => h x (List.mem_of_mem_take hx)
  have h2 := sumI_nn (l := xs.drop g) fun x hx => h x (List.mem_of_mem_drop hx)
  omega
theorem sum9_ok : PCtrOk Try.prog 24 sumC where
  enter := enter_ok Try.func24 (by kernel_rfl) rfl
  calls := by
    intro hg rg lr vals k h
    unfold sumC at h
    split at h
    case h_2 => exact h.elim
    rename_i i
    obtain ⟨e, own, xs, hi, h⟩ : ∃ e own, ∃ (xs : List Int), _ := rowC_inv h
    obtain ⟨⟨hl, hn, hs⟩, hk⟩ := h
    refine ⟨_, _, hk, fun A w hB hR => ?_⟩
    refine enter T_ok .nil Try.func24 rfl (K := (· < w.heap.size)) (fun _ h => h) (A := A.pick [] [i]) (vals := [.row 0]) (n0 := 0) (b0 := 0) (rows := [some ⟨iT, e, false, xs⟩]) (hp := []) rfl (Nat.zero_le _) no_box rfl (one_row (hR i _ hi)) rfl rfl (Nat.le_of_ble_eq_true rfl) ?_
    conv => whnf
    repeat (refine V_step T_ok .nil rfl ?_; conv => whnf)
    have hl : List.length (α := Int) xs ≤ 1000 := hl
    refine V_loopH (γ := Nat) (fun g => g ≤ List.length (α := Int) xs) (fun g => List.length (α := Int) xs - g)
      (fun g => [(3, .int .i64 (sumI (List.take (α := Int) g xs))), (4, .int .i64 g)]) (fun _ => []) (fun _ => []) 0 (Nat.zero_le _) ?_ ?_
    · conv => whnf
      refine ⟨?_, by (conv => whnf); repeat (first | exact True.intro | (refine And.intro rfl ?_; conv => whnf)), by (conv => whnf); repeat (first | exact True.intro | (refine And.intro (by first | rfl | (subst_vars; rfl)) ?_; conv => whnf)), rfl, rfl, rfl, rfl, rfl, rfl, rfl, Nat.le_of_ble_eq_true rfl, Nat.le_of_ble_eq_true rfl⟩
      conv => whnf
      repeat (first | exact True.intro | (refine And.intro (by first | rfl | ((conv => whnf); exact congrArg (AVal.int .i64) (by omega)) | ((conv => whnf); exact congrArg (AVal.int .i64) (by simp only [Int.natCast_add, Int.natCast_one]; omega)) | ((conv => whnf); exact congrArg (AVal.irow _) (by first | omega | assumption | (simp only; omega)))) ?_; conv => whnf))
    · rintro g hg
      have p1 := sumI_part hn g
      have p2 := sumI_part hn (g + 1)
      have p3 : (g : Int) < (List.length (α := Int) xs : Int) → sumI (List.take (α := Int) (g + 1) xs) = sumI (List.take (α := Int) g xs) + List.getD (α := Int) xs (g : Int).toNat 0 := fun h => sumI_take_succ xs g (by omega)
      have p4 : (g : Int) < (List.length (α := Int) xs : Int) → Rng .i64 (sumI (List.take (α := Int) g xs) + List.getD (α := Int) xs (g : Int).toNat 0) := fun h => by rw [← p3 h]; simp only [Rng]; omega
      conv => whnf
      refine vcCode_sound T_ok .nil _ _ _ _ _ ?_
      conv => whnf
      repeat (refine V_step T_ok .nil rfl ?_; conv => whnf)
      repeat (any_goals (first
        | (refine V_step T_ok .nil rfl ?_; conv => whnf)
        | (refine V_drawA T_ok .nil mixed (by kernel_rfl) ?_; conv => whnf)
        | (refine bcond_split (fun hc => ?_) (fun hc => ?_) <;> (try simp only [decide_eq_true_eq, decide_eq_false_iff_not, Bool.not_eq_true', Bool.not_eq_false', Bool.and_eq_true, Bool.or_eq_true, Bool.and_eq_false_imp, Bool.or_eq_false_iff, ne_eq, Decidable.not_not] at hc) <;> conv => whnf)
        | (intro ysK hysK; have hysl := congrArg List.length hysK; (try simp only [List.length_set, List.length_append, List.length_cons, List.length_nil, List.length_take, List.length_drop, List.length_replicate] at hysl); conv => whnf)
        | (refine And.intro (by first | (first | exact True.intro | omega | exact p4 (by assumption) | (simp only [Rng]; omega)) | exact True.intro | exact ⟨rfl, True.intro, fun _ _ => rfl⟩ | exact Nat.le_of_ble_eq_true rfl | (refine ⟨by (try simp only [List.length_cons, List.length_nil]); omega, Int.le_trans (Int.mul_le_mul_of_nonneg_left (show (TInfo.bytes _ : Int) ≤ 64 from Int.ofNat_le.2 (Nat.le_of_ble_eq_true rfl)) (by omega)) (by (try simp only [List.length_cons, List.length_nil]); omega)⟩)) ?_; conv => whnf)))
      · have p5 := p3 (by assumption)
        refine ⟨g + 1, by omega, by omega, ?_⟩
        simp only [p5]
        clear p5 p3 p4
        conv => whnf
        refine ⟨?_, by (conv => whnf); repeat (first | exact True.intro | (refine And.intro rfl ?_; conv => whnf)), by (conv => whnf); repeat (first | exact True.intro | (refine And.intro (by first | rfl | (subst_vars; rfl)) ?_; conv => whnf)), rfl, rfl, rfl, rfl, rfl, rfl, rfl, Nat.le_of_ble_eq_true rfl, Nat.le_of_ble_eq_true rfl⟩
        conv => whnf
        repeat (first | exact True.intro | (refine And.intro (by first | rfl | ((conv => whnf); exact congrArg (AVal.int .i64) (by omega)) | ((conv => whnf); exact congrArg (AVal.int .i64) (by simp only [Int.natCast_add, Int.natCast_one]; omega)) | ((conv => whnf); exact congrArg (AVal.irow _) (by first | omega | assumption | (simp only; omega)))) ?_; conv => whnf))
      · have hgl : g = List.length (α := Int) xs := by omega
        exact leaf0 rfl (congrArg (AVal.int .i64) (by rw [hgl, List.take_length])) rfl
end Go.Proofs.Ytllagpbbbdekiab.Fw
