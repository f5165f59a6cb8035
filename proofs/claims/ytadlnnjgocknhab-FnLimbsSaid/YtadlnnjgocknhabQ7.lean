/- Contracts: obstructions. -/
import Derived.Test.YtadlnnjgocknhabQ6
namespace Go.Proofs.Ytadlnnjgocknhab.Fw
open Go Go.RowKit
set_option linter.unusedVariables false
set_option linter.unusedSimpArgs false
set_option maxRecDepth 100000
set_option maxHeartbeats 2000000
/-! ### obstructions -/
def oppC : PCtr := fun _ _ _ vals k => match vals with
  | [.agg [.int .i64 n, .int .i64 d]] => IsA (n, d) ∧ k [] (aV (mirA (n, d)))
  | _ => False
theorem opp_ok : PCtrOk Try.prog 59 oppC where
  enter := enter_ok Try.func59 (by kernel_rfl) rfl
  calls := by
    intro hg rg lr vals k h
    unfold oppC at h
    split at h
    case h_2 => exact h.elim
    rename_i n d
    obtain ⟨hA, hk⟩ := h
    refine ⟨_, _, hk, fun A w _ _ => ?_⟩
    refine enter T_ok (GOk.cons angle_ok .nil) Try.func59 rfl (K := (· < w.heap.size)) (fun _ h => h) (A := A) (n0 := 0) (b0 := 0) (rows := []) (hp := []) rfl (Nat.zero_le _) (fun k r h => by cases h) rfl (fun k r h => by cases h) rfl rfl (Nat.le_of_ble_eq_true rfl) ?_
    conv => whnf
    repeat (refine V_step T_ok (GOk.cons angle_ok .nil) rfl ?_; conv => whnf)
    obtain ⟨⟨h1, h2⟩, ⟨h3, h4⟩, _⟩ := hA
    simp only at h1 h2 h3 h4
    repeat (any_goals (first
      | (refine V_step T_ok (GOk.cons angle_ok .nil) rfl ?_; conv => whnf)
      | (refine V_drawA T_ok (GOk.cons angle_ok .nil) mixed (by kernel_rfl) ?_; conv => whnf)
      | (refine bcond_split (fun hc => ?_) (fun hc => ?_) <;> (try simp only [decide_eq_true_eq, decide_eq_false_iff_not, Bool.not_eq_true', Bool.not_eq_false', Bool.and_eq_true, Bool.or_eq_true, Bool.and_eq_false_imp, Bool.or_eq_false_iff, ne_eq, Decidable.not_not] at hc) <;> conv => whnf)
      | (intro ysK hysK; have hysl := congrArg List.length hysK; (try simp only [List.length_set, List.length_append, List.length_cons, List.length_nil, List.length_take, List.length_drop, List.length_replicate] at hysl); conv => whnf)
      | (refine And.intro (by first | (first | exact True.intro | omega | (simp only [Rng]; omega)) | exact True.intro | exact ⟨rfl, True.intro, fun _ _ => rfl⟩ | exact Nat.le_of_ble_eq_true rfl | (refine ⟨by (try simp only [List.length_cons, List.length_nil]); omega, Int.le_trans (Int.mul_le_mul_of_nonneg_left (show (TInfo.bytes _ : Int) ≤ 64 from Int.ofNat_le.2 (Nat.le_of_ble_eq_true rfl)) (by omega)) (by (try simp only [List.length_cons, List.length_nil]); omega)⟩)) ?_; conv => whnf)))
    all_goals exact leaf0 rfl rfl rfl
theorem sOpp_ok : PCtrOk Try.prog 60 oppC where
  enter := enter_ok Try.func60 (by kernel_rfl) rfl
  calls := by
    intro hg rg lr vals k h
    unfold oppC at h
    split at h
    case h_2 => exact h.elim
    rename_i n d
    obtain ⟨hA, hk⟩ := h
    refine ⟨_, _, hk, fun A w _ _ => ?_⟩
    refine enter T_ok (GOk.cons sOf_ok .nil) Try.func60 rfl (K := (· < w.heap.size)) (fun _ h => h) (A := A) (n0 := 0) (b0 := 0) (rows := []) (hp := []) rfl (Nat.zero_le _) (fun k r h => by cases h) rfl (fun k r h => by cases h) rfl rfl (Nat.le_of_ble_eq_true rfl) ?_
    conv => whnf
    repeat (refine V_step T_ok (GOk.cons sOf_ok .nil) rfl ?_; conv => whnf)
    obtain ⟨⟨h1, h2⟩, ⟨h3, h4⟩, _⟩ := hA
    simp only at h1 h2 h3 h4
    repeat (any_goals (first
      | (refine V_step T_ok (GOk.cons sOf_ok .nil) rfl ?_; conv => whnf)
      | (refine V_drawA T_ok (GOk.cons sOf_ok .nil) mixed (by kernel_rfl) ?_; conv => whnf)
      | (refine bcond_split (fun hc => ?_) (fun hc => ?_) <;> (try simp only [decide_eq_true_eq, decide_eq_false_iff_not, Bool.not_eq_true', Bool.not_eq_false', Bool.and_eq_true, Bool.or_eq_true, Bool.and_eq_false_imp, Bool.or_eq_false_iff, ne_eq, Decidable.not_not] at hc) <;> conv => whnf)
      | (intro ysK hysK; have hysl := congrArg List.length hysK; (try simp only [List.length_set, List.length_append, List.length_cons, List.length_nil, List.length_take, List.length_drop, List.length_replicate] at hysl); conv => whnf)
      | (refine And.intro (by first | (first | exact True.intro | omega | (simp only [Rng]; omega)) | exact True.intro | exact ⟨rfl, True.intro, fun _ _ => rfl⟩ | exact Nat.le_of_ble_eq_true rfl | (refine ⟨by (try simp only [List.length_cons, List.length_nil]); omega, Int.le_trans (Int.mul_le_mul_of_nonneg_left (show (TInfo.bytes _ : Int) ≤ 64 from Int.ofNat_le.2 (Nat.le_of_ble_eq_true rfl)) (by omega)) (by (try simp only [List.length_cons, List.length_nil]); omega)⟩)) ?_; conv => whnf)))
    all_goals exact leaf0 rfl rfl rfl
theorem mir_isA {u : Ang} (h : IsA u) : IsA (mirA u) := ofQ_isA _ _ h.1.1 h.1.2
theorem two_isA (a b : Ang) : (if [a, b].all allAY = true then (0 : Int) else 1) = 0 ↔ IsA a ∧ IsA b := by
  by_cases h : IsA a <;> by_cases h' : IsA b <;> simp [allAY, h, h']
theorem two_isA' {a b : Ang} (h : ¬ (IsA a ∧ IsA b)) : (if [a, b].all allAY = true then (0 : Int) else 1) = 1 := by
  by_cases h1 : IsA a <;> by_cases h2 : IsA b <;> simp [allAY, h1, h2]
  exact h ⟨h1, h2⟩
theorem obs_eq (a b : Lf) : (decide (a.1.1 = b.1.1) && decide (a.1.2 = b.1.2) && (decide (a.2.1 = b.2.1) && decide (a.2.2 = b.2.2))) = (true && true && decide (a = b)) := by
  rw [Bool.true_and, Bool.true_and, Bool.eq_iff_iff]
  simp only [Bool.and_eq_true, decide_eq_true_iff, Prod.ext_iff]
def obsB (t u : Ang) : Bool := if IsA t ∧ IsA u then ((limO t).isSome && (limO (mirA u)).isSome) && decide (lvO (limO t) = lvO (limO (mirA u))) else false
def obsN (t u : Ang) : Int := if IsA t ∧ IsA u then 0 else 1
def obsC : PCtr := fun _ _ _ vals k => match vals with
  | [.agg [.int .i64 n, .int .i64 d], .agg [.int .i64 m, .int .i64 e]] => True ∧ k [] (.tup [.bool (obsB (n, d) (m, e)), .int .i64 (obsN (n, d) (m, e))])
  | _ => False
abbrev GOb := GOk.cons anglesCode_ok (GOk.cons limb_ok (GOk.cons opp_ok .nil))
theorem obs_ok : PCtrOk Try.prog 12 obsC where
  enter := enter_ok Try.func12 (by kernel_rfl) rfl
  calls := by
    intro hg rg lr vals k h
    unfold obsC at h
    split at h
    case h_2 => exact h.elim
    rename_i n d m e
    obtain ⟨_, hk⟩ := h
    refine ⟨_, _, hk, fun A w _ _ => ?_⟩
    refine enter T_ok GOb Try.func12 rfl (K := (· < w.heap.size)) (fun _ h => h) (A := A) (n0 := 0) (b0 := 0) (rows := []) (hp := []) rfl (Nat.zero_le _) (fun k r h => by cases h) rfl (fun k r h => by cases h) rfl rfl (Nat.le_of_ble_eq_true rfl) ?_
    conv => whnf
    repeat (refine V_step T_ok GOb rfl ?_; conv => whnf)
    repeat (any_goals (first
      | (refine V_step T_ok GOb rfl ?_; conv => whnf)
      | (refine V_drawA T_ok GOb mixed (by kernel_rfl) ?_; conv => whnf)
      | (refine bcond_split (fun hc => ?_) (fun hc => ?_) <;> (try simp only [decide_eq_true_eq, decide_eq_false_iff_not, Bool.not_eq_true', Bool.not_eq_false', Bool.and_eq_true, Bool.or_eq_true, Bool.and_eq_false_imp, Bool.or_eq_false_iff, ne_eq, Decidable.not_not] at hc) <;> conv => whnf)
      | (intro ysK hysK; have hysl := congrArg List.length hysK; (try simp only [List.length_set, List.length_append, List.length_cons, List.length_nil, List.length_take, List.length_drop, List.length_replicate] at hysl); conv => whnf)
      | (refine And.intro (by first | (first | exact True.intro | exact ((two_isA _ _).1 (by assumption)).1 | exact ((two_isA _ _).1 (by assumption)).2 | exact mir_isA ((two_isA _ _).1 (by assumption)).2) | exact True.intro | exact ⟨rfl, True.intro, fun _ _ => rfl⟩ | exact Nat.le_of_ble_eq_true rfl | (refine ⟨by (try simp only [List.length_cons, List.length_nil]); omega, Int.le_trans (Int.mul_le_mul_of_nonneg_left (show (TInfo.bytes _ : Int) ≤ 64 from Int.ofNat_le.2 (Nat.le_of_ble_eq_true rfl)) (by omega)) (by (try simp only [List.length_cons, List.length_nil]); omega)⟩)) ?_; conv => whnf)))
    · have ha : ¬ (IsA (n, d) ∧ IsA (m, e)) := fun h => hc ((two_isA _ _).2 h)
      have h1 := two_isA' ha
      exact leaf0 rfl (by rw [obsB, if_neg ha, obsN, if_neg ha, h1] <;> rfl) rfl
    · have ha := (two_isA _ _).1 hc
      have hm := mir_isA ha.2
      have hml : (limO (mirA (m, e))).isSome = true → (limO (m, e)).isSome = true := mir_lim ha.2
      intro b1 hb1
      conv => whnf
      repeat (any_goals (first
        | (refine V_step T_ok GOb rfl ?_; conv => whnf)
        | (refine V_drawA T_ok GOb mixed (by kernel_rfl) ?_; conv => whnf)
        | (refine bcond_split (fun hc => ?_) (fun hc => ?_) <;> (try simp only [decide_eq_true_eq, decide_eq_false_iff_not, Bool.not_eq_true', Bool.not_eq_false', Bool.and_eq_true, Bool.or_eq_true, Bool.and_eq_false_imp, Bool.or_eq_false_iff, ne_eq, Decidable.not_not] at hc) <;> conv => whnf)
        | (intro ysK hysK; have hysl := congrArg List.length hysK; (try simp only [List.length_set, List.length_append, List.length_cons, List.length_nil, List.length_take, List.length_drop, List.length_replicate] at hysl); conv => whnf)
        | (refine And.intro (by first | (first | exact True.intro | exact ha.1 | exact ha.2 | exact hm) | exact True.intro | exact ⟨rfl, True.intro, fun _ _ => rfl⟩ | exact Nat.le_of_ble_eq_true rfl | (refine ⟨by (try simp only [List.length_cons, List.length_nil]); omega, Int.le_trans (Int.mul_le_mul_of_nonneg_left (show (TInfo.bytes _ : Int) ≤ 64 from Int.ofNat_le.2 (Nat.le_of_ble_eq_true rfl)) (by omega)) (by (try simp only [List.length_cons, List.length_nil]); omega)⟩)) ?_; conv => whnf)))
      intro b2 hb2
      conv => whnf
      repeat (any_goals (first
        | (refine V_step T_ok GOb rfl ?_; conv => whnf)
        | (refine V_drawA T_ok GOb mixed (by kernel_rfl) ?_; conv => whnf)
        | (refine bcond_split (fun hc => ?_) (fun hc => ?_) <;> (try simp only [decide_eq_true_eq, decide_eq_false_iff_not, Bool.not_eq_true', Bool.not_eq_false', Bool.and_eq_true, Bool.or_eq_true, Bool.and_eq_false_imp, Bool.or_eq_false_iff, ne_eq, Decidable.not_not] at hc) <;> conv => whnf)
        | (intro ysK hysK; have hysl := congrArg List.length hysK; (try simp only [List.length_set, List.length_append, List.length_cons, List.length_nil, List.length_take, List.length_drop, List.length_replicate] at hysl); conv => whnf)
        | (refine And.intro (by first | (first | exact True.intro | exact ha.1 | exact ha.2 | exact hm) | exact True.intro | exact ⟨rfl, True.intro, fun _ _ => rfl⟩ | exact Nat.le_of_ble_eq_true rfl | (refine ⟨by (try simp only [List.length_cons, List.length_nil]); omega, Int.le_trans (Int.mul_le_mul_of_nonneg_left (show (TInfo.bytes _ : Int) ≤ 64 from Int.ofNat_le.2 (Nat.le_of_ble_eq_true rfl)) (by omega)) (by (try simp only [List.length_cons, List.length_nil]); omega)⟩)) ?_; conv => whnf)))
      intro b3 hb3
      have hb2 : b2 = limO (mirA (m, e)) := hb2
      rw [← hb2, ← hb3] at hml
      have hO : obsB (n, d) (m, e) = ((b1.isSome && b2.isSome) && decide (lvO b1 = lvO b2)) := by rw [obsB, if_pos ha, ← hb1, ← hb2]
      have hN : obsN (n, d) (m, e) = 0 := by rw [obsN, if_pos ha]
      rw [hO, hN]
      clear hb1 hb2 hb3
      generalize lvO b1 = l1
      generalize lvO b2 = l2
      generalize lvO b3 = l3
      generalize b1.isSome = c1
      generalize b2.isSome = c2 at *
      generalize b3.isSome = c3 at *
      conv => whnf
      repeat (any_goals (first
        | (refine V_step T_ok GOb rfl ?_; conv => whnf)
        | (refine V_drawA T_ok GOb mixed (by kernel_rfl) ?_; conv => whnf)
        | (refine bcond_split (fun hc => ?_) (fun hc => ?_) <;> (try simp only [decide_eq_true_eq, decide_eq_false_iff_not, Bool.not_eq_true', Bool.not_eq_false', Bool.and_eq_true, Bool.or_eq_true, Bool.and_eq_false_imp, Bool.or_eq_false_iff, ne_eq, Decidable.not_not] at hc) <;> conv => whnf)
        | (intro ysK hysK; have hysl := congrArg List.length hysK; (try simp only [List.length_set, List.length_append, List.length_cons, List.length_nil, List.length_take, List.length_drop, List.length_replicate] at hysl); conv => whnf)
        | (refine And.intro (by first | exact True.intro | (with_reducible assumption) | omega | (simp only [Rng]; omega) | exact Nat.le_of_ble_eq_true rfl | exact True.intro | exact ⟨rfl, True.intro, fun _ _ => rfl⟩ | exact Nat.le_of_ble_eq_true rfl | (refine ⟨by (try simp only [List.length_cons, List.length_nil]); omega, Int.le_trans (Int.mul_le_mul_of_nonneg_left (show (TInfo.bytes _ : Int) ≤ 64 from Int.ofNat_le.2 (Nat.le_of_ble_eq_true rfl)) (by omega)) (by (try simp only [List.length_cons, List.length_nil]); omega)⟩)) ?_; conv => whnf)))
      · rename_i h1 h2
        refine leaf0 rfl ?_ rfl
        rw [h1, h2]
        exact congrArg (fun b => AVal.tup [.bool b, .int .i64 0]) (obs_eq l1 l2)
      · rename_i h1 h2
        rw [hml h2] at hc; cases hc
      · rename_i h1
        refine leaf0 rfl ?_ rfl
        rw [h1, hc]; rfl
      · refine leaf0 rfl ?_ rfl
        rw [hc]; rfl
abbrev GSOb := GOk.cons sIs_ok (GOk.cons sLimb_ok (GOk.cons sOpp_ok .nil))
theorem sObs_ok : PCtrOk Try.prog 13 obsC where
  enter := enter_ok Try.func13 (by kernel_rfl) rfl
  calls := by
    intro hg rg lr vals k h
    unfold obsC at h
    split at h
    case h_2 => exact h.elim
    rename_i n d m e
    obtain ⟨_, hk⟩ := h
    refine ⟨_, _, hk, fun A w _ _ => ?_⟩
    refine enter T_ok GSOb Try.func13 rfl (K := (· < w.heap.size)) (fun _ h => h) (A := A) (n0 := 0) (b0 := 0) (rows := []) (hp := []) rfl (Nat.zero_le _) (fun k r h => by cases h) rfl (fun k r h => by cases h) rfl rfl (Nat.le_of_ble_eq_true rfl) ?_
    conv => whnf
    repeat (refine V_step T_ok GSOb rfl ?_; conv => whnf)
    by_cases ha : IsA (n, d)
    · by_cases hb : IsA (m, e)
      · have hm := mir_isA hb
        repeat (any_goals (first
          | (refine V_step T_ok GSOb rfl ?_; conv => whnf)
          | (refine V_drawA T_ok GSOb mixed (by kernel_rfl) ?_; conv => whnf)
          | (refine bcond_split (fun hc => ?_) (fun hc => ?_) <;> (try simp only [decide_eq_true_eq, decide_eq_false_iff_not, Bool.not_eq_true', Bool.not_eq_false', Bool.and_eq_true, Bool.or_eq_true, Bool.and_eq_false_imp, Bool.or_eq_false_iff, ne_eq, Decidable.not_not] at hc) <;> conv => whnf)
          | (intro ysK hysK; have hysl := congrArg List.length hysK; (try simp only [List.length_set, List.length_append, List.length_cons, List.length_nil, List.length_take, List.length_drop, List.length_replicate] at hysl); conv => whnf)
          | (refine And.intro (by first | (first | exact True.intro | exact ha | exact hb | exact hm) | exact True.intro | exact ⟨rfl, True.intro, fun _ _ => rfl⟩ | exact Nat.le_of_ble_eq_true rfl | (refine ⟨by (try simp only [List.length_cons, List.length_nil]); omega, Int.le_trans (Int.mul_le_mul_of_nonneg_left (show (TInfo.bytes _ : Int) ≤ 64 from Int.ofNat_le.2 (Nat.le_of_ble_eq_true rfl)) (by omega)) (by (try simp only [List.length_cons, List.length_nil]); omega)⟩)) ?_; conv => whnf)))
        all_goals first
          | exact absurd ha hc
          | exact absurd hb hc
          | skip
        intro b1 hb1
        conv => whnf
        repeat (any_goals (first
          | (refine V_step T_ok GSOb rfl ?_; conv => whnf)
          | (refine V_drawA T_ok GSOb mixed (by kernel_rfl) ?_; conv => whnf)
          | (refine bcond_split (fun hc => ?_) (fun hc => ?_) <;> (try simp only [decide_eq_true_eq, decide_eq_false_iff_not, Bool.not_eq_true', Bool.not_eq_false', Bool.and_eq_true, Bool.or_eq_true, Bool.and_eq_false_imp, Bool.or_eq_false_iff, ne_eq, Decidable.not_not] at hc) <;> conv => whnf)
          | (intro ysK hysK; have hysl := congrArg List.length hysK; (try simp only [List.length_set, List.length_append, List.length_cons, List.length_nil, List.length_take, List.length_drop, List.length_replicate] at hysl); conv => whnf)
          | (refine And.intro (by first | (first | exact True.intro | exact ha | exact hb | exact hm) | exact True.intro | exact ⟨rfl, True.intro, fun _ _ => rfl⟩ | exact Nat.le_of_ble_eq_true rfl | (refine ⟨by (try simp only [List.length_cons, List.length_nil]); omega, Int.le_trans (Int.mul_le_mul_of_nonneg_left (show (TInfo.bytes _ : Int) ≤ 64 from Int.ofNat_le.2 (Nat.le_of_ble_eq_true rfl)) (by omega)) (by (try simp only [List.length_cons, List.length_nil]); omega)⟩)) ?_; conv => whnf)))
        intro b2 hb2
        have hb2 : b2 = limO (mirA (m, e)) := hb2
        have hO : obsB (n, d) (m, e) = ((b1.isSome && b2.isSome) && decide (lvO b1 = lvO b2)) := by rw [obsB, if_pos ⟨ha, hb⟩, ← hb1, ← hb2]
        have hN : obsN (n, d) (m, e) = 0 := by rw [obsN, if_pos ⟨ha, hb⟩]
        rw [hO, hN]
        clear hb1 hb2
        generalize lvO b1 = l1
        generalize lvO b2 = l2
        generalize b1.isSome = c1
        generalize b2.isSome = c2 at *
        conv => whnf
        repeat (any_goals (first
          | (refine V_step T_ok GSOb rfl ?_; conv => whnf)
          | (refine V_drawA T_ok GSOb mixed (by kernel_rfl) ?_; conv => whnf)
          | (refine bcond_split (fun hc => ?_) (fun hc => ?_) <;> (try simp only [decide_eq_true_eq, decide_eq_false_iff_not, Bool.not_eq_true', Bool.not_eq_false', Bool.and_eq_true, Bool.or_eq_true, Bool.and_eq_false_imp, Bool.or_eq_false_iff, ne_eq, Decidable.not_not] at hc) <;> conv => whnf)
          | (intro ysK hysK; have hysl := congrArg List.length hysK; (try simp only [List.length_set, List.length_append, List.length_cons, List.length_nil, List.length_take, List.length_drop, List.length_replicate] at hysl); conv => whnf)
          | (refine And.intro (by first | exact True.intro | (with_reducible assumption) | omega | (simp only [Rng]; omega) | exact Nat.le_of_ble_eq_true rfl | exact True.intro | exact ⟨rfl, True.intro, fun _ _ => rfl⟩ | exact Nat.le_of_ble_eq_true rfl | (refine ⟨by (try simp only [List.length_cons, List.length_nil]); omega, Int.le_trans (Int.mul_le_mul_of_nonneg_left (show (TInfo.bytes _ : Int) ≤ 64 from Int.ofNat_le.2 (Nat.le_of_ble_eq_true rfl)) (by omega)) (by (try simp only [List.length_cons, List.length_nil]); omega)⟩)) ?_; conv => whnf)))
        · rename_i h1
          refine leaf0 rfl ?_ rfl
          rw [h1, hc]
          exact congrArg (fun b => AVal.tup [.bool b, .int .i64 0]) (obs_eq l1 l2)
        · rename_i h1
          refine leaf0 rfl ?_ rfl
          rw [h1, hc]; rfl
        · refine leaf0 rfl ?_ rfl
          rw [hc]; rfl
      · skip
        repeat (any_goals (first
          | (refine V_step T_ok GSOb rfl ?_; conv => whnf)
          | (refine V_drawA T_ok GSOb mixed (by kernel_rfl) ?_; conv => whnf)
          | (refine bcond_split (fun hc => ?_) (fun hc => ?_) <;> (try simp only [decide_eq_true_eq, decide_eq_false_iff_not, Bool.not_eq_true', Bool.not_eq_false', Bool.and_eq_true, Bool.or_eq_true, Bool.and_eq_false_imp, Bool.or_eq_false_iff, ne_eq, Decidable.not_not] at hc) <;> conv => whnf)
          | (intro ysK hysK; have hysl := congrArg List.length hysK; (try simp only [List.length_set, List.length_append, List.length_cons, List.length_nil, List.length_take, List.length_drop, List.length_replicate] at hysl); conv => whnf)
          | (refine And.intro (by first | (first | exact True.intro | exact ha) | exact True.intro | exact ⟨rfl, True.intro, fun _ _ => rfl⟩ | exact Nat.le_of_ble_eq_true rfl | (refine ⟨by (try simp only [List.length_cons, List.length_nil]); omega, Int.le_trans (Int.mul_le_mul_of_nonneg_left (show (TInfo.bytes _ : Int) ≤ 64 from Int.ofNat_le.2 (Nat.le_of_ble_eq_true rfl)) (by omega)) (by (try simp only [List.length_cons, List.length_nil]); omega)⟩)) ?_; conv => whnf)))
        all_goals first
          | exact absurd ha hc
          | exact absurd (by assumption : IsA (m, e)) hb
          | exact leaf0 rfl (by rw [obsB, if_neg (fun h => hb h.2), obsN, if_neg (fun h => hb h.2)] <;> rfl) rfl
    · skip
      repeat (any_goals (first
        | (refine V_step T_ok GSOb rfl ?_; conv => whnf)
        | (refine V_drawA T_ok GSOb mixed (by kernel_rfl) ?_; conv => whnf)
        | (refine bcond_split (fun hc => ?_) (fun hc => ?_) <;> (try simp only [decide_eq_true_eq, decide_eq_false_iff_not, Bool.not_eq_true', Bool.not_eq_false', Bool.and_eq_true, Bool.or_eq_true, Bool.and_eq_false_imp, Bool.or_eq_false_iff, ne_eq, Decidable.not_not] at hc) <;> conv => whnf)
        | (intro ysK hysK; have hysl := congrArg List.length hysK; (try simp only [List.length_set, List.length_append, List.length_cons, List.length_nil, List.length_take, List.length_drop, List.length_replicate] at hysl); conv => whnf)
        | (refine And.intro (by first | (first | exact True.intro) | exact True.intro | exact ⟨rfl, True.intro, fun _ _ => rfl⟩ | exact Nat.le_of_ble_eq_true rfl | (refine ⟨by (try simp only [List.length_cons, List.length_nil]); omega, Int.le_trans (Int.mul_le_mul_of_nonneg_left (show (TInfo.bytes _ : Int) ≤ 64 from Int.ofNat_le.2 (Nat.le_of_ble_eq_true rfl)) (by omega)) (by (try simp only [List.length_cons, List.length_nil]); omega)⟩)) ?_; conv => whnf)))
      all_goals first
        | exact absurd (by assumption : IsA (n, d)) ha
        | exact leaf0 rfl (by rw [obsB, if_neg (fun h => ha h.1), obsN, if_neg (fun h => ha h.1)] <;> rfl) rfl
end Go.Proofs.Ytadlnnjgocknhab.Fw
