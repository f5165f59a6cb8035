/- Contracts: are two numbers joined; the largest class. -/
import Derived.Test.YtllagpbbbdekiacT9
namespace Go.Proofs.Ytllagpbbbdekiac.Fw
open Go Go.RowKit
set_option linter.unusedVariables false
set_option linter.unusedSimpArgs false
set_option maxRecDepth 100000
set_option maxHeartbeats 2000000
abbrev InN (n k : Int) : Prop := 0 ≤ k ∧ k ≤ n - 1
open Classical in
@[irreducible] noncomputable def ajR (t u : Ang) (n k l : Int) : Bool × Int := if IsA t ∧ IsA u then (if OkN n ∧ InN n k ∧ InN n l then (decide (lab (lab2 t u n) k.toNat = lab (lab2 t u n) l.toNat), 0) else (false, 2)) else (false, 1)
theorem ajR_i {t u : Ang} {n k l : Int} (h : ¬ (IsA t ∧ IsA u)) : ajR t u n k l = (false, 1) := by unfold ajR; rw [if_neg h]
theorem ajR_r {t u : Ang} {n k l : Int} (h : IsA t ∧ IsA u) (h2 : ¬ (OkN n ∧ InN n k ∧ InN n l)) : ajR t u n k l = (false, 2) := by unfold ajR; rw [if_pos h, if_neg h2]
theorem ajR_t {t u : Ang} {n k l : Int} (h : IsA t ∧ IsA u) (h2 : OkN n ∧ InN n k ∧ InN n l) : ajR t u n k l = (decide (lab (lab2 t u n) k.toNat = lab (lab2 t u n) l.toNat), 0) := by unfold ajR; rw [if_pos h, if_pos h2]
theorem aj_law (t u : Ang) {n k l : Int} (h : OkN n) (hk : InN n k) (hl : InN n l) : (cls2 t u n).any (bothN k l) = decide (lab (lab2 t u n) k.toNat = lab (lab2 t u n) l.toNat) := by
  unfold cls2
  exact joined_law (lab2_can t u n) (by have := h.1; omega) (by have := h.1; omega)
def ajC : PCtr := fun _ _ lr vals k => match vals with
  | [.agg [.int .i64 a, .int .i64 b], .agg [.int .i64 c, .int .i64 d], .int .i64 n, .int .i64 x, .int .i64 y] => True ∧ ∀ q : Bool × Int, q = ajR (a, b) (c, d) n x y → k [] (.tup [.bool q.1, .int .i64 q.2])
  | _ => False
abbrev GAj := (GOk.cons isParts_ok (GOk.cons pcode_ok (GOk.cons within_ok (GOk.cons joined_ok (GOk.cons bco_ok .nil)))))
abbrev cdP (t u : Ang) (P : Prop) [Decidable P] : Int := if [t, u].all allAY = true then (if P then (0 : Int) else 2) else 1
theorem cdP_0 {t u : Ang} {P : Prop} [Decidable P] : cdP t u P = 0 ↔ (IsA t ∧ IsA u) ∧ P := by
  have := (code2 t u (decide P)).1
  simp only [decide_eq_true_iff] at this
  exact this
theorem aj_code {t u : Ang} {n k l : Int} {P : Prop} [Decidable P] (hP : (OkN n ∧ InN n k ∧ InN n l) → P) (hc : ¬ cdP t u P = 0) : ajR t u n k l = (false, cdP t u P) := by
  by_cases h1 : IsA t ∧ IsA u
  · have h2 : ¬ P := fun h => hc (cdP_0.2 ⟨h1, h⟩)
    have e1 := (code2 t u (decide P)).2.2 h1 (decide_eq_false h2)
    simp only [decide_eq_true_iff] at e1
    rw [ajR_r h1 (fun h => h2 (hP h))]
    exact congrArg (fun z => (false, z)) e1.symm
  · have e1 := (code2 t u (decide P)).2.1 h1
    simp only [decide_eq_true_iff] at e1
    rw [ajR_i h1]
    exact congrArg (fun z => (false, z)) e1.symm
theorem aj_codeB {t u : Ang} {n k l : Int} {P : Prop} [Decidable P] (hP : (OkN n ∧ InN n k ∧ InN n l) → P) (hc : ¬ cdP t u P = 0) : ajR t u n k l = (false, if [t, u].all allAY = true then (if decide P = true then (0 : Int) else 2) else 1) := by
  rw [aj_code hP hc]
  simp only [decide_eq_true_iff]
theorem aj_leaf {q : Bool × Int} {z : Int} (h : q = (false, z)) : AVal.tup [.bool false, .int .i64 z] = .tup [.bool q.1, .int .i64 q.2] := by rw [h]
theorem aj_ok : PCtrOk Try.prog 13 ajC where
  enter := enter_ok Try.func13 (by kernel_rfl) rfl
  calls := by
    intro hg rg lr vals k h
    unfold ajC at h
    split at h
    case h_2 => exact h.elim
    rename_i a b c d n x y
    obtain ⟨_, hk⟩ := h
    replace hk := hk _ rfl
    refine ⟨_, _, hk, fun A w _ _ => ?_⟩
    refine enter T_ok GAj Try.func13 rfl (K := (· < w.heap.size)) (fun _ h => h) (A := A) (n0 := 0) (b0 := 0) (rows := []) (hp := []) rfl (Nat.zero_le _) (fun k r h => by cases h) rfl (fun k r h => by cases h) rfl rfl (Nat.le_of_ble_eq_true rfl) ?_
    conv => whnf
    repeat (refine V_step T_ok GAj rfl ?_; conv => whnf)
    repeat (any_goals (first
      | (refine V_step T_ok GAj rfl ?_; conv => whnf)
      | (refine V_drawN T_ok GAj mixed (by kernel_rfl) ?_; conv => whnf)
      | (refine bcond_split (fun hc => ?_) (fun hc => ?_) <;> (try simp only [decide_eq_true_eq, decide_eq_false_iff_not, Bool.not_eq_true', Bool.not_eq_false', Bool.and_eq_true, Bool.or_eq_true, Bool.and_eq_false_imp, Bool.or_eq_false_iff, ne_eq, Decidable.not_not] at hc) <;> conv => whnf)
      | (intro ysK hysK; have hysl := congrArg List.length hysK; (try simp only [List.length_set, List.length_append, List.length_cons, List.length_nil, List.length_take, List.length_drop, List.length_replicate] at hysl); conv => whnf)
      | (intro bK hbK; have hbl := congrArg ByteArray.size hbK; conv => whnf)
      | (intro sK hsK; conv => whnf)
      | (refine And.intro (by first | (first | exact True.intro | (simp only [Rng]; omega)) | exact True.intro | exact ⟨rfl, True.intro, fun _ _ => rfl⟩ | exact Nat.le_of_ble_eq_true rfl | (refine ⟨by (try simp only [List.length_cons, List.length_nil]); omega, Int.le_trans (Int.mul_le_mul_of_nonneg_left (show (TInfo.bytes _ : Int) ≤ 64 from Int.ofNat_le.2 (Nat.le_of_ble_eq_true rfl)) (by omega)) (by (try simp only [List.length_cons, List.length_nil]); omega)⟩)) ?_; conv => whnf)))
    · rename_i h1 h2
      exact leaf0 rfl (aj_leaf (aj_codeB (P := 0 ≤ y ∧ y ≤ n - 1) (fun h => h.2.2) hc)) rfl
    · rename_i h1 h2
      have h3 := (cdP_0 (P := 0 ≤ y ∧ y ≤ n - 1)).1 hc
      have hsm := (cls2_small (a, b) (c, d) h1).sml
      have hlaw := aj_law (a, b) (c, d) h1 h2 h3.2
      repeat (any_goals (first
        | (refine V_step T_ok GAj rfl ?_; conv => whnf)
        | (refine V_drawN T_ok GAj mixed (by kernel_rfl) ?_; conv => whnf)
        | (refine bcond_split (fun hc => ?_) (fun hc => ?_) <;> (try simp only [decide_eq_true_eq, decide_eq_false_iff_not, Bool.not_eq_true', Bool.not_eq_false', Bool.and_eq_true, Bool.or_eq_true, Bool.and_eq_false_imp, Bool.or_eq_false_iff, ne_eq, Decidable.not_not] at hc) <;> conv => whnf)
        | (intro ysK hysK; have hysl := congrArg List.length hysK; (try simp only [List.length_set, List.length_append, List.length_cons, List.length_nil, List.length_take, List.length_drop, List.length_replicate] at hysl); conv => whnf)
        | (intro bK hbK; have hbl := congrArg ByteArray.size hbK; conv => whnf)
        | (intro sK hsK; conv => whnf)
        | (refine And.intro (by first | (first | exact True.intro | exact ⟨h3.1, h1⟩ | exact hysK ▸ hsm | (simp only [Rng]; omega)) | exact True.intro | exact ⟨rfl, True.intro, fun _ _ => rfl⟩ | exact Nat.le_of_ble_eq_true rfl | (refine ⟨by (try simp only [List.length_cons, List.length_nil]); omega, Int.le_trans (Int.mul_le_mul_of_nonneg_left (show (TInfo.bytes _ : Int) ≤ 64 from Int.ofNat_le.2 (Nat.le_of_ble_eq_true rfl)) (by omega)) (by (try simp only [List.length_cons, List.length_nil]); omega)⟩)) ?_; conv => whnf)))
      all_goals exact leaf0 rfl (by rw [ajR_t h3.1 ⟨h1, h2, h3.2⟩]; exact congrArg (fun z => AVal.tup [.bool z, .int .i64 0]) ((congrArg (fun z => List.any z (bothN x y)) hysK).trans hlaw)) rfl
    · rename_i h1 h2
      exact leaf0 rfl (aj_leaf (aj_code (P := false = true) (fun h => absurd h.2.1 h2) hc)) rfl
    · exact absurd ((cdP_0 (P := false = true)).1 hc).2 (by decide)
    · rename_i h1
      exact leaf0 rfl (aj_leaf (aj_code (P := false = true) (fun h => absurd h.1 h1) hc)) rfl
    · exact absurd ((cdP_0 (P := false = true)).1 hc).2 (by decide)
abbrev GSaj := (GOk.cons codeL_ok (GOk.cons ldr_ok (GOk.cons sIn_ok .nil)))
theorem sAj_ok : PCtrOk Try.prog 14 ajC where
  enter := enter_ok Try.func14 (by kernel_rfl) rfl
  calls := by
    intro hg rg lr vals k h
    unfold ajC at h
    split at h
    case h_2 => exact h.elim
    rename_i a b c d n x y
    obtain ⟨_, hk⟩ := h
    replace hk := hk _ rfl
    refine ⟨_, _, hk, fun A w _ _ => ?_⟩
    refine enter T_ok GSaj Try.func14 rfl (K := (· < w.heap.size)) (fun _ h => h) (A := A) (n0 := 0) (b0 := 0) (rows := []) (hp := []) rfl (Nat.zero_le _) (fun k r h => by cases h) rfl (fun k r h => by cases h) rfl rfl (Nat.le_of_ble_eq_true rfl) ?_
    conv => whnf
    repeat (refine V_step T_ok GSaj rfl ?_; conv => whnf)
    repeat (any_goals (first
      | (refine V_step T_ok GSaj rfl ?_; conv => whnf)
      | (refine V_drawN T_ok GSaj mixed (by kernel_rfl) ?_; conv => whnf)
      | (refine bcond_split (fun hc => ?_) (fun hc => ?_) <;> (try simp only [decide_eq_true_eq, decide_eq_false_iff_not, Bool.not_eq_true', Bool.not_eq_false', Bool.and_eq_true, Bool.or_eq_true, Bool.and_eq_false_imp, Bool.or_eq_false_iff, ne_eq, Decidable.not_not] at hc) <;> conv => whnf)
      | (intro ysK hysK; have hysl := congrArg List.length hysK; (try simp only [List.length_set, List.length_append, List.length_cons, List.length_nil, List.length_take, List.length_drop, List.length_replicate] at hysl); conv => whnf)
      | (intro bK hbK; have hbl := congrArg ByteArray.size hbK; conv => whnf)
      | (intro sK hsK; conv => whnf)
      | (refine And.intro (by first | (first | exact True.intro | (simp only [List.length_cons, List.length_nil]; omega) | (have h := ((cdP_0 (P := 1 ≤ n ∧ n ≤ 63)).1 (by assumption)).2; simp only [Rng]; omega)) | exact True.intro | exact ⟨rfl, True.intro, fun _ _ => rfl⟩ | exact Nat.le_of_ble_eq_true rfl | (refine ⟨by (try simp only [List.length_cons, List.length_nil]); omega, Int.le_trans (Int.mul_le_mul_of_nonneg_left (show (TInfo.bytes _ : Int) ≤ 64 from Int.ofNat_le.2 (Nat.le_of_ble_eq_true rfl)) (by omega)) (by (try simp only [List.length_cons, List.length_nil]); omega)⟩)) ?_; conv => whnf)))
    · rename_i h0
      have h0 := (cdP_0 (P := 1 ≤ n ∧ n ≤ 63)).1 h0
      exact leaf0 rfl (aj_leaf (ajR_r h0.1 (fun h => hc h.2.1))) rfl
    · rename_i h0 h1
      have h0 := (cdP_0 (P := 1 ≤ n ∧ n ≤ 63)).1 h0
      exact leaf0 rfl (aj_leaf (ajR_r h0.1 (fun h => hc h.2.2))) rfl
    · rename_i h0 _ _
      exact absurd h0 hc
    · rename_i h1 h2 h3
      have h0 := (cdP_0 (P := 1 ≤ n ∧ n ≤ 63)).1 hc
      have hpre := two_pre h0
      repeat (any_goals (first
        | (refine V_step T_ok GSaj rfl ?_; conv => whnf)
        | (refine V_drawN T_ok GSaj mixed (by kernel_rfl) ?_; conv => whnf)
        | (refine bcond_split (fun hc => ?_) (fun hc => ?_) <;> (try simp only [decide_eq_true_eq, decide_eq_false_iff_not, Bool.not_eq_true', Bool.not_eq_false', Bool.and_eq_true, Bool.or_eq_true, Bool.and_eq_false_imp, Bool.or_eq_false_iff, ne_eq, Decidable.not_not] at hc) <;> conv => whnf)
        | (intro ysK hysK; have hysl := congrArg List.length hysK; (try simp only [List.length_set, List.length_append, List.length_cons, List.length_nil, List.length_take, List.length_drop, List.length_replicate] at hysl); conv => whnf)
        | (intro bK hbK; have hbl := congrArg ByteArray.size hbK; conv => whnf)
        | (intro sK hsK; conv => whnf)
        | (refine And.intro (by first | (first | exact True.intro | exact hpre | (rw [ldr_len h0.2 hysK]; omega) | (have h4 := ldr_len h0.2 hysK; omega) | (simp only [Rng]; omega)) | exact True.intro | exact ⟨rfl, True.intro, fun _ _ => rfl⟩ | exact Nat.le_of_ble_eq_true rfl | (refine ⟨by (try simp only [List.length_cons, List.length_nil]); omega, Int.le_trans (Int.mul_le_mul_of_nonneg_left (show (TInfo.bytes _ : Int) ≤ 64 from Int.ofNat_le.2 (Nat.le_of_ble_eq_true rfl)) (by omega)) (by (try simp only [List.length_cons, List.length_nil]); omega)⟩)) ?_; conv => whnf)))
      have hy : ysK = lab2 (a, b) (c, d) n := hysK.trans (ldr_lab2 _ _ (by omega))
      exact leaf0 rfl (by rw [ajR_t h0.1 ⟨h0.2, h2, h3⟩]; exact congrArg (fun c => AVal.tup [.bool (decide (lab c x.toNat = lab c y.toNat)), .int .i64 0]) hy) rfl
    · exact leaf0 rfl (aj_leaf (aj_code (P := 1 ≤ n ∧ n ≤ 63) (fun h => h.1) hc)) rfl
    · rename_i h1
      exact absurd hc h1
end Go.Proofs.Ytllagpbbbdekiac.Fw
