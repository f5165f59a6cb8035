/- Contracts: diameters, images of leaves. -/
import Derived.Test.YtlplngafncobkaaC9
namespace Go.Proofs.Ytlplngafncobkaa.Fw
open Go Go.RowKit
set_option linter.unusedVariables false
set_option linter.unusedSimpArgs false
set_option maxRecDepth 100000
set_option maxHeartbeats 2000000

def halfC : PCtr := fun _ _ _ vals k => match vals with
  | [] => True ∧ k [] (aV (1, 2))
  | _ => False

theorem half_ok : PCtrOk Try.prog 156 halfC where
  enter := enter_ok Try.func156 (by kernel_rfl) rfl
  calls := by
    intro hg rg lr vals k h
    unfold halfC at h
    split at h
    case h_2 => exact h.elim
    obtain ⟨_, hk⟩ := h
    refine ⟨_, _, hk, fun A w _ _ => ?_⟩
    refine enter T_ok .nil Try.func156 rfl (K := (· < w.heap.size)) (fun _ h => h) (A := A) (vals := []) (n0 := 0) (b0 := 0) (rows := []) (hp := []) rfl (Nat.zero_le _) (fun k r h => by cases h) rfl (fun k r h => by cases h) rfl rfl (Nat.le_of_ble_eq_true rfl) ?_
    conv => whnf
    repeat (refine V_step T_ok .nil rfl ?_; conv => whnf)
    exact leaf0 rfl rfl rfl

def leafOf (a b : Ang) : Lf := if 0 < cmpA a b then (b, a) else (a, b)
def leafC : PCtr := fun _ _ _ vals k => match vals with
  | [.agg [.int .i64 n, .int .i64 d], .agg [.int .i64 m, .int .i64 e]] => (Bd (n, d) ∧ Bd (m, e)) ∧ k [] (lV (leafOf (n, d) (m, e)))
  | _ => False
theorem leaf_ok : PCtrOk Try.prog 133 leafC where
  enter := enter_ok Try.func133 (by kernel_rfl) rfl
  calls := by
    intro hg rg lr vals k h
    unfold leafC at h
    split at h
    case h_2 => exact h.elim
    rename_i n d m e
    obtain ⟨⟨h1, h2⟩, hk⟩ := h
    refine ⟨_, _, hk, fun A w _ _ => ?_⟩
    refine enter T_ok (GOk.cons cmpA_ok .nil) Try.func133 rfl (K := (· < w.heap.size)) (fun _ h => h) (A := A) (n0 := 0) (b0 := 0) (rows := []) (hp := []) rfl (Nat.zero_le _) (fun k r h => by cases h) rfl (fun k r h => by cases h) rfl rfl (Nat.le_of_ble_eq_true rfl) ?_
    conv => whnf
    repeat (refine V_step T_ok (GOk.cons cmpA_ok .nil) rfl ?_; conv => whnf)
    repeat (any_goals (first
      | (refine V_step T_ok (GOk.cons cmpA_ok .nil) rfl ?_; conv => whnf)
      | (refine V_drawA T_ok (GOk.cons cmpA_ok .nil) mixed (by kernel_rfl) ?_; conv => whnf)
      | (refine bcond_split (fun hc => ?_) (fun hc => ?_) <;> (try simp only [decide_eq_true_eq, decide_eq_false_iff_not, Bool.not_eq_true', Bool.not_eq_false', Bool.and_eq_true, Bool.or_eq_true, Bool.and_eq_false_imp, Bool.or_eq_false_iff, ne_eq, Decidable.not_not] at hc) <;> conv => whnf)
      | (intro ysK hysK; have hysl := congrArg List.length hysK; (try simp only [List.length_set, List.length_append, List.length_cons, List.length_nil] at hysl); conv => whnf)
      | (refine And.intro (by first | (first | exact True.intro | exact ⟨h1, h2⟩) | exact True.intro | exact Nat.le_of_ble_eq_true rfl | (refine ⟨by (try simp only [List.length_cons, List.length_nil]); omega, Int.le_trans (Int.mul_le_mul_of_nonneg_left (show (TInfo.bytes _ : Int) ≤ 64 from Int.ofNat_le.2 (Nat.le_of_ble_eq_true rfl)) (by omega)) (by (try simp only [List.length_cons, List.length_nil]); omega)⟩)) ?_; conv => whnf)))
    · refine leaf0 rfl ?_ rfl
      rw [show leafOf (n, d) (m, e) = ((m, e), (n, d)) from if_pos hc]
    · refine leaf0 rfl ?_ rfl
      rw [show leafOf (n, d) (m, e) = ((n, d), (m, e)) from if_neg hc]

def isDiaL (l : Lf) : Bool := decide (sizeL l = (1, 2))
def isDiaC : PCtr := fun _ _ _ vals k => match vals with
  | [.agg [.int .i64 n, .int .i64 d, .int .i64 m, .int .i64 e]] => SmL ((n, d), (m, e)) ∧ k [] (.bool (isDiaL ((n, d), (m, e))))
  | _ => False
theorem isDia_ok : PCtrOk Try.prog 99 isDiaC where
  enter := enter_ok Try.func99 (by kernel_rfl) rfl
  calls := by
    intro hg rg lr vals k h
    unfold isDiaC at h
    split at h
    case h_2 => exact h.elim
    rename_i n d m e
    obtain ⟨h1, hk⟩ := h
    refine ⟨_, _, hk, fun A w _ _ => ?_⟩
    refine enter T_ok (GOk.cons size_ok (GOk.cons half_ok .nil)) Try.func99 rfl (K := (· < w.heap.size)) (fun _ h => h) (A := A) (n0 := 0) (b0 := 0) (rows := []) (hp := []) rfl (Nat.zero_le _) (fun k r h => by cases h) rfl (fun k r h => by cases h) rfl rfl (Nat.le_of_ble_eq_true rfl) ?_
    conv => whnf
    repeat (refine V_step T_ok (GOk.cons size_ok (GOk.cons half_ok .nil)) rfl ?_; conv => whnf)
    repeat (any_goals (first
      | (refine V_step T_ok (GOk.cons size_ok (GOk.cons half_ok .nil)) rfl ?_; conv => whnf)
      | (refine V_drawA T_ok (GOk.cons size_ok (GOk.cons half_ok .nil)) mixed (by kernel_rfl) ?_; conv => whnf)
      | (refine bcond_split (fun hc => ?_) (fun hc => ?_) <;> (try simp only [decide_eq_true_eq, decide_eq_false_iff_not, Bool.not_eq_true', Bool.not_eq_false', Bool.and_eq_true, Bool.or_eq_true, Bool.and_eq_false_imp, Bool.or_eq_false_iff, ne_eq, Decidable.not_not] at hc) <;> conv => whnf)
      | (intro ysK hysK; have hysl := congrArg List.length hysK; (try simp only [List.length_set, List.length_append, List.length_cons, List.length_nil] at hysl); conv => whnf)
      | (refine And.intro (by first | (first | exact True.intro | exact h1) | exact True.intro | exact Nat.le_of_ble_eq_true rfl | (refine ⟨by (try simp only [List.length_cons, List.length_nil]); omega, Int.le_trans (Int.mul_le_mul_of_nonneg_left (show (TInfo.bytes _ : Int) ≤ 64 from Int.ofNat_le.2 (Nat.le_of_ble_eq_true rfl)) (by omega)) (by (try simp only [List.length_cons, List.length_nil]); omega)⟩)) ?_; conv => whnf)))
    all_goals refine leaf0 rfl (congrArg AVal.bool ?_) rfl
    all_goals (simp only [isDiaL, Prod.ext_iff]; simp)

theorem Sm.double {a : Ang} (h : Sm a) : Sm (doubleA a) := by
  have := ofQ_bd (2 * a.1) a.2 h.2.1
  unfold Sm at h
  unfold Sm doubleA
  omega
def imageL (l : Lf) : Lf := leafOf (doubleA l.1) (doubleA l.2)
def imageC : PCtr := fun _ _ _ vals k => match vals with
  | [.agg [.int .i64 n, .int .i64 d, .int .i64 m, .int .i64 e]] => SmL ((n, d), (m, e)) ∧ k [] (lV (imageL ((n, d), (m, e))))
  | _ => False
theorem image_ok : PCtrOk Try.prog 101 imageC where
  enter := enter_ok Try.func101 (by kernel_rfl) rfl
  calls := by
    intro hg rg lr vals k h
    unfold imageC at h
    split at h
    case h_2 => exact h.elim
    rename_i n d m e
    obtain ⟨⟨h1, h2⟩, hk⟩ := h
    refine ⟨_, _, hk, fun A w _ _ => ?_⟩
    refine enter T_ok (GOk.cons leaf_ok (GOk.cons double_ok .nil)) Try.func101 rfl (K := (· < w.heap.size)) (fun _ h => h) (A := A) (n0 := 0) (b0 := 0) (rows := []) (hp := []) rfl (Nat.zero_le _) (fun k r h => by cases h) rfl (fun k r h => by cases h) rfl rfl (Nat.le_of_ble_eq_true rfl) ?_
    conv => whnf
    repeat (refine V_step T_ok (GOk.cons leaf_ok (GOk.cons double_ok .nil)) rfl ?_; conv => whnf)
    have b1 := h1.bd
    have b2 := h2.bd
    have b3 := h1.double.bd
    have b4 := h2.double.bd
    repeat (any_goals (first
      | (refine V_step T_ok (GOk.cons leaf_ok (GOk.cons double_ok .nil)) rfl ?_; conv => whnf)
      | (refine V_drawA T_ok (GOk.cons leaf_ok (GOk.cons double_ok .nil)) mixed (by kernel_rfl) ?_; conv => whnf)
      | (refine bcond_split (fun hc => ?_) (fun hc => ?_) <;> (try simp only [decide_eq_true_eq, decide_eq_false_iff_not, Bool.not_eq_true', Bool.not_eq_false', Bool.and_eq_true, Bool.or_eq_true, Bool.and_eq_false_imp, Bool.or_eq_false_iff, ne_eq, Decidable.not_not] at hc) <;> conv => whnf)
      | (intro ysK hysK; have hysl := congrArg List.length hysK; (try simp only [List.length_set, List.length_append, List.length_cons, List.length_nil] at hysl); conv => whnf)
      | (refine And.intro (by first | (first | exact True.intro | exact b1 | exact b2 | exact ⟨b3, b4⟩) | exact True.intro | exact Nat.le_of_ble_eq_true rfl | (refine ⟨by (try simp only [List.length_cons, List.length_nil]); omega, Int.le_trans (Int.mul_le_mul_of_nonneg_left (show (TInfo.bytes _ : Int) ≤ 64 from Int.ofNat_le.2 (Nat.le_of_ble_eq_true rfl)) (by omega)) (by (try simp only [List.length_cons, List.length_nil]); omega)⟩)) ?_; conv => whnf)))
    all_goals exact leaf0 rfl rfl rfl

end Go.Proofs.Ytlplngafncobkaa.Fw
