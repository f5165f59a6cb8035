/- Contracts: leaves. -/
import Derived.Test.YtlplngafncobkaaC1
namespace Go.Proofs.Ytlplngafncobkaa.Fw
open Go Go.RowKit
set_option linter.unusedVariables false
set_option linter.unusedSimpArgs false
set_option maxRecDepth 100000
set_option maxHeartbeats 2000000

abbrev G2 := GOk.cons isAngle_ok (GOk.cons minus_ok (GOk.cons cmpA_ok (GOk.cons double_ok G1)))

theorem Bd.minus {a b : Ang} (h : Bd a) (h' : Bd b) (h2 : a.2 * b.2 ≤ 1073741824) : Bd (minusA a b) := by
  have := ofQ_bd (a.1 * b.2 - b.1 * a.2) (a.2 * b.2) (mulPos h.2.1 h'.2.1)
  unfold Bd minusA
  omega

theorem cmpI_neg (x y : Int) : cmpI x y < 0 ↔ x < y := by unfold cmpI; (repeat' split) <;> omega
theorem cmpI_pos (x y : Int) : 0 < cmpI x y ↔ y < x := by unfold cmpI; (repeat' split) <;> omega
theorem cmpI_zero (x y : Int) : cmpI x y = 0 ↔ x = y := by unfold cmpI; (repeat' split) <;> omega
theorem cmpA_neg (a b : Ang) : cmpA a b < 0 ↔ lessA a b := cmpI_neg _ _

/-- A small fraction: differences of such can be compared. -/
def Sm (a : Ang) : Prop := (0 ≤ a.1 ∧ a.1 ≤ 32768) ∧ (1 ≤ a.2 ∧ a.2 ≤ 32768)
theorem IsA.sm {a : Ang} (h : IsA a) : Sm a := by
  obtain ⟨⟨h1, h2⟩, ⟨h3, h4⟩, _⟩ := h
  refine ⟨⟨h3, by omega⟩, h1, by omega⟩
theorem Sm.bd {a : Ang} (h : Sm a) : Bd a := by unfold Sm at h; unfold Bd; omega
theorem Sm.minus {a b : Ang} (h : Sm a) (h' : Sm b) : Bd (minusA a b) :=
  h.bd.minus h'.bd (Int.le_trans (Int.mul_le_mul h.2.2 h'.2.2 (by have := h'.2.1; omega) (by omega)) (by omega))

def distC : PCtr := fun _ _ _ vals k => match vals with
  | [.agg [.int .i64 n, .int .i64 d], .agg [.int .i64 m, .int .i64 e]] => (Sm (n, d) ∧ Sm (m, e)) ∧ k [] (aV (distA (n, d) (m, e)))
  | _ => False

theorem dist_ok : PCtrOk Try.prog 146 distC where
  enter := enter_ok Try.func146 (by kernel_rfl) rfl
  calls := by
    intro hg rg lr vals k h
    unfold distC at h
    split at h
    case h_2 => exact h.elim
    rename_i n d m e
    obtain ⟨⟨hn, hd⟩, hk⟩ := h
    refine ⟨_, _, hk, fun A w _ _ => ?_⟩
    refine enter T_ok G2 Try.func146 rfl (K := (· < w.heap.size)) (fun _ h => h) (A := A) (n0 := 0) (b0 := 0) (rows := []) (hp := []) rfl (Nat.zero_le _) (fun k r h => by cases h) rfl (fun k r h => by cases h) rfl rfl (Nat.le_of_ble_eq_true rfl) ?_
    conv => whnf
    repeat (refine V_step T_ok G2 rfl ?_; conv => whnf)
    have u1 := hn.minus hd
    have u2 := hd.minus hn
    have v1 := hn.bd
    have v2 := hd.bd
    repeat (any_goals (first
      | (refine V_step T_ok G2 rfl ?_; conv => whnf)
      | (refine V_drawA T_ok G2 mixed (by kernel_rfl) ?_; conv => whnf)
      | (refine bcond_split (fun hc => ?_) (fun hc => ?_) <;> (try simp only [decide_eq_true_eq, decide_eq_false_iff_not, Bool.not_eq_true', Bool.not_eq_false', Bool.and_eq_true, Bool.or_eq_true, Bool.and_eq_false_imp, Bool.or_eq_false_iff, ne_eq, Decidable.not_not] at hc) <;> conv => whnf)
      | (intro ysK hysK; have hysl := congrArg List.length hysK; (try simp only [List.length_set, List.length_append, List.length_cons, List.length_nil] at hysl); conv => whnf)
      | (refine And.intro (by first | (first | exact True.intro | exact ⟨v1, v2⟩ | exact ⟨v2, v1⟩ | exact ⟨u1, u2⟩) | exact True.intro | exact Nat.le_of_ble_eq_true rfl | (refine ⟨by (try simp only [List.length_cons, List.length_nil]); omega, Int.le_trans (Int.mul_le_mul_of_nonneg_left (show (TInfo.bytes _ : Int) ≤ 64 from Int.ofNat_le.2 (Nat.le_of_ble_eq_true rfl)) (by omega)) (by (try simp only [List.length_cons, List.length_nil]); omega)⟩)) ?_; conv => whnf)))
    all_goals refine leaf0 rfl ?_ rfl
    · rename_i hc; rw [show distA (n, d) (m, e) = minusA (n, d) (m, e) from if_pos hc]
    · rename_i hc; rw [show distA (n, d) (m, e) = minusA (m, e) (n, d) from if_neg hc]

def orderC : PCtr := fun _ _ _ vals k => match vals with
  | [.agg [.int .i64 n, .int .i64 d], .agg [.int .i64 m, .int .i64 e], .agg [.int .i64 p, .int .i64 q]] => (Sm (n, d) ∧ Sm (m, e) ∧ Sm (p, q)) ∧ k [] (.int .i64 (orderA (n, d) (m, e) (p, q)))
  | _ => False

theorem order_ok : PCtrOk Try.prog 160 orderC where
  enter := enter_ok Try.func160 (by kernel_rfl) rfl
  calls := by
    intro hg rg lr vals k h
    unfold orderC at h
    split at h
    case h_2 => exact h.elim
    rename_i n d m e p q
    obtain ⟨⟨h1, h2, h3⟩, hk⟩ := h
    refine ⟨_, _, hk, fun A w _ _ => ?_⟩
    refine enter T_ok G2 Try.func160 rfl (K := (· < w.heap.size)) (fun _ h => h) (A := A) (n0 := 0) (b0 := 0) (rows := []) (hp := []) rfl (Nat.zero_le _) (fun k r h => by cases h) rfl (fun k r h => by cases h) rfl rfl (Nat.le_of_ble_eq_true rfl) ?_
    conv => whnf
    repeat (refine V_step T_ok G2 rfl ?_; conv => whnf)
    have v1 := h1.bd
    have v2 := h2.bd
    have v3 := h3.bd
    have u1 := h2.minus h1
    have u2 := h3.minus h1
    repeat (any_goals (first
      | (refine V_step T_ok G2 rfl ?_; conv => whnf)
      | (refine V_drawA T_ok G2 mixed (by kernel_rfl) ?_; conv => whnf)
      | (refine bcond_split (fun hc => ?_) (fun hc => ?_) <;> (try simp only [decide_eq_true_eq, decide_eq_false_iff_not, Bool.not_eq_true', Bool.not_eq_false', Bool.and_eq_true, Bool.or_eq_true, Bool.and_eq_false_imp, Bool.or_eq_false_iff, ne_eq, Decidable.not_not] at hc) <;> conv => whnf)
      | (intro ysK hysK; have hysl := congrArg List.length hysK; (try simp only [List.length_set, List.length_append, List.length_cons, List.length_nil] at hysl); conv => whnf)
      | (refine And.intro (by first | (first | exact True.intro | exact ⟨v2, v1⟩ | exact ⟨v3, v1⟩ | exact ⟨u1, u2⟩) | exact True.intro | exact Nat.le_of_ble_eq_true rfl | (refine ⟨by (try simp only [List.length_cons, List.length_nil]); omega, Int.le_trans (Int.mul_le_mul_of_nonneg_left (show (TInfo.bytes _ : Int) ≤ 64 from Int.ofNat_le.2 (Nat.le_of_ble_eq_true rfl)) (by omega)) (by (try simp only [List.length_cons, List.length_nil]); omega)⟩)) ?_; conv => whnf)))
    all_goals refine leaf0 rfl (congrArg (AVal.int .i64) ?_) rfl
    all_goals simp only [orderA, Prod.mk.injEq]
    all_goals (simp [*] <;> exact ⟨by assumption, by assumption, by assumption⟩)

def SmL (l : Lf) : Prop := Sm l.1 ∧ Sm l.2
theorem IsL.sm {l : Lf} (h : IsL l) : SmL l := ⟨h.1.sm, h.2.1.sm⟩

def sizeC : PCtr := fun _ _ _ vals k => match vals with
  | [.agg [.int .i64 n, .int .i64 d, .int .i64 m, .int .i64 e]] => SmL ((n, d), (m, e)) ∧ k [] (aV (sizeL ((n, d), (m, e))))
  | _ => False

theorem size_ok : PCtrOk Try.prog 86 sizeC where
  enter := enter_ok Try.func86 (by kernel_rfl) rfl
  calls := by
    intro hg rg lr vals k h
    unfold sizeC at h
    split at h
    case h_2 => exact h.elim
    rename_i n d m e
    obtain ⟨⟨h1, h2⟩, hk⟩ := h
    refine ⟨_, _, hk, fun A w _ _ => ?_⟩
    refine enter T_ok (GOk.cons dist_ok G2) Try.func86 rfl (K := (· < w.heap.size)) (fun _ h => h) (A := A) (n0 := 0) (b0 := 0) (rows := []) (hp := []) rfl (Nat.zero_le _) (fun k r h => by cases h) rfl (fun k r h => by cases h) rfl rfl (Nat.le_of_ble_eq_true rfl) ?_
    conv => whnf
    repeat (refine V_step T_ok (GOk.cons dist_ok G2) rfl ?_; conv => whnf)
    repeat (any_goals (first
      | (refine V_step T_ok (GOk.cons dist_ok G2) rfl ?_; conv => whnf)
      | (refine V_drawA T_ok (GOk.cons dist_ok G2) mixed (by kernel_rfl) ?_; conv => whnf)
      | (refine bcond_split (fun hc => ?_) (fun hc => ?_) <;> (try simp only [decide_eq_true_eq, decide_eq_false_iff_not, Bool.not_eq_true', Bool.not_eq_false', Bool.and_eq_true, Bool.or_eq_true, Bool.and_eq_false_imp, Bool.or_eq_false_iff, ne_eq, Decidable.not_not] at hc) <;> conv => whnf)
      | (intro ysK hysK; have hysl := congrArg List.length hysK; (try simp only [List.length_set, List.length_append, List.length_cons, List.length_nil] at hysl); conv => whnf)
      | (refine And.intro (by first | (first | exact ⟨h1, h2⟩) | exact True.intro | exact Nat.le_of_ble_eq_true rfl | (refine ⟨by (try simp only [List.length_cons, List.length_nil]); omega, Int.le_trans (Int.mul_le_mul_of_nonneg_left (show (TInfo.bytes _ : Int) ≤ 64 from Int.ofNat_le.2 (Nat.le_of_ble_eq_true rfl)) (by omega)) (by (try simp only [List.length_cons, List.length_nil]); omega)⟩)) ?_; conv => whnf)))
    all_goals exact leaf0 rfl rfl rfl

def isLeafC : PCtr := fun _ _ _ vals k => match vals with
  | [.agg [.int .i64 n, .int .i64 d, .int .i64 m, .int .i64 e]] => True ∧ k [] (.bool (decide (IsL ((n, d), (m, e)))))
  | _ => False

theorem isLeaf_ok : PCtrOk Try.prog 39 isLeafC where
  enter := enter_ok Try.func39 (by kernel_rfl) rfl
  calls := by
    intro hg rg lr vals k h
    unfold isLeafC at h
    split at h
    case h_2 => exact h.elim
    rename_i n d m e
    obtain ⟨_, hk⟩ := h
    refine ⟨_, _, hk, fun A w _ _ => ?_⟩
    refine enter T_ok G2 Try.func39 rfl (K := (· < w.heap.size)) (fun _ h => h) (A := A) (n0 := 0) (b0 := 0) (rows := []) (hp := []) rfl (Nat.zero_le _) (fun k r h => by cases h) rfl (fun k r h => by cases h) rfl rfl (Nat.le_of_ble_eq_true rfl) ?_
    conv => whnf
    repeat (refine V_step T_ok G2 rfl ?_; conv => whnf)
    repeat (any_goals (first
      | (refine V_step T_ok G2 rfl ?_; conv => whnf)
      | (refine V_drawA T_ok G2 mixed (by kernel_rfl) ?_; conv => whnf)
      | (refine bcond_split (fun hc => ?_) (fun hc => ?_) <;> (try simp only [decide_eq_true_eq, decide_eq_false_iff_not, Bool.not_eq_true', Bool.not_eq_false', Bool.and_eq_true, Bool.or_eq_true, Bool.and_eq_false_imp, Bool.or_eq_false_iff, ne_eq, Decidable.not_not] at hc) <;> conv => whnf)
      | (intro ysK hysK; have hysl := congrArg List.length hysK; (try simp only [List.length_set, List.length_append, List.length_cons, List.length_nil] at hysl); conv => whnf)
      | (refine And.intro (by first | (first | exact True.intro | exact ⟨IsA.bd (by assumption), IsA.bd (by assumption)⟩) | exact True.intro | exact Nat.le_of_ble_eq_true rfl | (refine ⟨by (try simp only [List.length_cons, List.length_nil]); omega, Int.le_trans (Int.mul_le_mul_of_nonneg_left (show (TInfo.bytes _ : Int) ≤ 64 from Int.ofNat_le.2 (Nat.le_of_ble_eq_true rfl)) (by omega)) (by (try simp only [List.length_cons, List.length_nil]); omega)⟩)) ?_; conv => whnf)))
    all_goals refine leaf0 rfl (congrArg AVal.bool ?_) rfl
    all_goals simp [IsL, cmpA_neg, *]

end Go.Proofs.Ytlplngafncobkaa.Fw
