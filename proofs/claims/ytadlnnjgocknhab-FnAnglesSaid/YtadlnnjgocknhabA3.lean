/- Contracts: distances, fractions, doubles, halves, orbits, periods: both sides. -/
import Derived.Test.YtadlnnjgocknhabA2
namespace Go.Proofs.Ytadlnnjgocknhab.Fw
open Go Go.RowKit
set_option linter.unusedVariables false
set_option linter.unusedSimpArgs false
set_option maxRecDepth 100000
set_option maxHeartbeats 2000000

@[irreducible] def disO (a b : Ang) : Ang × Int := if IsA a ∧ IsA b then tolA (distA a b) else ((0, 0), 1)
theorem disO_t {a b : Ang} (h : IsA a ∧ IsA b) : disO a b = tolA (distA a b) := by unfold disO; rw [if_pos h]
theorem disO_f {a b : Ang} (h : ¬ (IsA a ∧ IsA b)) : disO a b = ((0, 0), 1) := by unfold disO; rw [if_neg h]
def disOC : PCtr := fun _ _ _ vals k => match vals with
  | [.agg [.int .i64 n, .int .i64 d], .agg [.int .i64 m, .int .i64 e]] => True ∧ ∀ q : Ang × Int, q = disO (n, d) (m, e) → k [] (.tup [aV q.1, .int .i64 q.2])
  | _ => False
abbrev GDis := (GOk.cons anC_ok (GOk.cons dist_ok (GOk.cons tol_ok .nil)))
theorem disO_ok : PCtrOk Try.prog 35 disOC where
  enter := enter_ok Try.func35 (by kernel_rfl) rfl
  calls := by
    intro hg rg lr vals k h
    unfold disOC at h
    split at h
    case h_2 => exact h.elim
    rename_i n d m e
    obtain ⟨_, hk⟩ := h
    replace hk := hk _ rfl
    refine ⟨_, _, hk, fun A w _ _ => ?_⟩
    refine enter T_ok GDis Try.func35 rfl (K := (· < w.heap.size)) (fun _ h => h) (A := A) (n0 := 0) (b0 := 0) (rows := []) (hp := []) rfl (Nat.zero_le _) (fun k r h => by cases h) rfl (fun k r h => by cases h) rfl rfl (Nat.le_of_ble_eq_true rfl) ?_
    conv => whnf
    repeat (refine V_step T_ok GDis rfl ?_; conv => whnf)
    repeat (any_goals (first
      | (refine V_step T_ok GDis rfl ?_; conv => whnf)
      | (refine V_drawA T_ok GDis mixed (by kernel_rfl) ?_; conv => whnf)
      | (refine bcond_split (fun hc => ?_) (fun hc => ?_) <;> (try simp only [decide_eq_true_eq, decide_eq_false_iff_not, Bool.not_eq_true', Bool.not_eq_false', Bool.and_eq_true, Bool.or_eq_true, Bool.and_eq_false_imp, Bool.or_eq_false_iff, ne_eq, Decidable.not_not] at hc) <;> conv => whnf)
      | (intro ysK hysK; have hysl := congrArg List.length hysK; (try simp only [List.length_set, List.length_append, List.length_cons, List.length_nil, List.length_take, List.length_drop, List.length_replicate] at hysl); conv => whnf)
      | (intro bK hbK; have hbl := congrArg ByteArray.size hbK; conv => whnf)
      | (intro sK hsK; conv => whnf)
      | (refine And.intro (by first | (first | exact True.intro | exact ⟨((anA2 _ _).1 (by assumption)).1.sm, ((anA2 _ _).1 (by assumption)).2.sm⟩) | exact True.intro | exact ⟨rfl, True.intro, fun _ _ => rfl⟩ | exact Nat.le_of_ble_eq_true rfl | (refine ⟨by (try simp only [List.length_cons, List.length_nil]); omega, Int.le_trans (Int.mul_le_mul_of_nonneg_left (show (TInfo.bytes _ : Int) ≤ 64 from Int.ofNat_le.2 (Nat.le_of_ble_eq_true rfl)) (by omega)) (by (try simp only [List.length_cons, List.length_nil]); omega)⟩)) ?_; conv => whnf)))
    · have hn : ¬ (IsA (n, d) ∧ IsA (m, e)) := fun h => hc ((anA2 _ _).2 h)
      exact leaf0 rfl (by rw [disO_f hn]; exact congrArg (fun z => AVal.tup [aV (0, 0), .int .i64 z]) (anA2' hn)) rfl
    · have hA := (anA2 _ _).1 (by assumption)
      exact leaf0 rfl (by rw [disO_t hA, hsK]) rfl
abbrev GSDis := (GOk.cons sIs_ok (GOk.cons sDist_ok (GOk.cons sTol_ok .nil)))
theorem sDisO_ok : PCtrOk Try.prog 36 disOC where
  enter := enter_ok Try.func36 (by kernel_rfl) rfl
  calls := by
    intro hg rg lr vals k h
    unfold disOC at h
    split at h
    case h_2 => exact h.elim
    rename_i n d m e
    obtain ⟨_, hk⟩ := h
    replace hk := hk _ rfl
    refine ⟨_, _, hk, fun A w _ _ => ?_⟩
    refine enter T_ok GSDis Try.func36 rfl (K := (· < w.heap.size)) (fun _ h => h) (A := A) (n0 := 0) (b0 := 0) (rows := []) (hp := []) rfl (Nat.zero_le _) (fun k r h => by cases h) rfl (fun k r h => by cases h) rfl rfl (Nat.le_of_ble_eq_true rfl) ?_
    conv => whnf
    repeat (refine V_step T_ok GSDis rfl ?_; conv => whnf)
    repeat (any_goals (first
      | (refine V_step T_ok GSDis rfl ?_; conv => whnf)
      | (refine V_drawA T_ok GSDis mixed (by kernel_rfl) ?_; conv => whnf)
      | (refine bcond_split (fun hc => ?_) (fun hc => ?_) <;> (try simp only [decide_eq_true_eq, decide_eq_false_iff_not, Bool.not_eq_true', Bool.not_eq_false', Bool.and_eq_true, Bool.or_eq_true, Bool.and_eq_false_imp, Bool.or_eq_false_iff, ne_eq, Decidable.not_not] at hc) <;> conv => whnf)
      | (intro ysK hysK; have hysl := congrArg List.length hysK; (try simp only [List.length_set, List.length_append, List.length_cons, List.length_nil, List.length_take, List.length_drop, List.length_replicate] at hysl); conv => whnf)
      | (intro bK hbK; have hbl := congrArg ByteArray.size hbK; conv => whnf)
      | (intro sK hsK; conv => whnf)
      | (refine And.intro (by first | (first | exact True.intro | exact ⟨IsA.sm (by assumption), IsA.sm (by assumption)⟩) | exact True.intro | exact ⟨rfl, True.intro, fun _ _ => rfl⟩ | exact Nat.le_of_ble_eq_true rfl | (refine ⟨by (try simp only [List.length_cons, List.length_nil]); omega, Int.le_trans (Int.mul_le_mul_of_nonneg_left (show (TInfo.bytes _ : Int) ≤ 64 from Int.ofNat_le.2 (Nat.le_of_ble_eq_true rfl)) (by omega)) (by (try simp only [List.length_cons, List.length_nil]); omega)⟩)) ?_; conv => whnf)))
    · exact leaf0 rfl (by rw [disO_f fun h => hc h.1]) rfl
    · exact leaf0 rfl (by rw [disO_f fun h => hc h.2]) rfl
    · exact leaf0 rfl (by rw [disO_t ⟨by assumption, by assumption⟩, hsK, ← sDist_eq (by assumption) (by assumption)]) rfl

/-! ### fractions -/
def okF (n d : Int) : Prop := (-1000000000 ≤ n ∧ n ≤ 1000000000) ∧ 1 ≤ d ∧ d ≤ 1000000000
instance (n d : Int) : Decidable (okF n d) := by unfold okF; infer_instance
@[irreducible] def angO (n d : Int) : Ang × Int := if okF n d then tolA (ofQ n d) else ((0, 0), 2)
theorem angO_t {n d : Int} (h : okF n d) : angO n d = tolA (ofQ n d) := by unfold angO; rw [if_pos h]
theorem angO_f {n d : Int} (h : ¬ okF n d) : angO n d = ((0, 0), 2) := by unfold angO; rw [if_neg h]
def angOC : PCtr := fun _ _ _ vals k => match vals with
  | [.int .i64 n, .int .i64 d] => True ∧ ∀ q : Ang × Int, q = angO n d → k [] (.tup [aV q.1, .int .i64 q.2])
  | _ => False
abbrev GAo := (GOk.cons within_ok (GOk.cons angle_ok (GOk.cons tol_ok .nil)))
theorem angO_ok : PCtrOk Try.prog 38 angOC where
  enter := enter_ok Try.func38 (by kernel_rfl) rfl
  calls := by
    intro hg rg lr vals k h
    unfold angOC at h
    split at h
    case h_2 => exact h.elim
    rename_i n d
    obtain ⟨_, hk⟩ := h
    replace hk := hk _ rfl
    refine ⟨_, _, hk, fun A w _ _ => ?_⟩
    refine enter T_ok GAo Try.func38 rfl (K := (· < w.heap.size)) (fun _ h => h) (A := A) (n0 := 0) (b0 := 0) (rows := []) (hp := []) rfl (Nat.zero_le _) (fun k r h => by cases h) rfl (fun k r h => by cases h) rfl rfl (Nat.le_of_ble_eq_true rfl) ?_
    conv => whnf
    repeat (refine V_step T_ok GAo rfl ?_; conv => whnf)
    repeat (any_goals (first
      | (refine V_step T_ok GAo rfl ?_; conv => whnf)
      | (refine V_drawA T_ok GAo mixed (by kernel_rfl) ?_; conv => whnf)
      | (refine bcond_split (fun hc => ?_) (fun hc => ?_) <;> (try simp only [decide_eq_true_eq, decide_eq_false_iff_not, Bool.not_eq_true', Bool.not_eq_false', Bool.and_eq_true, Bool.or_eq_true, Bool.and_eq_false_imp, Bool.or_eq_false_iff, ne_eq, Decidable.not_not] at hc) <;> conv => whnf)
      | (intro ysK hysK; have hysl := congrArg List.length hysK; (try simp only [List.length_set, List.length_append, List.length_cons, List.length_nil, List.length_take, List.length_drop, List.length_replicate] at hysl); conv => whnf)
      | (intro bK hbK; have hbl := congrArg ByteArray.size hbK; conv => whnf)
      | (intro sK hsK; conv => whnf)
      | (refine And.intro (by first | (first | exact True.intro | omega) | exact True.intro | exact ⟨rfl, True.intro, fun _ _ => rfl⟩ | exact Nat.le_of_ble_eq_true rfl | (refine ⟨by (try simp only [List.length_cons, List.length_nil]); omega, Int.le_trans (Int.mul_le_mul_of_nonneg_left (show (TInfo.bytes _ : Int) ≤ 64 from Int.ofNat_le.2 (Nat.le_of_ble_eq_true rfl)) (by omega)) (by (try simp only [List.length_cons, List.length_nil]); omega)⟩)) ?_; conv => whnf)))
    · exact leaf0 rfl (by rw [angO_f fun h => hc h.1]) rfl
    · exact leaf0 rfl (by rw [angO_f fun h => hc h.2]) rfl
    · exact leaf0 rfl (by rw [angO_t ⟨by assumption, by assumption⟩, hsK]) rfl
abbrev GSAo := (GOk.cons sIn_ok (GOk.cons sOf_ok (GOk.cons sTol_ok .nil)))
theorem sAngO_ok : PCtrOk Try.prog 39 angOC where
  enter := enter_ok Try.func39 (by kernel_rfl) rfl
  calls := by
    intro hg rg lr vals k h
    unfold angOC at h
    split at h
    case h_2 => exact h.elim
    rename_i n d
    obtain ⟨_, hk⟩ := h
    replace hk := hk _ rfl
    refine ⟨_, _, hk, fun A w _ _ => ?_⟩
    refine enter T_ok GSAo Try.func39 rfl (K := (· < w.heap.size)) (fun _ h => h) (A := A) (n0 := 0) (b0 := 0) (rows := []) (hp := []) rfl (Nat.zero_le _) (fun k r h => by cases h) rfl (fun k r h => by cases h) rfl rfl (Nat.le_of_ble_eq_true rfl) ?_
    conv => whnf
    repeat (refine V_step T_ok GSAo rfl ?_; conv => whnf)
    repeat (any_goals (first
      | (refine V_step T_ok GSAo rfl ?_; conv => whnf)
      | (refine V_drawA T_ok GSAo mixed (by kernel_rfl) ?_; conv => whnf)
      | (refine bcond_split (fun hc => ?_) (fun hc => ?_) <;> (try simp only [decide_eq_true_eq, decide_eq_false_iff_not, Bool.not_eq_true', Bool.not_eq_false', Bool.and_eq_true, Bool.or_eq_true, Bool.and_eq_false_imp, Bool.or_eq_false_iff, ne_eq, Decidable.not_not] at hc) <;> conv => whnf)
      | (intro ysK hysK; have hysl := congrArg List.length hysK; (try simp only [List.length_set, List.length_append, List.length_cons, List.length_nil, List.length_take, List.length_drop, List.length_replicate] at hysl); conv => whnf)
      | (intro bK hbK; have hbl := congrArg ByteArray.size hbK; conv => whnf)
      | (intro sK hsK; conv => whnf)
      | (refine And.intro (by first | (first | exact True.intro | omega) | exact True.intro | exact ⟨rfl, True.intro, fun _ _ => rfl⟩ | exact Nat.le_of_ble_eq_true rfl | (refine ⟨by (try simp only [List.length_cons, List.length_nil]); omega, Int.le_trans (Int.mul_le_mul_of_nonneg_left (show (TInfo.bytes _ : Int) ≤ 64 from Int.ofNat_le.2 (Nat.le_of_ble_eq_true rfl)) (by omega)) (by (try simp only [List.length_cons, List.length_nil]); omega)⟩)) ?_; conv => whnf)))
    · exact leaf0 rfl (by rw [angO_f fun h => hc h.1]) rfl
    · exact leaf0 rfl (by rw [angO_f fun h => hc h.2]) rfl
    · exact leaf0 rfl (by rw [angO_t ⟨by assumption, by assumption⟩, hsK]) rfl

/-! ### doubles, angles -/
@[irreducible] def dblO (a : Ang) : Ang × Int := if IsA a then (doubleA a, 0) else ((0, 0), 1)
theorem dblO_t {a : Ang} (h : IsA a) : dblO a = (doubleA a, 0) := by unfold dblO; rw [if_pos h]
theorem dblO_f {a : Ang} (h : ¬ IsA a) : dblO a = ((0, 0), 1) := by unfold dblO; rw [if_neg h]
def dblOC : PCtr := fun _ _ _ vals k => match vals with
  | [.agg [.int .i64 n, .int .i64 d]] => True ∧ ∀ q : Ang × Int, q = dblO (n, d) → k [] (.tup [aV q.1, .int .i64 q.2])
  | _ => False
abbrev GDb := (GOk.cons anC_ok (GOk.cons double_ok .nil))
theorem dblO_ok : PCtrOk Try.prog 25 dblOC where
  enter := enter_ok Try.func25 (by kernel_rfl) rfl
  calls := by
    intro hg rg lr vals k h
    unfold dblOC at h
    split at h
    case h_2 => exact h.elim
    rename_i n d
    obtain ⟨_, hk⟩ := h
    replace hk := hk _ rfl
    refine ⟨_, _, hk, fun A w _ _ => ?_⟩
    refine enter T_ok GDb Try.func25 rfl (K := (· < w.heap.size)) (fun _ h => h) (A := A) (n0 := 0) (b0 := 0) (rows := []) (hp := []) rfl (Nat.zero_le _) (fun k r h => by cases h) rfl (fun k r h => by cases h) rfl rfl (Nat.le_of_ble_eq_true rfl) ?_
    conv => whnf
    repeat (refine V_step T_ok GDb rfl ?_; conv => whnf)
    repeat (any_goals (first
      | (refine V_step T_ok GDb rfl ?_; conv => whnf)
      | (refine V_drawA T_ok GDb mixed (by kernel_rfl) ?_; conv => whnf)
      | (refine bcond_split (fun hc => ?_) (fun hc => ?_) <;> (try simp only [decide_eq_true_eq, decide_eq_false_iff_not, Bool.not_eq_true', Bool.not_eq_false', Bool.and_eq_true, Bool.or_eq_true, Bool.and_eq_false_imp, Bool.or_eq_false_iff, ne_eq, Decidable.not_not] at hc) <;> conv => whnf)
      | (intro ysK hysK; have hysl := congrArg List.length hysK; (try simp only [List.length_set, List.length_append, List.length_cons, List.length_nil, List.length_take, List.length_drop, List.length_replicate] at hysl); conv => whnf)
      | (intro bK hbK; have hbl := congrArg ByteArray.size hbK; conv => whnf)
      | (intro sK hsK; conv => whnf)
      | (refine And.intro (by first | (first | exact True.intro | exact ((anA1 _).1 (by assumption)).bd) | exact True.intro | exact ⟨rfl, True.intro, fun _ _ => rfl⟩ | exact Nat.le_of_ble_eq_true rfl | (refine ⟨by (try simp only [List.length_cons, List.length_nil]); omega, Int.le_trans (Int.mul_le_mul_of_nonneg_left (show (TInfo.bytes _ : Int) ≤ 64 from Int.ofNat_le.2 (Nat.le_of_ble_eq_true rfl)) (by omega)) (by (try simp only [List.length_cons, List.length_nil]); omega)⟩)) ?_; conv => whnf)))
    · have hn : ¬ IsA (n, d) := fun h => hc ((anA1 _).2 h)
      exact leaf0 rfl (by rw [dblO_f hn]; exact congrArg (fun z => AVal.tup [aV (0, 0), .int .i64 z]) (anA1' hn)) rfl
    · have hA := (anA1 _).1 (by assumption)
      exact leaf0 rfl (by rw [dblO_t hA]) rfl
theorem sIsAng_ok : PCtrOk Try.prog 24 isAngleC where
  enter := enter_ok Try.func24 (by kernel_rfl) rfl
  calls := by
    intro hg rg lr vals k h
    unfold isAngleC at h
    split at h
    case h_2 => exact h.elim
    rename_i n d
    obtain ⟨_, hk⟩ := h
    refine ⟨_, _, hk, fun A w _ _ => ?_⟩
    refine enter T_ok (GOk.cons sIs_ok .nil) Try.func24 rfl (K := (· < w.heap.size)) (fun _ h => h) (A := A) (n0 := 0) (b0 := 0) (rows := []) (hp := []) rfl (Nat.zero_le _) (fun k r h => by cases h) rfl (fun k r h => by cases h) rfl rfl (Nat.le_of_ble_eq_true rfl) ?_
    conv => whnf
    repeat (refine V_step T_ok (GOk.cons sIs_ok .nil) rfl ?_; conv => whnf)
    repeat (any_goals (first
      | (refine V_step T_ok (GOk.cons sIs_ok .nil) rfl ?_; conv => whnf)
      | (refine V_drawA T_ok (GOk.cons sIs_ok .nil) mixed (by kernel_rfl) ?_; conv => whnf)
      | (refine bcond_split (fun hc => ?_) (fun hc => ?_) <;> (try simp only [decide_eq_true_eq, decide_eq_false_iff_not, Bool.not_eq_true', Bool.not_eq_false', Bool.and_eq_true, Bool.or_eq_true, Bool.and_eq_false_imp, Bool.or_eq_false_iff, ne_eq, Decidable.not_not] at hc) <;> conv => whnf)
      | (intro ysK hysK; have hysl := congrArg List.length hysK; (try simp only [List.length_set, List.length_append, List.length_cons, List.length_nil, List.length_take, List.length_drop, List.length_replicate] at hysl); conv => whnf)
      | (intro bK hbK; have hbl := congrArg ByteArray.size hbK; conv => whnf)
      | (intro sK hsK; conv => whnf)
      | (refine And.intro (by first | exact True.intro | (with_reducible assumption) | omega | (simp only [Rng]; omega) | exact Nat.le_of_ble_eq_true rfl | exact True.intro | exact ⟨rfl, True.intro, fun _ _ => rfl⟩ | exact Nat.le_of_ble_eq_true rfl | (refine ⟨by (try simp only [List.length_cons, List.length_nil]); omega, Int.le_trans (Int.mul_le_mul_of_nonneg_left (show (TInfo.bytes _ : Int) ≤ 64 from Int.ofNat_le.2 (Nat.le_of_ble_eq_true rfl)) (by omega)) (by (try simp only [List.length_cons, List.length_nil]); omega)⟩)) ?_; conv => whnf)))
    all_goals exact leaf0 rfl rfl rfl

/-! ### halves -/
@[irreducible] def halO (a : Ang) : List Ang × Int := if IsA a then (if okHalf a then ([halfA a, half2A a], 0) else ([], 3)) else ([], 1)
theorem halO_t {a : Ang} (h : IsA a) (h2 : okHalf a) : halO a = ([halfA a, half2A a], 0) := by unfold halO; rw [if_pos h, if_pos h2]
theorem halO_l {a : Ang} (h : IsA a) (h2 : ¬ okHalf a) : halO a = ([], 3) := by unfold halO; rw [if_pos h, if_neg h2]
theorem halO_f {a : Ang} (h : ¬ IsA a) : halO a = ([], 1) := by unfold halO; rw [if_neg h]
def halOC : PCtr := fun _ _ lr vals k => match vals with
  | [.agg [.int .i64 n, .int .i64 d]] => True ∧ ∀ q : List Ang × Int, q = halO (n, d) → k [⟨aT, 25, true, q.1⟩] (.tup [.row lr, .int .i64 q.2])
  | _ => False
abbrev GHa := (GOk.cons anC_ok (GOk.cons halves_ok .nil))
theorem halO_ok : PCtrOk Try.prog 20 halOC where
  enter := enter_ok Try.func20 (by kernel_rfl) rfl
  calls := by
    intro hg rg lr vals k h
    unfold halOC at h
    split at h
    case h_2 => exact h.elim
    rename_i n d
    obtain ⟨_, hk⟩ := h
    replace hk := hk _ rfl
    refine ⟨_, _, hk, fun A w _ _ => ?_⟩
    refine enter T_ok GHa Try.func20 rfl (K := (· < w.heap.size)) (fun _ h => h) (A := A) (n0 := 0) (b0 := 0) (rows := []) (hp := []) rfl (Nat.zero_le _) (fun k r h => by cases h) rfl (fun k r h => by cases h) rfl rfl (Nat.le_of_ble_eq_true rfl) ?_
    conv => whnf
    repeat (refine V_step T_ok GHa rfl ?_; conv => whnf)
    repeat (any_goals (first
      | (refine V_step T_ok GHa rfl ?_; conv => whnf)
      | (refine V_drawN T_ok GHa mixed (by kernel_rfl) ?_; conv => whnf)
      | (refine bcond_split (fun hc => ?_) (fun hc => ?_) <;> (try simp only [decide_eq_true_eq, decide_eq_false_iff_not, Bool.not_eq_true', Bool.not_eq_false', Bool.and_eq_true, Bool.or_eq_true, Bool.and_eq_false_imp, Bool.or_eq_false_iff, ne_eq, Decidable.not_not] at hc) <;> conv => whnf)
      | (intro ysK hysK; have hysl := congrArg List.length hysK; (try simp only [List.length_set, List.length_append, List.length_cons, List.length_nil, List.length_take, List.length_drop, List.length_replicate] at hysl); conv => whnf)
      | (intro bK hbK; have hbl := congrArg ByteArray.size hbK; conv => whnf)
      | (intro sK hsK; conv => whnf)
      | (refine And.intro (by first | (first | exact True.intro | exact ((anA1 _).1 (by assumption)).sm) | exact True.intro | exact ⟨rfl, True.intro, fun _ _ => rfl⟩ | exact Nat.le_of_ble_eq_true rfl | (refine ⟨by (try simp only [List.length_cons, List.length_nil]); omega, Int.le_trans (Int.mul_le_mul_of_nonneg_left (show (TInfo.bytes _ : Int) ≤ 64 from Int.ofNat_le.2 (Nat.le_of_ble_eq_true rfl)) (by omega)) (by (try simp only [List.length_cons, List.length_nil]); omega)⟩)) ?_; conv => whnf)))
    · have hn : ¬ IsA (n, d) := fun h => hc ((anA1 _).2 h)
      have e1 := anA1' hn
      rw [halO_f hn]
      exact leafN rfl rfl (fun B C h => by simp only [AVal.den, dens, h]; exact congrArg (fun z => Value.tuple #[Value.slice none 0 0, Value.int .i64 z]) e1)
    · have hA := (anA1 _).1 (by assumption)
      have hn : ¬ okHalf (n, d) := fun h => by
        have h1 := h.1
        have h2 := h.2
        revert hc
        split <;> intro hc <;> omega
      rw [halO_l hA hn]
      exact leafN rfl rfl (fun B C h => by simp [AVal.den, dens, h, Hdr.val])
    · have hA := (anA1 _).1 (by assumption)
      have hy : okHalf (n, d) := by
        revert hc
        unfold okHalf
        split <;> intro hc <;> omega
      rw [halO_t hA hy]
      exact leaf1 1 rfl rfl rfl rfl (fun B C h => by simp [AVal.den, dens, h])
abbrev GSHa := (GOk.cons sIs_ok (GOk.cons sHalves_ok .nil))
theorem sHalO_ok : PCtrOk Try.prog 21 halOC where
  enter := enter_ok Try.func21 (by kernel_rfl) rfl
  calls := by
    intro hg rg lr vals k h
    unfold halOC at h
    split at h
    case h_2 => exact h.elim
    rename_i n d
    obtain ⟨_, hk⟩ := h
    replace hk := hk _ rfl
    refine ⟨_, _, hk, fun A w _ _ => ?_⟩
    refine enter T_ok GSHa Try.func21 rfl (K := (· < w.heap.size)) (fun _ h => h) (A := A) (n0 := 0) (b0 := 0) (rows := []) (hp := []) rfl (Nat.zero_le _) (fun k r h => by cases h) rfl (fun k r h => by cases h) rfl rfl (Nat.le_of_ble_eq_true rfl) ?_
    conv => whnf
    repeat (refine V_step T_ok GSHa rfl ?_; conv => whnf)
    repeat (any_goals (first
      | (refine V_step T_ok GSHa rfl ?_; conv => whnf)
      | (refine V_drawN T_ok GSHa mixed (by kernel_rfl) ?_; conv => whnf)
      | (refine bcond_split (fun hc => ?_) (fun hc => ?_) <;> (try simp only [decide_eq_true_eq, decide_eq_false_iff_not, Bool.not_eq_true', Bool.not_eq_false', Bool.and_eq_true, Bool.or_eq_true, Bool.and_eq_false_imp, Bool.or_eq_false_iff, ne_eq, Decidable.not_not] at hc) <;> conv => whnf)
      | (intro ysK hysK; have hysl := congrArg List.length hysK; (try simp only [List.length_set, List.length_append, List.length_cons, List.length_nil, List.length_take, List.length_drop, List.length_replicate] at hysl); conv => whnf)
      | (intro bK hbK; have hbl := congrArg ByteArray.size hbK; conv => whnf)
      | (intro sK hsK; conv => whnf)
      | (refine And.intro (by first | (first | exact True.intro | exact IsA.sm (by assumption)) | exact True.intro | exact ⟨rfl, True.intro, fun _ _ => rfl⟩ | exact Nat.le_of_ble_eq_true rfl | (refine ⟨by (try simp only [List.length_cons, List.length_nil]); omega, Int.le_trans (Int.mul_le_mul_of_nonneg_left (show (TInfo.bytes _ : Int) ≤ 64 from Int.ofNat_le.2 (Nat.le_of_ble_eq_true rfl)) (by omega)) (by (try simp only [List.length_cons, List.length_nil]); omega)⟩)) ?_; conv => whnf)))
    · rw [halO_f hc]
      exact leafN rfl rfl (fun B C h => by simp [AVal.den, dens, h, Hdr.val])
    · rw [halO_l (by assumption) hc]
      exact leafN rfl rfl (fun B C h => by simp [AVal.den, dens, h, Hdr.val])
    · rw [halO_t (by assumption) hc]
      exact leaf1 0 rfl rfl rfl rfl (fun B C h => by simp [AVal.den, dens, h])

/-! ### orbits -/
@[irreducible] def orO (a : Ang) : List Ang × Int := if IsA a then (if orbB a = true then (orbX a, 0) else ([], 3)) else ([], 1)
theorem orO_t {a : Ang} (h : IsA a) (h2 : orbB a = true) : orO a = (orbX a, 0) := by unfold orO; rw [if_pos h, if_pos h2]
theorem orO_l {a : Ang} (h : IsA a) (h2 : ¬ orbB a = true) : orO a = ([], 3) := by unfold orO; rw [if_pos h, if_neg h2]
theorem orO_f {a : Ang} (h : ¬ IsA a) : orO a = ([], 1) := by unfold orO; rw [if_neg h]
@[irreducible] def orP (a : Ang) : Int := if IsA a ∧ orbB a = true then orbP a else 0
def orfC : PCtr := fun _ _ lr vals k => match vals with
  | [.agg [.int .i64 n, .int .i64 d]] => True ∧ ∀ q : List Ang × Int, q = orO (n, d) → k [⟨aT, 25, true, q.1⟩] (.tup [.row lr, .int .i64 (orP (n, d)), .int .i64 q.2])
  | _ => False
theorem orf_ok : PCtrOk Try.prog 69 orfC where
  enter := enter_ok Try.func69 (by kernel_rfl) rfl
  calls := by
    intro hg rg lr vals k h
    unfold orfC at h
    split at h
    case h_2 => exact h.elim
    rename_i n d
    obtain ⟨_, hk⟩ := h
    replace hk := hk _ rfl
    refine ⟨_, _, hk, fun A w _ _ => ?_⟩
    refine enter T_ok (GOk.cons isAngle_ok (GOk.cons orbit_ok .nil)) Try.func69 rfl (K := (· < w.heap.size)) (fun _ h => h) (A := A) (n0 := 0) (b0 := 0) (rows := []) (hp := []) rfl (Nat.zero_le _) (fun k r h => by cases h) rfl (fun k r h => by cases h) rfl rfl (Nat.le_of_ble_eq_true rfl) ?_
    conv => whnf
    repeat (refine V_step T_ok (GOk.cons isAngle_ok (GOk.cons orbit_ok .nil)) rfl ?_; conv => whnf)
    repeat (any_goals (first
      | (refine V_step T_ok (GOk.cons isAngle_ok (GOk.cons orbit_ok .nil)) rfl ?_; conv => whnf)
      | (refine V_drawA T_ok (GOk.cons isAngle_ok (GOk.cons orbit_ok .nil)) mixed (by kernel_rfl) ?_; conv => whnf)
      | (refine bcond_split (fun hc => ?_) (fun hc => ?_) <;> (try simp only [decide_eq_true_eq, decide_eq_false_iff_not, Bool.not_eq_true', Bool.not_eq_false', Bool.and_eq_true, Bool.or_eq_true, Bool.and_eq_false_imp, Bool.or_eq_false_iff, ne_eq, Decidable.not_not] at hc) <;> conv => whnf)
      | (intro ysK hysK; have hysl := congrArg List.length hysK; (try simp only [List.length_set, List.length_append, List.length_cons, List.length_nil, List.length_take, List.length_drop, List.length_replicate] at hysl); conv => whnf)
      | (intro bK hbK; have hbl := congrArg ByteArray.size hbK; conv => whnf)
      | (intro sK hsK; conv => whnf)
      | (refine And.intro (by first | (first | exact True.intro | (with_reducible assumption)) | exact True.intro | exact ⟨rfl, True.intro, fun _ _ => rfl⟩ | exact Nat.le_of_ble_eq_true rfl | (refine ⟨by (try simp only [List.length_cons, List.length_nil]); omega, Int.le_trans (Int.mul_le_mul_of_nonneg_left (show (TInfo.bytes _ : Int) ≤ 64 from Int.ofNat_le.2 (Nat.le_of_ble_eq_true rfl)) (by omega)) (by (try simp only [List.length_cons, List.length_nil]); omega)⟩)) ?_; conv => whnf)))
    · rw [orO_f hc]
      refine leafN rfl rfl (fun B C h => ?_)
      simp [AVal.den, dens, h, orP, hc, Hdr.val]
    · rename_i ha
      rw [orO_l ha (by rw [hc]; simp)]
      refine leafN rfl rfl (fun B C h => ?_)
      simp [AVal.den, dens, h, orP, ha, hc, Hdr.val]
    · rename_i ha
      rw [orO_t ha hc]
      refine leaf1 0 rfl rfl rfl rfl (fun B C h => ?_)
      simp [AVal.den, dens, h, orP, ha, hc]
def orOC : PCtr := fun _ _ lr vals k => match vals with
  | [.agg [.int .i64 n, .int .i64 d]] => True ∧ ∀ q : List Ang × Int, q = orO (n, d) → k [⟨aT, 25, true, q.1⟩] (.tup [.row lr, .int .i64 q.2])
  | _ => False
theorem orO_ok : PCtrOk Try.prog 27 orOC where
  enter := enter_ok Try.func27 (by kernel_rfl) rfl
  calls := by
    intro hg rg lr vals k h
    unfold orOC at h
    split at h
    case h_2 => exact h.elim
    rename_i n d
    obtain ⟨_, hk⟩ := h
    replace hk := hk _ rfl
    refine ⟨_, _, hk, fun A w _ _ => ?_⟩
    refine enter T_ok (GOk.cons orf_ok .nil) Try.func27 rfl (K := (· < w.heap.size)) (fun _ h => h) (A := A) (n0 := 0) (b0 := 0) (rows := []) (hp := []) rfl (Nat.zero_le _) (fun k r h => by cases h) rfl (fun k r h => by cases h) rfl rfl (Nat.le_of_ble_eq_true rfl) ?_
    conv => whnf
    repeat (refine V_step T_ok (GOk.cons orf_ok .nil) rfl ?_; conv => whnf)
    repeat (any_goals (first
      | (refine V_step T_ok (GOk.cons orf_ok .nil) rfl ?_; conv => whnf)
      | (refine V_drawA T_ok (GOk.cons orf_ok .nil) mixed (by kernel_rfl) ?_; conv => whnf)
      | (refine bcond_split (fun hc => ?_) (fun hc => ?_) <;> (try simp only [decide_eq_true_eq, decide_eq_false_iff_not, Bool.not_eq_true', Bool.not_eq_false', Bool.and_eq_true, Bool.or_eq_true, Bool.and_eq_false_imp, Bool.or_eq_false_iff, ne_eq, Decidable.not_not] at hc) <;> conv => whnf)
      | (intro ysK hysK; have hysl := congrArg List.length hysK; (try simp only [List.length_set, List.length_append, List.length_cons, List.length_nil, List.length_take, List.length_drop, List.length_replicate] at hysl); conv => whnf)
      | (intro bK hbK; have hbl := congrArg ByteArray.size hbK; conv => whnf)
      | (intro sK hsK; conv => whnf)
      | (refine And.intro (by first | exact True.intro | (with_reducible assumption) | omega | (simp only [Rng]; omega) | exact Nat.le_of_ble_eq_true rfl | exact True.intro | exact ⟨rfl, True.intro, fun _ _ => rfl⟩ | exact Nat.le_of_ble_eq_true rfl | (refine ⟨by (try simp only [List.length_cons, List.length_nil]); omega, Int.le_trans (Int.mul_le_mul_of_nonneg_left (show (TInfo.bytes _ : Int) ≤ 64 from Int.ofNat_le.2 (Nat.le_of_ble_eq_true rfl)) (by omega)) (by (try simp only [List.length_cons, List.length_nil]); omega)⟩)) ?_; conv => whnf)))
    all_goals (rw [← hsK]; exact leaf1 0 rfl rfl rfl rfl (fun B C h => by simp [AVal.den, dens, h]))
theorem sOrO_ok : PCtrOk Try.prog 28 orOC where
  enter := enter_ok Try.func28 (by kernel_rfl) rfl
  calls := by
    intro hg rg lr vals k h
    unfold orOC at h
    split at h
    case h_2 => exact h.elim
    rename_i n d
    obtain ⟨_, hk⟩ := h
    replace hk := hk _ rfl
    refine ⟨_, _, hk, fun A w _ _ => ?_⟩
    refine enter T_ok (GOk.cons sIs_ok (GOk.cons sOrbit_ok .nil)) Try.func28 rfl (K := (· < w.heap.size)) (fun _ h => h) (A := A) (n0 := 0) (b0 := 0) (rows := []) (hp := []) rfl (Nat.zero_le _) (fun k r h => by cases h) rfl (fun k r h => by cases h) rfl rfl (Nat.le_of_ble_eq_true rfl) ?_
    conv => whnf
    repeat (refine V_step T_ok (GOk.cons sIs_ok (GOk.cons sOrbit_ok .nil)) rfl ?_; conv => whnf)
    repeat (any_goals (first
      | (refine V_step T_ok (GOk.cons sIs_ok (GOk.cons sOrbit_ok .nil)) rfl ?_; conv => whnf)
      | (refine V_drawA T_ok (GOk.cons sIs_ok (GOk.cons sOrbit_ok .nil)) mixed (by kernel_rfl) ?_; conv => whnf)
      | (refine bcond_split (fun hc => ?_) (fun hc => ?_) <;> (try simp only [decide_eq_true_eq, decide_eq_false_iff_not, Bool.not_eq_true', Bool.not_eq_false', Bool.and_eq_true, Bool.or_eq_true, Bool.and_eq_false_imp, Bool.or_eq_false_iff, ne_eq, Decidable.not_not] at hc) <;> conv => whnf)
      | (intro ysK hysK; have hysl := congrArg List.length hysK; (try simp only [List.length_set, List.length_append, List.length_cons, List.length_nil, List.length_take, List.length_drop, List.length_replicate] at hysl); conv => whnf)
      | (intro bK hbK; have hbl := congrArg ByteArray.size hbK; conv => whnf)
      | (intro sK hsK; conv => whnf)
      | (refine And.intro (by first | (first | exact True.intro | (with_reducible assumption)) | exact True.intro | exact ⟨rfl, True.intro, fun _ _ => rfl⟩ | exact Nat.le_of_ble_eq_true rfl | (refine ⟨by (try simp only [List.length_cons, List.length_nil]); omega, Int.le_trans (Int.mul_le_mul_of_nonneg_left (show (TInfo.bytes _ : Int) ≤ 64 from Int.ofNat_le.2 (Nat.le_of_ble_eq_true rfl)) (by omega)) (by (try simp only [List.length_cons, List.length_nil]); omega)⟩)) ?_; conv => whnf)))
    · rw [orO_f hc]
      exact leafN rfl rfl (fun B C h => by simp [AVal.den, dens, h, Hdr.val])
    · rename_i ha
      rw [orO_l ha (by rw [hc]; simp)]
      exact leafN rfl rfl (fun B C h => by simp [AVal.den, dens, h, Hdr.val])
    · rename_i ha
      rw [orO_t ha hc]
      exact leaf1 0 rfl rfl rfl rfl (fun B C h => by simp [AVal.den, dens, h])
/-! ### periods -/
@[irreducible] def pdO (a : Ang) : List Int × Int := if IsA a then (if orbB a = true then ([(orbP a : Int), (orbX a).length - (orbP a : Int)], 0) else ([], 3)) else ([], 1)
theorem pdO_t {a : Ang} (h : IsA a) (h2 : orbB a = true) : pdO a = ([(orbP a : Int), (orbX a).length - (orbP a : Int)], 0) := by unfold pdO; rw [if_pos h, if_pos h2]
theorem pdO_l {a : Ang} (h : IsA a) (h2 : ¬ orbB a = true) : pdO a = ([], 3) := by unfold pdO; rw [if_pos h, if_neg h2]
theorem pdO_f {a : Ang} (h : ¬ IsA a) : pdO a = ([], 1) := by unfold pdO; rw [if_neg h]
theorem orO_0 {a : Ang} (h : (orO a).2 = 0) : IsA a ∧ orbB a = true := by
  by_cases hA : IsA a
  · by_cases hb : orbB a = true
    · exact ⟨hA, hb⟩
    · rw [orO_l hA hb] at h; cases h
  · rw [orO_f hA] at h; cases h
theorem pdO_ne {a : Ang} (h : ¬ (orO a).2 = 0) : pdO a = ([], (orO a).2) := by
  by_cases hA : IsA a
  · by_cases hb : orbB a = true
    · rw [orO_t hA hb] at h; exact absurd rfl h
    · rw [orO_l hA hb, pdO_l hA hb]
  · rw [orO_f hA, pdO_f hA]
def pdOC : PCtr := fun _ _ lr vals k => match vals with
  | [.agg [.int .i64 n, .int .i64 d]] => True ∧ ∀ q : List Int × Int, q = pdO (n, d) → k [⟨iT, 2, true, q.1⟩] (.tup [.row lr, .int .i64 q.2])
  | _ => False
theorem orP_bd (a : Ang) : 0 ≤ orP a ∧ orP a ≤ 64 := by
  unfold orP
  split
  · have h1 := orbX_len a
    unfold orbP
    cases hl : lenA a with
    | none => simp
    | some n =>
      have := (lenA_inv hl).2.1
      have h3 := (lenA_inv hl).1
      unfold stopA at this
      rw [Bool.and_eq_true, decide_eq_true_iff] at this
      have := this.1
      simp only; omega
  · omega
theorem orO_len (a : Ang) : (orO a).1.length ≤ 64 := by
  by_cases hA : IsA a
  · by_cases hb : orbB a = true
    · rw [orO_t hA hb]; exact orbX_len a
    · rw [orO_l hA hb]; exact Nat.zero_le _
  · rw [orO_f hA]; exact Nat.zero_le _
theorem pdO_ok : PCtrOk Try.prog 29 pdOC where
  enter := enter_ok Try.func29 (by kernel_rfl) rfl
  calls := by
    intro hg rg lr vals k h
    unfold pdOC at h
    split at h
    case h_2 => exact h.elim
    rename_i n d
    obtain ⟨_, hk⟩ := h
    replace hk := hk _ rfl
    refine ⟨_, _, hk, fun A w _ _ => ?_⟩
    refine enter T_ok (GOk.cons orf_ok .nil) Try.func29 rfl (K := (· < w.heap.size)) (fun _ h => h) (A := A) (n0 := 0) (b0 := 0) (rows := []) (hp := []) rfl (Nat.zero_le _) (fun k r h => by cases h) rfl (fun k r h => by cases h) rfl rfl (Nat.le_of_ble_eq_true rfl) ?_
    conv => whnf
    repeat (refine V_step T_ok (GOk.cons orf_ok .nil) rfl ?_; conv => whnf)
    have hb := orP_bd (n, d)
    have hl := orO_len (n, d)
    repeat (any_goals (first
      | (refine V_step T_ok (GOk.cons orf_ok .nil) rfl ?_; conv => whnf)
      | (refine V_drawA T_ok (GOk.cons orf_ok .nil) mixed (by kernel_rfl) ?_; conv => whnf)
      | (refine bcond_split (fun hc => ?_) (fun hc => ?_) <;> (try simp only [decide_eq_true_eq, decide_eq_false_iff_not, Bool.not_eq_true', Bool.not_eq_false', Bool.and_eq_true, Bool.or_eq_true, Bool.and_eq_false_imp, Bool.or_eq_false_iff, ne_eq, Decidable.not_not] at hc) <;> conv => whnf)
      | (intro ysK hysK; have hysl := congrArg List.length hysK; (try simp only [List.length_set, List.length_append, List.length_cons, List.length_nil, List.length_take, List.length_drop, List.length_replicate] at hysl); conv => whnf)
      | (intro bK hbK; have hbl := congrArg ByteArray.size hbK; conv => whnf)
      | (intro sK hsK; conv => whnf)
      | (refine And.intro (by first | exact True.intro | (with_reducible assumption) | omega | (simp only [Rng]; omega) | exact Nat.le_of_ble_eq_true rfl | exact True.intro | exact ⟨rfl, True.intro, fun _ _ => rfl⟩ | exact Nat.le_of_ble_eq_true rfl | (refine ⟨by (try simp only [List.length_cons, List.length_nil]); omega, Int.le_trans (Int.mul_le_mul_of_nonneg_left (show (TInfo.bytes _ : Int) ≤ 64 from Int.ofNat_le.2 (Nat.le_of_ble_eq_true rfl)) (by omega)) (by (try simp only [List.length_cons, List.length_nil]); omega)⟩)) ?_; conv => whnf)))
    · have hsK : sK = orO (n, d) := hsK
      have hc : ¬ (orO (n, d)).2 = 0 := by rw [← hsK]; exact hc
      rw [pdO_ne hc, ← hsK]
      exact leafN rfl rfl (fun B C h => by simp [AVal.den, dens, h, Hdr.val])
    · have hsK : sK = orO (n, d) := hsK
      have hc : (orO (n, d)).2 = 0 := by rw [← hsK]; exact hc
      obtain ⟨hA, hbb⟩ := orO_0 hc
      have e1 : sK = (orbX (n, d), 0) := by rw [hsK, orO_t hA hbb]
      have e2 : orP (n, d) = (orbP (n, d) : Int) := by unfold orP; rw [if_pos ⟨hA, hbb⟩]
      have hl' : List.length (α := Int × Int) sK.1 ≤ 64 := by rw [hsK]; exact hl
      rw [pdO_t hA hbb]
      repeat (any_goals (first
        | (refine V_step T_ok (GOk.cons orf_ok .nil) rfl ?_; conv => whnf)
        | (refine V_drawA T_ok (GOk.cons orf_ok .nil) mixed (by kernel_rfl) ?_; conv => whnf)
        | (refine bcond_split (fun hc => ?_) (fun hc => ?_) <;> (try simp only [decide_eq_true_eq, decide_eq_false_iff_not, Bool.not_eq_true', Bool.not_eq_false', Bool.and_eq_true, Bool.or_eq_true, Bool.and_eq_false_imp, Bool.or_eq_false_iff, ne_eq, Decidable.not_not] at hc) <;> conv => whnf)
        | (intro ysK hysK; have hysl := congrArg List.length hysK; (try simp only [List.length_set, List.length_append, List.length_cons, List.length_nil, List.length_take, List.length_drop, List.length_replicate] at hysl); conv => whnf)
        | (intro bK hbK; have hbl := congrArg ByteArray.size hbK; conv => whnf)
        | (intro sK hsK; conv => whnf)
        | (refine And.intro (by first | (first | exact True.intro | omega | (simp only [Rng]; omega)) | exact True.intro | exact ⟨rfl, True.intro, fun _ _ => rfl⟩ | exact Nat.le_of_ble_eq_true rfl | (refine ⟨by (try simp only [List.length_cons, List.length_nil]); omega, Int.le_trans (Int.mul_le_mul_of_nonneg_left (show (TInfo.bytes _ : Int) ≤ 64 from Int.ofNat_le.2 (Nat.le_of_ble_eq_true rfl)) (by omega)) (by (try simp only [List.length_cons, List.length_nil]); omega)⟩)) ?_; conv => whnf)))
      rw [← e2]
      have e3 : ((orbX (n, d)).length : Int) = (List.length (α := Ang) sK.1 : Int) := by rw [e1]
      rw [e3]
      exact leaf1 1 rfl rfl rfl rfl (fun B C h => by simp [AVal.den, dens, h])
theorem sPdO_ok : PCtrOk Try.prog 30 pdOC where
  enter := enter_ok Try.func30 (by kernel_rfl) rfl
  calls := by
    intro hg rg lr vals k h
    unfold pdOC at h
    split at h
    case h_2 => exact h.elim
    rename_i n d
    obtain ⟨_, hk⟩ := h
    replace hk := hk _ rfl
    refine ⟨_, _, hk, fun A w _ _ => ?_⟩
    refine enter T_ok (GOk.cons sIs_ok (GOk.cons sOrbit_ok .nil)) Try.func30 rfl (K := (· < w.heap.size)) (fun _ h => h) (A := A) (n0 := 0) (b0 := 0) (rows := []) (hp := []) rfl (Nat.zero_le _) (fun k r h => by cases h) rfl (fun k r h => by cases h) rfl rfl (Nat.le_of_ble_eq_true rfl) ?_
    conv => whnf
    repeat (refine V_step T_ok (GOk.cons sIs_ok (GOk.cons sOrbit_ok .nil)) rfl ?_; conv => whnf)
    have hl := orbX_len (n, d)
    repeat (any_goals (first
      | (refine V_step T_ok (GOk.cons sIs_ok (GOk.cons sOrbit_ok .nil)) rfl ?_; conv => whnf)
      | (refine V_drawA T_ok (GOk.cons sIs_ok (GOk.cons sOrbit_ok .nil)) mixed (by kernel_rfl) ?_; conv => whnf)
      | (refine bcond_split (fun hc => ?_) (fun hc => ?_) <;> (try simp only [decide_eq_true_eq, decide_eq_false_iff_not, Bool.not_eq_true', Bool.not_eq_false', Bool.and_eq_true, Bool.or_eq_true, Bool.and_eq_false_imp, Bool.or_eq_false_iff, ne_eq, Decidable.not_not] at hc) <;> conv => whnf)
      | (intro ysK hysK; have hysl := congrArg List.length hysK; (try simp only [List.length_set, List.length_append, List.length_cons, List.length_nil, List.length_take, List.length_drop, List.length_replicate] at hysl); conv => whnf)
      | (intro bK hbK; have hbl := congrArg ByteArray.size hbK; conv => whnf)
      | (intro sK hsK; conv => whnf)
      | (refine And.intro (by first | (first | exact True.intro | (with_reducible assumption)) | exact True.intro | exact ⟨rfl, True.intro, fun _ _ => rfl⟩ | exact Nat.le_of_ble_eq_true rfl | (refine ⟨by (try simp only [List.length_cons, List.length_nil]); omega, Int.le_trans (Int.mul_le_mul_of_nonneg_left (show (TInfo.bytes _ : Int) ≤ 64 from Int.ofNat_le.2 (Nat.le_of_ble_eq_true rfl)) (by omega)) (by (try simp only [List.length_cons, List.length_nil]); omega)⟩)) ?_; conv => whnf)))
    · rw [pdO_f hc]
      exact leafN rfl rfl (fun B C h => by simp [AVal.den, dens, h, Hdr.val])
    · rename_i ha
      rw [pdO_l ha (by rw [hc]; simp)]
      exact leafN rfl rfl (fun B C h => by simp [AVal.den, dens, h, Hdr.val])
    · rename_i ha
      rw [pdO_t ha hc]
      have e2 : orP (n, d) = (orbP (n, d) : Int) := by unfold orP; rw [if_pos ⟨ha, hc⟩]
      have hb := orP_bd (n, d)
      repeat (any_goals (first
        | (refine V_step T_ok (GOk.cons sIs_ok (GOk.cons sOrbit_ok .nil)) rfl ?_; conv => whnf)
        | (refine V_drawA T_ok (GOk.cons sIs_ok (GOk.cons sOrbit_ok .nil)) mixed (by kernel_rfl) ?_; conv => whnf)
        | (refine bcond_split (fun hc => ?_) (fun hc => ?_) <;> (try simp only [decide_eq_true_eq, decide_eq_false_iff_not, Bool.not_eq_true', Bool.not_eq_false', Bool.and_eq_true, Bool.or_eq_true, Bool.and_eq_false_imp, Bool.or_eq_false_iff, ne_eq, Decidable.not_not] at hc) <;> conv => whnf)
        | (intro ysK hysK; have hysl := congrArg List.length hysK; (try simp only [List.length_set, List.length_append, List.length_cons, List.length_nil, List.length_take, List.length_drop, List.length_replicate] at hysl); conv => whnf)
        | (intro bK hbK; have hbl := congrArg ByteArray.size hbK; conv => whnf)
        | (intro sK hsK; conv => whnf)
        | (refine And.intro (by first | (first | exact True.intro | (simp only [Rng]; omega)) | exact True.intro | exact ⟨rfl, True.intro, fun _ _ => rfl⟩ | exact Nat.le_of_ble_eq_true rfl | (refine ⟨by (try simp only [List.length_cons, List.length_nil]); omega, Int.le_trans (Int.mul_le_mul_of_nonneg_left (show (TInfo.bytes _ : Int) ≤ 64 from Int.ofNat_le.2 (Nat.le_of_ble_eq_true rfl)) (by omega)) (by (try simp only [List.length_cons, List.length_nil]); omega)⟩)) ?_; conv => whnf)))
      exact leaf1 1 rfl rfl rfl rfl (fun B C h => by simp [AVal.den, dens, h])
end Go.Proofs.Ytadlnnjgocknhab.Fw
-- %intro
