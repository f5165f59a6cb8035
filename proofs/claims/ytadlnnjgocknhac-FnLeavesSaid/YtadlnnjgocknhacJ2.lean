/- Contracts: crossings, images, lengths and making of leaves, both sides; how the law compares lists of leaves. -/
import Derived.Test.YtadlnnjgocknhacJ1
import Derived.Test.YtadlnnjgocknhacA2
namespace Go.Proofs.Ytadlnnjgocknhac.Fw
open Go Go.RowKit
set_option linter.unusedVariables false
set_option linter.unusedSimpArgs false
set_option maxRecDepth 100000
set_option maxHeartbeats 2000000

def zL : Lf := ((0, 0), (0, 0))
theorem lv2 {l m : Lf} (h : ¬ (IsL l ∧ IsL m)) : (if [l, m].all allLY = true then (0 : Int) else 1) = 1 := if_neg fun h' => h ((two_isL l m).1 (if_pos h'))
theorem lv1 (l : Lf) : (if [l].all allLY = true then (0 : Int) else 1) = 0 ↔ IsL l := by simp [allLY]
theorem lv1' {l : Lf} (h : ¬ IsL l) : (if [l].all allLY = true then (0 : Int) else 1) = 1 := by simp [allLY, h]
@[irreducible] def crsO (l m : Lf) : Bool × Int := if IsL l ∧ IsL m then (sCrossL l m, 0) else (false, 1)
theorem crsO_t {l m : Lf} (h : IsL l ∧ IsL m) : crsO l m = (sCrossL l m, 0) := by unfold crsO; rw [if_pos h]
theorem crsO_f {l m : Lf} (h : ¬ (IsL l ∧ IsL m)) : crsO l m = (false, 1) := by unfold crsO; rw [if_neg h]
def crsOC : PCtr := fun _ _ _ vals k => match vals with
  | [.agg [.int .i64 n, .int .i64 d, .int .i64 m, .int .i64 e], .agg [.int .i64 n', .int .i64 d', .int .i64 m', .int .i64 e']] =>
    True ∧ ∀ q : Bool × Int, q = crsO ((n, d), (m, e)) ((n', d'), (m', e')) → k [] (.tup [.bool q.1, .int .i64 q.2])
  | _ => False
abbrev GCrs := (GOk.cons leavesCode_ok (GOk.cons cross_ok .nil))
theorem crsO_ok : PCtrOk Try.prog 15 crsOC where
  enter := enter_ok Try.func15 (by kernel_rfl) rfl
  calls := by
    intro hg rg lr vals k h
    unfold crsOC at h
    split at h
    case h_2 => exact h.elim
    rename_i n d m e n' d' m' e'
    obtain ⟨_, hk⟩ := h
    replace hk := hk _ rfl
    refine ⟨_, _, hk, fun A w _ _ => ?_⟩
    refine enter T_ok GCrs Try.func15 rfl (K := (· < w.heap.size)) (fun _ h => h) (A := A) (n0 := 0) (b0 := 0) (rows := []) (hp := []) rfl (Nat.zero_le _) (fun k r h => by cases h) rfl (fun k r h => by cases h) rfl rfl (Nat.le_of_ble_eq_true rfl) ?_
    conv => whnf
    repeat (refine V_step T_ok GCrs rfl ?_; conv => whnf)
    repeat (any_goals (first
      | (refine V_step T_ok GCrs rfl ?_; conv => whnf)
      | (refine V_drawA T_ok GCrs mixed (by kernel_rfl) ?_; conv => whnf)
      | (refine bcond_split (fun hc => ?_) (fun hc => ?_) <;> (try simp only [decide_eq_true_eq, decide_eq_false_iff_not, Bool.not_eq_true', Bool.not_eq_false', Bool.and_eq_true, Bool.or_eq_true, Bool.and_eq_false_imp, Bool.or_eq_false_iff, ne_eq, Decidable.not_not] at hc) <;> conv => whnf)
      | (intro ysK hysK; have hysl := congrArg List.length hysK; (try simp only [List.length_set, List.length_append, List.length_cons, List.length_nil, List.length_take, List.length_drop, List.length_replicate] at hysl); conv => whnf)
      | (intro bK hbK; have hbl := congrArg ByteArray.size hbK; conv => whnf)
      | (intro sK hsK; conv => whnf)
      | (refine And.intro (by first | (first | exact True.intro | exact ⟨((two_isL _ _).1 (by assumption)).1.sm, ((two_isL _ _).1 (by assumption)).2.sm⟩) | exact True.intro | exact ⟨rfl, True.intro, fun _ _ => rfl⟩ | exact Nat.le_of_ble_eq_true rfl | (refine ⟨by (try simp only [List.length_cons, List.length_nil]); omega, Int.le_trans (Int.mul_le_mul_of_nonneg_left (show (TInfo.bytes _ : Int) ≤ 64 from Int.ofNat_le.2 (Nat.le_of_ble_eq_true rfl)) (by omega)) (by (try simp only [List.length_cons, List.length_nil]); omega)⟩)) ?_; conv => whnf)))
    · have hn : ¬ (IsL ((n, d), (m, e)) ∧ IsL ((n', d'), (m', e'))) := fun h => hc ((two_isL _ _).2 h)
      exact leaf0 rfl (by rw [crsO_f hn]; exact congrArg (fun z => AVal.tup [.bool false, .int .i64 z]) (lv2 hn)) rfl
    · have hA := (two_isL _ _).1 hc
      exact leaf0 rfl (by rw [crsO_t hA, ← cross_eq hA.1 hA.2]) rfl
abbrev GSCrs := (GOk.cons sIsL_ok (GOk.cons sCrossL_ok .nil))
theorem sCrsO_ok : PCtrOk Try.prog 16 crsOC where
  enter := enter_ok Try.func16 (by kernel_rfl) rfl
  calls := by
    intro hg rg lr vals k h
    unfold crsOC at h
    split at h
    case h_2 => exact h.elim
    rename_i n d m e n' d' m' e'
    obtain ⟨_, hk⟩ := h
    replace hk := hk _ rfl
    refine ⟨_, _, hk, fun A w _ _ => ?_⟩
    refine enter T_ok GSCrs Try.func16 rfl (K := (· < w.heap.size)) (fun _ h => h) (A := A) (n0 := 0) (b0 := 0) (rows := []) (hp := []) rfl (Nat.zero_le _) (fun k r h => by cases h) rfl (fun k r h => by cases h) rfl rfl (Nat.le_of_ble_eq_true rfl) ?_
    conv => whnf
    repeat (refine V_step T_ok GSCrs rfl ?_; conv => whnf)
    repeat (any_goals (first
      | (refine V_step T_ok GSCrs rfl ?_; conv => whnf)
      | (refine V_drawA T_ok GSCrs mixed (by kernel_rfl) ?_; conv => whnf)
      | (refine bcond_split (fun hc => ?_) (fun hc => ?_) <;> (try simp only [decide_eq_true_eq, decide_eq_false_iff_not, Bool.not_eq_true', Bool.not_eq_false', Bool.and_eq_true, Bool.or_eq_true, Bool.and_eq_false_imp, Bool.or_eq_false_iff, ne_eq, Decidable.not_not] at hc) <;> conv => whnf)
      | (intro ysK hysK; have hysl := congrArg List.length hysK; (try simp only [List.length_set, List.length_append, List.length_cons, List.length_nil, List.length_take, List.length_drop, List.length_replicate] at hysl); conv => whnf)
      | (intro bK hbK; have hbl := congrArg ByteArray.size hbK; conv => whnf)
      | (intro sK hsK; conv => whnf)
      | (refine And.intro (by first | (first | exact True.intro | exact ⟨(IsL.sm (by assumption)).bd, (IsL.sm (by assumption)).bd⟩) | exact True.intro | exact ⟨rfl, True.intro, fun _ _ => rfl⟩ | exact Nat.le_of_ble_eq_true rfl | (refine ⟨by (try simp only [List.length_cons, List.length_nil]); omega, Int.le_trans (Int.mul_le_mul_of_nonneg_left (show (TInfo.bytes _ : Int) ≤ 64 from Int.ofNat_le.2 (Nat.le_of_ble_eq_true rfl)) (by omega)) (by (try simp only [List.length_cons, List.length_nil]); omega)⟩)) ?_; conv => whnf)))
    · exact leaf0 rfl (by rw [crsO_f fun h => hc h.1]) rfl
    · exact leaf0 rfl (by rw [crsO_f fun h => hc h.2]) rfl
    · exact leaf0 rfl (by rw [crsO_t ⟨by assumption, by assumption⟩]) rfl

@[irreducible] def igO (l : Lf) : Lf × Int := if IsL l then (if sDiaL l = true then (zL, 5) else (imageL l, 0)) else (zL, 1)
theorem igO_f {l : Lf} (h : ¬ IsL l) : igO l = (zL, 1) := by unfold igO; rw [if_neg h]
theorem igO_d {l : Lf} (h : IsL l) (hd : sDiaL l = true) : igO l = (zL, 5) := by unfold igO; rw [if_pos h, if_pos hd]
theorem igO_t {l : Lf} (h : IsL l) (hd : sDiaL l = false) : igO l = (imageL l, 0) := by unfold igO; rw [if_pos h, if_neg (by rw [hd]; decide)]
def igOC : PCtr := fun _ _ _ vals k => match vals with
  | [.agg [.int .i64 n, .int .i64 d, .int .i64 m, .int .i64 e]] => True ∧ ∀ q : Lf × Int, q = igO ((n, d), (m, e)) → k [] (.tup [lV q.1, .int .i64 q.2])
  | _ => False
abbrev GImg := (GOk.cons leavesCode_ok (GOk.cons isDia_ok (GOk.cons image_ok .nil)))
theorem igO_ok : PCtrOk Try.prog 23 igOC where
  enter := enter_ok Try.func23 (by kernel_rfl) rfl
  calls := by
    intro hg rg lr vals k h
    unfold igOC at h
    split at h
    case h_2 => exact h.elim
    rename_i n d m e
    obtain ⟨_, hk⟩ := h
    replace hk := hk _ rfl
    refine ⟨_, _, hk, fun A w _ _ => ?_⟩
    refine enter T_ok GImg Try.func23 rfl (K := (· < w.heap.size)) (fun _ h => h) (A := A) (n0 := 0) (b0 := 0) (rows := []) (hp := []) rfl (Nat.zero_le _) (fun k r h => by cases h) rfl (fun k r h => by cases h) rfl rfl (Nat.le_of_ble_eq_true rfl) ?_
    conv => whnf
    repeat (refine V_step T_ok GImg rfl ?_; conv => whnf)
    repeat (any_goals (first
      | (refine V_step T_ok GImg rfl ?_; conv => whnf)
      | (refine V_drawA T_ok GImg mixed (by kernel_rfl) ?_; conv => whnf)
      | (refine bcond_split (fun hc => ?_) (fun hc => ?_) <;> (try simp only [decide_eq_true_eq, decide_eq_false_iff_not, Bool.not_eq_true', Bool.not_eq_false', Bool.and_eq_true, Bool.or_eq_true, Bool.and_eq_false_imp, Bool.or_eq_false_iff, ne_eq, Decidable.not_not] at hc) <;> conv => whnf)
      | (intro ysK hysK; have hysl := congrArg List.length hysK; (try simp only [List.length_set, List.length_append, List.length_cons, List.length_nil, List.length_take, List.length_drop, List.length_replicate] at hysl); conv => whnf)
      | (intro bK hbK; have hbl := congrArg ByteArray.size hbK; conv => whnf)
      | (intro sK hsK; conv => whnf)
      | (refine And.intro (by first | (first | exact True.intro | exact ((lv1 _).1 (by assumption)).sm) | exact True.intro | exact ⟨rfl, True.intro, fun _ _ => rfl⟩ | exact Nat.le_of_ble_eq_true rfl | (refine ⟨by (try simp only [List.length_cons, List.length_nil]); omega, Int.le_trans (Int.mul_le_mul_of_nonneg_left (show (TInfo.bytes _ : Int) ≤ 64 from Int.ofNat_le.2 (Nat.le_of_ble_eq_true rfl)) (by omega)) (by (try simp only [List.length_cons, List.length_nil]); omega)⟩)) ?_; conv => whnf)))
    · have hn : ¬ IsL ((n, d), (m, e)) := fun h => hc ((lv1 _).2 h)
      exact leaf0 rfl (by rw [igO_f hn]; exact congrArg (fun z => AVal.tup [lV zL, .int .i64 z]) (lv1' hn)) rfl
    · have hA : IsL ((n, d), (m, e)) := (lv1 _).1 (by assumption)
      exact leaf0 rfl (by rw [igO_d hA (by rw [← dia_eq hA]; exact hc)]; rfl) rfl
    · have hA : IsL ((n, d), (m, e)) := (lv1 _).1 (by assumption)
      exact leaf0 rfl (by rw [igO_t hA (by rw [← dia_eq hA]; exact hc)]) rfl
abbrev GSImg := (GOk.cons sIsL_ok (GOk.cons sDia_ok (GOk.cons sImage_ok .nil)))
theorem sImgO_ok : PCtrOk Try.prog 25 igOC where
  enter := enter_ok Try.func25 (by kernel_rfl) rfl
  calls := by
    intro hg rg lr vals k h
    unfold igOC at h
    split at h
    case h_2 => exact h.elim
    rename_i n d m e
    obtain ⟨_, hk⟩ := h
    replace hk := hk _ rfl
    refine ⟨_, _, hk, fun A w _ _ => ?_⟩
    refine enter T_ok GSImg Try.func25 rfl (K := (· < w.heap.size)) (fun _ h => h) (A := A) (n0 := 0) (b0 := 0) (rows := []) (hp := []) rfl (Nat.zero_le _) (fun k r h => by cases h) rfl (fun k r h => by cases h) rfl rfl (Nat.le_of_ble_eq_true rfl) ?_
    conv => whnf
    repeat (refine V_step T_ok GSImg rfl ?_; conv => whnf)
    repeat (any_goals (first
      | (refine V_step T_ok GSImg rfl ?_; conv => whnf)
      | (refine V_drawA T_ok GSImg mixed (by kernel_rfl) ?_; conv => whnf)
      | (refine bcond_split (fun hc => ?_) (fun hc => ?_) <;> (try simp only [decide_eq_true_eq, decide_eq_false_iff_not, Bool.not_eq_true', Bool.not_eq_false', Bool.and_eq_true, Bool.or_eq_true, Bool.and_eq_false_imp, Bool.or_eq_false_iff, ne_eq, Decidable.not_not] at hc) <;> conv => whnf)
      | (intro ysK hysK; have hysl := congrArg List.length hysK; (try simp only [List.length_set, List.length_append, List.length_cons, List.length_nil, List.length_take, List.length_drop, List.length_replicate] at hysl); conv => whnf)
      | (intro bK hbK; have hbl := congrArg ByteArray.size hbK; conv => whnf)
      | (intro sK hsK; conv => whnf)
      | (refine And.intro (by first | (first | exact True.intro | exact IsL.sm (by assumption)) | exact True.intro | exact ⟨rfl, True.intro, fun _ _ => rfl⟩ | exact Nat.le_of_ble_eq_true rfl | (refine ⟨by (try simp only [List.length_cons, List.length_nil]); omega, Int.le_trans (Int.mul_le_mul_of_nonneg_left (show (TInfo.bytes _ : Int) ≤ 64 from Int.ofNat_le.2 (Nat.le_of_ble_eq_true rfl)) (by omega)) (by (try simp only [List.length_cons, List.length_nil]); omega)⟩)) ?_; conv => whnf)))
    · exact leaf0 rfl (by rw [igO_f hc]; rfl) rfl
    · exact leaf0 rfl (by rw [igO_d (by assumption) hc]; rfl) rfl
    · exact leaf0 rfl (by rw [igO_t (by assumption) hc]) rfl

@[irreducible] def lenO (l : Lf) : Ang × Int := if IsL l then tolA (sizeL l) else ((0, 0), 1)
theorem lenO_t {l : Lf} (h : IsL l) : lenO l = tolA (sizeL l) := by unfold lenO; rw [if_pos h]
theorem lenO_f {l : Lf} (h : ¬ IsL l) : lenO l = ((0, 0), 1) := by unfold lenO; rw [if_neg h]
def lenOC : PCtr := fun _ _ _ vals k => match vals with
  | [.agg [.int .i64 n, .int .i64 d, .int .i64 m, .int .i64 e]] => True ∧ ∀ q : Ang × Int, q = lenO ((n, d), (m, e)) → k [] (.tup [aV q.1, .int .i64 q.2])
  | _ => False
abbrev GLen := (GOk.cons leavesCode_ok (GOk.cons size_ok (GOk.cons tol_ok .nil)))
theorem lenO_ok : PCtrOk Try.prog 27 lenOC where
  enter := enter_ok Try.func27 (by kernel_rfl) rfl
  calls := by
    intro hg rg lr vals k h
    unfold lenOC at h
    split at h
    case h_2 => exact h.elim
    rename_i n d m e
    obtain ⟨_, hk⟩ := h
    replace hk := hk _ rfl
    refine ⟨_, _, hk, fun A w _ _ => ?_⟩
    refine enter T_ok GLen Try.func27 rfl (K := (· < w.heap.size)) (fun _ h => h) (A := A) (n0 := 0) (b0 := 0) (rows := []) (hp := []) rfl (Nat.zero_le _) (fun k r h => by cases h) rfl (fun k r h => by cases h) rfl rfl (Nat.le_of_ble_eq_true rfl) ?_
    conv => whnf
    repeat (refine V_step T_ok GLen rfl ?_; conv => whnf)
    repeat (any_goals (first
      | (refine V_step T_ok GLen rfl ?_; conv => whnf)
      | (refine V_drawA T_ok GLen mixed (by kernel_rfl) ?_; conv => whnf)
      | (refine bcond_split (fun hc => ?_) (fun hc => ?_) <;> (try simp only [decide_eq_true_eq, decide_eq_false_iff_not, Bool.not_eq_true', Bool.not_eq_false', Bool.and_eq_true, Bool.or_eq_true, Bool.and_eq_false_imp, Bool.or_eq_false_iff, ne_eq, Decidable.not_not] at hc) <;> conv => whnf)
      | (intro ysK hysK; have hysl := congrArg List.length hysK; (try simp only [List.length_set, List.length_append, List.length_cons, List.length_nil, List.length_take, List.length_drop, List.length_replicate] at hysl); conv => whnf)
      | (intro bK hbK; have hbl := congrArg ByteArray.size hbK; conv => whnf)
      | (intro sK hsK; conv => whnf)
      | (refine And.intro (by first | (first | exact True.intro | exact ((lv1 _).1 (by assumption)).sm) | exact True.intro | exact ⟨rfl, True.intro, fun _ _ => rfl⟩ | exact Nat.le_of_ble_eq_true rfl | (refine ⟨by (try simp only [List.length_cons, List.length_nil]); omega, Int.le_trans (Int.mul_le_mul_of_nonneg_left (show (TInfo.bytes _ : Int) ≤ 64 from Int.ofNat_le.2 (Nat.le_of_ble_eq_true rfl)) (by omega)) (by (try simp only [List.length_cons, List.length_nil]); omega)⟩)) ?_; conv => whnf)))
    · have hn : ¬ IsL ((n, d), (m, e)) := fun h => hc ((lv1 _).2 h)
      exact leaf0 rfl (by rw [lenO_f hn]; exact congrArg (fun z => AVal.tup [aV (0, 0), .int .i64 z]) (lv1' hn)) rfl
    · have hA : IsL ((n, d), (m, e)) := (lv1 _).1 (by assumption)
      exact leaf0 rfl (by rw [lenO_t hA, hsK]) rfl
abbrev GSLen := (GOk.cons sIsL_ok (GOk.cons sDist_ok (GOk.cons sTol_ok .nil)))
theorem sLenO_ok : PCtrOk Try.prog 28 lenOC where
  enter := enter_ok Try.func28 (by kernel_rfl) rfl
  calls := by
    intro hg rg lr vals k h
    unfold lenOC at h
    split at h
    case h_2 => exact h.elim
    rename_i n d m e
    obtain ⟨_, hk⟩ := h
    replace hk := hk _ rfl
    refine ⟨_, _, hk, fun A w _ _ => ?_⟩
    refine enter T_ok GSLen Try.func28 rfl (K := (· < w.heap.size)) (fun _ h => h) (A := A) (n0 := 0) (b0 := 0) (rows := []) (hp := []) rfl (Nat.zero_le _) (fun k r h => by cases h) rfl (fun k r h => by cases h) rfl rfl (Nat.le_of_ble_eq_true rfl) ?_
    conv => whnf
    repeat (refine V_step T_ok GSLen rfl ?_; conv => whnf)
    repeat (any_goals (first
      | (refine V_step T_ok GSLen rfl ?_; conv => whnf)
      | (refine V_drawA T_ok GSLen mixed (by kernel_rfl) ?_; conv => whnf)
      | (refine bcond_split (fun hc => ?_) (fun hc => ?_) <;> (try simp only [decide_eq_true_eq, decide_eq_false_iff_not, Bool.not_eq_true', Bool.not_eq_false', Bool.and_eq_true, Bool.or_eq_true, Bool.and_eq_false_imp, Bool.or_eq_false_iff, ne_eq, Decidable.not_not] at hc) <;> conv => whnf)
      | (intro ysK hysK; have hysl := congrArg List.length hysK; (try simp only [List.length_set, List.length_append, List.length_cons, List.length_nil, List.length_take, List.length_drop, List.length_replicate] at hysl); conv => whnf)
      | (intro bK hbK; have hbl := congrArg ByteArray.size hbK; conv => whnf)
      | (intro sK hsK; conv => whnf)
      | (refine And.intro (by first | (first | exact True.intro | exact IsL.sm (by assumption)) | exact True.intro | exact ⟨rfl, True.intro, fun _ _ => rfl⟩ | exact Nat.le_of_ble_eq_true rfl | (refine ⟨by (try simp only [List.length_cons, List.length_nil]); omega, Int.le_trans (Int.mul_le_mul_of_nonneg_left (show (TInfo.bytes _ : Int) ≤ 64 from Int.ofNat_le.2 (Nat.le_of_ble_eq_true rfl)) (by omega)) (by (try simp only [List.length_cons, List.length_nil]); omega)⟩)) ?_; conv => whnf)))
    · exact leaf0 rfl (by rw [lenO_f hc]) rfl
    · have hA : IsL ((n, d), (m, e)) := by assumption
      have e9 := sDist_eq hA.1 hA.2.1
      exact leaf0 rfl (by rw [lenO_t hA, hsK]; unfold sizeL; rw [← e9]) rfl

@[irreducible] def lfO (a b : Ang) : Lf × Int := if IsA a ∧ IsA b then (if a = b then (zL, 5) else (leafOf a b, 0)) else (zL, 1)
theorem lfO_f {a b : Ang} (h : ¬ (IsA a ∧ IsA b)) : lfO a b = (zL, 1) := by unfold lfO; rw [if_neg h]
theorem lfO_e {a b : Ang} (h : IsA a ∧ IsA b) (he : a = b) : lfO a b = (zL, 5) := by unfold lfO; rw [if_pos h, if_pos he]
theorem lfO_t {a b : Ang} (h : IsA a ∧ IsA b) (he : ¬ a = b) : lfO a b = (leafOf a b, 0) := by unfold lfO; rw [if_pos h, if_neg he]
def lfOC : PCtr := fun _ _ _ vals k => match vals with
  | [.agg [.int .i64 n, .int .i64 d], .agg [.int .i64 m, .int .i64 e]] => True ∧ ∀ q : Lf × Int, q = lfO (n, d) (m, e) → k [] (.tup [lV q.1, .int .i64 q.2])
  | _ => False
abbrev GLf := (GOk.cons anC_ok (GOk.cons leaf_ok .nil))
theorem lfO_ok : PCtrOk Try.prog 30 lfOC where
  enter := enter_ok Try.func30 (by kernel_rfl) rfl
  calls := by
    intro hg rg lr vals k h
    unfold lfOC at h
    split at h
    case h_2 => exact h.elim
    rename_i n d m e
    obtain ⟨_, hk⟩ := h
    replace hk := hk _ rfl
    refine ⟨_, _, hk, fun A w _ _ => ?_⟩
    refine enter T_ok GLf Try.func30 rfl (K := (· < w.heap.size)) (fun _ h => h) (A := A) (n0 := 0) (b0 := 0) (rows := []) (hp := []) rfl (Nat.zero_le _) (fun k r h => by cases h) rfl (fun k r h => by cases h) rfl rfl (Nat.le_of_ble_eq_true rfl) ?_
    conv => whnf
    repeat (refine V_step T_ok GLf rfl ?_; conv => whnf)
    repeat (any_goals (first
      | (refine V_step T_ok GLf rfl ?_; conv => whnf)
      | (refine V_drawA T_ok GLf mixed (by kernel_rfl) ?_; conv => whnf)
      | (refine bcond_split (fun hc => ?_) (fun hc => ?_) <;> (try simp only [decide_eq_true_eq, decide_eq_false_iff_not, Bool.not_eq_true', Bool.not_eq_false', Bool.and_eq_true, Bool.or_eq_true, Bool.and_eq_false_imp, Bool.or_eq_false_iff, ne_eq, Decidable.not_not] at hc) <;> conv => whnf)
      | (intro ysK hysK; have hysl := congrArg List.length hysK; (try simp only [List.length_set, List.length_append, List.length_cons, List.length_nil, List.length_take, List.length_drop, List.length_replicate] at hysl); conv => whnf)
      | (intro bK hbK; have hbl := congrArg ByteArray.size hbK; conv => whnf)
      | (intro sK hsK; conv => whnf)
      | (refine And.intro (by first | (first | exact True.intro | exact ⟨((anA2 _ _).1 (by assumption)).1.sm.bd, ((anA2 _ _).1 (by assumption)).2.sm.bd⟩) | exact True.intro | exact ⟨rfl, True.intro, fun _ _ => rfl⟩ | exact Nat.le_of_ble_eq_true rfl | (refine ⟨by (try simp only [List.length_cons, List.length_nil]); omega, Int.le_trans (Int.mul_le_mul_of_nonneg_left (show (TInfo.bytes _ : Int) ≤ 64 from Int.ofNat_le.2 (Nat.le_of_ble_eq_true rfl)) (by omega)) (by (try simp only [List.length_cons, List.length_nil]); omega)⟩)) ?_; conv => whnf)))
    · have hn : ¬ (IsA (n, d) ∧ IsA (m, e)) := fun h => hc ((anA2 _ _).2 h)
      exact leaf0 rfl (by rw [lfO_f hn]; exact congrArg (fun z => AVal.tup [lV zL, .int .i64 z]) (anA2' hn)) rfl
    · have hA := (anA2 (n, d) (m, e)).1 (by assumption)
      exact leaf0 rfl (by rw [lfO_e hA (Prod.ext hc.1 hc.2)]; rfl) rfl
    · have hA := (anA2 (n, d) (m, e)).1 (by assumption)
      exact leaf0 rfl (by rw [lfO_t hA (fun h => hc (congrArg Prod.fst h) (congrArg Prod.snd h))]) rfl
abbrev GSLf := (GOk.cons sIs_ok (GOk.cons sLeafOf_ok .nil))
theorem sLfO_ok : PCtrOk Try.prog 31 lfOC where
  enter := enter_ok Try.func31 (by kernel_rfl) rfl
  calls := by
    intro hg rg lr vals k h
    unfold lfOC at h
    split at h
    case h_2 => exact h.elim
    rename_i n d m e
    obtain ⟨_, hk⟩ := h
    replace hk := hk _ rfl
    refine ⟨_, _, hk, fun A w _ _ => ?_⟩
    refine enter T_ok GSLf Try.func31 rfl (K := (· < w.heap.size)) (fun _ h => h) (A := A) (n0 := 0) (b0 := 0) (rows := []) (hp := []) rfl (Nat.zero_le _) (fun k r h => by cases h) rfl (fun k r h => by cases h) rfl rfl (Nat.le_of_ble_eq_true rfl) ?_
    conv => whnf
    repeat (refine V_step T_ok GSLf rfl ?_; conv => whnf)
    repeat (any_goals (first
      | (refine V_step T_ok GSLf rfl ?_; conv => whnf)
      | (refine V_drawA T_ok GSLf mixed (by kernel_rfl) ?_; conv => whnf)
      | (refine bcond_split (fun hc => ?_) (fun hc => ?_) <;> (try simp only [decide_eq_true_eq, decide_eq_false_iff_not, Bool.not_eq_true', Bool.not_eq_false', Bool.and_eq_true, Bool.or_eq_true, Bool.and_eq_false_imp, Bool.or_eq_false_iff, ne_eq, Decidable.not_not] at hc) <;> conv => whnf)
      | (intro ysK hysK; have hysl := congrArg List.length hysK; (try simp only [List.length_set, List.length_append, List.length_cons, List.length_nil, List.length_take, List.length_drop, List.length_replicate] at hysl); conv => whnf)
      | (intro bK hbK; have hbl := congrArg ByteArray.size hbK; conv => whnf)
      | (intro sK hsK; conv => whnf)
      | (refine And.intro (by first | (first | exact True.intro | exact ⟨(IsA.sm (by assumption)).bd, (IsA.sm (by assumption)).bd⟩) | exact True.intro | exact ⟨rfl, True.intro, fun _ _ => rfl⟩ | exact Nat.le_of_ble_eq_true rfl | (refine ⟨by (try simp only [List.length_cons, List.length_nil]); omega, Int.le_trans (Int.mul_le_mul_of_nonneg_left (show (TInfo.bytes _ : Int) ≤ 64 from Int.ofNat_le.2 (Nat.le_of_ble_eq_true rfl)) (by omega)) (by (try simp only [List.length_cons, List.length_nil]); omega)⟩)) ?_; conv => whnf)))
    · exact leaf0 rfl (by rw [lfO_f fun h => hc h.1]; rfl) rfl
    · exact leaf0 rfl (by rw [lfO_f fun h => hc h.2]; rfl) rfl
    · exact leaf0 rfl (by rw [lfO_e ⟨by assumption, by assumption⟩ (Prod.ext hc.1 hc.2)]; rfl) rfl
    · exact leaf0 rfl (by rw [lfO_t ⟨by assumption, by assumption⟩ (fun h => hc (congrArg Prod.fst h) (congrArg Prod.snd h))]) rfl
end Go.Proofs.Ytadlnnjgocknhac.Fw
-- %intro
