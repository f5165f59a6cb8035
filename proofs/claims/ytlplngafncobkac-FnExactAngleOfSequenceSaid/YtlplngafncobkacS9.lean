/- The laws of itineraries and kneading sequences. -/
import Derived.Test.YtlplngafncobkacS8
namespace Go.Proofs.Ytlplngafncobkac.Fw
open Go Go.RowKit
set_option linter.unusedVariables false
set_option linter.unusedSimpArgs false
set_option maxRecDepth 100000
set_option maxHeartbeats 2000000

def codeA2 : PCtr := fun hg rg _ vals k => match vals with
  | [.row i] => rowC aT (rg i) fun xs => True ∧ k [] (.int .i64 (if (xs : List Ang).all allAY = true then 0 else 1))
  | _ => False
theorem anglesCode2_ok : PCtrOk Try.prog 80 codeA2 where
  enter := enter_ok Try.func80 (by kernel_rfl) rfl
  calls := by
    intro hg rg lr vals k h
    unfold codeA2 at h
    split at h
    case h_2 => exact h.elim
    rename_i i
    obtain ⟨e, own, xs, hi, h⟩ : ∃ e own, ∃ (xs : List Ang), _ := rowC_inv h
    have hk := h.2
    refine ⟨_, _, hk, fun A w hB hR => ?_⟩
    refine enter T_ok (GOk.cons allA_ok .nil) Try.func80 rfl (K := (· < w.heap.size)) (fun _ h => h) (A := A.pick [] [i]) (vals := [.row 0]) (n0 := 0) (b0 := 0) (rows := [some ⟨aT, e, false, xs⟩]) (hp := []) rfl (Nat.zero_le _) no_box rfl (one_row (hR i _ hi)) rfl rfl (Nat.le_of_ble_eq_true rfl) ?_
    conv => whnf
    repeat (refine V_step T_ok (GOk.cons allA_ok .nil) rfl ?_; conv => whnf)
    repeat (any_goals (first
      | (refine V_step T_ok (GOk.cons allA_ok .nil) rfl ?_; conv => whnf)
      | (refine V_drawA T_ok (GOk.cons allA_ok .nil) mixed (by kernel_rfl) ?_; conv => whnf)
      | (refine bcond_split (fun hc => ?_) (fun hc => ?_) <;> (try simp only [decide_eq_true_eq, decide_eq_false_iff_not, Bool.not_eq_true', Bool.not_eq_false', Bool.and_eq_true, Bool.or_eq_true, Bool.and_eq_false_imp, Bool.or_eq_false_iff, ne_eq, Decidable.not_not] at hc) <;> conv => whnf)
      | (intro ysK hysK; have hysl := congrArg List.length hysK; (try simp only [List.length_set, List.length_append, List.length_cons, List.length_nil, List.length_take, List.length_drop, List.length_replicate] at hysl); conv => whnf)
      | (intro bK hbK; have hbl := congrArg ByteArray.size hbK; conv => whnf)
      | (intro sK hsK; conv => whnf)
      | (refine And.intro (by first | exact True.intro | (with_reducible assumption) | omega | (simp only [Rng]; omega) | exact Nat.le_of_ble_eq_true rfl | exact True.intro | exact ⟨rfl, True.intro, fun _ _ => rfl⟩ | exact Nat.le_of_ble_eq_true rfl | (refine ⟨by (try simp only [List.length_cons, List.length_nil]); omega, Int.le_trans (Int.mul_le_mul_of_nonneg_left (show (TInfo.bytes _ : Int) ≤ 64 from Int.ofNat_le.2 (Nat.le_of_ble_eq_true rfl)) (by omega)) (by (try simp only [List.length_cons, List.length_nil]); omega)⟩)) ?_; conv => whnf)))
    · have hc : (xs : List Ang).all allAY = false := hc
      exact leaf0 rfl (by rw [hc]; rfl) rfl
    · have hc : (xs : List Ang).all allAY = true := hc
      exact leaf0 rfl (by rw [hc]; rfl) rfl
theorem two_isA (a b : Ang) : (if [a, b].all allAY = true then (0 : Int) else 1) = 0 ↔ IsA a ∧ IsA b := by
  by_cases h : IsA a <;> by_cases h' : IsA b <;> simp [allAY, h, h']
theorem two_isA' {a b : Ang} (h : ¬ (IsA a ∧ IsA b)) : (if [a, b].all allAY = true then (0 : Int) else 1) = 1 := by
  by_cases h1 : IsA a <;> by_cases h2 : IsA b <;> simp_all [allAY]

/-! ### an orbit with its code -/
def oX (a : Ang) : List Ang := if IsA a ∧ orbB a = true then orbX a else []
def oP (a : Ang) : Int := if IsA a ∧ orbB a = true then orbP a else 0
def oN (a : Ang) : Int := if IsA a then (if orbB a = true then 0 else 3) else 1
def orbOC : PCtr := fun _ _ lr vals k => match vals with
  | [.agg [.int .i64 n, .int .i64 d]] => True ∧ ∀ ys, ys = oX (n, d) → k [⟨aT, 27, true, ys⟩] (.tup [.row lr, .int .i64 (oP (n, d)), .int .i64 (oN (n, d))])
  | _ => False
theorem orbitOf_ok : PCtrOk Try.prog 97 orbOC where
  enter := enter_ok Try.func97 (by kernel_rfl) rfl
  calls := by
    intro hg rg lr vals k h
    unfold orbOC at h
    split at h
    case h_2 => exact h.elim
    rename_i n d
    obtain ⟨_, hk⟩ := h
    replace hk := hk _ rfl
    refine ⟨_, _, hk, fun A w _ _ => ?_⟩
    refine enter T_ok (GOk.cons isAngle_ok (GOk.cons orbit_ok .nil)) Try.func97 rfl (K := (· < w.heap.size)) (fun _ h => h) (A := A) (n0 := 0) (b0 := 0) (rows := []) (hp := []) rfl (Nat.zero_le _) (fun k r h => by cases h) rfl (fun k r h => by cases h) rfl rfl (Nat.le_of_ble_eq_true rfl) ?_
    conv => whnf
    repeat (refine V_step T_ok (GOk.cons isAngle_ok (GOk.cons orbit_ok .nil)) rfl ?_; conv => whnf)
    repeat (any_goals (first
      | (refine V_step T_ok (GOk.cons isAngle_ok (GOk.cons orbit_ok .nil)) rfl ?_; conv => whnf)
      | (refine V_drawA T_ok (GOk.cons isAngle_ok (GOk.cons orbit_ok .nil)) mixed (by kernel_rfl) ?_; conv => whnf)
      | (refine bcond_split (fun hc => ?_) (fun hc => ?_) <;> (try simp only [decide_eq_true_eq, decide_eq_false_iff_not, Bool.not_eq_true', Bool.not_eq_false', Bool.and_eq_true, Bool.or_eq_true, Bool.and_eq_false_imp, Bool.or_eq_false_iff, ne_eq, Decidable.not_not] at hc) <;> conv => whnf)
      | (intro ysK hysK; have hysl := congrArg List.length hysK; (try simp only [List.length_set, List.length_append, List.length_cons, List.length_nil, List.length_take, List.length_drop, List.length_replicate] at hysl); conv => whnf)
      | (intro bK hbK; have hbl := congrArg ByteArray.size hbK; conv => whnf)
      | (intro sK hsK; conv => whnf)
      | (refine And.intro (by first | (first | exact True.intro | (with_reducible assumption)) | exact True.intro | exact ⟨rfl, True.intro, fun _ _ => rfl⟩ | exact Nat.le_of_ble_eq_true rfl | (refine ⟨by (try simp only [List.length_cons, List.length_nil]); omega, Int.le_trans (Int.mul_le_mul_of_nonneg_left (show (TInfo.bytes _ : Int) ≤ 64 from Int.ofNat_le.2 (Nat.le_of_ble_eq_true rfl)) (by omega)) (by (try simp only [List.length_cons, List.length_nil]); omega)⟩)) ?_; conv => whnf)))
    · refine leafN rfl (by rw [oX, if_neg (fun h => hc h.1)]) (fun B C h => ?_)
      simp [AVal.den, dens, h, oP, oN, hc, Hdr.val]
    · rename_i ha
      refine leafN rfl (by rw [oX, if_neg (fun h => by rw [hc] at h; cases h.2)]) (fun B C h => ?_)
      simp [AVal.den, dens, h, oP, oN, ha, hc, Hdr.val]
    · rename_i ha
      refine leaf1 0 rfl rfl (by rw [oX, if_pos ⟨ha, hc⟩]) rfl (fun B C h => ?_)
      simp [AVal.den, dens, h, oP, oN, ha, hc]

/-! ### the itinerary with its code -/
noncomputable def itO (x t : Ang) : Sq := if IsA x ∧ IsA t then itR x t else (ByteArray.mk #[], ByteArray.mk #[])
def itN (x t : Ang) : Int := if IsA x ∧ IsA t then (if orbB x = true then 0 else 3) else 1
def itOC : PCtr := fun _ _ _ vals k => match vals with
  | [.agg [.int .i64 n, .int .i64 d], .agg [.int .i64 m, .int .i64 e]] => True ∧ ∀ q : Sq × Int, q = (itO (n, d) (m, e), itN (n, d) (m, e)) → k [] (.tup [.agg [.str q.1.1, .str q.1.2], .int .i64 q.2])
  | _ => False
theorem itO_f {x t : Ang} (h : ¬ (IsA x ∧ IsA t)) : itO x t = (ByteArray.mk #[], ByteArray.mk #[]) := by unfold itO; rw [if_neg h]
theorem itO_t {x t : Ang} (h : IsA x ∧ IsA t) : itO x t = itR x t := by unfold itO; rw [if_pos h]
theorem itN_f {x t : Ang} (h : ¬ (IsA x ∧ IsA t)) : itN x t = 1 := by unfold itN; rw [if_neg h]
theorem itN_t {x t : Ang} (h : IsA x ∧ IsA t) (hb : orbB x = true) : itN x t = 0 := by unfold itN; rw [if_pos h, if_pos hb]
theorem itN_l {x t : Ang} (h : IsA x ∧ IsA t) (hb : orbB x = false) : itN x t = 3 := by unfold itN; rw [if_pos h, hb]; rfl
theorem oN_0 {x : Ang} (hx : IsA x) : oN x = 0 ↔ orbB x = true := by
  unfold oN; rw [if_pos hx]
  rcases orbB x <;> simp
abbrev GIt := (GOk.cons anglesCode2_ok (GOk.cons orbitOf_ok (GOk.cons it_ok .nil)))
theorem itOf_ok : PCtrOk Try.prog 51 itOC where
  enter := enter_ok Try.func51 (by kernel_rfl) rfl
  calls := by
    intro hg rg lr vals k h
    unfold itOC at h
    split at h
    case h_2 => exact h.elim
    rename_i n d m e
    obtain ⟨_, hk⟩ := h
    replace hk := hk _ rfl
    refine ⟨_, _, hk, fun A w _ _ => ?_⟩
    refine enter T_ok GIt Try.func51 rfl (K := (· < w.heap.size)) (fun _ h => h) (A := A) (n0 := 0) (b0 := 0) (rows := []) (hp := []) rfl (Nat.zero_le _) (fun k r h => by cases h) rfl (fun k r h => by cases h) rfl rfl (Nat.le_of_ble_eq_true rfl) ?_
    conv => whnf
    repeat (refine V_step T_ok GIt rfl ?_; conv => whnf)
    repeat (any_goals (first
      | (refine V_step T_ok GIt rfl ?_; conv => whnf)
      | (refine V_drawA T_ok GIt mixed (by kernel_rfl) ?_; conv => whnf)
      | (refine bcond_split (fun hc => ?_) (fun hc => ?_) <;> (try simp only [decide_eq_true_eq, decide_eq_false_iff_not, Bool.not_eq_true', Bool.not_eq_false', Bool.and_eq_true, Bool.or_eq_true, Bool.and_eq_false_imp, Bool.or_eq_false_iff, ne_eq, Decidable.not_not] at hc) <;> conv => whnf)
      | (intro ysK hysK; have hysl := congrArg List.length hysK; (try simp only [List.length_set, List.length_append, List.length_cons, List.length_nil, List.length_take, List.length_drop, List.length_replicate] at hysl); conv => whnf)
      | (intro bK hbK; have hbl := congrArg ByteArray.size hbK; conv => whnf)
      | (intro sK hsK; conv => whnf)
      | (refine And.intro (by first | (first | exact True.intro | exact ⟨(two_isA _ _).1 (by assumption), (oN_0 ((two_isA _ _).1 (by assumption)).1).1 (by assumption)⟩) | exact True.intro | exact ⟨rfl, True.intro, fun _ _ => rfl⟩ | exact Nat.le_of_ble_eq_true rfl | (refine ⟨by (try simp only [List.length_cons, List.length_nil]); omega, Int.le_trans (Int.mul_le_mul_of_nonneg_left (show (TInfo.bytes _ : Int) ≤ 64 from Int.ofNat_le.2 (Nat.le_of_ble_eq_true rfl)) (by omega)) (by (try simp only [List.length_cons, List.length_nil]); omega)⟩)) ?_; conv => whnf)))
    · have hn : ¬ (IsA (n, d) ∧ IsA (m, e)) := fun h => hc ((two_isA _ _).2 h)
      have e1 := two_isA' hn
      exact leaf0 rfl (by rw [itO_f hn, itN_f hn]; exact congrArg (fun z => AVal.tup [.agg [.str (ByteArray.mk #[]), .str (ByteArray.mk #[])], .int .i64 z]) e1) rfl
    · have hA := (two_isA _ _).1 (by assumption)
      have hb : orbB (n, d) = false := by
        rcases h : orbB (n, d) with _ | _
        · rfl
        · exact absurd ((oN_0 hA.1).2 h) hc
      have e1 : oN (n, d) = 3 := by unfold oN; rw [if_pos hA.1, hb]; rfl
      exact leaf0 rfl (by rw [itO_t hA, itN_l hA hb, itR_f hb, ← e1]; rfl) rfl
    · have hA := (two_isA _ _).1 (by assumption)
      have hb := (oN_0 hA.1).1 hc
      exact leaf0 rfl (by rw [itO_t hA, itN_t hA hb, itR_t hb, hsK]) rfl
abbrev GsIt := (GOk.cons sIs_ok (GOk.cons sIt_ok .nil))
theorem sItOf_ok : PCtrOk Try.prog 50 itOC where
  enter := enter_ok Try.func50 (by kernel_rfl) rfl
  calls := by
    intro hg rg lr vals k h
    unfold itOC at h
    split at h
    case h_2 => exact h.elim
    rename_i n d m e
    obtain ⟨_, hk⟩ := h
    replace hk := hk _ rfl
    refine ⟨_, _, hk, fun A w _ _ => ?_⟩
    refine enter T_ok GsIt Try.func50 rfl (K := (· < w.heap.size)) (fun _ h => h) (A := A) (n0 := 0) (b0 := 0) (rows := []) (hp := []) rfl (Nat.zero_le _) (fun k r h => by cases h) rfl (fun k r h => by cases h) rfl rfl (Nat.le_of_ble_eq_true rfl) ?_
    conv => whnf
    repeat (refine V_step T_ok GsIt rfl ?_; conv => whnf)
    repeat (any_goals (first
      | (refine V_step T_ok GsIt rfl ?_; conv => whnf)
      | (refine V_drawA T_ok GsIt mixed (by kernel_rfl) ?_; conv => whnf)
      | (refine bcond_split (fun hc => ?_) (fun hc => ?_) <;> (try simp only [decide_eq_true_eq, decide_eq_false_iff_not, Bool.not_eq_true', Bool.not_eq_false', Bool.and_eq_true, Bool.or_eq_true, Bool.and_eq_false_imp, Bool.or_eq_false_iff, ne_eq, Decidable.not_not] at hc) <;> conv => whnf)
      | (intro ysK hysK; have hysl := congrArg List.length hysK; (try simp only [List.length_set, List.length_append, List.length_cons, List.length_nil, List.length_take, List.length_drop, List.length_replicate] at hysl); conv => whnf)
      | (intro bK hbK; have hbl := congrArg ByteArray.size hbK; conv => whnf)
      | (intro sK hsK; conv => whnf)
      | (refine And.intro (by first | (first | exact True.intro | exact ⟨by assumption, by assumption⟩) | exact True.intro | exact ⟨rfl, True.intro, fun _ _ => rfl⟩ | exact Nat.le_of_ble_eq_true rfl | (refine ⟨by (try simp only [List.length_cons, List.length_nil]); omega, Int.le_trans (Int.mul_le_mul_of_nonneg_left (show (TInfo.bytes _ : Int) ≤ 64 from Int.ofNat_le.2 (Nat.le_of_ble_eq_true rfl)) (by omega)) (by (try simp only [List.length_cons, List.length_nil]); omega)⟩)) ?_; conv => whnf)))
    · have hn : ¬ (IsA (n, d) ∧ IsA (m, e)) := fun h => hc h.1
      exact leaf0 rfl (by rw [itO_f hn, itN_f hn]; rfl) rfl
    · have hn : ¬ (IsA (n, d) ∧ IsA (m, e)) := fun h => hc h.2
      exact leaf0 rfl (by rw [itO_f hn, itN_f hn]; rfl) rfl
    · have hA : IsA (n, d) ∧ IsA (m, e) := ⟨by assumption, by assumption⟩
      exact leaf0 rfl (by rw [itO_t hA, itN_l hA hc, itR_f hc]; rfl) rfl
    · have hA : IsA (n, d) ∧ IsA (m, e) := ⟨by assumption, by assumption⟩
      exact leaf0 rfl (by rw [itO_t hA, itN_t hA hc, hsK]) rfl
def knOC : PCtr := fun _ _ _ vals k => match vals with
  | [.agg [.int .i64 n, .int .i64 d]] => True ∧ ∀ q : Sq × Int, q = (itO (n, d) (n, d), itN (n, d) (n, d)) → k [] (.tup [.agg [.str q.1.1, .str q.1.2], .int .i64 q.2])
  | _ => False
theorem knOf_ok : PCtrOk Try.prog 54 knOC where
  enter := enter_ok Try.func54 (by kernel_rfl) rfl
  calls := by
    intro hg rg lr vals k h
    unfold knOC at h
    split at h
    case h_2 => exact h.elim
    rename_i n d
    obtain ⟨_, hk⟩ := h
    replace hk := hk _ rfl
    refine ⟨_, _, hk, fun A w _ _ => ?_⟩
    refine enter T_ok (GOk.cons itOf_ok .nil) Try.func54 rfl (K := (· < w.heap.size)) (fun _ h => h) (A := A) (n0 := 0) (b0 := 0) (rows := []) (hp := []) rfl (Nat.zero_le _) (fun k r h => by cases h) rfl (fun k r h => by cases h) rfl rfl (Nat.le_of_ble_eq_true rfl) ?_
    conv => whnf
    repeat (refine V_step T_ok (GOk.cons itOf_ok .nil) rfl ?_; conv => whnf)
    repeat (any_goals (first
      | (refine V_step T_ok (GOk.cons itOf_ok .nil) rfl ?_; conv => whnf)
      | (refine V_drawA T_ok (GOk.cons itOf_ok .nil) mixed (by kernel_rfl) ?_; conv => whnf)
      | (refine bcond_split (fun hc => ?_) (fun hc => ?_) <;> (try simp only [decide_eq_true_eq, decide_eq_false_iff_not, Bool.not_eq_true', Bool.not_eq_false', Bool.and_eq_true, Bool.or_eq_true, Bool.and_eq_false_imp, Bool.or_eq_false_iff, ne_eq, Decidable.not_not] at hc) <;> conv => whnf)
      | (intro ysK hysK; have hysl := congrArg List.length hysK; (try simp only [List.length_set, List.length_append, List.length_cons, List.length_nil, List.length_take, List.length_drop, List.length_replicate] at hysl); conv => whnf)
      | (intro bK hbK; have hbl := congrArg ByteArray.size hbK; conv => whnf)
      | (intro sK hsK; conv => whnf)
      | (refine And.intro (by first | exact True.intro | (with_reducible assumption) | omega | (simp only [Rng]; omega) | exact Nat.le_of_ble_eq_true rfl | exact True.intro | exact ⟨rfl, True.intro, fun _ _ => rfl⟩ | exact Nat.le_of_ble_eq_true rfl | (refine ⟨by (try simp only [List.length_cons, List.length_nil]); omega, Int.le_trans (Int.mul_le_mul_of_nonneg_left (show (TInfo.bytes _ : Int) ≤ 64 from Int.ofNat_le.2 (Nat.le_of_ble_eq_true rfl)) (by omega)) (by (try simp only [List.length_cons, List.length_nil]); omega)⟩)) ?_; conv => whnf)))
    all_goals exact leaf0 rfl (by rw [hsK]) rfl
theorem sKnOf_ok : PCtrOk Try.prog 53 knOC where
  enter := enter_ok Try.func53 (by kernel_rfl) rfl
  calls := by
    intro hg rg lr vals k h
    unfold knOC at h
    split at h
    case h_2 => exact h.elim
    rename_i n d
    obtain ⟨_, hk⟩ := h
    replace hk := hk _ rfl
    refine ⟨_, _, hk, fun A w _ _ => ?_⟩
    refine enter T_ok (GOk.cons sItOf_ok .nil) Try.func53 rfl (K := (· < w.heap.size)) (fun _ h => h) (A := A) (n0 := 0) (b0 := 0) (rows := []) (hp := []) rfl (Nat.zero_le _) (fun k r h => by cases h) rfl (fun k r h => by cases h) rfl rfl (Nat.le_of_ble_eq_true rfl) ?_
    conv => whnf
    repeat (refine V_step T_ok (GOk.cons sItOf_ok .nil) rfl ?_; conv => whnf)
    repeat (any_goals (first
      | (refine V_step T_ok (GOk.cons sItOf_ok .nil) rfl ?_; conv => whnf)
      | (refine V_drawA T_ok (GOk.cons sItOf_ok .nil) mixed (by kernel_rfl) ?_; conv => whnf)
      | (refine bcond_split (fun hc => ?_) (fun hc => ?_) <;> (try simp only [decide_eq_true_eq, decide_eq_false_iff_not, Bool.not_eq_true', Bool.not_eq_false', Bool.and_eq_true, Bool.or_eq_true, Bool.and_eq_false_imp, Bool.or_eq_false_iff, ne_eq, Decidable.not_not] at hc) <;> conv => whnf)
      | (intro ysK hysK; have hysl := congrArg List.length hysK; (try simp only [List.length_set, List.length_append, List.length_cons, List.length_nil, List.length_take, List.length_drop, List.length_replicate] at hysl); conv => whnf)
      | (intro bK hbK; have hbl := congrArg ByteArray.size hbK; conv => whnf)
      | (intro sK hsK; conv => whnf)
      | (refine And.intro (by first | exact True.intro | (with_reducible assumption) | omega | (simp only [Rng]; omega) | exact Nat.le_of_ble_eq_true rfl | exact True.intro | exact ⟨rfl, True.intro, fun _ _ => rfl⟩ | exact Nat.le_of_ble_eq_true rfl | (refine ⟨by (try simp only [List.length_cons, List.length_nil]); omega, Int.le_trans (Int.mul_le_mul_of_nonneg_left (show (TInfo.bytes _ : Int) ≤ 64 from Int.ofNat_le.2 (Nat.le_of_ble_eq_true rfl)) (by omega)) (by (try simp only [List.length_cons, List.length_nil]); omega)⟩)) ?_; conv => whnf)))
    all_goals exact leaf0 rfl (by rw [hsK]) rfl
def eqSC : PCtr := fun _ _ _ vals k => match vals with
  | [.agg [.str a, .str b], .agg [.str c, .str d]] => True ∧ k [] (.bool (decide (a = c) && decide (b = d)))
  | _ => False
theorem eqSeq_ok : PCtrOk Try.prog 52 eqSC where
  enter := enter_ok Try.func52 (by kernel_rfl) rfl
  calls := by
    intro hg rg lr vals k h
    unfold eqSC at h
    split at h
    case h_2 => exact h.elim
    rename_i a b c d
    obtain ⟨_, hk⟩ := h
    refine ⟨_, _, hk, fun A w _ _ => ?_⟩
    refine enter T_ok .nil Try.func52 rfl (K := (· < w.heap.size)) (fun _ h => h) (A := A) (n0 := 0) (b0 := 0) (rows := []) (hp := []) rfl (Nat.zero_le _) (fun k r h => by cases h) rfl (fun k r h => by cases h) rfl rfl (Nat.le_of_ble_eq_true rfl) ?_
    conv => whnf
    repeat (refine V_step T_ok .nil rfl ?_; conv => whnf)
    repeat (any_goals (first
      | (refine V_step T_ok .nil rfl ?_; conv => whnf)
      | (refine V_drawA T_ok .nil mixed (by kernel_rfl) ?_; conv => whnf)
      | (refine bcond_split (fun hc => ?_) (fun hc => ?_) <;> (try simp only [decide_eq_true_eq, decide_eq_false_iff_not, Bool.not_eq_true', Bool.not_eq_false', Bool.and_eq_true, Bool.or_eq_true, Bool.and_eq_false_imp, Bool.or_eq_false_iff, ne_eq, Decidable.not_not] at hc) <;> conv => whnf)
      | (intro ysK hysK; have hysl := congrArg List.length hysK; (try simp only [List.length_set, List.length_append, List.length_cons, List.length_nil, List.length_take, List.length_drop, List.length_replicate] at hysl); conv => whnf)
      | (intro bK hbK; have hbl := congrArg ByteArray.size hbK; conv => whnf)
      | (intro sK hsK; conv => whnf)
      | (refine And.intro (by first | exact True.intro | (with_reducible assumption) | omega | (simp only [Rng]; omega) | exact Nat.le_of_ble_eq_true rfl | exact True.intro | exact ⟨rfl, True.intro, fun _ _ => rfl⟩ | exact Nat.le_of_ble_eq_true rfl | (refine ⟨by (try simp only [List.length_cons, List.length_nil]); omega, Int.le_trans (Int.mul_le_mul_of_nonneg_left (show (TInfo.bytes _ : Int) ≤ 64 from Int.ofNat_le.2 (Nat.le_of_ble_eq_true rfl)) (by omega)) (by (try simp only [List.length_cons, List.length_nil]); omega)⟩)) ?_; conv => whnf)))
    all_goals refine leaf0 rfl (congrArg AVal.bool ?_) rfl
    all_goals simp [*]

def lawItC : PCtr := fun _ _ _ vals k => match vals with
  | [.agg [.int .i64 n, .int .i64 d], .agg [.int .i64 m, .int .i64 e]] => True ∧ k [] (.bool true)
  | _ => False
abbrev GlIt := (GOk.cons toAngle_ok (GOk.cons itOf_ok (GOk.cons sItOf_ok (GOk.cons eqSeq_ok .nil))))
theorem lawIt_ok : PCtrOk Try.prog 11 lawItC where
  enter := enter_ok Try.func11 (by kernel_rfl) rfl
  calls := by
    intro hg rg lr vals k h
    unfold lawItC at h
    split at h
    case h_2 => exact h.elim
    rename_i n d m e
    obtain ⟨_, hk⟩ := h
    refine ⟨_, _, hk, fun A w _ _ => ?_⟩
    refine enter T_ok GlIt Try.func11 rfl (K := (· < w.heap.size)) (fun _ h => h) (A := A) (n0 := 0) (b0 := 0) (rows := []) (hp := []) rfl (Nat.zero_le _) (fun k r h => by cases h) rfl (fun k r h => by cases h) rfl rfl (Nat.le_of_ble_eq_true rfl) ?_
    conv => whnf
    repeat (refine V_step T_ok GlIt rfl ?_; conv => whnf)
    repeat (any_goals (first
      | (refine V_step T_ok GlIt rfl ?_; conv => whnf)
      | (refine V_drawN T_ok GlIt mixed (by kernel_rfl) ?_; conv => whnf)
      | (refine bcond_split (fun hc => ?_) (fun hc => ?_) <;> (try simp only [decide_eq_true_eq, decide_eq_false_iff_not, Bool.not_eq_true', Bool.not_eq_false', Bool.and_eq_true, Bool.or_eq_true, Bool.and_eq_false_imp, Bool.or_eq_false_iff, ne_eq, Decidable.not_not] at hc) <;> conv => whnf)
      | (intro ysK hysK; have hysl := congrArg List.length hysK; (try simp only [List.length_set, List.length_append, List.length_cons, List.length_nil, List.length_take, List.length_drop, List.length_replicate] at hysl); conv => whnf)
      | (intro bK hbK; have hbl := congrArg ByteArray.size hbK; conv => whnf)
      | (intro sK hsK; conv => whnf)
      | (refine And.intro (by first | exact True.intro | (with_reducible assumption) | omega | (simp only [Rng]; omega) | exact Nat.le_of_ble_eq_true rfl | exact True.intro | exact ⟨rfl, True.intro, fun _ _ => rfl⟩ | exact Nat.le_of_ble_eq_true rfl | (refine ⟨by (try simp only [List.length_cons, List.length_nil]); omega, Int.le_trans (Int.mul_le_mul_of_nonneg_left (show (TInfo.bytes _ : Int) ≤ 64 from Int.ofNat_le.2 (Nat.le_of_ble_eq_true rfl)) (by omega)) (by (try simp only [List.length_cons, List.length_nil]); omega)⟩)) ?_; conv => whnf)))
    · rename_i s0 h0
      obtain rfl : sK = s0 := hsK.trans h0.symm
      exact absurd rfl (hc rfl)
    · rename_i s0 h0 _
      obtain rfl : sK = s0 := hsK.trans h0.symm
      exact absurd rfl hc
    · exact leaf0 rfl rfl rfl
def lawKnC : PCtr := fun _ _ _ vals k => match vals with
  | [.agg [.int .i64 n, .int .i64 d]] => True ∧ k [] (.bool true)
  | _ => False
abbrev GlKn := (GOk.cons toAngle_ok (GOk.cons knOf_ok (GOk.cons sKnOf_ok (GOk.cons eqSeq_ok .nil))))
theorem lawKn_ok : PCtrOk Try.prog 12 lawKnC where
  enter := enter_ok Try.func12 (by kernel_rfl) rfl
  calls := by
    intro hg rg lr vals k h
    unfold lawKnC at h
    split at h
    case h_2 => exact h.elim
    rename_i n d
    obtain ⟨_, hk⟩ := h
    refine ⟨_, _, hk, fun A w _ _ => ?_⟩
    refine enter T_ok GlKn Try.func12 rfl (K := (· < w.heap.size)) (fun _ h => h) (A := A) (n0 := 0) (b0 := 0) (rows := []) (hp := []) rfl (Nat.zero_le _) (fun k r h => by cases h) rfl (fun k r h => by cases h) rfl rfl (Nat.le_of_ble_eq_true rfl) ?_
    conv => whnf
    repeat (refine V_step T_ok GlKn rfl ?_; conv => whnf)
    repeat (any_goals (first
      | (refine V_step T_ok GlKn rfl ?_; conv => whnf)
      | (refine V_drawN T_ok GlKn mixed (by kernel_rfl) ?_; conv => whnf)
      | (refine bcond_split (fun hc => ?_) (fun hc => ?_) <;> (try simp only [decide_eq_true_eq, decide_eq_false_iff_not, Bool.not_eq_true', Bool.not_eq_false', Bool.and_eq_true, Bool.or_eq_true, Bool.and_eq_false_imp, Bool.or_eq_false_iff, ne_eq, Decidable.not_not] at hc) <;> conv => whnf)
      | (intro ysK hysK; have hysl := congrArg List.length hysK; (try simp only [List.length_set, List.length_append, List.length_cons, List.length_nil, List.length_take, List.length_drop, List.length_replicate] at hysl); conv => whnf)
      | (intro bK hbK; have hbl := congrArg ByteArray.size hbK; conv => whnf)
      | (intro sK hsK; conv => whnf)
      | (refine And.intro (by first | exact True.intro | (with_reducible assumption) | omega | (simp only [Rng]; omega) | exact Nat.le_of_ble_eq_true rfl | exact True.intro | exact ⟨rfl, True.intro, fun _ _ => rfl⟩ | exact Nat.le_of_ble_eq_true rfl | (refine ⟨by (try simp only [List.length_cons, List.length_nil]); omega, Int.le_trans (Int.mul_le_mul_of_nonneg_left (show (TInfo.bytes _ : Int) ≤ 64 from Int.ofNat_le.2 (Nat.le_of_ble_eq_true rfl)) (by omega)) (by (try simp only [List.length_cons, List.length_nil]); omega)⟩)) ?_; conv => whnf)))
    · rename_i s0 h0
      obtain rfl : sK = s0 := hsK.trans h0.symm
      exact absurd rfl (hc rfl)
    · rename_i s0 h0 _
      obtain rfl : sK = s0 := hsK.trans h0.symm
      exact absurd rfl hc
    · exact leaf0 rfl rfl rfl
end Go.Proofs.Ytlplngafncobkac.Fw
-- %intro
