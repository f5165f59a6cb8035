/- Contracts: the reference's majors of a leaf; the law, walked. -/
import Derived.Test.YtllagpbbbdekiaaHC
import Derived.Test.YtllagpbbbdekiaaE5
namespace Go.Proofs.Ytllagpbbbdekiaa.Fw
open Go Go.RowKit
set_option linter.unusedVariables false
set_option linter.unusedSimpArgs false
set_option maxRecDepth 100000
set_option maxHeartbeats 2000000

def sFwdC : PCtr := fun _ _ _ vals k => match vals with
  | [.agg [.int .i64 n, .int .i64 d], .agg [.int .i64 m, .int .i64 e]] => (Sm (n, d) ∧ Sm (m, e)) ∧ k [] (aV (minusA (m, e) (n, d)))
  | _ => False
theorem sFwd_ok : PCtrOk Try.prog 102 sFwdC where
  enter := enter_ok Try.func102 (by kernel_rfl) rfl
  calls := by
    intro hg rg lr vals k h
    unfold sFwdC at h
    split at h
    case h_2 => exact h.elim
    rename_i n d m e
    obtain ⟨⟨hn, hd⟩, hk⟩ := h
    refine ⟨_, _, hk, fun A w _ _ => ?_⟩
    refine enter T_ok (GOk.cons sOf_ok .nil) Try.func102 rfl (K := (· < w.heap.size)) (fun _ h => h) (A := A) (n0 := 0) (b0 := 0) (rows := []) (hp := []) rfl (Nat.zero_le _) (fun k r h => by cases h) rfl (fun k r h => by cases h) rfl rfl (Nat.le_of_ble_eq_true rfl) ?_
    conv => whnf
    repeat (refine V_step T_ok (GOk.cons sOf_ok .nil) rfl ?_; conv => whnf)
    obtain ⟨⟨h1, h2⟩, ⟨h3, h4⟩⟩ := hn
    obtain ⟨⟨h5, h6⟩, ⟨h7, h8⟩⟩ := hd
    simp only at h1 h2 h3 h4 h5 h6 h7 h8
    have u1 := mulBd h1 (by omega) (by omega) (by omega : e ≤ 1073741824)
    have u2 := mulBd h5 (by omega) (by omega) (by omega : d ≤ 1073741824)
    have u3 : d * e ≤ 1073741824 := Int.le_trans (Int.mul_le_mul h4 h8 (by omega) (by omega)) (by omega)
    have u4 := mulPos h3 h7
    repeat (any_goals (first
      | (refine V_step T_ok (GOk.cons sOf_ok .nil) rfl ?_; conv => whnf)
      | (refine V_drawA T_ok (GOk.cons sOf_ok .nil) mixed (by kernel_rfl) ?_; conv => whnf)
      | (refine bcond_split (fun hc => ?_) (fun hc => ?_) <;> (try simp only [decide_eq_true_eq, decide_eq_false_iff_not, Bool.not_eq_true', Bool.not_eq_false', Bool.and_eq_true, Bool.or_eq_true, Bool.and_eq_false_imp, Bool.or_eq_false_iff, ne_eq, Decidable.not_not] at hc) <;> conv => whnf)
      | (intro ysK hysK; have hysl := congrArg List.length hysK; (try simp only [List.length_set, List.length_append, List.length_cons, List.length_nil, List.length_take, List.length_drop, List.length_replicate] at hysl); conv => whnf)
      | (refine And.intro (by first | (first | exact True.intro | omega | (simp only [Rng]; omega)) | exact True.intro | exact ⟨rfl, True.intro, fun _ _ => rfl⟩ | exact Nat.le_of_ble_eq_true rfl | (refine ⟨by (try simp only [List.length_cons, List.length_nil]); omega, Int.le_trans (Int.mul_le_mul_of_nonneg_left (show (TInfo.bytes _ : Int) ≤ 64 from Int.ofNat_le.2 (Nat.le_of_ble_eq_true rfl)) (by omega)) (by (try simp only [List.length_cons, List.length_nil]); omega)⟩)) ?_; conv => whnf)))
    all_goals refine leaf0 rfl ?_ rfl
    all_goals (unfold minusA; simp only [Int.mul_comm e d])

theorem size_isF {l : Lf} (h : IsL l) : IsF (sizeL l) := dist_f h.1.f h.2.1.f
def longB (l : Lf) : Bool := decide (¬ ShortL l)
def sLongC : PCtr := fun _ _ _ vals k => match vals with
  | [.agg [.int .i64 n, .int .i64 d, .int .i64 m, .int .i64 e]] => IsL ((n, d), (m, e)) ∧ k [] (.bool (longB ((n, d), (m, e))))
  | _ => False
theorem sLong_ok : PCtrOk Try.prog 75 sLongC where
  enter := enter_ok Try.func75 (by kernel_rfl) rfl
  calls := by
    intro hg rg lr vals k h
    unfold sLongC at h
    split at h
    case h_2 => exact h.elim
    rename_i n d m e
    obtain ⟨hl, hk⟩ := h
    refine ⟨_, _, hk, fun A w _ _ => ?_⟩
    refine enter T_ok (GOk.cons sDist_ok .nil) Try.func75 rfl (K := (· < w.heap.size)) (fun _ h => h) (A := A) (n0 := 0) (b0 := 0) (rows := []) (hp := []) rfl (Nat.zero_le _) (fun k r h => by cases h) rfl (fun k r h => by cases h) rfl rfl (Nat.le_of_ble_eq_true rfl) ?_
    conv => whnf
    repeat (refine V_step T_ok (GOk.cons sDist_ok .nil) rfl ?_; conv => whnf)
    have hs := hl.sm
    have hq : sDistA (n, d) (m, e) = sizeL ((n, d), (m, e)) := sDist_eq hl.1 hl.2.1
    have hf := size_isF hl
    have hb := dist_bd hs.1 hs.2
    have hb1 : Bd (sizeL ((n, d), (m, e))) := hb
    obtain ⟨⟨b1, b2⟩, ⟨b3, b4⟩⟩ := hb1
    repeat (any_goals (first
      | (refine V_step T_ok (GOk.cons sDist_ok .nil) rfl ?_; conv => whnf)
      | (refine V_drawN T_ok (GOk.cons sDist_ok .nil) mixed (by kernel_rfl) ?_; conv => whnf)
      | (refine bcond_split (fun hc => ?_) (fun hc => ?_) <;> (try simp only [decide_eq_true_eq, decide_eq_false_iff_not, Bool.not_eq_true', Bool.not_eq_false', Bool.and_eq_true, Bool.or_eq_true, Bool.and_eq_false_imp, Bool.or_eq_false_iff, ne_eq, Decidable.not_not] at hc) <;> conv => whnf)
      | (intro ysK hysK; have hysl := congrArg List.length hysK; (try simp only [List.length_set, List.length_append, List.length_cons, List.length_nil, List.length_take, List.length_drop, List.length_replicate] at hysl); conv => whnf)
      | (refine And.intro (by first | (first | exact True.intro | exact hs | (rw [hq]; simp only [Rng]; omega) | (simp only [Rng]; omega)) | exact True.intro | exact ⟨rfl, True.intro, fun _ _ => rfl⟩ | exact Nat.le_of_ble_eq_true rfl | (refine ⟨by (try simp only [List.length_cons, List.length_nil]); omega, Int.le_trans (Int.mul_le_mul_of_nonneg_left (show (TInfo.bytes _ : Int) ≤ 64 from Int.ofNat_le.2 (Nat.le_of_ble_eq_true rfl)) (by omega)) (by (try simp only [List.length_cons, List.length_nil]); omega)⟩)) ?_; conv => whnf)))
    all_goals refine leaf0 rfl (congrArg AVal.bool ?_) rfl
    all_goals (rw [hq]; unfold longB ShortL; rw [decide_eq_decide, Decidable.not_not, v_third hf])

def sEndsC : PCtr := fun _ _ _ vals k => match vals with
  | [.agg [.int .i64 n, .int .i64 d, .int .i64 m, .int .i64 e]] => IsL ((n, d), (m, e)) ∧ k [] (.tup [aV (sEndsA ((n, d), (m, e))).1, aV (sEndsA ((n, d), (m, e))).2])
  | _ => False
theorem sEnds_ok : PCtrOk Try.prog 78 sEndsC where
  enter := enter_ok Try.func78 (by kernel_rfl) rfl
  calls := by
    intro hg rg lr vals k h
    unfold sEndsC at h
    split at h
    case h_2 => exact h.elim
    rename_i n d m e
    obtain ⟨hl, hk⟩ := h
    refine ⟨_, _, hk, fun A w _ _ => ?_⟩
    refine enter T_ok (GOk.cons sFwd_ok .nil) Try.func78 rfl (K := (· < w.heap.size)) (fun _ h => h) (A := A) (n0 := 0) (b0 := 0) (rows := []) (hp := []) rfl (Nat.zero_le _) (fun k r h => by cases h) rfl (fun k r h => by cases h) rfl rfl (Nat.le_of_ble_eq_true rfl) ?_
    conv => whnf
    repeat (refine V_step T_ok (GOk.cons sFwd_ok .nil) rfl ?_; conv => whnf)
    have hs := hl.sm
    have hb : Bd (minusA (m, e) (n, d)) := hs.2.minus hs.1
    obtain ⟨⟨b1, b2⟩, ⟨b3, b4⟩⟩ := hb
    repeat (any_goals (first
      | (refine V_step T_ok (GOk.cons sFwd_ok .nil) rfl ?_; conv => whnf)
      | (refine V_drawN T_ok (GOk.cons sFwd_ok .nil) mixed (by kernel_rfl) ?_; conv => whnf)
      | (refine bcond_split (fun hc => ?_) (fun hc => ?_) <;> (try simp only [decide_eq_true_eq, decide_eq_false_iff_not, Bool.not_eq_true', Bool.not_eq_false', Bool.and_eq_true, Bool.or_eq_true, Bool.and_eq_false_imp, Bool.or_eq_false_iff, ne_eq, Decidable.not_not] at hc) <;> conv => whnf)
      | (intro ysK hysK; have hysl := congrArg List.length hysK; (try simp only [List.length_set, List.length_append, List.length_cons, List.length_nil, List.length_take, List.length_drop, List.length_replicate] at hysl); conv => whnf)
      | (refine And.intro (by first | (first | exact True.intro | exact hs | (simp only [Rng]; omega)) | exact True.intro | exact ⟨rfl, True.intro, fun _ _ => rfl⟩ | exact Nat.le_of_ble_eq_true rfl | (refine ⟨by (try simp only [List.length_cons, List.length_nil]); omega, Int.le_trans (Int.mul_le_mul_of_nonneg_left (show (TInfo.bytes _ : Int) ≤ 64 from Int.ofNat_le.2 (Nat.le_of_ble_eq_true rfl)) (by omega)) (by (try simp only [List.length_cons, List.length_nil]); omega)⟩)) ?_; conv => whnf)))
    · exact leaf0 rfl (by unfold sEndsA; rw [if_pos hc]) rfl
    · exact leaf0 rfl (by unfold sEndsA; rw [if_neg hc]) rfl

def sPairC : PCtr := fun _ _ lr vals k => match vals with
  | [.agg [.int .i64 n, .int .i64 d, .int .i64 m, .int .i64 e], .agg [.int .i64 n', .int .i64 d', .int .i64 m', .int .i64 e']] => ((Bd (n, d) ∧ Bd (m, e)) ∧ Bd (n', d') ∧ Bd (m', e')) ∧ ∀ ys, ys = sTwoL ((n, d), (m, e)) ((n', d'), (m', e')) → k [⟨lT, 31, true, ys⟩] (.row lr)
  | _ => False
theorem sPair_ok : PCtrOk Try.prog 50 sPairC where
  enter := enter_ok Try.func50 (by kernel_rfl) rfl
  calls := by
    intro hg rg lr vals k h
    unfold sPairC at h
    split at h
    case h_2 => exact h.elim
    rename_i n d m e n' d' m' e'
    obtain ⟨⟨h1, h2⟩, hk⟩ := h
    replace hk := hk _ rfl
    refine ⟨_, _, hk, fun A w _ _ => ?_⟩
    refine enter T_ok (GOk.cons sLessL_ok .nil) Try.func50 rfl (K := (· < w.heap.size)) (fun _ h => h) (A := A) (n0 := 0) (b0 := 0) (rows := []) (hp := []) rfl (Nat.zero_le _) (fun k r h => by cases h) rfl (fun k r h => by cases h) rfl rfl (Nat.le_of_ble_eq_true rfl) ?_
    conv => whnf
    repeat (refine V_step T_ok (GOk.cons sLessL_ok .nil) rfl ?_; conv => whnf)
    repeat (any_goals (first
      | (refine V_step T_ok (GOk.cons sLessL_ok .nil) rfl ?_; conv => whnf)
      | (refine V_drawA T_ok (GOk.cons sLessL_ok .nil) mixed (by kernel_rfl) ?_; conv => whnf)
      | (refine bcond_split (fun hc => ?_) (fun hc => ?_) <;> (try simp only [decide_eq_true_eq, decide_eq_false_iff_not, Bool.not_eq_true', Bool.not_eq_false', Bool.and_eq_true, Bool.or_eq_true, Bool.and_eq_false_imp, Bool.or_eq_false_iff, ne_eq, Decidable.not_not] at hc) <;> conv => whnf)
      | (intro ysK hysK; have hysl := congrArg List.length hysK; (try simp only [List.length_set, List.length_append, List.length_cons, List.length_nil, List.length_take, List.length_drop, List.length_replicate] at hysl); conv => whnf)
      | (refine And.intro (by first | (first | exact True.intro | exact ⟨h2, h1⟩) | exact True.intro | exact ⟨rfl, True.intro, fun _ _ => rfl⟩ | exact Nat.le_of_ble_eq_true rfl | (refine ⟨by (try simp only [List.length_cons, List.length_nil]); omega, Int.le_trans (Int.mul_le_mul_of_nonneg_left (show (TInfo.bytes _ : Int) ≤ 64 from Int.ofNat_le.2 (Nat.le_of_ble_eq_true rfl)) (by omega)) (by (try simp only [List.length_cons, List.length_nil]); omega)⟩)) ?_; conv => whnf)))
    · exact leaf1 0 rfl rfl (by unfold sTwoL; rw [if_pos hc]) rfl (fun B C h => by simp [AVal.den, h])
    · exact leaf1 0 rfl rfl (by unfold sTwoL; rw [if_neg (by rw [hc]; simp)]) rfl (fun B C h => by simp [AVal.den, h])

def okE (l : Lf) : Bool := decide (okHalf (sEndsA l).1 ∧ okHalf (sEndsA l).2)
def sMajO (l : Lf) : List Lf := if okE l = true then sMajL l else []
def sMajorsC : PCtr := fun _ _ lr vals k => match vals with
  | [.agg [.int .i64 n, .int .i64 d, .int .i64 m, .int .i64 e]] => IsL ((n, d), (m, e)) ∧ ∀ ys, ys = sMajO ((n, d), (m, e)) → k [⟨lT, 31, true, ys⟩] (.tup [.row lr, .bool (okE ((n, d), (m, e)))])
  | _ => False
abbrev GSM := GOk.cons sEnds_ok (GOk.cons sHalves_ok (GOk.cons sLeafOf_ok (GOk.cons sPair_ok .nil)))
theorem sEnds_isA {l : Lf} (h : IsL l) : IsA (sEndsA l).1 ∧ IsA (sEndsA l).2 := by rw [← ends_eq h]; exact ends_isA h
theorem sMajors_ok : PCtrOk Try.prog 48 sMajorsC where
  enter := enter_ok Try.func48 (by kernel_rfl) rfl
  calls := by
    intro hg rg lr vals k h
    unfold sMajorsC at h
    split at h
    case h_2 => exact h.elim
    rename_i n d m e
    obtain ⟨hl, hk⟩ := h
    replace hk := hk _ rfl
    refine ⟨_, _, hk, fun A w _ _ => ?_⟩
    refine enter T_ok GSM Try.func48 rfl (K := (· < w.heap.size)) (fun _ h => h) (A := A) (n0 := 0) (b0 := 0) (rows := []) (hp := []) rfl (Nat.zero_le _) (fun k r h => by cases h) rfl (fun k r h => by cases h) rfl rfl (Nat.le_of_ble_eq_true rfl) ?_
    conv => whnf
    repeat (refine V_step T_ok GSM rfl ?_; conv => whnf)
    have he := sEnds_isA hl
    obtain ⟨⟨x, y⟩, hxy⟩ : ∃ p : Lf, sEndsA ((n, d), (m, e)) = p := ⟨_, rfl⟩
    rw [hxy] at he
    obtain ⟨hx, hy⟩ := he
    have hx : IsA x := hx
    have hy : IsA y := hy
    have g1 := hx.sm
    have g2 := hy.sm
    have a1 := Sm.half hx
    have a2 := Sm.half2 hx
    have a3 := Sm.half hy
    have a4 := Sm.half2 hy
    have b1 := a1.bd
    have b2 := a2.bd
    have b3 := a3.bd
    have b4 := a4.bd
    have c1 := (leafOf_sm a3 a2).bd
    have c2 := (leafOf_sm a1 a4).bd
    repeat (any_goals (first
      | (refine V_step T_ok GSM rfl ?_; conv => whnf)
      | (refine V_drawN T_ok GSM mixed (by kernel_rfl) ?_; conv => whnf)
      | (refine bcond_split (fun hc => ?_) (fun hc => ?_) <;> (try simp only [decide_eq_true_eq, decide_eq_false_iff_not, Bool.not_eq_true', Bool.not_eq_false', Bool.and_eq_true, Bool.or_eq_true, Bool.and_eq_false_imp, Bool.or_eq_false_iff, ne_eq, Decidable.not_not] at hc) <;> conv => whnf)
      | (intro ysK hysK; have hysl := congrArg List.length hysK; (try simp only [List.length_set, List.length_append, List.length_cons, List.length_nil, List.length_take, List.length_drop, List.length_replicate] at hysl); conv => whnf)
      | (refine And.intro (by first | (first | exact True.intro | exact hl | (rw [hxy]; first | exact g1 | exact g2 | exact ⟨b3, b2⟩ | exact ⟨b1, b4⟩ | exact ⟨c1, c2⟩)) | exact True.intro | exact ⟨rfl, True.intro, fun _ _ => rfl⟩ | exact Nat.le_of_ble_eq_true rfl | (refine ⟨by (try simp only [List.length_cons, List.length_nil]); omega, Int.le_trans (Int.mul_le_mul_of_nonneg_left (show (TInfo.bytes _ : Int) ≤ 64 from Int.ofNat_le.2 (Nat.le_of_ble_eq_true rfl)) (by omega)) (by (try simp only [List.length_cons, List.length_nil]); omega)⟩)) ?_; conv => whnf)))
    · have e : okE ((n, d), (m, e)) = false := decide_eq_false (fun h => hc h.1)
      exact leafN rfl (by rw [sMajO, if_neg (by rw [e]; simp)]) (fun B C h => by simp [AVal.den, dens, h, e, Hdr.val])
    · have e : okE ((n, d), (m, e)) = false := decide_eq_false (fun h => hc h.2)
      exact leafN rfl (by rw [sMajO, if_neg (by rw [e]; simp)]) (fun B C h => by simp [AVal.den, dens, h, e, Hdr.val])
    · rename_i k1 k2
      have hO : okE ((n, d), (m, e)) = true := by first | exact decide_eq_true ⟨by assumption, by assumption⟩
      have hY : ysK = sMajO ((n, d), (m, e)) := by rw [sMajO, if_pos hO]; exact hysK
      clear hysK hysl
      subst hY
      exact leaf1 0 rfl rfl rfl rfl (fun B C h => by simp [AVal.den, dens, h, hO])

theorem majO_eq {l : Lf} (h : IsL l) : majO l = sMajO l ∧ (majN l = if okE l = true then 0 else 3) := by
  have hl := maj_lim h
  have hl : (majL l).all limAY = true ↔ okE l = true := by unfold okE; rw [decide_eq_true_iff]; exact hl
  unfold majO sMajO majN
  by_cases hc : okE l = true
  · rw [if_pos (hl.2 hc), if_pos hc, if_pos (hl.2 hc), if_pos hc, maj_eq h]; exact ⟨rfl, rfl⟩
  · rw [if_neg (fun h => hc (hl.1 h)), if_neg hc, if_neg (fun h => hc (hl.1 h)), if_neg hc]; exact ⟨rfl, rfl⟩

abbrev GSMO := GOk.cons sIsL_ok (GOk.cons sLong_ok (GOk.cons sMajors_ok .nil))
theorem majsO_len (l : Lf) : ((majsO l).length : Int) ≤ 64 := by
  unfold majsO majO majL twoL
  (repeat' split) <;> simp
def lawMC : PCtr := fun _ _ _ vals k => match vals with
  | [.agg [.int .i64 n, .int .i64 d, .int .i64 m, .int .i64 e]] => True ∧ k [] (.bool true)
  | _ => False
abbrev GLM := GOk.cons toLeaf_ok (((GOk.cons eqLs_ok (GOk.mcons mkLM_ok (GOk.cons mkLH_ok .nil)))))
end Go.Proofs.Ytllagpbbbdekiaa.Fw
