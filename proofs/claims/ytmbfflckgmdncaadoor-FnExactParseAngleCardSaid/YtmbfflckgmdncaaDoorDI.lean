/- Contracts: the reference's ParseAngle. -/
import Derived.Test.YtmbfflckgmdncaaDoorDH
namespace Go.Proofs.YtmbfflckgmdncaaDoor.Fw
open Go Go.RowKit
set_option linter.unusedVariables false
set_option linter.unusedSimpArgs false
set_option maxRecDepth 100000
set_option maxHeartbeats 2000000

abbrev rdC (t : ByteArray) : Prop := (prtA t).length = 2 ∧ IsA (rdA t)
@[irreducible] def rdO (t : ByteArray) : Ang × Bool := if rdC t then (rdA t, true) else ((0, 0), false)
theorem rdO_t {t : ByteArray} (h : rdC t) : rdO t = (rdA t, true) := by unfold rdO; rw [if_pos h]
theorem rdO_f {t : ByteArray} (h : ¬ rdC t) : rdO t = ((0, 0), false) := by unfold rdO; rw [if_neg h]
def rdAC : PCtr := fun _ _ _ vals k => match vals with
  | [.str t] => t.size ≤ 1048576 ∧ ∀ q : Ang × Bool, q = rdO t → k [] (.tup [.agg [.int .i64 q.1.1, .int .i64 q.1.2], .bool q.2])
  | _ => False
abbrev GRA := (GOk.cons splitD_ok (GOk.cons num_ok (GOk.cons sIs_ok .nil)))
theorem prtA_sz {t : ByteArray} (h : t.size ≤ 1048576) (h2 : (prtA t).length = 2) : ((prtA t).getD 0 ByteArray.empty).size ≤ 1048576 ∧ ((prtA t).getD 1 ByteArray.empty).size ≤ 1048576 := by
  have := congrArg List.length (prtA_back h2)
  rw [List.length_append, List.length_cons, bl_len, bl_len, bl_len] at this
  omega
theorem rdA_ok : PCtrOk Tryd.prog 15 rdAC where
  enter := enter_ok Tryd.func15 (by kernel_rfl) rfl
  calls := by
    intro hg rg lr vals k h
    unfold rdAC at h
    split at h
    case h_2 => exact h.elim
    rename_i t
    obtain ⟨hs, hk⟩ := h
    replace hk := hk _ rfl
    refine ⟨_, _, hk, fun A w _ _ => ?_⟩
    refine enter T_ok GRA Tryd.func15 rfl (K := (· < w.heap.size)) (fun _ h => h) (A := A) (n0 := 0) (b0 := 0) (rows := []) (hp := []) rfl (Nat.zero_le _) (fun k r h => by cases h) rfl (fun k r h => by cases h) rfl rfl (Nat.le_of_ble_eq_true rfl) ?_
    conv => whnf
    repeat (refine V_step T_ok GRA rfl ?_; conv => whnf)
    have hz : ∀ ys : List ByteArray, ys = prtA t → (ys.length : Int) = 2 → ByteArray.size (ys.getD (Int.toNat 0) TyC.str.dflt) ≤ 1048576 ∧ ByteArray.size (ys.getD (Int.toNat 1) TyC.str.dflt) ≤ 1048576 := fun ys h h2 => by
      subst h
      exact prtA_sz hs (by omega)
    repeat (any_goals (first
      | (refine V_step T_ok GRA rfl ?_; conv => whnf)
      | (refine V_drawN T_ok GRA mixed (by kernel_rfl) ?_; conv => whnf)
      | (refine bcond_split (fun hc => ?_) (fun hc => ?_) <;> (try simp only [decide_eq_true_eq, decide_eq_false_iff_not, Bool.not_eq_true', Bool.not_eq_false', Bool.and_eq_true, Bool.or_eq_true, Bool.and_eq_false_imp, Bool.or_eq_false_iff, ne_eq, Decidable.not_not] at hc) <;> conv => whnf)
      | (intro ysK hysK; have hysl := congrArg List.length hysK; (try simp only [List.length_set, List.length_append, List.length_cons, List.length_nil, List.length_take, List.length_drop, List.length_replicate] at hysl); conv => whnf)
      | (intro bK hbK; have hbl := congrArg ByteArray.size hbK; conv => whnf)
      | (intro sK hsK; conv => whnf)
      | (refine And.intro (by first | (first | exact ⟨rfl, hs⟩ | exact True.intro | omega | exact (hz _ hysK (by assumption)).1 | exact (hz _ hysK (by assumption)).2) | exact True.intro | exact ⟨rfl, True.intro, fun _ _ => rfl⟩ | exact Nat.le_of_ble_eq_true rfl | (refine ⟨by (try simp only [List.length_cons, List.length_nil]); omega, Int.le_trans (Int.mul_le_mul_of_nonneg_left (show (TInfo.bytes _ : Int) ≤ 64 from Int.ofNat_le.2 (Nat.le_of_ble_eq_true rfl)) (by omega)) (by (try simp only [List.length_cons, List.length_nil]); omega)⟩)) ?_; conv => whnf)))
    · exact leaf0 rfl (by rw [rdO_f fun h => hc (by rw [hysK]; have := h.1; omega)]) rfl
    · rename_i h2 a ha
      have ea : (a, sK) = rdA t := by rw [ha, hsK, hysK]; rfl
      rw [ea] at hc
      exact leaf0 rfl (by rw [rdO_f fun h => hc h.2]) rfl
    · rename_i h2 a ha
      have ea : (a, sK) = rdA t := by rw [ha, hsK, hysK]; rfl
      rw [ea] at hc
      have e1 : a = (rdA t).1 := congrArg Prod.fst ea
      have e2 : sK = (rdA t).2 := congrArg Prod.snd ea
      exact leaf0 rfl (by rw [rdO_t ⟨by rw [← hysK]; omega, hc⟩, e1, e2]) rfl
def spPC : PCtr := fun _ _ _ vals k => match vals with
  | [.str t] => t.size ≤ 1048576 ∧ ∀ q : Ang × Int, q = prO t → k [] (.tup [.agg [.int .i64 q.1.1, .int .i64 q.1.2], .int .i64 q.2])
  | _ => False
theorem prO_rt {t : ByteArray} (h : (rdO t).2 = true) : prO t = ((rdO t).1, 0) := by
  by_cases hc : rdC t
  · rw [rdO_t hc, prO_prt hc.1 hc.2]
  · rw [rdO_f hc] at h; cases h
theorem prO_rf {t : ByteArray} (h : (rdO t).2 = false) : prO t = ((0, 0), 6) := by
  by_cases hc : rdC t
  · rw [rdO_t hc] at h; cases h
  · exact prO_no hc
theorem spP_ok : PCtrOk Tryd.prog 8 spPC where
  enter := enter_ok Tryd.func8 (by kernel_rfl) rfl
  calls := by
    intro hg rg lr vals k h
    unfold spPC at h
    split at h
    case h_2 => exact h.elim
    rename_i t
    obtain ⟨hs, hk⟩ := h
    replace hk := hk _ rfl
    refine ⟨_, _, hk, fun A w _ _ => ?_⟩
    refine enter T_ok (GOk.cons rdA_ok .nil) Tryd.func8 rfl (K := (· < w.heap.size)) (fun _ h => h) (A := A) (n0 := 0) (b0 := 0) (rows := []) (hp := []) rfl (Nat.zero_le _) (fun k r h => by cases h) rfl (fun k r h => by cases h) rfl rfl (Nat.le_of_ble_eq_true rfl) ?_
    conv => whnf
    repeat (refine V_step T_ok (GOk.cons rdA_ok .nil) rfl ?_; conv => whnf)
    repeat (any_goals (first
      | (refine V_step T_ok (GOk.cons rdA_ok .nil) rfl ?_; conv => whnf)
      | (refine V_drawN T_ok (GOk.cons rdA_ok .nil) mixed (by kernel_rfl) ?_; conv => whnf)
      | (refine bcond_split (fun hc => ?_) (fun hc => ?_) <;> (try simp only [decide_eq_true_eq, decide_eq_false_iff_not, Bool.not_eq_true', Bool.not_eq_false', Bool.and_eq_true, Bool.or_eq_true, Bool.and_eq_false_imp, Bool.or_eq_false_iff, ne_eq, Decidable.not_not] at hc) <;> conv => whnf)
      | (intro ysK hysK; have hysl := congrArg List.length hysK; (try simp only [List.length_set, List.length_append, List.length_cons, List.length_nil, List.length_take, List.length_drop, List.length_replicate] at hysl); conv => whnf)
      | (intro bK hbK; have hbl := congrArg ByteArray.size hbK; conv => whnf)
      | (intro sK hsK; conv => whnf)
      | (refine And.intro (by first | (first | exact hs | exact True.intro | omega) | exact True.intro | exact ⟨rfl, True.intro, fun _ _ => rfl⟩ | exact Nat.le_of_ble_eq_true rfl | (refine ⟨by (try simp only [List.length_cons, List.length_nil]); omega, Int.le_trans (Int.mul_le_mul_of_nonneg_left (show (TInfo.bytes _ : Int) ≤ 64 from Int.ofNat_le.2 (Nat.le_of_ble_eq_true rfl)) (by omega)) (by (try simp only [List.length_cons, List.length_nil]); omega)⟩)) ?_; conv => whnf)))
    · rw [hsK] at hc
      exact leaf0 rfl (by rw [prO_rf hc]) rfl
    · rw [hsK] at hc
      exact leaf0 rfl (by rw [prO_rt hc, hsK]) rfl
end Go.Proofs.YtmbfflckgmdncaaDoor.Fw
-- %intro
