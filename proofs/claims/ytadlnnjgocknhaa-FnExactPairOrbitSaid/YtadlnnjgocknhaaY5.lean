/- The law of orbits of a pair. -/
import Derived.Test.YtadlnnjgocknhaaY4
namespace Go.Proofs.Ytadlnnjgocknhaa.Fw
open Go Go.RowKit
set_option linter.unusedVariables false
set_option linter.unusedSimpArgs false
set_option maxRecDepth 100000
set_option maxHeartbeats 2000000

theorem poR_bd (x : Ang) (i j q : Int) : (poR x i j q).1.length ≤ 21 ∧ ∀ r ∈ (poR x i j q).1, r.length ≤ 21 := by
  by_cases hA : IsA x
  · by_cases hp : poOk x i j q
    · rw [poR_0 hp]
      have hO := orb8_orb (orb8_N hp.1)
      have hst := stV_ok hO hp.2.2.1 hp.2.2.2.1 hp.2.2.2.2
      have h21 := matP_21 hO
      have hq := hp.2.1
      refine ⟨by simp only [stepsL_len]; omega, fun r hr => ?_⟩
      obtain ⟨s, _, rfl⟩ := List.mem_map.1 hr
      rw [stepR_len hst]; exact h21
    · rw [poR_2 hA hp]; exact ⟨Nat.zero_le _, fun r hr => by simp at hr⟩
  · rw [poR_1 hA]; exact ⟨Nat.zero_le _, fun r hr => by simp at hr⟩
def lawPoC : PCtr := fun _ _ _ vals k => match vals with
  | [.agg [.int .i64 n, .int .i64 d], .int .i64 i, .int .i64 j, .int .i64 q] => True ∧ k [] (.bool true)
  | _ => False
abbrev GLPo := GOk.cons toAngle_ok (GOk.cons sPo_ok (GOk.cons po_ok (GOk.cons eqSS_ok (GOk.lcons mkSS_ok (GOk.cons hdSS_ok .nil)))))
theorem lawPo_ok : PCtrOk Try.prog 3 lawPoC where
  enter := enter_ok Try.func3 (by kernel_rfl) rfl
  calls := by
    intro hg rg lr vals k h
    unfold lawPoC at h
    split at h
    case h_2 => exact h.elim
    rename_i n d i j q
    obtain ⟨_, hk⟩ := h
    refine ⟨_, _, hk, fun A w _ _ => ?_⟩
    refine enter T_ok GLPo Try.func3 rfl (K := (· < w.heap.size)) (fun _ h => h) (A := A) (n0 := 0) (b0 := 0) (rows := []) (hp := []) rfl (Nat.zero_le _) (fun k r h => by cases h) rfl (fun k r h => by cases h) rfl rfl (Nat.le_of_ble_eq_true rfl) ?_
    conv => whnf
    repeat (refine V_step T_ok GLPo rfl ?_; conv => whnf)
    obtain ⟨b1, b2⟩ := poR_bd (n, d) i j q
    have t2 := totL_bd b2
    have e1 : (List.length (α := List Int) (poR (n, d) i j q).1 ≤ 100000 ∧ List.length (α := List Int) (poR (n, d) i j q).1 ≤ 100000) ∧ (∀ r ∈ (poR (n, d) i j q).1, List.length (α := Int) r ≤ 100000) ∧ (∀ r ∈ (poR (n, d) i j q).1, List.length (α := Int) r ≤ 100000) := ⟨⟨by omega, by omega⟩, fun r hr => Nat.le_trans (b2 r hr) (by decide), fun r hr => Nat.le_trans (b2 r hr) (by decide)⟩
    have e2 : List.length (α := List Int) (poR (n, d) i j q).1 ≤ 1000 ∧ totL (poR (n, d) i j q).1 ≤ 900000 := ⟨by omega, by omega⟩
    have e3 : List.length (α := List Int) (mkSS 1 (poR (n, d) i j q).1) ≤ 1000 ∧ totL (mkSS 1 (poR (n, d) i j q).1) ≤ 900000 := by rw [mkSS_len, mkSS_tot_all]; exact e2
    have e4 := eqLL_self (poR (n, d) i j q).1
    have e5 := mkSS_tot_all 1 (poR (n, d) i j q).1
    have e6 := totL_nn (poR (n, d) i j q).1
    repeat (any_goals (first
      | (refine V_step T_ok GLPo rfl ?_; conv => whnf)
      | (refine V_drawA T_ok GLPo mixed (by kernel_rfl) ?_; conv => whnf)
      | (refine bcond_split (fun hc => ?_) (fun hc => ?_) <;> (try simp only [decide_eq_true_eq, decide_eq_false_iff_not, Bool.not_eq_true', Bool.not_eq_false', Bool.and_eq_true, Bool.or_eq_true, Bool.and_eq_false_imp, Bool.or_eq_false_iff, ne_eq, Decidable.not_not] at hc) <;> conv => whnf)
      | (intro ysK hysK; have hysl := congrArg List.length hysK; (try simp only [List.length_set, List.length_append, List.length_cons, List.length_nil, List.length_take, List.length_drop, List.length_replicate] at hysl); conv => whnf)
      | (intro bK hbK; have hbl := congrArg ByteArray.size hbK; conv => whnf)
      | (intro sK hsK; conv => whnf)
      | (refine And.intro (by first | (first | exact True.intro | omega) | exact True.intro | exact ⟨rfl, True.intro, fun _ _ => rfl⟩ | exact Nat.le_of_ble_eq_true rfl | (refine ⟨by (try simp only [List.length_cons, List.length_nil]); omega, Int.le_trans (Int.mul_le_mul_of_nonneg_left (show (TInfo.bytes _ : Int) ≤ 64 from Int.ofNat_le.2 (Nat.le_of_ble_eq_true rfl)) (by omega)) (by (try simp only [List.length_cons, List.length_nil]); omega)⟩)) ?_; conv => whnf)))
    rename_i y1 hy1
    have hy1 : y1 = poR (n, d) i j q := hy1
    have hsK : sK = poR (n, d) i j q := hsK
    subst hy1 hsK
    repeat (any_goals (first
      | (refine V_step T_ok GLPo rfl ?_; conv => whnf)
      | (refine V_drawA T_ok GLPo mixed (by kernel_rfl) ?_; conv => whnf)
      | (refine bcond_split (fun hc => ?_) (fun hc => ?_) <;> (try simp only [decide_eq_true_eq, decide_eq_false_iff_not, Bool.not_eq_true', Bool.not_eq_false', Bool.and_eq_true, Bool.or_eq_true, Bool.and_eq_false_imp, Bool.or_eq_false_iff, ne_eq, Decidable.not_not] at hc) <;> conv => whnf)
      | (intro ysK hysK; have hysl := congrArg List.length hysK; (try simp only [List.length_set, List.length_append, List.length_cons, List.length_nil, List.length_take, List.length_drop, List.length_replicate] at hysl); conv => whnf)
      | (intro bK hbK; have hbl := congrArg ByteArray.size hbK; conv => whnf)
      | (intro sK hsK; conv => whnf)
      | (refine And.intro (by first | (first | exact True.intro | exact e1 | exact ⟨by omega, e2.1, e2.2⟩ | exact ⟨by omega, e3.1, e3.2, _, rfl⟩ | omega) | exact True.intro | exact ⟨rfl, True.intro, fun _ _ => rfl⟩ | exact Nat.le_of_ble_eq_true rfl | (refine ⟨by (try simp only [List.length_cons, List.length_nil]); omega, Int.le_trans (Int.mul_le_mul_of_nonneg_left (show (TInfo.bytes _ : Int) ≤ 64 from Int.ofNat_le.2 (Nat.le_of_ble_eq_true rfl)) (by omega)) (by (try simp only [List.length_cons, List.length_nil]); omega)⟩)) ?_; conv => whnf)))
    all_goals first
      | exact leaf0 rfl rfl rfl
      | (rw [e4] at hc; cases hc; done)
      | (exact absurd rfl hc)
      | (exact absurd trivial hc)
      | (exfalso; rw [e5] at hc; omega)
      | skip
    have hsK : sK = poR (n, d) i j q := hsK
    subst hsK
    repeat (any_goals (first
      | (refine V_step T_ok GLPo rfl ?_; conv => whnf)
      | (refine V_drawA T_ok GLPo mixed (by kernel_rfl) ?_; conv => whnf)
      | (refine bcond_split (fun hc => ?_) (fun hc => ?_) <;> (try simp only [decide_eq_true_eq, decide_eq_false_iff_not, Bool.not_eq_true', Bool.not_eq_false', Bool.and_eq_true, Bool.or_eq_true, Bool.and_eq_false_imp, Bool.or_eq_false_iff, ne_eq, Decidable.not_not] at hc) <;> conv => whnf)
      | (intro ysK hysK; have hysl := congrArg List.length hysK; (try simp only [List.length_set, List.length_append, List.length_cons, List.length_nil, List.length_take, List.length_drop, List.length_replicate] at hysl); conv => whnf)
      | (intro bK hbK; have hbl := congrArg ByteArray.size hbK; conv => whnf)
      | (intro sK hsK; conv => whnf)
      | (refine And.intro (by first | (first | exact True.intro | exact e1 | exact ⟨by omega, e2.1, e2.2⟩ | exact ⟨by omega, e3.1, e3.2, _, rfl⟩ | omega) | exact True.intro | exact ⟨rfl, True.intro, fun _ _ => rfl⟩ | exact Nat.le_of_ble_eq_true rfl | (refine ⟨by (try simp only [List.length_cons, List.length_nil]); omega, Int.le_trans (Int.mul_le_mul_of_nonneg_left (show (TInfo.bytes _ : Int) ≤ 64 from Int.ofNat_le.2 (Nat.le_of_ble_eq_true rfl)) (by omega)) (by (try simp only [List.length_cons, List.length_nil]); omega)⟩)) ?_; conv => whnf)))
    all_goals first
      | exact leaf0 rfl rfl rfl
      | (rw [e4] at hc; cases hc; done)
      | (exact absurd rfl hc)
      | (exact absurd trivial hc)
      | (exfalso; rw [e5] at hc; omega)
end Go.Proofs.Ytadlnnjgocknhaa.Fw
-- %intro
