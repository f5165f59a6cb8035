/- The law of pair matrices, walked. -/
import Derived.Test.YtlplngafncobkacK8
import Derived.Test.YtlplngafncobkacK9
namespace Go.Proofs.Ytlplngafncobkac.Fw
open Go Go.RowKit
set_option linter.unusedVariables false
set_option linter.unusedSimpArgs false
set_option maxRecDepth 100000
set_option maxHeartbeats 2000000

theorem totL_bd {l : List (List Int)} {n : Nat} (h : ∀ r ∈ l, r.length ≤ n) : totL l ≤ (n : Int) * l.length := by
  induction l with
  | nil => simp [totL]
  | cons r l ih =>
    have h1 := h r (by simp)
    have h2 := ih fun r hr => h r (by simp [hr])
    have e : (n : Int) * ((r :: l).length : Int) = n * (l.length : Int) + n := by rw [List.length_cons]; simp only [Int.natCast_add, Int.natCast_one, Int.mul_add, Int.mul_one]
    rw [e]
    simp only [totL]
    omega
theorem pmO_len (x : Ang) : (pmO x).length ≤ 21 := by
  unfold pmO
  split
  · rename_i h
    have ho := orb8_orb (orb8_N h)
    have := ho.len
    rw [matP_len]
    exact prJ7 _ (by omega)
  · exact Nat.zero_le _
theorem pmO_row (x : Ang) : ∀ r ∈ pmO x, r.length ≤ 21 := by
  intro r hr
  have hl := pmO_len x
  unfold pmO at hr hl
  split at hr
  · rename_i h
    rw [if_pos h] at hl
    rw [matP_sq _ r hr]
    exact hl
  · simp at hr
theorem pmO_bd (x : Ang) : List.length (α := List Int) (pmO x) ≤ 1000 ∧ totL (pmO x) ≤ 900000 := by
  have h1 := totL_bd (pmO_row x)
  have h2 := pmO_len x
  exact ⟨by omega, by omega⟩
theorem mkSS_bd (q : Int) (x : Ang) : List.length (α := List Int) (mkSS q (pmO x)) ≤ 1000 ∧ totL (mkSS q (pmO x)) ≤ 900000 := by
  rw [mkSS_len, mkSS_tot_all]; exact pmO_bd x
theorem pmO_eq (x : Ang) : (List.length (α := List Int) (pmO x) ≤ 100000 ∧ List.length (α := List Int) (pmO x) ≤ 100000) ∧ (∀ r ∈ pmO x, List.length (α := Int) r ≤ 100000) ∧ (∀ r ∈ pmO x, List.length (α := Int) r ≤ 100000) := by
  have h2 := pmO_len x
  have h3 := pmO_row x
  exact ⟨⟨by omega, by omega⟩, fun r hr => by have := h3 r hr; omega, fun r hr => by have := h3 r hr; omega⟩
theorem eqLL_self (x : List (List Int)) : eqLL x x = true := decide_eq_true rfl

def lawPMC : PCtr := fun _ _ _ vals k => match vals with
  | [.agg [.int .i64 n, .int .i64 d]] => True ∧ k [] (.bool true)
  | _ => False
abbrev GLPM := GOk.cons toAngle_ok (GOk.cons sPm_ok (GOk.cons pm_ok (GOk.cons eqSS_ok (GOk.lcons mkSS_ok (GOk.cons hdSS_ok .nil)))))
theorem lawPM_ok : PCtrOk Try.prog 3 lawPMC where
  enter := enter_ok Try.func3 (by kernel_rfl) rfl
  calls := by
    intro hg rg lr vals k h
    unfold lawPMC at h
    split at h
    case h_2 => exact h.elim
    rename_i n d
    obtain ⟨_, hk⟩ := h
    refine ⟨_, _, hk, fun A w _ _ => ?_⟩
    refine enter T_ok GLPM Try.func3 rfl (K := (· < w.heap.size)) (fun _ h => h) (A := A) (n0 := 0) (b0 := 0) (rows := []) (hp := []) rfl (Nat.zero_le _) (fun k r h => by cases h) rfl (fun k r h => by cases h) rfl rfl (Nat.le_of_ble_eq_true rfl) ?_
    conv => whnf
    repeat (refine V_step T_ok GLPM rfl ?_; conv => whnf)
    have e1 := pmO_eq (n, d)
    have e2 := pmO_bd (n, d)
    have e3 := mkSS_bd 1 (n, d)
    have e4 := eqLL_self (pmO (n, d))
    have e5 := mkSS_tot_all 1 (pmO (n, d))
    have e6 := totL_nn (pmO (n, d))
    repeat (any_goals (first
      | (refine V_step T_ok GLPM rfl ?_; conv => whnf)
      | (refine V_drawA T_ok GLPM mixed (by kernel_rfl) ?_; conv => whnf)
      | (refine bcond_split (fun hc => ?_) (fun hc => ?_) <;> (try simp only [decide_eq_true_eq, decide_eq_false_iff_not, Bool.not_eq_true', Bool.not_eq_false', Bool.and_eq_true, Bool.or_eq_true, Bool.and_eq_false_imp, Bool.or_eq_false_iff, ne_eq, Decidable.not_not] at hc) <;> conv => whnf)
      | (intro ysK hysK; have hysl := congrArg List.length hysK; (try simp only [List.length_set, List.length_append, List.length_cons, List.length_nil, List.length_take, List.length_drop, List.length_replicate] at hysl); conv => whnf)
      | (refine And.intro (by first | (first | exact True.intro | omega) | exact True.intro | exact Nat.le_of_ble_eq_true rfl | (refine ⟨by (try simp only [List.length_cons, List.length_nil]); omega, Int.le_trans (Int.mul_le_mul_of_nonneg_left (show (TInfo.bytes _ : Int) ≤ 64 from Int.ofNat_le.2 (Nat.le_of_ble_eq_true rfl)) (by omega)) (by (try simp only [List.length_cons, List.length_nil]); omega)⟩)) ?_; conv => whnf)))
    rename_i y1 hy1 _
    have hy1 : y1 = pmO (n, d) := hy1
    have hysK : ysK = pmO (n, d) := hysK
    clear hysl
    subst hy1 hysK
    repeat (any_goals (first
      | (refine V_step T_ok GLPM rfl ?_; conv => whnf)
      | (refine V_drawA T_ok GLPM mixed (by kernel_rfl) ?_; conv => whnf)
      | (refine bcond_split (fun hc => ?_) (fun hc => ?_) <;> (try simp only [decide_eq_true_eq, decide_eq_false_iff_not, Bool.not_eq_true', Bool.not_eq_false', Bool.and_eq_true, Bool.or_eq_true, Bool.and_eq_false_imp, Bool.or_eq_false_iff, ne_eq, Decidable.not_not] at hc) <;> conv => whnf)
      | (intro ysK hysK; have hysl := congrArg List.length hysK; (try simp only [List.length_set, List.length_append, List.length_cons, List.length_nil, List.length_take, List.length_drop, List.length_replicate] at hysl); conv => whnf)
      | (refine And.intro (by first | (first | exact True.intro | exact e1 | exact ⟨by omega, e2.1, e2.2⟩ | exact ⟨by omega, e3.1, e3.2, _, rfl⟩ | omega) | exact True.intro | exact Nat.le_of_ble_eq_true rfl | (refine ⟨by (try simp only [List.length_cons, List.length_nil]); omega, Int.le_trans (Int.mul_le_mul_of_nonneg_left (show (TInfo.bytes _ : Int) ≤ 64 from Int.ofNat_le.2 (Nat.le_of_ble_eq_true rfl)) (by omega)) (by (try simp only [List.length_cons, List.length_nil]); omega)⟩)) ?_; conv => whnf)))
    all_goals first
      | exact leaf0 rfl rfl rfl
      | (rw [e4] at hc; cases hc; done)
      | (exact absurd trivial hc)
      | (exfalso; rw [e5] at hc; omega)
      | skip
    have hysK : ysK = pmO (n, d) := hysK
    clear hysl
    subst hysK
    repeat (any_goals (first
      | (refine V_step T_ok GLPM rfl ?_; conv => whnf)
      | (refine V_drawA T_ok GLPM mixed (by kernel_rfl) ?_; conv => whnf)
      | (refine bcond_split (fun hc => ?_) (fun hc => ?_) <;> (try simp only [decide_eq_true_eq, decide_eq_false_iff_not, Bool.not_eq_true', Bool.not_eq_false', Bool.and_eq_true, Bool.or_eq_true, Bool.and_eq_false_imp, Bool.or_eq_false_iff, ne_eq, Decidable.not_not] at hc) <;> conv => whnf)
      | (intro ysK hysK; have hysl := congrArg List.length hysK; (try simp only [List.length_set, List.length_append, List.length_cons, List.length_nil, List.length_take, List.length_drop, List.length_replicate] at hysl); conv => whnf)
      | (refine And.intro (by first | (first | exact True.intro | exact e1 | exact ⟨by omega, e2.1, e2.2⟩ | exact ⟨by omega, e3.1, e3.2, _, rfl⟩ | omega) | exact True.intro | exact Nat.le_of_ble_eq_true rfl | (refine ⟨by (try simp only [List.length_cons, List.length_nil]); omega, Int.le_trans (Int.mul_le_mul_of_nonneg_left (show (TInfo.bytes _ : Int) ≤ 64 from Int.ofNat_le.2 (Nat.le_of_ble_eq_true rfl)) (by omega)) (by (try simp only [List.length_cons, List.length_nil]); omega)⟩)) ?_; conv => whnf)))
    all_goals first
      | exact leaf0 rfl rfl rfl
      | (rw [e4] at hc; cases hc; done)
      | (exact absurd trivial hc)
      | (exfalso; rw [e5] at hc; omega)
end Go.Proofs.Ytlplngafncobkac.Fw
