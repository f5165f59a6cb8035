/- The laws of classes, walked. -/
import Derived.Test.YtlplngafncobkadT7
import Derived.Test.YtlplngafncobkadK9
namespace Go.Proofs.Ytlplngafncobkad.Fw
open Go Go.RowKit
set_option linter.unusedVariables false
set_option linter.unusedSimpArgs false
set_option maxRecDepth 100000
set_option maxHeartbeats 2000000

theorem totL_bd {l : List (List Int)} {n : Nat} (h : ∀ r ∈ l, r.length ≤ n) : totL l ≤ (n : Int) * l.length := by
  induction l with
  | nil => simp [totL]
  | cons r l ih =>
    have h1 := h r (by simp)
    have h2 := ih fun r hr => h r (by simp [hr])
    have e : (n : Int) * ((r :: l).length : Int) = n * (l.length : Int) + n := by rw [List.length_cons]; simp only [Int.natCast_add, Int.natCast_one, Int.mul_add, Int.mul_one]
    rw [e]
    simp only [totL]
    omega
/-- Sizes of classes. -/
def SmallL (x : List (List Int)) : Prop := List.length (α := List Int) x ≤ 63 ∧ ∀ r ∈ x, List.length (α := Int) r ≤ 63
theorem clsL_small {n : Nat} (c : List Int) (h : n ≤ 63) : SmallL (clsL n c) := by
  unfold clsL
  refine ⟨by have := clsG_len2 n c n; omega, fun r hr => ?_⟩
  unfold clsG at hr
  obtain ⟨k, _, rfl⟩ := List.mem_map.1 hr
  have := ownL_len2 c k n
  omega
theorem nil_small : SmallL [] := ⟨Nat.zero_le _, fun r hr => absurd hr List.not_mem_nil⟩
theorem cloR_small (t : Ang) (n : Int) : SmallL (cloR t n).1 := by
  unfold cloR
  split
  · split
    · rename_i h
      unfold cls1
      exact clsL_small _ (by have := h.2; omega)
    · exact nil_small
  · exact nil_small
theorem jocR_small (t u : Ang) (n : Int) : SmallL (jocR t u n).1 := by
  unfold jocR
  split
  · split
    · rename_i h
      unfold cls2
      exact clsL_small _ (by have := h.2; omega)
    · exact nil_small
  · exact nil_small
theorem SmallL.bd {x : List (List Int)} (h : SmallL x) : List.length (α := List Int) x ≤ 1000 ∧ totL x ≤ 900000 := by
  have h1 := totL_bd h.2
  have h2 := h.1
  exact ⟨by omega, by omega⟩
theorem SmallL.mk {x : List (List Int)} (h : SmallL x) (q : Int) : List.length (α := List Int) (mkSS q x) ≤ 1000 ∧ totL (mkSS q x) ≤ 900000 := by
  rw [mkSS_len, mkSS_tot_all]; exact h.bd
theorem SmallL.eq {x : List (List Int)} (h : SmallL x) : (List.length (α := List Int) x ≤ 100000 ∧ List.length (α := List Int) x ≤ 100000) ∧ (∀ r ∈ x, List.length (α := Int) r ≤ 100000) ∧ (∀ r ∈ x, List.length (α := Int) r ≤ 100000) := by
  have h2 := h.1
  exact ⟨⟨by omega, by omega⟩, fun r hr => by have := h.2 r hr; omega, fun r hr => by have := h.2 r hr; omega⟩
theorem eqLL_self (x : List (List Int)) : eqLL x x = true := decide_eq_true rfl

def lawCloC : PCtr := fun _ _ _ vals k => match vals with
  | [.agg [.int .i64 n, .int .i64 d], .int .i64 m] => True ∧ k [] (.bool true)
  | _ => False
abbrev GLClo := GOk.cons toAngle_ok (GOk.cons sClo_ok (GOk.cons classesOf_ok (GOk.cons eqSS_ok (GOk.lcons mkSS_ok (GOk.cons hdSS_ok .nil)))))
theorem lawClo_ok : PCtrOk Try.prog 9 lawCloC where
  enter := enter_ok Try.func9 (by kernel_rfl) rfl
  calls := by
    intro hg rg lr vals k h
    unfold lawCloC at h
    split at h
    case h_2 => exact h.elim
    rename_i n d m
    obtain ⟨_, hk⟩ := h
    refine ⟨_, _, hk, fun A w _ _ => ?_⟩
    refine enter T_ok GLClo Try.func9 rfl (K := (· < w.heap.size)) (fun _ h => h) (A := A) (n0 := 0) (b0 := 0) (rows := []) (hp := []) rfl (Nat.zero_le _) (fun k r h => by cases h) rfl (fun k r h => by cases h) rfl rfl (Nat.le_of_ble_eq_true rfl) ?_
    conv => whnf
    repeat (refine V_step T_ok GLClo rfl ?_; conv => whnf)
    have e0 := cloR_small (n, d) m
    have e1 := e0.eq
    have e2 := e0.bd
    have e3 := e0.mk 1
    have e4 := eqLL_self (cloR (n, d) m).1
    have e5 := mkSS_tot_all 1 (cloR (n, d) m).1
    have e6 := totL_nn (cloR (n, d) m).1
    repeat (any_goals (first
      | (refine V_step T_ok GLClo rfl ?_; conv => whnf)
      | (refine V_drawA T_ok GLClo mixed (by kernel_rfl) ?_; conv => whnf)
      | (refine bcond_split (fun hc => ?_) (fun hc => ?_) <;> (try simp only [decide_eq_true_eq, decide_eq_false_iff_not, Bool.not_eq_true', Bool.not_eq_false', Bool.and_eq_true, Bool.or_eq_true, Bool.and_eq_false_imp, Bool.or_eq_false_iff, ne_eq, Decidable.not_not] at hc) <;> conv => whnf)
      | (intro ysK hysK; have hysl := congrArg List.length hysK; (try simp only [List.length_set, List.length_append, List.length_cons, List.length_nil, List.length_take, List.length_drop, List.length_replicate] at hysl); conv => whnf)
      | (intro bK hbK; have hbl := congrArg ByteArray.size hbK; conv => whnf)
      | (intro sK hsK; conv => whnf)
      | (refine And.intro (by first | (first | exact True.intro | omega) | exact True.intro | exact ⟨rfl, True.intro, fun _ _ => rfl⟩ | exact Nat.le_of_ble_eq_true rfl | (refine ⟨by (try simp only [List.length_cons, List.length_nil]); omega, Int.le_trans (Int.mul_le_mul_of_nonneg_left (show (TInfo.bytes _ : Int) ≤ 64 from Int.ofNat_le.2 (Nat.le_of_ble_eq_true rfl)) (by omega)) (by (try simp only [List.length_cons, List.length_nil]); omega)⟩)) ?_; conv => whnf)))
    rename_i y1 hy1
    have hy1 : y1 = cloR (n, d) m := hy1
    have hsK : sK = cloR (n, d) m := hsK
    subst hy1 hsK
    repeat (any_goals (first
      | (refine V_step T_ok GLClo rfl ?_; conv => whnf)
      | (refine V_drawA T_ok GLClo mixed (by kernel_rfl) ?_; conv => whnf)
      | (refine bcond_split (fun hc => ?_) (fun hc => ?_) <;> (try simp only [decide_eq_true_eq, decide_eq_false_iff_not, Bool.not_eq_true', Bool.not_eq_false', Bool.and_eq_true, Bool.or_eq_true, Bool.and_eq_false_imp, Bool.or_eq_false_iff, ne_eq, Decidable.not_not] at hc) <;> conv => whnf)
      | (intro ysK hysK; have hysl := congrArg List.length hysK; (try simp only [List.length_set, List.length_append, List.length_cons, List.length_nil, List.length_take, List.length_drop, List.length_replicate] at hysl); conv => whnf)
      | (intro bK hbK; have hbl := congrArg ByteArray.size hbK; conv => whnf)
      | (intro sK hsK; conv => whnf)
      | (refine And.intro (by first | (first | exact True.intro | exact e1 | exact ⟨by omega, e2.1, e2.2⟩ | exact ⟨by omega, e3.1, e3.2, _, rfl⟩ | omega) | exact True.intro | exact ⟨rfl, True.intro, fun _ _ => rfl⟩ | exact Nat.le_of_ble_eq_true rfl | (refine ⟨by (try simp only [List.length_cons, List.length_nil]); omega, Int.le_trans (Int.mul_le_mul_of_nonneg_left (show (TInfo.bytes _ : Int) ≤ 64 from Int.ofNat_le.2 (Nat.le_of_ble_eq_true rfl)) (by omega)) (by (try simp only [List.length_cons, List.length_nil]); omega)⟩)) ?_; conv => whnf)))
    all_goals first
      | exact leaf0 rfl rfl rfl
      | (rw [e4] at hc; cases hc; done)
      | (exact absurd trivial hc)
      | (exfalso; rw [e5] at hc; omega)
      | (exact absurd rfl hc)
      | skip
    have hsK : sK = cloR (n, d) m := hsK
    subst hsK
    repeat (any_goals (first
      | (refine V_step T_ok GLClo rfl ?_; conv => whnf)
      | (refine V_drawA T_ok GLClo mixed (by kernel_rfl) ?_; conv => whnf)
      | (refine bcond_split (fun hc => ?_) (fun hc => ?_) <;> (try simp only [decide_eq_true_eq, decide_eq_false_iff_not, Bool.not_eq_true', Bool.not_eq_false', Bool.and_eq_true, Bool.or_eq_true, Bool.and_eq_false_imp, Bool.or_eq_false_iff, ne_eq, Decidable.not_not] at hc) <;> conv => whnf)
      | (intro ysK hysK; have hysl := congrArg List.length hysK; (try simp only [List.length_set, List.length_append, List.length_cons, List.length_nil, List.length_take, List.length_drop, List.length_replicate] at hysl); conv => whnf)
      | (intro bK hbK; have hbl := congrArg ByteArray.size hbK; conv => whnf)
      | (intro sK hsK; conv => whnf)
      | (refine And.intro (by first | (first | exact True.intro | exact e1 | exact ⟨by omega, e2.1, e2.2⟩ | exact ⟨by omega, e3.1, e3.2, _, rfl⟩ | omega) | exact True.intro | exact ⟨rfl, True.intro, fun _ _ => rfl⟩ | exact Nat.le_of_ble_eq_true rfl | (refine ⟨by (try simp only [List.length_cons, List.length_nil]); omega, Int.le_trans (Int.mul_le_mul_of_nonneg_left (show (TInfo.bytes _ : Int) ≤ 64 from Int.ofNat_le.2 (Nat.le_of_ble_eq_true rfl)) (by omega)) (by (try simp only [List.length_cons, List.length_nil]); omega)⟩)) ?_; conv => whnf)))
    all_goals first
      | exact leaf0 rfl rfl rfl
      | (rw [e4] at hc; cases hc; done)
      | (exact absurd trivial hc)
      | (exfalso; rw [e5] at hc; omega)
      | (exact absurd rfl hc)

def lawJocC : PCtr := fun _ _ _ vals k => match vals with
  | [.agg [.int .i64 n, .int .i64 d], .agg [.int .i64 n2, .int .i64 d2], .int .i64 m] => True ∧ k [] (.bool true)
  | _ => False
abbrev GLJoc := GOk.cons toAngle_ok (GOk.cons sJoc_ok (GOk.cons joinedClasses_ok (GOk.cons eqSS_ok (GOk.lcons mkSS_ok (GOk.cons hdSS_ok .nil)))))
theorem lawJoc_ok : PCtrOk Try.prog 10 lawJocC where
  enter := enter_ok Try.func10 (by kernel_rfl) rfl
  calls := by
    intro hg rg lr vals k h
    unfold lawJocC at h
    split at h
    case h_2 => exact h.elim
    rename_i n d n2 d2 m
    obtain ⟨_, hk⟩ := h
    refine ⟨_, _, hk, fun A w _ _ => ?_⟩
    refine enter T_ok GLJoc Try.func10 rfl (K := (· < w.heap.size)) (fun _ h => h) (A := A) (n0 := 0) (b0 := 0) (rows := []) (hp := []) rfl (Nat.zero_le _) (fun k r h => by cases h) rfl (fun k r h => by cases h) rfl rfl (Nat.le_of_ble_eq_true rfl) ?_
    conv => whnf
    repeat (refine V_step T_ok GLJoc rfl ?_; conv => whnf)
    have e0 := jocR_small (n, d) (n2, d2) m
    have e1 := e0.eq
    have e2 := e0.bd
    have e3 := e0.mk 1
    have e4 := eqLL_self (jocR (n, d) (n2, d2) m).1
    have e5 := mkSS_tot_all 1 (jocR (n, d) (n2, d2) m).1
    have e6 := totL_nn (jocR (n, d) (n2, d2) m).1
    repeat (any_goals (first
      | (refine V_step T_ok GLJoc rfl ?_; conv => whnf)
      | (refine V_drawA T_ok GLJoc mixed (by kernel_rfl) ?_; conv => whnf)
      | (refine bcond_split (fun hc => ?_) (fun hc => ?_) <;> (try simp only [decide_eq_true_eq, decide_eq_false_iff_not, Bool.not_eq_true', Bool.not_eq_false', Bool.and_eq_true, Bool.or_eq_true, Bool.and_eq_false_imp, Bool.or_eq_false_iff, ne_eq, Decidable.not_not] at hc) <;> conv => whnf)
      | (intro ysK hysK; have hysl := congrArg List.length hysK; (try simp only [List.length_set, List.length_append, List.length_cons, List.length_nil, List.length_take, List.length_drop, List.length_replicate] at hysl); conv => whnf)
      | (intro bK hbK; have hbl := congrArg ByteArray.size hbK; conv => whnf)
      | (intro sK hsK; conv => whnf)
      | (refine And.intro (by first | (first | exact True.intro | omega) | exact True.intro | exact ⟨rfl, True.intro, fun _ _ => rfl⟩ | exact Nat.le_of_ble_eq_true rfl | (refine ⟨by (try simp only [List.length_cons, List.length_nil]); omega, Int.le_trans (Int.mul_le_mul_of_nonneg_left (show (TInfo.bytes _ : Int) ≤ 64 from Int.ofNat_le.2 (Nat.le_of_ble_eq_true rfl)) (by omega)) (by (try simp only [List.length_cons, List.length_nil]); omega)⟩)) ?_; conv => whnf)))
    rename_i y1 hy1
    have hy1 : y1 = jocR (n, d) (n2, d2) m := hy1
    have hsK : sK = jocR (n, d) (n2, d2) m := hsK
    subst hy1 hsK
    repeat (any_goals (first
      | (refine V_step T_ok GLJoc rfl ?_; conv => whnf)
      | (refine V_drawA T_ok GLJoc mixed (by kernel_rfl) ?_; conv => whnf)
      | (refine bcond_split (fun hc => ?_) (fun hc => ?_) <;> (try simp only [decide_eq_true_eq, decide_eq_false_iff_not, Bool.not_eq_true', Bool.not_eq_false', Bool.and_eq_true, Bool.or_eq_true, Bool.and_eq_false_imp, Bool.or_eq_false_iff, ne_eq, Decidable.not_not] at hc) <;> conv => whnf)
      | (intro ysK hysK; have hysl := congrArg List.length hysK; (try simp only [List.length_set, List.length_append, List.length_cons, List.length_nil, List.length_take, List.length_drop, List.length_replicate] at hysl); conv => whnf)
      | (intro bK hbK; have hbl := congrArg ByteArray.size hbK; conv => whnf)
      | (intro sK hsK; conv => whnf)
      | (refine And.intro (by first | (first | exact True.intro | exact e1 | exact ⟨by omega, e2.1, e2.2⟩ | exact ⟨by omega, e3.1, e3.2, _, rfl⟩ | omega) | exact True.intro | exact ⟨rfl, True.intro, fun _ _ => rfl⟩ | exact Nat.le_of_ble_eq_true rfl | (refine ⟨by (try simp only [List.length_cons, List.length_nil]); omega, Int.le_trans (Int.mul_le_mul_of_nonneg_left (show (TInfo.bytes _ : Int) ≤ 64 from Int.ofNat_le.2 (Nat.le_of_ble_eq_true rfl)) (by omega)) (by (try simp only [List.length_cons, List.length_nil]); omega)⟩)) ?_; conv => whnf)))
    all_goals first
      | exact leaf0 rfl rfl rfl
      | (rw [e4] at hc; cases hc; done)
      | (exact absurd trivial hc)
      | (exfalso; rw [e5] at hc; omega)
      | (exact absurd rfl hc)
      | skip
    have hsK : sK = jocR (n, d) (n2, d2) m := hsK
    subst hsK
    repeat (any_goals (first
      | (refine V_step T_ok GLJoc rfl ?_; conv => whnf)
      | (refine V_drawA T_ok GLJoc mixed (by kernel_rfl) ?_; conv => whnf)
      | (refine bcond_split (fun hc => ?_) (fun hc => ?_) <;> (try simp only [decide_eq_true_eq, decide_eq_false_iff_not, Bool.not_eq_true', Bool.not_eq_false', Bool.and_eq_true, Bool.or_eq_true, Bool.and_eq_false_imp, Bool.or_eq_false_iff, ne_eq, Decidable.not_not] at hc) <;> conv => whnf)
      | (intro ysK hysK; have hysl := congrArg List.length hysK; (try simp only [List.length_set, List.length_append, List.length_cons, List.length_nil, List.length_take, List.length_drop, List.length_replicate] at hysl); conv => whnf)
      | (intro bK hbK; have hbl := congrArg ByteArray.size hbK; conv => whnf)
      | (intro sK hsK; conv => whnf)
      | (refine And.intro (by first | (first | exact True.intro | exact e1 | exact ⟨by omega, e2.1, e2.2⟩ | exact ⟨by omega, e3.1, e3.2, _, rfl⟩ | omega) | exact True.intro | exact ⟨rfl, True.intro, fun _ _ => rfl⟩ | exact Nat.le_of_ble_eq_true rfl | (refine ⟨by (try simp only [List.length_cons, List.length_nil]); omega, Int.le_trans (Int.mul_le_mul_of_nonneg_left (show (TInfo.bytes _ : Int) ≤ 64 from Int.ofNat_le.2 (Nat.le_of_ble_eq_true rfl)) (by omega)) (by (try simp only [List.length_cons, List.length_nil]); omega)⟩)) ?_; conv => whnf)))
    all_goals first
      | exact leaf0 rfl rfl rfl
      | (rw [e4] at hc; cases hc; done)
      | (exact absurd trivial hc)
      | (exfalso; rw [e5] at hc; omega)
      | (exact absurd rfl hc)
end Go.Proofs.Ytlplngafncobkad.Fw
-- %intro
