/- The law of PullBackBy, walked. -/
import Derived.Test.YtllagpbbbdekiaaVF
namespace Go.Proofs.Ytllagpbbbdekiaa.Fw
open Go Go.RowKit
set_option linter.unusedVariables false
set_option linter.unusedSimpArgs false
set_option maxRecDepth 100000
set_option maxHeartbeats 2000000

theorem pb_len (l m : Lf) : ((pbO l m).1.length : Int) ≤ 64 := by
  by_cases h : (mlR ([l].all allLY) m).c = 0
  · by_cases he : l = m
    · rw [pbO_e h he]
      have := (ml_facts h).2.2.2.2
      show (((mlR ([l].all allLY) m).j.length : Nat) : Int) ≤ 64
      omega
    · rw [pbO_n h he]
      have := ibO_len l (mlR ([l].all allLY) m).j
      omega
  · rw [pbO_c h]; exact (by decide : ((([] : List Lf).length : Nat) : Int) ≤ 64)
def lawPbC : PCtr := fun _ _ _ vals k => match vals with
  | [.agg [.int .i64 n, .int .i64 d, .int .i64 m, .int .i64 e], .agg [.int .i64 n', .int .i64 d', .int .i64 m', .int .i64 e']] => True ∧ k [] (.bool true)
  | _ => False
abbrev GLPb := GOk.cons toLeaf_ok (GOk.cons sPb_ok (GOk.cons pb_ok (GOk.cons eqLs_ok (GOk.mcons mkLM_ok (GOk.cons mkLH_ok .nil)))))
theorem lawPb_ok : PCtrOk Try.prog 3 lawPbC where
  enter := enter_ok Try.func3 (by kernel_rfl) rfl
  calls := by
    intro hg rg lr vals k h
    unfold lawPbC at h
    split at h
    case h_2 => exact h.elim
    rename_i n d m e n' d' m' e'
    obtain ⟨_, hk⟩ := h
    refine ⟨_, _, hk, fun A w _ _ => ?_⟩
    refine enter T_ok GLPb Try.func3 rfl (K := (· < w.heap.size)) (fun _ h => h) (A := A) (n0 := 0) (b0 := 0) (rows := []) (hp := []) rfl (Nat.zero_le _) (fun k r h => by cases h) rfl (fun k r h => by cases h) rfl rfl (Nat.le_of_ble_eq_true rfl) ?_
    conv => whnf
    repeat (refine V_step T_ok GLPb rfl ?_; conv => whnf)
    have hb := pb_len ((n, d), (m, e)) ((n', d'), (m', e'))
    repeat (any_goals (first
      | (refine V_step T_ok GLPb rfl ?_; conv => whnf)
      | (refine V_drawA T_ok GLPb mixed (by kernel_rfl) ?_; conv => whnf)
      | (refine bcond_split (fun hc => ?_) (fun hc => ?_) <;> (try simp only [decide_eq_true_eq, decide_eq_false_iff_not, Bool.not_eq_true', Bool.not_eq_false', Bool.and_eq_true, Bool.or_eq_true, Bool.and_eq_false_imp, Bool.or_eq_false_iff, ne_eq, Decidable.not_not] at hc) <;> conv => whnf)
      | (intro ysK hysK; have hysl := congrArg List.length hysK; (try simp only [List.length_set, List.length_append, List.length_cons, List.length_nil, List.length_take, List.length_drop, List.length_replicate] at hysl); conv => whnf)
      | (intro bK hbK; have hbl := congrArg ByteArray.size hbK; conv => whnf)
      | (intro sK hsK; conv => whnf)
      | (refine And.intro (by first | (exact True.intro) | exact True.intro | exact ⟨rfl, True.intro, fun _ _ => rfl⟩ | exact Nat.le_of_ble_eq_true rfl | (refine ⟨by (try simp only [List.length_cons, List.length_nil]); omega, Int.le_trans (Int.mul_le_mul_of_nonneg_left (show (TInfo.bytes _ : Int) ≤ 64 from Int.ofNat_le.2 (Nat.le_of_ble_eq_true rfl)) (by omega)) (by (try simp only [List.length_cons, List.length_nil]); omega)⟩)) ?_; conv => whnf)))
    · rename_i y1 hy1
      have e1 := hy1.trans hsK.symm
      subst e1
      simp [eqLs] at hc
    · rename_i y1 hy1 _
      exact absurd (congrArg Prod.snd (hsK.trans hy1.symm)) hc
    rename_i y1 hy1 _
    have e1 := hy1.trans hsK.symm
    subst e1
    rw [← hsK] at hb
    repeat (any_goals (first
      | (refine V_step T_ok GLPb rfl ?_; conv => whnf)
      | (refine V_drawA T_ok GLPb mixed (by kernel_rfl) ?_; conv => whnf)
      | (refine bcond_split (fun hc => ?_) (fun hc => ?_) <;> (try simp only [decide_eq_true_eq, decide_eq_false_iff_not, Bool.not_eq_true', Bool.not_eq_false', Bool.and_eq_true, Bool.or_eq_true, Bool.and_eq_false_imp, Bool.or_eq_false_iff, ne_eq, Decidable.not_not] at hc) <;> conv => whnf)
      | (intro ysK hysK; have hysl := congrArg List.length hysK; (try simp only [List.length_set, List.length_append, List.length_cons, List.length_nil, List.length_take, List.length_drop, List.length_replicate] at hysl); conv => whnf)
      | (intro bK hbK; have hbl := congrArg ByteArray.size hbK; conv => whnf)
      | (intro sK hsK; conv => whnf)
      | (refine And.intro (by first | (first | exact True.intro | omega | exact ⟨by omega, Int.le_trans hb (by omega)⟩ | exact ⟨by omega, by rw [List.length_map, List.length_range]; exact Int.le_trans hb (by omega), by rw [List.length_map, List.length_range]⟩) | exact True.intro | exact ⟨rfl, True.intro, fun _ _ => rfl⟩ | exact Nat.le_of_ble_eq_true rfl | (refine ⟨by (try simp only [List.length_cons, List.length_nil]); omega, Int.le_trans (Int.mul_le_mul_of_nonneg_left (show (TInfo.bytes _ : Int) ≤ 64 from Int.ofNat_le.2 (Nat.le_of_ble_eq_true rfl)) (by omega)) (by (try simp only [List.length_cons, List.length_nil]); omega)⟩)) ?_; conv => whnf)))
    all_goals first
      | exact leaf0 rfl rfl rfl
      | (simp at hc; done)
      | (exact absurd trivial hc)
      | (exact absurd rfl hc)
      | exact absurd (congrArg Prod.fst (hsK.trans hy1.symm)) hc
      | exact absurd (congrArg Prod.snd (hsK.trans hy1.symm)) hc
      | (simp [eqLs] at hc; done)
      | (have e9 := congrArg Prod.fst (hsK.trans hy1.symm); simp only [eqLs, e9] at hc; simp at hc; done)
      | skip
end Go.Proofs.Ytllagpbbbdekiaa.Fw
-- %intro
