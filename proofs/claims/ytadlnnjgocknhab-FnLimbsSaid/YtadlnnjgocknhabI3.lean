/- The law of limbs, walked. -/
import Derived.Test.YtadlnnjgocknhabI2
namespace Go.Proofs.Ytadlnnjgocknhab.Fw
open Go Go.RowKit
set_option linter.unusedVariables false
set_option linter.unusedSimpArgs false
set_option maxRecDepth 100000
set_option maxHeartbeats 4000000
theorem limN_0 {x : Ang} (h : limN x = 0) : IsA x ∧ ∃ r, limO x = some r ∧ limV x = r := by
  unfold limN at h
  by_cases hA : IsA x
  · rw [if_pos hA] at h
    by_cases hs : (limO x).isSome = true
    · obtain ⟨r, hr⟩ := Option.isSome_iff_exists.1 hs
      refine ⟨hA, r, hr, ?_⟩
      unfold limV; rw [if_pos hA, hr]; rfl
    · rw [if_neg hs] at h; exact absurd h (by decide)
  · rw [if_neg hA] at h; exact absurd h (by decide)
theorem limN_1 {x : Ang} (h : ¬ limN x = 0) : limV x = prZ := by
  unfold limN at h
  unfold limV
  by_cases hA : IsA x
  · rw [if_pos hA] at h ⊢
    by_cases hs : (limO x).isSome = true
    · rw [if_pos hs] at h; exact absurd rfl h
    · exact lvO_none (by simpa using hs)
  · rw [if_neg hA]
theorem lim_lo {x : Ang} (h : limN x = 0) : Sm x ∧ IsL (limV x) ∧ ¬ lessA x (limV x).1 ∧ ¬ lessA (limV x).2 x := by
  obtain ⟨hA, r, hr, hv⟩ := limN_0 h
  obtain ⟨h1, h2, _⟩ := limO_spec hA hr
  have hL := prL h1
  rw [hv]
  refine ⟨hA.sm, hL, fun e => ?_, fun e => ?_⟩
  · have := (lessA_v hA.f hL.1.f).1 e
    unfold inE at h2; grind
  · have := (lessA_v hL.2.1.f hA.f).1 e
    unfold inE at h2; grind
theorem obsN_0 {t u : Ang} (h : obsN t u = 0) : obsN u t = 0 ∧ obsB u t = obsB t u := by
  unfold obsN at h
  by_cases hA : IsA t ∧ IsA u
  · exact ⟨if_pos hA.symm, obs_sym hA.1 hA.2⟩
  · rw [if_neg hA] at h; exact absurd h (by decide)
theorem opO_0 {a : Ang} (h : (opO a).2 = 0) : addO a (opO a).1 = ((0, 1), 0) := by
  by_cases hA : IsA a
  · rw [opO_t hA]
    rw [addO_t ⟨hA, mir_isA hA⟩, plus_mir hA]
    exact tolA_f (by decide)
  · rw [opO_f hA] at h; exact absurd h (by decide)
theorem opA {a : Ang} {q s : Ang × Int} (hq : q = opO a) (h0 : q.2 = 0) (hs : s = addO a q.1) : s = ((0, 1), 0) := by
  subst hq; rw [hs]; exact opO_0 h0
attribute [local irreducible] limV limN obsB obsN limO opO
def lawFlC : PCtr := fun _ rg _ vals k => match vals with
  | [.row i] => rowC bT (rg i) fun code => Bts code ∧ k [] (.bool true)
  | _ => False
abbrev GFl := (GOk.cons big_ok (GOk.rcons dLm_ok (GOk.rcons dAob_ok (GOk.rcons dOa_ok (GOk.cons limbOf_ok (GOk.cons sLimbOf_ok (GOk.cons obs_ok (GOk.cons sObs_ok (GOk.cons opO_ok (GOk.cons sOpO_ok (GOk.cons add_ok (GOk.cons less9_ok .nil))))))))))))
theorem lawFl_ok : PCtrOk Try.prog 3 lawFlC where
  enter := enter_ok Try.func3 (by kernel_rfl) rfl
  calls := by
    intro hg rg lr vals k h
    unfold lawFlC at h
    split at h
    case h_2 => exact h.elim
    rename_i i
    obtain ⟨e, own, code, hi, h⟩ : ∃ e own, ∃ (xs : List Int), _ := rowC_inv h
    obtain ⟨hb, hk⟩ := h
    refine ⟨_, _, hk, fun A w hB hR => ?_⟩
    refine enter T_ok GFl Try.func3 rfl (K := (· < w.heap.size)) (fun _ h => h) (A := A.pick [] [i]) (vals := [.row 0]) (n0 := 0) (b0 := 0) (rows := [some ⟨bT, e, false, code⟩]) (hp := []) rfl (Nat.zero_le _) no_box rfl (one_row (hR i _ hi)) rfl rfl (Nat.le_of_ble_eq_true rfl) ?_
    conv => whnf
    repeat (refine V_step T_ok GFl rfl ?_; conv => whnf)
    repeat (any_goals (first
      | (refine V_step T_ok GFl rfl ?_; conv => whnf)
      | (refine V_drawN T_ok GFl mixed (by kernel_rfl) ?_; conv => whnf)
      | (refine bcond_split (fun hc => ?_) (fun hc => ?_) <;> (try simp only [decide_eq_true_eq, decide_eq_false_iff_not, Bool.not_eq_true', Bool.not_eq_false', Bool.and_eq_true, Bool.or_eq_true, Bool.and_eq_false_imp, Bool.or_eq_false_iff, ne_eq, Decidable.not_not] at hc) <;> conv => whnf)
      | (intro ysK hysK; have hysl := congrArg List.length hysK; (try simp only [List.length_set, List.length_append, List.length_cons, List.length_nil, List.length_take, List.length_drop, List.length_replicate] at hysl); conv => whnf)
      | (intro bK hbK; have hbl := congrArg ByteArray.size hbK; conv => whnf)
      | (intro sK hsK; conv => whnf)
      | (refine And.intro (by first | (first | exact True.intro | exact hb) | exact True.intro | exact ⟨rfl, True.intro, fun _ _ => rfl⟩ | exact Nat.le_of_ble_eq_true rfl | (refine ⟨by (try simp only [List.length_cons, List.length_nil]); omega, Int.le_trans (Int.mul_le_mul_of_nonneg_left (show (TInfo.bytes _ : Int) ≤ 64 from Int.ofNat_le.2 (Nat.le_of_ble_eq_true rfl)) (by omega)) (by (try simp only [List.length_cons, List.length_nil]); omega)⟩)) ?_; conv => whnf)))
    all_goals first
      | exact leaf0 rfl rfl rfl
      | exact absurd trivial hc
      | exact absurd trivial (hc ⟨trivial, trivial⟩ trivial)
      | (rw [beq_self_eq_true] at hc; cases hc; done)
      | (rename_i o1 ho1; exact absurd (congrArg Prod.snd (ho1.trans hsK.symm)) hc)
      | (rename_i o1 ho1 _; exact absurd (congrArg (fun z => z.1.2) (ho1.trans hsK.symm)) (hc (congrArg (fun z => z.1.1) (ho1.trans hsK.symm))))
      | (have z := obsN_0 (by assumption); exact absurd z.1 hc)
      | (have z := obsN_0 (by assumption); rw [z.2, beq_self_eq_true] at hc; cases hc; done)
      | (rename_i q hq q2 hq2 _ _ _ _ _ h0; exact absurd (congrArg Prod.snd (opA hq h0 hsK)) hc)
      | (rename_i q hq q2 hq2 _ _ _ h0; exact absurd (congrArg Prod.snd (opA hq h0 hsK)) hc)
      | (rename_i q hq q2 hq2 _ _ _ _ _ h0 _; have z := opA hq h0 hsK; exact absurd (congrArg (fun z => z.1.2) z) (hc (congrArg (fun z => z.1.1) z)))
      | (rename_i q hq q2 hq2 _ _ _ h0 _; have z := opA hq h0 hsK; exact absurd (congrArg (fun z => z.1.2) z) (hc (congrArg (fun z => z.1.1) z)))
      | (have z := limN_1 hc; exact leaf0 rfl (congrArg AVal.bool (by rw [z]; rfl)) rfl)
      | skip
    all_goals have z := lim_lo hc
    repeat (any_goals (first
      | (refine V_step T_ok GFl rfl ?_; conv => whnf)
      | (refine V_drawN T_ok GFl mixed (by kernel_rfl) ?_; conv => whnf)
      | (refine bcond_split (fun hc => ?_) (fun hc => ?_) <;> (try simp only [decide_eq_true_eq, decide_eq_false_iff_not, Bool.not_eq_true', Bool.not_eq_false', Bool.and_eq_true, Bool.or_eq_true, Bool.and_eq_false_imp, Bool.or_eq_false_iff, ne_eq, Decidable.not_not] at hc) <;> conv => whnf)
      | (intro ysK hysK; have hysl := congrArg List.length hysK; (try simp only [List.length_set, List.length_append, List.length_cons, List.length_nil, List.length_take, List.length_drop, List.length_replicate] at hysl); conv => whnf)
      | (intro bK hbK; have hbl := congrArg ByteArray.size hbK; conv => whnf)
      | (intro sK hsK; conv => whnf)
      | (refine And.intro (by first | (first | exact True.intro | exact ⟨z.1, z.2.1.1.sm⟩ | exact ⟨z.2.1.2.1.sm, z.1⟩) | exact True.intro | exact ⟨rfl, True.intro, fun _ _ => rfl⟩ | exact Nat.le_of_ble_eq_true rfl | (refine ⟨by (try simp only [List.length_cons, List.length_nil]); omega, Int.le_trans (Int.mul_le_mul_of_nonneg_left (show (TInfo.bytes _ : Int) ≤ 64 from Int.ofNat_le.2 (Nat.le_of_ble_eq_true rfl)) (by omega)) (by (try simp only [List.length_cons, List.length_nil]); omega)⟩)) ?_; conv => whnf)))
    all_goals first
      | exact absurd hc z.2.2.1
      | exact leaf0 rfl (congrArg AVal.bool (congrArg (fun b => !b) (decide_eq_false z.2.2.2))) rfl
end Go.Proofs.Ytadlnnjgocknhab.Fw
-- %intro
