/- Contracts: LetterOf. -/
import Derived.Test.YtllagpbbbdekiacTF
namespace Go.Proofs.Ytllagpbbbdekiac.Fw
open Go Go.RowKit
set_option linter.unusedVariables false
set_option linter.unusedSimpArgs false
set_option maxRecDepth 100000
set_option maxHeartbeats 2000000
open Classical in
@[irreducible] noncomputable def ltO (x t : Ang) : ByteArray × Int := if IsA x ∧ IsA t then (Utf8.encode (letA x t), 0) else (⟨#[]⟩, 1)
theorem ltO_t {x t : Ang} (h : IsA x ∧ IsA t) : ltO x t = (Utf8.encode (letA x t), 0) := by unfold ltO; rw [if_pos h]
theorem ltO_f {x t : Ang} (h : ¬ (IsA x ∧ IsA t)) : ltO x t = (⟨#[]⟩, 1) := by unfold ltO; rw [if_neg h]
theorem ltO_lb {x y t : Ang} (hx : IsA x) (hy : IsA y) (ht : IsA t) (h : lb x t = lb y t) : ltO x t = ltO y t := by
  rw [ltO_t ⟨hx, ht⟩, ltO_t ⟨hy, ht⟩]
  have h3 : ∀ z : Ang, letA z t = 42 ∨ letA z t = 49 ∨ letA z t = 48 := fun z => by
    unfold letA; split
    · exact .inl rfl
    · split
      · exact .inr (.inl rfl)
      · exact .inr (.inr rfl)
  have e : letA x t = letA y t := by
    unfold lb at h
    rcases h3 x with h1 | h1 | h1 <;> rcases h3 y with h2 | h2 | h2 <;> rw [h1, h2] at h ⊢ <;> first | rfl | exact absurd h (by decide)
  rw [e]
def ltOC : PCtr := fun _ _ _ vals k => match vals with
  | [.agg [.int .i64 n, .int .i64 d], .agg [.int .i64 m, .int .i64 e]] => True ∧ ∀ q : ByteArray × Int, q = ltO (n, d) (m, e) → k [] (.tup [.str q.1, .int .i64 q.2])
  | _ => False
abbrev GLt := (GOk.cons anglesCode2_ok (GOk.cons let_ok .nil))
theorem ltO_ok : PCtrOk Try.prog 23 ltOC where
  enter := enter_ok Try.func23 (by kernel_rfl) rfl
  calls := by
    intro hg rg lr vals k h
    unfold ltOC at h
    split at h
    case h_2 => exact h.elim
    rename_i n d m e
    obtain ⟨_, hk⟩ := h
    replace hk := hk _ rfl
    refine ⟨_, _, hk, fun A w _ _ => ?_⟩
    refine enter T_ok GLt Try.func23 rfl (K := (· < w.heap.size)) (fun _ h => h) (A := A) (n0 := 0) (b0 := 0) (rows := []) (hp := []) rfl (Nat.zero_le _) (fun k r h => by cases h) rfl (fun k r h => by cases h) rfl rfl (Nat.le_of_ble_eq_true rfl) ?_
    conv => whnf
    repeat (refine V_step T_ok GLt rfl ?_; conv => whnf)
    refine ⟨Nat.le_of_ble_eq_true rfl, ?_⟩
    conv => whnf
    refine ⟨True.intro, ?_⟩
    conv => whnf
    repeat (refine V_step T_ok GLt rfl ?_; conv => whnf)
    refine bcond_split (fun hc => ?_) (fun hc => ?_) <;> (try simp only [decide_eq_true_eq, decide_eq_false_iff_not, Bool.not_eq_true', Bool.not_eq_false', Bool.and_eq_true, Bool.or_eq_true, Bool.and_eq_false_imp, Bool.or_eq_false_iff, ne_eq, Decidable.not_not] at hc) <;> conv => whnf
    · skip
      repeat (any_goals (first
        | (refine V_step T_ok GLt rfl ?_; conv => whnf)
        | (refine V_drawA T_ok GLt mixed (by kernel_rfl) ?_; conv => whnf)
        | (refine bcond_split (fun hc => ?_) (fun hc => ?_) <;> (try simp only [decide_eq_true_eq, decide_eq_false_iff_not, Bool.not_eq_true', Bool.not_eq_false', Bool.and_eq_true, Bool.or_eq_true, Bool.and_eq_false_imp, Bool.or_eq_false_iff, ne_eq, Decidable.not_not] at hc) <;> conv => whnf)
        | (intro ysK hysK; have hysl := congrArg List.length hysK; (try simp only [List.length_set, List.length_append, List.length_cons, List.length_nil, List.length_take, List.length_drop, List.length_replicate] at hysl); conv => whnf)
        | (intro bK hbK; have hbl := congrArg ByteArray.size hbK; conv => whnf)
        | (intro sK hsK; conv => whnf)
        | (refine And.intro (by first | exact True.intro | (with_reducible assumption) | omega | (simp only [Rng]; omega) | exact Nat.le_of_ble_eq_true rfl | exact True.intro | exact ⟨rfl, True.intro, fun _ _ => rfl⟩ | exact Nat.le_of_ble_eq_true rfl | (refine ⟨by (try simp only [List.length_cons, List.length_nil]); omega, Int.le_trans (Int.mul_le_mul_of_nonneg_left (show (TInfo.bytes _ : Int) ≤ 64 from Int.ofNat_le.2 (Nat.le_of_ble_eq_true rfl)) (by omega)) (by (try simp only [List.length_cons, List.length_nil]); omega)⟩)) ?_; conv => whnf)))
      exact leaf0 rfl (by rw [ltO_f (fun h => hc ((two_isA _ _).2 h))]; exact congrArg (fun z => AVal.tup [AVal.str ⟨#[]⟩, AVal.int .i64 z]) (two_isA' (fun h => hc ((two_isA _ _).2 h)))) rfl
    · refine VC_seq (VC_ops (VC_one T_ok GLt rfl ?_))
      conv => whnf
      refine VC_one T_ok GLt rfl ?_
      conv => whnf
      refine VC_one T_ok GLt rfl ?_
      conv => whnf
      refine ⟨(two_isA _ _).1 hc, ?_⟩
      conv => whnf
      refine VC_conv rfl (fun w => conv_run _ w) ?_
      conv => whnf
      refine VC_one T_ok GLt rfl ?_
      conv => whnf
      refine VC_one T_ok GLt rfl ?_
      conv => whnf
      refine VC_end ?_
      conv => whnf
      repeat (any_goals (first
        | (refine V_step T_ok GLt rfl ?_; conv => whnf)
        | (refine V_drawA T_ok GLt mixed (by kernel_rfl) ?_; conv => whnf)
        | (refine bcond_split (fun hc => ?_) (fun hc => ?_) <;> (try simp only [decide_eq_true_eq, decide_eq_false_iff_not, Bool.not_eq_true', Bool.not_eq_false', Bool.and_eq_true, Bool.or_eq_true, Bool.and_eq_false_imp, Bool.or_eq_false_iff, ne_eq, Decidable.not_not] at hc) <;> conv => whnf)
        | (intro ysK hysK; have hysl := congrArg List.length hysK; (try simp only [List.length_set, List.length_append, List.length_cons, List.length_nil, List.length_take, List.length_drop, List.length_replicate] at hysl); conv => whnf)
        | (intro bK hbK; have hbl := congrArg ByteArray.size hbK; conv => whnf)
        | (intro sK hsK; conv => whnf)
        | (refine And.intro (by first | exact True.intro | (with_reducible assumption) | omega | (simp only [Rng]; omega) | exact Nat.le_of_ble_eq_true rfl | exact True.intro | exact ⟨rfl, True.intro, fun _ _ => rfl⟩ | exact Nat.le_of_ble_eq_true rfl | (refine ⟨by (try simp only [List.length_cons, List.length_nil]); omega, Int.le_trans (Int.mul_le_mul_of_nonneg_left (show (TInfo.bytes _ : Int) ≤ 64 from Int.ofNat_le.2 (Nat.le_of_ble_eq_true rfl)) (by omega)) (by (try simp only [List.length_cons, List.length_nil]); omega)⟩)) ?_; conv => whnf)))
      exact leaf0 rfl (by rw [ltO_t ((two_isA _ _).1 hc)]) rfl
end Go.Proofs.Ytllagpbbbdekiac.Fw
