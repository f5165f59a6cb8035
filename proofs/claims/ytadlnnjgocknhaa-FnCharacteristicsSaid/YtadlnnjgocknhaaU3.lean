/- Contracts: what is drawn from a code for pairs. -/
import Derived.Test.YtadlnnjgocknhaaU2
namespace Go.Proofs.Ytadlnnjgocknhaa.Fw
open Go Go.RowKit
set_option linter.unusedVariables false
set_option linter.unusedSimpArgs false
set_option maxRecDepth 100000
set_option maxHeartbeats 2000000
abbrev GU8 := (GOk.xcons next_ok (GOk.xcons pick_ok (GOk.xcons draw_ok (GOk.xcons bad_ok (GOk.xcons spoil_ok (GOk.cons sOf_ok .nil))))))
theorem draw8_ok : XCtrOk Try.prog 62 spoilC where
  enter := enter_ok Try.func62 (by kernel_rfl) rfl
  calls := by
    intro hg rg vals k h
    unfold spoilC at h
    split at h
    case h_2 => exact h.elim
    rename_i j
    obtain ⟨r, a, h0, e, own, code, hi, hr, ⟨ha, hb⟩, _, hk⟩ := srcX_inv h
    have hw : ∃ cs v, k j cs v := ⟨_, _, hk ((0, 1), a, 0) ha⟩
    refine ⟨_, _, hw, hi, fun A w hX => ?_⟩
    refine enterX T_ok GU8 Try.func62 rfl (w := w) (A := A.pick [j] [r]) (vals := [.loc 0 0]) (n0 := 1) (b0 := 1) (rows := [some ⟨bT, e, false, code⟩]) (hp := [some [.row 0, .int .i64 a, .int .u64 h0]]) rfl (Nat.le_of_ble_eq_true rfl) (hX.one hi hr rfl rfl) rfl one_ro rfl rfl (Nat.le_of_ble_eq_true rfl) ?_
    conv => whnf
    repeat (refine V_step T_ok GU8 rfl ?_; conv => whnf)
    repeat (any_goals (first
      | (refine V_step T_ok GU8 rfl ?_; conv => whnf)
      | (refine V_drawA T_ok GU8 mixed (by kernel_rfl) ?_; conv => whnf)
      | (refine bcond_split (fun hc => ?_) (fun hc => ?_) <;> (try simp only [decide_eq_true_eq, decide_eq_false_iff_not, Bool.not_eq_true', Bool.not_eq_false', Bool.and_eq_true, Bool.or_eq_true, Bool.and_eq_false_imp, Bool.or_eq_false_iff, ne_eq, Decidable.not_not] at hc) <;> conv => whnf)
      | (intro ysK hysK; have hysl := congrArg List.length hysK; (try simp only [List.length_set, List.length_append, List.length_cons, List.length_nil, List.length_take, List.length_drop, List.length_replicate] at hysl); conv => whnf)
      | (intro bK hbK; have hbl := congrArg ByteArray.size hbK; conv => whnf)
      | (intro sK hsK; conv => whnf)
      | (refine And.intro (by first | (first | exact True.intro | exact ⟨ha, hb⟩ | exact ⟨hsK.2, hb⟩ | exact ⟨hsK, hb⟩ | exact hsK.1 | (simp only [List.length_cons, List.length_nil]; omega)) | exact True.intro | exact ⟨rfl, True.intro, fun _ _ => rfl⟩ | exact Nat.le_of_ble_eq_true rfl | (refine ⟨by (try simp only [List.length_cons, List.length_nil]); omega, Int.le_trans (Int.mul_le_mul_of_nonneg_left (show (TInfo.bytes _ : Int) ≤ 64 from Int.ofNat_le.2 (Nat.le_of_ble_eq_true rfl)) (by omega)) (by (try simp only [List.length_cons, List.length_nil]); omega)⟩)) ?_; conv => whnf)))
    · exact leafXr (hk ((_, _), _, _) hsK) (leafX rfl (Nat.le_refl _) rfl rfl (fun B h => by simp only [dens, AVal.den, h 0 (Nat.le_refl _), nthN]) rfl rfl)
    · rename_i d1 hd1
      have b1 := mem_bd (lo := 1) (hi := 127) hd1.1
      repeat (any_goals (first
        | (refine V_step T_ok GU8 rfl ?_; conv => whnf)
        | (refine V_drawA T_ok GU8 mixed (by kernel_rfl) ?_; conv => whnf)
        | (refine bcond_split (fun hc => ?_) (fun hc => ?_) <;> (try simp only [decide_eq_true_eq, decide_eq_false_iff_not, Bool.not_eq_true', Bool.not_eq_false', Bool.and_eq_true, Bool.or_eq_true, Bool.and_eq_false_imp, Bool.or_eq_false_iff, ne_eq, Decidable.not_not] at hc) <;> conv => whnf)
        | (intro ysK hysK; have hysl := congrArg List.length hysK; (try simp only [List.length_set, List.length_append, List.length_cons, List.length_nil, List.length_take, List.length_drop, List.length_replicate] at hysl); conv => whnf)
        | (intro bK hbK; have hbl := congrArg ByteArray.size hbK; conv => whnf)
        | (intro sK hsK; conv => whnf)
        | (refine And.intro (by first | (first | exact True.intro | omega) | exact True.intro | exact ⟨rfl, True.intro, fun _ _ => rfl⟩ | exact Nat.le_of_ble_eq_true rfl | (refine ⟨by (try simp only [List.length_cons, List.length_nil]); omega, Int.le_trans (Int.mul_le_mul_of_nonneg_left (show (TInfo.bytes _ : Int) ≤ 64 from Int.ofNat_le.2 (Nat.le_of_ble_eq_true rfl)) (by omega)) (by (try simp only [List.length_cons, List.length_nil]); omega)⟩)) ?_; conv => whnf)))
      exact leafXr (hk ((_, _), _, _) hsK.2) (leafX rfl (Nat.le_refl _) rfl rfl (fun B h => by simp only [dens, AVal.den, h 0 (Nat.le_refl _), nthN]) rfl rfl)
def dAngC : BCtr := fun hg rg lb lr vals k => match vals with
  | [.row i] => rowC bT (rg i) fun code => Bts code ∧ ∀ x : Ang, True → k none [] (.agg [.int .i64 x.1, .int .i64 x.2])
  | _ => False
abbrev GUf8 := (GOk.rcons from_ok (GOk.xcons draw8_ok .nil))
end Go.Proofs.Ytadlnnjgocknhaa.Fw
-- %intro
