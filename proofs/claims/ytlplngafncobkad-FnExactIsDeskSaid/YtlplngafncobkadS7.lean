/- The law of IsDesk. -/
import Derived.Test.YtlplngafncobkadS6
namespace Go.Proofs.Ytlplngafncobkad.Fw
open Go Go.RowKit
set_option linter.unusedVariables false
set_option linter.unusedSimpArgs false
set_option maxRecDepth 100000
set_option maxHeartbeats 2000000

abbrev Dk : Type := Ang × Ang × Sq
abbrev dT : TyC := .pair aT (.pair aT sT)
noncomputable def deskB (d : Dk) : Bool := decide (IsA d.1) && (decide (IsA d.2.1) && isSeqB d.2.2)
def isDeskC : PCtr := fun _ _ _ vals k => match vals with
  | [.agg [.int .i64 a, .int .i64 b, .int .i64 c, .int .i64 d, .str n, .str q]] => SzS (n, q) ∧ ∀ x : Bool, x = deskB ((a, b), (c, d), (n, q)) → k [] (.bool x)
  | _ => False
abbrev GD1 := (GOk.cons isAngle_ok (GOk.cons isSeq_ok .nil))
theorem isDesk_ok : PCtrOk Try.prog 20 isDeskC where
  enter := enter_ok Try.func20 (by kernel_rfl) rfl
  calls := by
    intro hg rg lr vals k h
    unfold isDeskC at h
    split at h
    case h_2 => exact h.elim
    rename_i a b c d n q
    obtain ⟨hx, hk⟩ := h
    replace hk := hk _ rfl
    refine ⟨_, _, hk, fun A w _ _ => ?_⟩
    refine enter T_ok GD1 Try.func20 rfl (K := (· < w.heap.size)) (fun _ h => h) (A := A) (n0 := 0) (b0 := 0) (rows := []) (hp := []) rfl (Nat.zero_le _) (fun k r h => by cases h) rfl (fun k r h => by cases h) rfl rfl (Nat.le_of_ble_eq_true rfl) ?_
    conv => whnf
    repeat (refine V_step T_ok GD1 rfl ?_; conv => whnf)
    repeat (any_goals (first
      | (refine V_step T_ok GD1 rfl ?_; conv => whnf)
      | (refine V_drawA T_ok GD1 mixed (by kernel_rfl) ?_; conv => whnf)
      | (refine bcond_split (fun hc => ?_) (fun hc => ?_) <;> (try simp only [decide_eq_true_eq, decide_eq_false_iff_not, Bool.not_eq_true', Bool.not_eq_false', Bool.and_eq_true, Bool.or_eq_true, Bool.and_eq_false_imp, Bool.or_eq_false_iff, ne_eq, Decidable.not_not] at hc) <;> conv => whnf)
      | (intro ysK hysK; have hysl := congrArg List.length hysK; (try simp only [List.length_set, List.length_append, List.length_cons, List.length_nil, List.length_take, List.length_drop, List.length_replicate] at hysl); conv => whnf)
      | (intro bK hbK; have hbl := congrArg ByteArray.size hbK; conv => whnf)
      | (intro sK hsK; conv => whnf)
      | (refine And.intro (by first | (first | exact True.intro | exact ⟨True.intro, hx⟩) | exact True.intro | exact Nat.le_of_ble_eq_true rfl | (refine ⟨by (try simp only [List.length_cons, List.length_nil]); omega, Int.le_trans (Int.mul_le_mul_of_nonneg_left (show (TInfo.bytes _ : Int) ≤ 64 from Int.ofNat_le.2 (Nat.le_of_ble_eq_true rfl)) (by omega)) (by (try simp only [List.length_cons, List.length_nil]); omega)⟩)) ?_; conv => whnf)))
    all_goals exact leaf0 rfl (congrArg AVal.bool (by simp [deskB, *])) rfl
abbrev GD2 := (GOk.cons sIs_ok (GOk.cons sIsSeq_ok .nil))
theorem sIsDesk_ok : PCtrOk Try.prog 18 isDeskC where
  enter := enter_ok Try.func18 (by kernel_rfl) rfl
  calls := by
    intro hg rg lr vals k h
    unfold isDeskC at h
    split at h
    case h_2 => exact h.elim
    rename_i a b c d n q
    obtain ⟨hx, hk⟩ := h
    replace hk := hk _ rfl
    refine ⟨_, _, hk, fun A w _ _ => ?_⟩
    refine enter T_ok GD2 Try.func18 rfl (K := (· < w.heap.size)) (fun _ h => h) (A := A) (n0 := 0) (b0 := 0) (rows := []) (hp := []) rfl (Nat.zero_le _) (fun k r h => by cases h) rfl (fun k r h => by cases h) rfl rfl (Nat.le_of_ble_eq_true rfl) ?_
    conv => whnf
    repeat (refine V_step T_ok GD2 rfl ?_; conv => whnf)
    repeat (any_goals (first
      | (refine V_step T_ok GD2 rfl ?_; conv => whnf)
      | (refine V_drawA T_ok GD2 mixed (by kernel_rfl) ?_; conv => whnf)
      | (refine bcond_split (fun hc => ?_) (fun hc => ?_) <;> (try simp only [decide_eq_true_eq, decide_eq_false_iff_not, Bool.not_eq_true', Bool.not_eq_false', Bool.and_eq_true, Bool.or_eq_true, Bool.and_eq_false_imp, Bool.or_eq_false_iff, ne_eq, Decidable.not_not] at hc) <;> conv => whnf)
      | (intro ysK hysK; have hysl := congrArg List.length hysK; (try simp only [List.length_set, List.length_append, List.length_cons, List.length_nil, List.length_take, List.length_drop, List.length_replicate] at hysl); conv => whnf)
      | (intro bK hbK; have hbl := congrArg ByteArray.size hbK; conv => whnf)
      | (intro sK hsK; conv => whnf)
      | (refine And.intro (by first | (first | exact True.intro | exact ⟨True.intro, hx⟩) | exact True.intro | exact Nat.le_of_ble_eq_true rfl | (refine ⟨by (try simp only [List.length_cons, List.length_nil]); omega, Int.le_trans (Int.mul_le_mul_of_nonneg_left (show (TInfo.bytes _ : Int) ≤ 64 from Int.ofNat_le.2 (Nat.le_of_ble_eq_true rfl)) (by omega)) (by (try simp only [List.length_cons, List.length_nil]); omega)⟩)) ?_; conv => whnf)))
    all_goals exact leaf0 rfl (congrArg AVal.bool (by simp [deskB, *])) rfl
def toDC : PCtr := fun _ _ _ vals k => match vals with
  | [.agg [.int .i64 a, .int .i64 b, .int .i64 c, .int .i64 d, .str n, .str q]] => True ∧ k [] (.agg [.int .i64 a, .int .i64 b, .int .i64 c, .int .i64 d, .str n, .str q])
  | _ => False
abbrev GD3 := (GOk.cons toAngle_ok (GOk.cons toS_ok .nil))
theorem toD_ok : PCtrOk Try.prog 19 toDC where
  enter := enter_ok Try.func19 (by kernel_rfl) rfl
  calls := by
    intro hg rg lr vals k h
    unfold toDC at h
    split at h
    case h_2 => exact h.elim
    rename_i a b c d n q
    obtain ⟨_, hk⟩ := h
    refine ⟨_, _, hk, fun A w _ _ => ?_⟩
    refine enter T_ok GD3 Try.func19 rfl (K := (· < w.heap.size)) (fun _ h => h) (A := A) (n0 := 0) (b0 := 0) (rows := []) (hp := []) rfl (Nat.zero_le _) (fun k r h => by cases h) rfl (fun k r h => by cases h) rfl rfl (Nat.le_of_ble_eq_true rfl) ?_
    conv => whnf
    repeat (refine V_step T_ok GD3 rfl ?_; conv => whnf)
    repeat (any_goals (first
      | (refine V_step T_ok GD3 rfl ?_; conv => whnf)
      | (refine V_drawA T_ok GD3 mixed (by kernel_rfl) ?_; conv => whnf)
      | (refine bcond_split (fun hc => ?_) (fun hc => ?_) <;> (try simp only [decide_eq_true_eq, decide_eq_false_iff_not, Bool.not_eq_true', Bool.not_eq_false', Bool.and_eq_true, Bool.or_eq_true, Bool.and_eq_false_imp, Bool.or_eq_false_iff, ne_eq, Decidable.not_not] at hc) <;> conv => whnf)
      | (intro ysK hysK; have hysl := congrArg List.length hysK; (try simp only [List.length_set, List.length_append, List.length_cons, List.length_nil, List.length_take, List.length_drop, List.length_replicate] at hysl); conv => whnf)
      | (intro bK hbK; have hbl := congrArg ByteArray.size hbK; conv => whnf)
      | (intro sK hsK; conv => whnf)
      | (refine And.intro (by first | exact True.intro | (with_reducible assumption) | omega | (simp only [Rng]; omega) | exact Nat.le_of_ble_eq_true rfl | exact True.intro | exact Nat.le_of_ble_eq_true rfl | (refine ⟨by (try simp only [List.length_cons, List.length_nil]); omega, Int.le_trans (Int.mul_le_mul_of_nonneg_left (show (TInfo.bytes _ : Int) ≤ 64 from Int.ofNat_le.2 (Nat.le_of_ble_eq_true rfl)) (by omega)) (by (try simp only [List.length_cons, List.length_nil]); omega)⟩)) ?_; conv => whnf)))
    all_goals exact leaf0 rfl rfl rfl
def szDC : PCtr := fun _ _ _ vals k => match vals with
  | [.agg [.int .i64 a, .int .i64 b, .int .i64 c, .int .i64 d, .str n, .str q], .int .i64 l] => ((0 ≤ l ∧ l ≤ 1048576) ∧ n.size ≤ 9223372036854775807 ∧ q.size ≤ 9223372036854775807) ∧ k [] (.int .i64 (if l - (n.size : Int) - (q.size : Int) < 0 then -1 else l - (n.size : Int) - (q.size : Int)))
  | _ => False
theorem szD_ok : PCtrOk Try.prog 17 szDC where
  enter := enter_ok Try.func17 (by kernel_rfl) rfl
  calls := by
    intro hg rg lr vals k h
    unfold szDC at h
    split at h
    case h_2 => exact h.elim
    rename_i a b c d n q l
    obtain ⟨hl, hk⟩ := h
    refine ⟨_, _, hk, fun A w _ _ => ?_⟩
    refine enter T_ok (GOk.cons szS_ok .nil) Try.func17 rfl (K := (· < w.heap.size)) (fun _ h => h) (A := A) (n0 := 0) (b0 := 0) (rows := []) (hp := []) rfl (Nat.zero_le _) (fun k r h => by cases h) rfl (fun k r h => by cases h) rfl rfl (Nat.le_of_ble_eq_true rfl) ?_
    conv => whnf
    repeat (refine V_step T_ok (GOk.cons szS_ok .nil) rfl ?_; conv => whnf)
    repeat (any_goals (first
      | (refine V_step T_ok (GOk.cons szS_ok .nil) rfl ?_; conv => whnf)
      | (refine V_drawA T_ok (GOk.cons szS_ok .nil) mixed (by kernel_rfl) ?_; conv => whnf)
      | (refine bcond_split (fun hc => ?_) (fun hc => ?_) <;> (try simp only [decide_eq_true_eq, decide_eq_false_iff_not, Bool.not_eq_true', Bool.not_eq_false', Bool.and_eq_true, Bool.or_eq_true, Bool.and_eq_false_imp, Bool.or_eq_false_iff, ne_eq, Decidable.not_not] at hc) <;> conv => whnf)
      | (intro ysK hysK; have hysl := congrArg List.length hysK; (try simp only [List.length_set, List.length_append, List.length_cons, List.length_nil, List.length_take, List.length_drop, List.length_replicate] at hysl); conv => whnf)
      | (intro bK hbK; have hbl := congrArg ByteArray.size hbK; conv => whnf)
      | (intro sK hsK; conv => whnf)
      | (refine And.intro (by first | (first | exact hl) | exact True.intro | exact Nat.le_of_ble_eq_true rfl | (refine ⟨by (try simp only [List.length_cons, List.length_nil]); omega, Int.le_trans (Int.mul_le_mul_of_nonneg_left (show (TInfo.bytes _ : Int) ≤ 64 from Int.ofNat_le.2 (Nat.le_of_ble_eq_true rfl)) (by omega)) (by (try simp only [List.length_cons, List.length_nil]); omega)⟩)) ?_; conv => whnf)))
    · exact leaf0 rfl (congrArg (AVal.int .i64) (by split at hc <;> first | (rw [if_pos (by assumption)]) | omega)) rfl
    · exact leaf0 rfl rfl rfl
def lawDC : PCtr := fun _ _ _ vals k => match vals with
  | [.agg [.int .i64 a, .int .i64 b, .int .i64 c, .int .i64 d, .str n, .str q]] => (n.size ≤ 9223372036854775807 ∧ q.size ≤ 9223372036854775807) ∧ k [] (.bool true)
  | _ => False
abbrev GlD := (GOk.cons szD_ok (GOk.cons toD_ok (GOk.cons isDesk_ok (GOk.cons sIsDesk_ok .nil))))
theorem lawDk_ok : PCtrOk Try.prog 4 lawDC where
  enter := enter_ok Try.func4 (by kernel_rfl) rfl
  calls := by
    intro hg rg lr vals k h
    unfold lawDC at h
    split at h
    case h_2 => exact h.elim
    rename_i a b c d n q
    obtain ⟨⟨h1, h2⟩, hk⟩ := h
    refine ⟨_, _, hk, fun A w _ _ => ?_⟩
    refine enter T_ok GlD Try.func4 rfl (K := (· < w.heap.size)) (fun _ h => h) (A := A) (n0 := 0) (b0 := 0) (rows := []) (hp := []) rfl (Nat.zero_le _) (fun k r h => by cases h) rfl (fun k r h => by cases h) rfl rfl (Nat.le_of_ble_eq_true rfl) ?_
    conv => whnf
    repeat (refine V_step T_ok GlD rfl ?_; conv => whnf)
    repeat (any_goals (first
      | (refine V_step T_ok GlD rfl ?_; conv => whnf)
      | (refine V_drawA T_ok GlD mixed (by kernel_rfl) ?_; conv => whnf)
      | (refine bcond_split (fun hc => ?_) (fun hc => ?_) <;> (try simp only [decide_eq_true_eq, decide_eq_false_iff_not, Bool.not_eq_true', Bool.not_eq_false', Bool.and_eq_true, Bool.or_eq_true, Bool.and_eq_false_imp, Bool.or_eq_false_iff, ne_eq, Decidable.not_not] at hc) <;> conv => whnf)
      | (intro ysK hysK; have hysl := congrArg List.length hysK; (try simp only [List.length_set, List.length_append, List.length_cons, List.length_nil, List.length_take, List.length_drop, List.length_replicate] at hysl); conv => whnf)
      | (intro bK hbK; have hbl := congrArg ByteArray.size hbK; conv => whnf)
      | (intro sK hsK; conv => whnf)
      | (refine And.intro (by first | (first | exact True.intro | exact ⟨by omega, h1, h2⟩ | exact szS_of (by assumption)) | exact True.intro | exact Nat.le_of_ble_eq_true rfl | (refine ⟨by (try simp only [List.length_cons, List.length_nil]); omega, Int.le_trans (Int.mul_le_mul_of_nonneg_left (show (TInfo.bytes _ : Int) ≤ 64 from Int.ofNat_le.2 (Nat.le_of_ble_eq_true rfl)) (by omega)) (by (try simp only [List.length_cons, List.length_nil]); omega)⟩)) ?_; conv => whnf)))
    · exact leaf0 rfl rfl rfl
    · rename_i hs
      rw [hs, hsK] at hc
      simp at hc
    · exact leaf0 rfl rfl rfl
end Go.Proofs.Ytlplngafncobkad.Fw
