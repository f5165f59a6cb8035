/- Contracts: the reference's sequences; the law's own functions over sequences; the law of a sequence's text. -/
import Derived.Test.YtlplngafncobkacS5
namespace Go.Proofs.Ytlplngafncobkac.Fw
open Go Go.RowKit
set_option linter.unusedVariables false
set_option linter.unusedSimpArgs false
set_option maxRecDepth 100000
set_option maxHeartbeats 2000000

abbrev GsS := (GOk.cons sLetS_ok (GOk.cons sSeq_ok .nil))
theorem sIsSeq_ok : PCtrOk Try.prog 102 isSeqC where
  enter := enter_ok Try.func102 (by kernel_rfl) rfl
  calls := by
    intro hg rg lr vals k h
    unfold isSeqC at h
    split at h
    case h_2 => exact h.elim
    rename_i n d
    obtain ⟨⟨_, hx⟩, hk⟩ := h
    refine ⟨_, _, hk, fun A w _ _ => ?_⟩
    refine enter T_ok GsS Try.func102 rfl (K := (· < w.heap.size)) (fun _ h => h) (A := A) (n0 := 0) (b0 := 0) (rows := []) (hp := []) rfl (Nat.zero_le _) (fun k r h => by cases h) rfl (fun k r h => by cases h) rfl rfl (Nat.le_of_ble_eq_true rfl) ?_
    conv => whnf
    repeat (refine V_step T_ok GsS rfl ?_; conv => whnf)
    have hx : n.size + d.size ≤ 1048576 := hx
    repeat (any_goals (first
      | (refine V_step T_ok GsS rfl ?_; conv => whnf)
      | (refine V_drawA T_ok GsS mixed (by kernel_rfl) ?_; conv => whnf)
      | (refine bcond_split (fun hc => ?_) (fun hc => ?_) <;> (try simp only [decide_eq_true_eq, decide_eq_false_iff_not, Bool.not_eq_true', Bool.not_eq_false', Bool.and_eq_true, Bool.or_eq_true, Bool.and_eq_false_imp, Bool.or_eq_false_iff, ne_eq, Decidable.not_not] at hc) <;> conv => whnf)
      | (intro ysK hysK; have hysl := congrArg List.length hysK; (try simp only [List.length_set, List.length_append, List.length_cons, List.length_nil, List.length_take, List.length_drop, List.length_replicate] at hysl); conv => whnf)
      | (intro bK hbK; have hbl := congrArg ByteArray.size hbK; conv => whnf)
      | (intro sK hsK; conv => whnf)
      | (refine And.intro (by first | (first | exact True.intro | omega | (have := szne (show ¬ d = ByteArray.mk #[] from by assumption); exact ⟨⟨by omega, by omega⟩, by omega⟩) | (simp only [Rng]; omega)) | exact True.intro | exact ⟨rfl, True.intro, fun _ _ => rfl⟩ | exact Nat.le_of_ble_eq_true rfl | (refine ⟨by (try simp only [List.length_cons, List.length_nil]); omega, Int.le_trans (Int.mul_le_mul_of_nonneg_left (show (TInfo.bytes _ : Int) ≤ 64 from Int.ofNat_le.2 (Nat.le_of_ble_eq_true rfl)) (by omega)) (by (try simp only [List.length_cons, List.length_nil]); omega)⟩)) ?_; conv => whnf)))
    · exact leaf0 rfl (congrArg AVal.bool (isSeqB_false fun h => by rw [h.1.1] at hc; cases hc).symm) rfl
    · exact leaf0 rfl (congrArg AVal.bool (isSeqB_false fun h => by rw [h.1.2] at hc; cases hc).symm) rfl
    · exact leaf0 rfl (congrArg AVal.bool (isSeqB_false fun h => by have := sz0 hc; have := h.2.1.1; simp only at this; omega).symm) rfl
    · exact leaf0 rfl (congrArg AVal.bool (isSeqB_false fun h => by have := h.2.1.2; simp only at this; omega).symm) rfl
    · have hne := szne (show ¬ d = ByteArray.mk #[] from by assumption)
      exact leaf0 rfl (congrArg AVal.bool (isSeqB_eq hsK ⟨by assumption, by assumption⟩ ⟨hne, by omega⟩)) rfl

/-! ### the text -/
theorem one_seq (s : Sq) : (if [s].all isSeqB = true then (if true = true then (0 : Int) else 2) else 1) = 0 ↔ isSeqB s = true := by
  rcases h : isSeqB s <;> simp [h]
theorem one_seq1 (s : Sq) (h : isSeqB s = false) : (if [s].all isSeqB = true then (if true = true then (0 : Int) else 2) else 1) = 1 := by simp [h]
theorem one_szs (s : Sq) (h : SzS s) : ∀ x ∈ [s], SzS x := by intro x hx; simp at hx; subst hx; exact h
@[irreducible] noncomputable def txtR (s : Sq) : ByteArray := if isSeqB s = true then textB s else ByteArray.mk #[]
@[irreducible] noncomputable def codR (s : Sq) : Int := if isSeqB s = true then 0 else 1
theorem txtR_t {s : Sq} (h : isSeqB s = true) : txtR s = textB s := by unfold txtR; rw [if_pos h]
theorem codR_t {s : Sq} (h : isSeqB s = true) : codR s = 0 := by unfold codR; rw [if_pos h]
theorem txtR_f {s : Sq} (h : isSeqB s = false) : txtR s = ByteArray.mk #[] := by unfold txtR; rw [h]; rfl
theorem codR_f {s : Sq} (h : isSeqB s = false) : codR s = 1 := by unfold codR; rw [h]; rfl
def stextC : PCtr := fun _ _ _ vals k => match vals with
  | [.agg [.str n, .str d]] => SzS (n, d) ∧ k [] (.tup [.str (txtR (n, d)), .int .i64 (codR (n, d))])
  | _ => False
abbrev GsT := (GOk.nil : GOk Try.prog [])
abbrev GsU := (GOk.cons sIsSeq_ok (.nil))
def szSC : PCtr := fun _ _ _ vals k => match vals with
  | [.agg [.str n, .str d], .int .i64 l] => ((0 ≤ l ∧ l ≤ 1048576) ∧ n.size ≤ 9223372036854775807 ∧ d.size ≤ 9223372036854775807) ∧ k [] (.int .i64 (if l - (n.size : Int) - (d.size : Int) < 0 then -1 else l - (n.size : Int) - (d.size : Int)))
  | _ => False
theorem szS_ok : PCtrOk Try.prog 57 szSC where
  enter := enter_ok Try.func57 (by kernel_rfl) rfl
  calls := by
    intro hg rg lr vals k h
    unfold szSC at h
    split at h
    case h_2 => exact h.elim
    rename_i n d l
    obtain ⟨⟨hl, h1, h2⟩, hk⟩ := h
    refine ⟨_, _, hk, fun A w _ _ => ?_⟩
    refine enter T_ok .nil Try.func57 rfl (K := (· < w.heap.size)) (fun _ h => h) (A := A) (n0 := 0) (b0 := 0) (rows := []) (hp := []) rfl (Nat.zero_le _) (fun k r h => by cases h) rfl (fun k r h => by cases h) rfl rfl (Nat.le_of_ble_eq_true rfl) ?_
    conv => whnf
    repeat (refine V_step T_ok .nil rfl ?_; conv => whnf)
    repeat (any_goals (first
      | (refine V_step T_ok .nil rfl ?_; conv => whnf)
      | (refine V_drawA T_ok .nil mixed (by kernel_rfl) ?_; conv => whnf)
      | (refine bcond_split (fun hc => ?_) (fun hc => ?_) <;> (try simp only [decide_eq_true_eq, decide_eq_false_iff_not, Bool.not_eq_true', Bool.not_eq_false', Bool.and_eq_true, Bool.or_eq_true, Bool.and_eq_false_imp, Bool.or_eq_false_iff, ne_eq, Decidable.not_not] at hc) <;> conv => whnf)
      | (intro ysK hysK; have hysl := congrArg List.length hysK; (try simp only [List.length_set, List.length_append, List.length_cons, List.length_nil, List.length_take, List.length_drop, List.length_replicate] at hysl); conv => whnf)
      | (intro bK hbK; have hbl := congrArg ByteArray.size hbK; conv => whnf)
      | (intro sK hsK; conv => whnf)
      | (refine And.intro (by first | exact True.intro | (with_reducible assumption) | omega | (simp only [Rng]; omega) | exact Nat.le_of_ble_eq_true rfl | exact True.intro | exact ⟨rfl, True.intro, fun _ _ => rfl⟩ | exact Nat.le_of_ble_eq_true rfl | (refine ⟨by (try simp only [List.length_cons, List.length_nil]); omega, Int.le_trans (Int.mul_le_mul_of_nonneg_left (show (TInfo.bytes _ : Int) ≤ 64 from Int.ofNat_le.2 (Nat.le_of_ble_eq_true rfl)) (by omega)) (by (try simp only [List.length_cons, List.length_nil]); omega)⟩)) ?_; conv => whnf)))
    · exact leaf0 rfl (congrArg (AVal.int .i64) (if_pos (by omega)).symm) rfl
    · exact leaf0 rfl (congrArg (AVal.int .i64) (if_pos hc).symm) rfl
    · exact leaf0 rfl (congrArg (AVal.int .i64) (if_neg hc).symm) rfl
def toSC : PCtr := fun _ _ _ vals k => match vals with
  | [.agg [.str n, .str d]] => True ∧ k [] (.agg [.str n, .str d])
  | _ => False
theorem toS_ok : PCtrOk Try.prog 59 toSC where
  enter := enter_ok Try.func59 (by kernel_rfl) rfl
  calls := by
    intro hg rg lr vals k h
    unfold toSC at h
    split at h
    case h_2 => exact h.elim
    rename_i n d
    obtain ⟨_, hk⟩ := h
    refine ⟨_, _, hk, fun A w _ _ => ?_⟩
    refine enter T_ok .nil Try.func59 rfl (K := (· < w.heap.size)) (fun _ h => h) (A := A) (n0 := 0) (b0 := 0) (rows := []) (hp := []) rfl (Nat.zero_le _) (fun k r h => by cases h) rfl (fun k r h => by cases h) rfl rfl (Nat.le_of_ble_eq_true rfl) ?_
    conv => whnf
    repeat (refine V_step T_ok .nil rfl ?_; conv => whnf)
    repeat (any_goals (first
      | (refine V_step T_ok .nil rfl ?_; conv => whnf)
      | (refine V_drawA T_ok .nil mixed (by kernel_rfl) ?_; conv => whnf)
      | (refine bcond_split (fun hc => ?_) (fun hc => ?_) <;> (try simp only [decide_eq_true_eq, decide_eq_false_iff_not, Bool.not_eq_true', Bool.not_eq_false', Bool.and_eq_true, Bool.or_eq_true, Bool.and_eq_false_imp, Bool.or_eq_false_iff, ne_eq, Decidable.not_not] at hc) <;> conv => whnf)
      | (intro ysK hysK; have hysl := congrArg List.length hysK; (try simp only [List.length_set, List.length_append, List.length_cons, List.length_nil, List.length_take, List.length_drop, List.length_replicate] at hysl); conv => whnf)
      | (intro bK hbK; have hbl := congrArg ByteArray.size hbK; conv => whnf)
      | (intro sK hsK; conv => whnf)
      | (refine And.intro (by first | exact True.intro | (with_reducible assumption) | omega | (simp only [Rng]; omega) | exact Nat.le_of_ble_eq_true rfl | exact True.intro | exact ⟨rfl, True.intro, fun _ _ => rfl⟩ | exact Nat.le_of_ble_eq_true rfl | (refine ⟨by (try simp only [List.length_cons, List.length_nil]); omega, Int.le_trans (Int.mul_le_mul_of_nonneg_left (show (TInfo.bytes _ : Int) ≤ 64 from Int.ofNat_le.2 (Nat.le_of_ble_eq_true rfl)) (by omega)) (by (try simp only [List.length_cons, List.length_nil]); omega)⟩)) ?_; conv => whnf)))
    all_goals exact leaf0 rfl rfl rfl
def lawSC : PCtr := fun _ _ _ vals k => match vals with
  | [.agg [.str n, .str d]] => (n.size ≤ 9223372036854775807 ∧ d.size ≤ 9223372036854775807) ∧ k [] (.bool true)
  | _ => False
abbrev GlS := (GOk.cons szS_ok (GOk.cons toS_ok ((.nil))))
theorem szS_of {n d : ByteArray} (h : ¬ (if (1048576 : Int) - (n.size : Int) - (d.size : Int) < 0 then (-1 : Int) else 1048576 - (n.size : Int) - (d.size : Int)) < 0) : SzS (n, d) := by
  unfold SzS
  simp only
  split at h <;> omega
end Go.Proofs.Ytlplngafncobkac.Fw
-- %intro
