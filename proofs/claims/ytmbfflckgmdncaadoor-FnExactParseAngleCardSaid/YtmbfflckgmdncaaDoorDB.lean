/- Contracts: texts of angles in the reference. -/
import Derived.Test.YtmbfflckgmdncaaDoorDA
namespace Go.Proofs.YtmbfflckgmdncaaDoor.Fw
open Go Go.RowKit
set_option linter.unusedVariables false
set_option linter.unusedSimpArgs false
set_option maxRecDepth 100000
set_option maxHeartbeats 2000000

/-- The text of an angle. -/
@[irreducible] def txB (a : Ang) : ByteArray := dcB a.1.toNat ++ ⟨#[47]⟩ ++ dcB a.2.toNat
theorem txB_size (a : Ang) : (txB a).size ≤ a.1.toNat + a.2.toNat + 3 := by
  unfold txB
  have h1 := dcB_size a.1.toNat
  have h2 := dcB_size a.2.toNat
  rw [ByteArray.size_append, ByteArray.size_append]
  have h3 : (⟨#[47]⟩ : ByteArray).size = 1 := rfl
  omega
def sTxC : PCtr := fun _ _ _ vals k => match vals with
  | [.agg [.int .i64 n, .int .i64 d]] => ((0 ≤ n ∧ n ≤ 100000) ∧ (0 ≤ d ∧ d ≤ 100000)) ∧ ∀ b : ByteArray, b = txB (n, d) → k [] (.str b)
  | _ => False
theorem sTx_ok : PCtrOk Tryd.prog 12 sTxC where
  enter := enter_ok Tryd.func12 (by kernel_rfl) rfl
  calls := by
    intro hg rg lr vals k h
    unfold sTxC at h
    split at h
    case h_2 => exact h.elim
    rename_i n d
    obtain ⟨_, hk⟩ := h
    replace hk := hk _ rfl
    refine ⟨_, _, hk, fun A w _ _ => ?_⟩
    refine enter T_ok (GOk.cons dec_ok .nil) Tryd.func12 rfl (K := (· < w.heap.size)) (fun _ h => h) (A := A) (n0 := 0) (b0 := 0) (rows := []) (hp := []) rfl (Nat.zero_le _) (fun k r h => by cases h) rfl (fun k r h => by cases h) rfl rfl (Nat.le_of_ble_eq_true rfl) ?_
    conv => whnf
    repeat (refine V_step T_ok (GOk.cons dec_ok .nil) rfl ?_; conv => whnf)
    have hb : (0 ≤ n ∧ n ≤ 100000) ∧ (0 ≤ d ∧ d ≤ 100000) := by assumption
    obtain ⟨⟨h1, h2⟩, h3, h4⟩ := hb
    have z1 := dcB_size n.toNat
    have z2 := dcB_size d.toNat
    have z3 : (⟨#[47]⟩ : ByteArray).size = 1 := rfl
    repeat (any_goals (first
      | (refine V_step T_ok (GOk.cons dec_ok .nil) rfl ?_; conv => whnf)
      | (refine V_drawN T_ok (GOk.cons dec_ok .nil) mixed (by kernel_rfl) ?_; conv => whnf)
      | (refine bcond_split (fun hc => ?_) (fun hc => ?_) <;> (try simp only [decide_eq_true_eq, decide_eq_false_iff_not, Bool.not_eq_true', Bool.not_eq_false', Bool.and_eq_true, Bool.or_eq_true, Bool.and_eq_false_imp, Bool.or_eq_false_iff, ne_eq, Decidable.not_not] at hc) <;> conv => whnf)
      | (intro ysK hysK; have hysl := congrArg List.length hysK; (try simp only [List.length_set, List.length_append, List.length_cons, List.length_nil, List.length_take, List.length_drop, List.length_replicate] at hysl); conv => whnf)
      | (intro bK hbK; have hbl := congrArg ByteArray.size hbK; conv => whnf)
      | (intro sK hsK; conv => whnf)
      | (refine And.intro (by first | (first | exact True.intro | omega | (simp only [Rng]; omega) | (simp only [ByteArray.size_append, z3]; omega)) | exact True.intro | exact ⟨rfl, True.intro, fun _ _ => rfl⟩ | exact Nat.le_of_ble_eq_true rfl | (refine ⟨by (try simp only [List.length_cons, List.length_nil]); omega, Int.le_trans (Int.mul_le_mul_of_nonneg_left (show (TInfo.bytes _ : Int) ≤ 64 from Int.ofNat_le.2 (Nat.le_of_ble_eq_true rfl)) (by omega)) (by (try simp only [List.length_cons, List.length_nil]); omega)⟩)) ?_; conv => whnf)))
    rename_i b1 hb1 _
    exact leaf0 rfl (by rw [hb1, hbK]; unfold txB; rfl) rfl
/-- What asking for the text of an angle gives: the text. -/
@[irreducible] def atB (a : Ang) : ByteArray := if IsA a then txB a else ⟨#[]⟩
/-- And the code. -/
def atK (a : Ang) : Int := if IsA a then 0 else 1
def atC : PCtr := fun _ _ _ vals k => match vals with
  | [.agg [.int .i64 n, .int .i64 d]] => True ∧ ∀ b : ByteArray, b = atB (n, d) → k [] (.tup [.str b, .int .i64 (atK (n, d))])
  | _ => False
theorem isA_b {n d : Int} (h : IsA (n, d)) : (0 ≤ n ∧ n ≤ 100000) ∧ (0 ≤ d ∧ d ≤ 100000) := by
  obtain ⟨⟨h1, h2⟩, ⟨h3, h4⟩, _⟩ := h
  simp only at h1 h2 h3 h4
  omega
theorem sAt_ok : PCtrOk Tryd.prog 5 atC where
  enter := enter_ok Tryd.func5 (by kernel_rfl) rfl
  calls := by
    intro hg rg lr vals k h
    unfold atC at h
    split at h
    case h_2 => exact h.elim
    rename_i n d
    obtain ⟨_, hk⟩ := h
    replace hk := hk _ rfl
    refine ⟨_, _, hk, fun A w _ _ => ?_⟩
    refine enter T_ok (GOk.cons sIs_ok (GOk.cons sTx_ok .nil)) Tryd.func5 rfl (K := (· < w.heap.size)) (fun _ h => h) (A := A) (n0 := 0) (b0 := 0) (rows := []) (hp := []) rfl (Nat.zero_le _) (fun k r h => by cases h) rfl (fun k r h => by cases h) rfl rfl (Nat.le_of_ble_eq_true rfl) ?_
    conv => whnf
    repeat (refine V_step T_ok (GOk.cons sIs_ok (GOk.cons sTx_ok .nil)) rfl ?_; conv => whnf)
    repeat (any_goals (first
      | (refine V_step T_ok (GOk.cons sIs_ok (GOk.cons sTx_ok .nil)) rfl ?_; conv => whnf)
      | (refine V_drawN T_ok (GOk.cons sIs_ok (GOk.cons sTx_ok .nil)) mixed (by kernel_rfl) ?_; conv => whnf)
      | (refine bcond_split (fun hc => ?_) (fun hc => ?_) <;> (try simp only [decide_eq_true_eq, decide_eq_false_iff_not, Bool.not_eq_true', Bool.not_eq_false', Bool.and_eq_true, Bool.or_eq_true, Bool.and_eq_false_imp, Bool.or_eq_false_iff, ne_eq, Decidable.not_not] at hc) <;> conv => whnf)
      | (intro ysK hysK; have hysl := congrArg List.length hysK; (try simp only [List.length_set, List.length_append, List.length_cons, List.length_nil, List.length_take, List.length_drop, List.length_replicate] at hysl); conv => whnf)
      | (intro bK hbK; have hbl := congrArg ByteArray.size hbK; conv => whnf)
      | (intro sK hsK; conv => whnf)
      | (refine And.intro (by first | (first | exact True.intro | exact isA_b (by assumption) | omega | (simp only [Rng]; omega)) | exact True.intro | exact ⟨rfl, True.intro, fun _ _ => rfl⟩ | exact Nat.le_of_ble_eq_true rfl | (refine ⟨by (try simp only [List.length_cons, List.length_nil]); omega, Int.le_trans (Int.mul_le_mul_of_nonneg_left (show (TInfo.bytes _ : Int) ≤ 64 from Int.ofNat_le.2 (Nat.le_of_ble_eq_true rfl)) (by omega)) (by (try simp only [List.length_cons, List.length_nil]); omega)⟩)) ?_; conv => whnf)))
    · exact leaf0 rfl (by unfold atB atK; rw [if_neg hc, if_neg hc]) rfl
    · exact leaf0 rfl (by unfold atB atK; rw [if_pos hc, if_pos hc, hbK]) rfl
end Go.Proofs.YtmbfflckgmdncaaDoor.Fw
-- %intro
