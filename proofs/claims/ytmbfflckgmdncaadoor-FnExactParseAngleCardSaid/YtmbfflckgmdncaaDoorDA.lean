/- Contracts: decimal numerals in the reference. -/
import Derived.Test.YtmbfflckgmdncaaDoorHC
import Derived.Lib.ItoaNum
namespace Go.Proofs.YtmbfflckgmdncaaDoor.Fw
open Go Go.RowKit
set_option linter.unusedVariables false
set_option linter.unusedSimpArgs false
set_option maxRecDepth 100000
set_option maxHeartbeats 2000000

/-- A number of at least 0 in decimal. -/
@[irreducible] def dcB (n : Nat) : ByteArray := ⟨(Lib.decDigits n).toArray⟩
theorem dcB_lt {n : Nat} (h : n < 10) : dcB n = strOfNums [48 + (n : Int)] := by
  unfold dcB strOfNums
  rw [Lib.decDigits, dif_pos h]
  have : (48 + (n : Int)).toNat = 48 + n := by omega
  simp only [List.map_cons, List.map_nil, this]
theorem dcB_ge {n : Nat} (h : 10 ≤ n) : dcB n = dcB (n / 10) ++ strOfNums [48 + ((n % 10 : Nat) : Int)] := by
  unfold dcB strOfNums
  rw [Lib.decDigits, dif_neg (by omega)]
  have : (48 + ((n % 10 : Nat) : Int)).toNat = 48 + n % 10 := by omega
  simp only [List.map_cons, List.map_nil, this]
  apply ByteArray.ext
  simp
theorem dcB_size : ∀ n : Nat, (dcB n).size ≤ n + 1 := fun n => by
  induction n using Nat.strongRecOn with
  | _ n ih =>
    by_cases h : n < 10
    · rw [dcB_lt h, strOfNums_size]; simp
    · rw [dcB_ge (by omega), ByteArray.size_append, strOfNums_size]
      have := ih (n / 10) (by omega)
      simp only [List.length_cons, List.length_nil]
      omega
def decC (N : Nat) : PCtr := fun _ _ _ vals k => match vals with
  | [.int .i64 n] => (0 ≤ n ∧ n < N ∧ N ≤ 1000000) ∧ ∀ b : ByteArray, b = dcB n.toNat → k [] (.str b)
  | _ => False
theorem dec_zero : PCtrOk Tryd.prog 21 (decC 0) where
  enter := enter_ok Tryd.func21 (by kernel_rfl) rfl
  calls := by
    intro hg rg lr vals k h
    unfold decC at h
    split at h
    case h_2 => exact h.elim
    exact absurd h.1 (by omega)
theorem dec_step (N : Nat) (ih : PCtrOk Tryd.prog 21 (decC N)) : PCtrOk Tryd.prog 21 (decC (N + 1)) where
  enter := enter_ok Tryd.func21 (by kernel_rfl) rfl
  calls := by
    intro hg rg lr vals k h
    unfold decC at h
    split at h
    case h_2 => exact h.elim
    rename_i n
    obtain ⟨_, hk⟩ := h
    replace hk := hk _ rfl
    refine ⟨_, _, hk, fun A w _ _ => ?_⟩
    refine enter T_ok (GOk.cons ih .nil) Tryd.func21 rfl (K := (· < w.heap.size)) (fun _ h => h) (A := A) (n0 := 0) (b0 := 0) (rows := []) (hp := []) rfl (Nat.zero_le _) (fun k r h => by cases h) rfl (fun k r h => by cases h) rfl rfl (Nat.le_of_ble_eq_true rfl) ?_
    conv => whnf
    repeat (refine V_step T_ok (GOk.cons ih .nil) rfl ?_; conv => whnf)
    have hn : 0 ≤ n ∧ n < ↑(N + 1) ∧ N + 1 ≤ 1000000 := by assumption
    obtain ⟨h1, h2, h3⟩ := hn
    have q : Int.tdiv n 10 = n / 10 := Int.tdiv_eq_ediv_of_nonneg h1
    have r : Int.tmod n 10 = n % 10 := Int.tmod_eq_emod_of_nonneg h1
    refine bcond_split (fun hc => ?_) (fun hc => ?_) <;> (try simp only [decide_eq_true_eq, decide_eq_false_iff_not, Bool.not_eq_true', Bool.not_eq_false', Bool.and_eq_true, Bool.or_eq_true, Bool.and_eq_false_imp, Bool.or_eq_false_iff, ne_eq, Decidable.not_not] at hc) <;> conv => whnf
    · exact absurd hc (by omega)
    obtain ⟨m, rfl⟩ : ∃ m : Nat, n = (m : Int) := ⟨n.toNat, by omega⟩
    have e1 : ((m : Int) / 10) = ((m / 10 : Nat) : Int) := by omega
    have e2 : ((m : Int) % 10) = ((m % 10 : Nat) : Int) := by omega
    rw [e1] at q
    rw [e2] at r
    have hb := dcB_size (m / 10)
    repeat (any_goals (first
      | (refine V_step T_ok (GOk.cons ih .nil) rfl ?_; conv => whnf)
      | (refine V_drawN T_ok (GOk.cons ih .nil) mixed (by kernel_rfl) ?_; conv => whnf)
      | (refine bcond_split (fun hc => ?_) (fun hc => ?_) <;> (try simp only [decide_eq_true_eq, decide_eq_false_iff_not, Bool.not_eq_true', Bool.not_eq_false', Bool.and_eq_true, Bool.or_eq_true, Bool.and_eq_false_imp, Bool.or_eq_false_iff, ne_eq, Decidable.not_not] at hc) <;> conv => whnf)
      | (intro ysK hysK; have hysl := congrArg List.length hysK; (try simp only [List.length_set, List.length_append, List.length_cons, List.length_nil, List.length_take, List.length_drop, List.length_replicate] at hysl); conv => whnf)
      | (intro bK hbK; have hbl := congrArg ByteArray.size hbK; conv => whnf)
      | (intro sK hsK; conv => whnf)
      | (refine And.intro (by first | (first | exact True.intro | omega | (simp only [Rng]; omega) | (rw [hbl, q, strOfNums_size]; simp only [Int.toNat_natCast, List.length_cons, List.length_nil]; omega)) | exact True.intro | exact ⟨rfl, True.intro, fun _ _ => rfl⟩ | exact Nat.le_of_ble_eq_true rfl | (refine ⟨by (try simp only [List.length_cons, List.length_nil]); omega, Int.le_trans (Int.mul_le_mul_of_nonneg_left (show (TInfo.bytes _ : Int) ≤ 64 from Int.ofNat_le.2 (Nat.le_of_ble_eq_true rfl)) (by omega)) (by (try simp only [List.length_cons, List.length_nil]); omega)⟩)) ?_; conv => whnf)))
    · exact leaf0 rfl (by rw [Int.toNat_natCast, dcB_lt (by omega)]) rfl
    · exact leaf0 rfl (by rw [hbK, q, r, Int.toNat_natCast, Int.toNat_natCast, dcB_ge (n := m) (by omega)]) rfl
theorem dec_ok : PCtrOk Tryd.prog 21 (decC 1000000) := by
  have h : ∀ N, PCtrOk Tryd.prog 21 (decC N) := fun N => by
    induction N with
    | zero => exact dec_zero
    | succ N ih => exact dec_step N ih
  exact h _
end Go.Proofs.YtmbfflckgmdncaaDoor.Fw
-- %intro
