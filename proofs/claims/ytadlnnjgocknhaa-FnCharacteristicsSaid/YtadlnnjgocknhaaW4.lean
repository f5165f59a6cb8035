/- The polynomial of the pair matrix of an angle, both sides; the law. -/
import Derived.Test.YtadlnnjgocknhaaW3
import Derived.Test.YtadlnnjgocknhaaK10
namespace Go.Proofs.Ytadlnnjgocknhaa.Fw
open Go Go.RowKit
set_option linter.unusedVariables false
set_option linter.unusedSimpArgs false
set_option maxRecDepth 100000
set_option maxHeartbeats 2000000
def ppO (x : Ang) : List Int := if orbN8 x = 0 then chP (matP (orb8 x)) else []
theorem matP_char {xs : List Ang} (ho : Orb xs) : List.length (α := List Int) (matP xs) ≤ 900 ∧ ∀ r ∈ matP xs, List.length (α := Int) r = List.length (α := List Int) (matP xs) := by
  have := ho.len
  refine ⟨?_, matP_sq xs⟩
  rw [matP_len]
  have := prJ7 xs.length (by omega)
  omega
def ppC : PCtr := fun _ _ lr vals k => match vals with
  | [.agg [.int .i64 n, .int .i64 d]] => True ∧ ∀ ys, ys = ppO (n, d) → k [⟨iT, 2, true, ys⟩] (.tup [.row lr, .int .i64 (orbN8 (n, d))])
  | _ => False
abbrev GPP := GOk.bcons par_ok (GOk.cons mat_ok (GOk.cons char_ok .nil))
theorem pp_ok : PCtrOk Try.prog 14 ppC where
  enter := enter_ok Try.func14 (by kernel_rfl) rfl
  calls := by
    intro hg rg lr vals k h
    unfold ppC at h
    split at h
    case h_2 => exact h.elim
    rename_i n d
    obtain ⟨_, hk⟩ := h
    replace hk := hk _ rfl
    refine ⟨_, _, hk, fun A w _ _ => ?_⟩
    refine enter T_ok GPP Try.func14 rfl (K := (· < w.heap.size)) (fun _ h => h) (A := A) (n0 := 0) (b0 := 0) (rows := []) (hp := []) rfl (Nat.zero_le _) (fun k r h => by cases h) rfl (fun k r h => by cases h) rfl rfl (Nat.le_of_ble_eq_true rfl) ?_
    conv => whnf
    repeat (refine V_step T_ok GPP rfl ?_; conv => whnf)
    repeat (any_goals (first
      | (refine V_step T_ok GPP rfl ?_; conv => whnf)
      | (refine V_drawA T_ok GPP mixed (by kernel_rfl) ?_; conv => whnf)
      | (refine bcond_split (fun hc => ?_) (fun hc => ?_) <;> (try simp only [decide_eq_true_eq, decide_eq_false_iff_not, Bool.not_eq_true', Bool.not_eq_false', Bool.and_eq_true, Bool.or_eq_true, Bool.and_eq_false_imp, Bool.or_eq_false_iff, ne_eq, Decidable.not_not] at hc) <;> conv => whnf)
      | (intro ysK hysK; have hysl := congrArg List.length hysK; (try simp only [List.length_set, List.length_append, List.length_cons, List.length_nil, List.length_take, List.length_drop, List.length_replicate] at hysl); conv => whnf)
      | (refine And.intro (by first | exact True.intro | (with_reducible assumption) | omega | (simp only [Rng]; omega) | exact Nat.le_of_ble_eq_true rfl | exact True.intro | exact ⟨rfl, True.intro, fun _ _ => rfl⟩ | exact Nat.le_of_ble_eq_true rfl | (refine ⟨by (try simp only [List.length_cons, List.length_nil]); omega, Int.le_trans (Int.mul_le_mul_of_nonneg_left (show (TInfo.bytes _ : Int) ≤ 64 from Int.ofNat_le.2 (Nat.le_of_ble_eq_true rfl)) (by omega)) (by (try simp only [List.length_cons, List.length_nil]); omega)⟩)) ?_; conv => whnf)))
    refine ⟨fun h1 => ?_, fun h2 => ?_, fun h0 xs prs hxs hprs => ?_⟩ <;> conv => whnf
    · skip
      repeat (any_goals (first
        | (refine V_step T_ok GPP rfl ?_; conv => whnf)
        | (refine V_drawA T_ok GPP mixed (by kernel_rfl) ?_; conv => whnf)
        | (refine bcond_split (fun hc => ?_) (fun hc => ?_) <;> (try simp only [decide_eq_true_eq, decide_eq_false_iff_not, Bool.not_eq_true', Bool.not_eq_false', Bool.and_eq_true, Bool.or_eq_true, Bool.and_eq_false_imp, Bool.or_eq_false_iff, ne_eq, Decidable.not_not] at hc) <;> conv => whnf)
        | (intro ysK hysK; have hysl := congrArg List.length hysK; (try simp only [List.length_set, List.length_append, List.length_cons, List.length_nil, List.length_take, List.length_drop, List.length_replicate] at hysl); conv => whnf)
        | (refine And.intro (by first | exact True.intro | (with_reducible assumption) | omega | (simp only [Rng]; omega) | exact Nat.le_of_ble_eq_true rfl | exact True.intro | exact ⟨rfl, True.intro, fun _ _ => rfl⟩ | exact Nat.le_of_ble_eq_true rfl | (refine ⟨by (try simp only [List.length_cons, List.length_nil]); omega, Int.le_trans (Int.mul_le_mul_of_nonneg_left (show (TInfo.bytes _ : Int) ≤ 64 from Int.ofNat_le.2 (Nat.le_of_ble_eq_true rfl)) (by omega)) (by (try simp only [List.length_cons, List.length_nil]); omega)⟩)) ?_; conv => whnf)))
      rw [parN_orbN8] at h1
      refine leafN rfl (by unfold ppO; rw [if_neg (by omega)]) (fun B C h => ?_)
      simp [AVal.den, dens, h, h1, Hdr.val]
    · skip
      repeat (any_goals (first
        | (refine V_step T_ok GPP rfl ?_; conv => whnf)
        | (refine V_drawA T_ok GPP mixed (by kernel_rfl) ?_; conv => whnf)
        | (refine bcond_split (fun hc => ?_) (fun hc => ?_) <;> (try simp only [decide_eq_true_eq, decide_eq_false_iff_not, Bool.not_eq_true', Bool.not_eq_false', Bool.and_eq_true, Bool.or_eq_true, Bool.and_eq_false_imp, Bool.or_eq_false_iff, ne_eq, Decidable.not_not] at hc) <;> conv => whnf)
        | (intro ysK hysK; have hysl := congrArg List.length hysK; (try simp only [List.length_set, List.length_append, List.length_cons, List.length_nil, List.length_take, List.length_drop, List.length_replicate] at hysl); conv => whnf)
        | (refine And.intro (by first | exact True.intro | (with_reducible assumption) | omega | (simp only [Rng]; omega) | exact Nat.le_of_ble_eq_true rfl | exact True.intro | exact ⟨rfl, True.intro, fun _ _ => rfl⟩ | exact Nat.le_of_ble_eq_true rfl | (refine ⟨by (try simp only [List.length_cons, List.length_nil]); omega, Int.le_trans (Int.mul_le_mul_of_nonneg_left (show (TInfo.bytes _ : Int) ≤ 64 from Int.ofNat_le.2 (Nat.le_of_ble_eq_true rfl)) (by omega)) (by (try simp only [List.length_cons, List.length_nil]); omega)⟩)) ?_; conv => whnf)))
      rw [parN_orbN8] at h2
      refine leafN rfl (by unfold ppO; rw [if_neg (by omega)]) (fun B C h => ?_)
      simp [AVal.den, dens, h, h2, Hdr.val]
    · rw [parN_orbN8] at h0
      have hO := orb8_orb (orb8_N h0)
      rw [← hxs] at hO
      have hmc := matP_char hO
      repeat (any_goals (first
        | (refine V_step T_ok GPP rfl ?_; conv => whnf)
        | (refine V_drawA T_ok GPP mixed (by kernel_rfl) ?_; conv => whnf)
        | (refine bcond_split (fun hc => ?_) (fun hc => ?_) <;> (try simp only [decide_eq_true_eq, decide_eq_false_iff_not, Bool.not_eq_true', Bool.not_eq_false', Bool.and_eq_true, Bool.or_eq_true, Bool.and_eq_false_imp, Bool.or_eq_false_iff, ne_eq, Decidable.not_not] at hc) <;> conv => whnf)
        | (intro ysK hysK; have hysl := congrArg List.length hysK; (try simp only [List.length_set, List.length_append, List.length_cons, List.length_nil, List.length_take, List.length_drop, List.length_replicate] at hysl); conv => whnf)
        | (refine And.intro (by first | (first | exact True.intro | exact ⟨hO, hprs⟩) | exact True.intro | exact ⟨rfl, True.intro, fun _ _ => rfl⟩ | exact Nat.le_of_ble_eq_true rfl | (refine ⟨by (try simp only [List.length_cons, List.length_nil]); omega, Int.le_trans (Int.mul_le_mul_of_nonneg_left (show (TInfo.bytes _ : Int) ≤ 64 from Int.ofNat_le.2 (Nat.le_of_ble_eq_true rfl)) (by omega)) (by (try simp only [List.length_cons, List.length_nil]); omega)⟩)) ?_; conv => whnf)))
      have hM : ysK = matP xs := hysK
      rw [← hM] at hmc
      clear hysK hysl
      obtain ⟨M, hMM⟩ : ∃ M, ysK = M := ⟨_, rfl⟩
      rw [hMM] at hM hmc ⊢
      clear hMM ysK
      repeat (any_goals (first
        | (refine V_step T_ok GPP rfl ?_; conv => whnf)
        | (refine V_drawA T_ok GPP mixed (by kernel_rfl) ?_; conv => whnf)
        | (refine bcond_split (fun hc => ?_) (fun hc => ?_) <;> (try simp only [decide_eq_true_eq, decide_eq_false_iff_not, Bool.not_eq_true', Bool.not_eq_false', Bool.and_eq_true, Bool.or_eq_true, Bool.and_eq_false_imp, Bool.or_eq_false_iff, ne_eq, Decidable.not_not] at hc) <;> conv => whnf)
        | (intro ysK hysK; have hysl := congrArg List.length hysK; (try simp only [List.length_set, List.length_append, List.length_cons, List.length_nil, List.length_take, List.length_drop, List.length_replicate] at hysl); conv => whnf)
        | (refine And.intro (by first | (first | exact True.intro | with_reducible exact hmc) | exact True.intro | exact ⟨rfl, True.intro, fun _ _ => rfl⟩ | exact Nat.le_of_ble_eq_true rfl | (refine ⟨by (try simp only [List.length_cons, List.length_nil]); omega, Int.le_trans (Int.mul_le_mul_of_nonneg_left (show (TInfo.bytes _ : Int) ≤ 64 from Int.ofNat_le.2 (Nat.le_of_ble_eq_true rfl)) (by omega)) (by (try simp only [List.length_cons, List.length_nil]); omega)⟩)) ?_; conv => whnf)))
      have hy : ysK = ppO (n, d) := by unfold ppO; rw [if_pos h0, ← hxs, ← hM]; exact hysK
      subst hy
      refine leaf1 3 rfl rfl rfl rfl (fun B C h => ?_)
      simp [AVal.den, dens, h, h0]
abbrev GSPP := GOk.cons sOrb8_ok (GOk.cons sMat_ok (GOk.cons sChar_ok .nil))
theorem sPp_ok : PCtrOk Try.prog 13 ppC where
  enter := enter_ok Try.func13 (by kernel_rfl) rfl
  calls := by
    intro hg rg lr vals k h
    unfold ppC at h
    split at h
    case h_2 => exact h.elim
    rename_i n d
    obtain ⟨_, hk⟩ := h
    replace hk := hk _ rfl
    refine ⟨_, _, hk, fun A w _ _ => ?_⟩
    refine enter T_ok GSPP Try.func13 rfl (K := (· < w.heap.size)) (fun _ h => h) (A := A) (n0 := 0) (b0 := 0) (rows := []) (hp := []) rfl (Nat.zero_le _) (fun k r h => by cases h) rfl (fun k r h => by cases h) rfl rfl (Nat.le_of_ble_eq_true rfl) ?_
    conv => whnf
    repeat (refine V_step T_ok GSPP rfl ?_; conv => whnf)
    repeat (any_goals (first
      | (refine V_step T_ok GSPP rfl ?_; conv => whnf)
      | (refine V_drawA T_ok GSPP mixed (by kernel_rfl) ?_; conv => whnf)
      | (refine bcond_split (fun hc => ?_) (fun hc => ?_) <;> (try simp only [decide_eq_true_eq, decide_eq_false_iff_not, Bool.not_eq_true', Bool.not_eq_false', Bool.and_eq_true, Bool.or_eq_true, Bool.and_eq_false_imp, Bool.or_eq_false_iff, ne_eq, Decidable.not_not] at hc) <;> conv => whnf)
      | (intro ysK hysK; have hysl := congrArg List.length hysK; (try simp only [List.length_set, List.length_append, List.length_cons, List.length_nil, List.length_take, List.length_drop, List.length_replicate] at hysl); conv => whnf)
      | (refine And.intro (by first | exact True.intro | (with_reducible assumption) | omega | (simp only [Rng]; omega) | exact Nat.le_of_ble_eq_true rfl | exact True.intro | exact ⟨rfl, True.intro, fun _ _ => rfl⟩ | exact Nat.le_of_ble_eq_true rfl | (refine ⟨by (try simp only [List.length_cons, List.length_nil]); omega, Int.le_trans (Int.mul_le_mul_of_nonneg_left (show (TInfo.bytes _ : Int) ≤ 64 from Int.ofNat_le.2 (Nat.le_of_ble_eq_true rfl)) (by omega)) (by (try simp only [List.length_cons, List.length_nil]); omega)⟩)) ?_; conv => whnf)))
    · refine leafN rfl (by unfold ppO; rw [if_neg hc]) (fun B C h => ?_)
      simp [AVal.den, dens, h, Hdr.val]
    · have hO : Orb ysK := by rw [hysK]; exact orb8_orb (orb8_N hc)
      have hmc := matP_char hO
      obtain ⟨xs, hxs⟩ : ∃ xs, ysK = xs := ⟨_, rfl⟩
      rw [hxs] at hysK hO hmc ⊢
      clear hysl hxs ysK
      repeat (any_goals (first
        | (refine V_step T_ok GSPP rfl ?_; conv => whnf)
        | (refine V_drawA T_ok GSPP mixed (by kernel_rfl) ?_; conv => whnf)
        | (refine bcond_split (fun hc => ?_) (fun hc => ?_) <;> (try simp only [decide_eq_true_eq, decide_eq_false_iff_not, Bool.not_eq_true', Bool.not_eq_false', Bool.and_eq_true, Bool.or_eq_true, Bool.and_eq_false_imp, Bool.or_eq_false_iff, ne_eq, Decidable.not_not] at hc) <;> conv => whnf)
        | (intro ysK hysK; have hysl := congrArg List.length hysK; (try simp only [List.length_set, List.length_append, List.length_cons, List.length_nil, List.length_take, List.length_drop, List.length_replicate] at hysl); conv => whnf)
        | (refine And.intro (by first | (first | exact True.intro | exact hO) | exact True.intro | exact ⟨rfl, True.intro, fun _ _ => rfl⟩ | exact Nat.le_of_ble_eq_true rfl | (refine ⟨by (try simp only [List.length_cons, List.length_nil]); omega, Int.le_trans (Int.mul_le_mul_of_nonneg_left (show (TInfo.bytes _ : Int) ≤ 64 from Int.ofNat_le.2 (Nat.le_of_ble_eq_true rfl)) (by omega)) (by (try simp only [List.length_cons, List.length_nil]); omega)⟩)) ?_; conv => whnf)))
      rename_i hxs0 _
      have hM : ysK = matP xs := by assumption
      rw [← hM] at hmc
      obtain ⟨M, hMM⟩ : ∃ M, ysK = M := ⟨_, rfl⟩
      clear hysK hysl
      rw [hMM] at hM hmc ⊢
      clear hMM ysK
      repeat (any_goals (first
        | (refine V_step T_ok GSPP rfl ?_; conv => whnf)
        | (refine V_drawA T_ok GSPP mixed (by kernel_rfl) ?_; conv => whnf)
        | (refine bcond_split (fun hc => ?_) (fun hc => ?_) <;> (try simp only [decide_eq_true_eq, decide_eq_false_iff_not, Bool.not_eq_true', Bool.not_eq_false', Bool.and_eq_true, Bool.or_eq_true, Bool.and_eq_false_imp, Bool.or_eq_false_iff, ne_eq, Decidable.not_not] at hc) <;> conv => whnf)
        | (intro ysK hysK; have hysl := congrArg List.length hysK; (try simp only [List.length_set, List.length_append, List.length_cons, List.length_nil, List.length_take, List.length_drop, List.length_replicate] at hysl); conv => whnf)
        | (refine And.intro (by first | (first | exact True.intro | with_reducible exact hmc) | exact True.intro | exact ⟨rfl, True.intro, fun _ _ => rfl⟩ | exact Nat.le_of_ble_eq_true rfl | (refine ⟨by (try simp only [List.length_cons, List.length_nil]); omega, Int.le_trans (Int.mul_le_mul_of_nonneg_left (show (TInfo.bytes _ : Int) ≤ 64 from Int.ofNat_le.2 (Nat.le_of_ble_eq_true rfl)) (by omega)) (by (try simp only [List.length_cons, List.length_nil]); omega)⟩)) ?_; conv => whnf)))
      have hxs1 : xs = orb8 (n, d) := by assumption
      have hy : ysK = ppO (n, d) := by unfold ppO; rw [if_pos hc, ← hxs1, ← hM]; exact hysK
      subst hy
      refine leaf1 2 rfl rfl rfl rfl (fun B C h => ?_)
      simp [AVal.den, dens, h, hc]
theorem ppO_len (x : Ang) : (ppO x).length ≤ 1000 := by
  unfold ppO
  split
  · rename_i h
    have := matP_char (orb8_orb (orb8_N h))
    unfold chP
    rw [outC_len]; omega
  · exact Nat.zero_le _
end Go.Proofs.Ytadlnnjgocknhaa.Fw
