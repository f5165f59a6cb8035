/- Contracts: the program's ray pairs of a period. -/
import Derived.Test.YtadlnnjgocknhabP1
namespace Go.Proofs.Ytadlnnjgocknhab.Fw
open Go Go.RowKit
set_option linter.unusedVariables false
set_option linter.unusedSimpArgs false
set_option maxRecDepth 100000
set_option maxHeartbeats 2000000
/-- So many of the angles of a period. -/
def angsK (n g : Nat) : List Ang := ((List.range g).map fun k : Nat => ofQ (k : Int) (2 ^ n - 1)).filter fun a => decide (perI a = n)
theorem angsK_len (n g : Nat) : (angsK n g).length ≤ g := by
  refine Nat.le_trans (List.length_filter_le ..) ?_
  simp
theorem angsK_succ (n g : Nat) : angsK n (g + 1) = angsK n g ++ (if perI (ofQ (g : Int) (2 ^ n - 1)) = n then [ofQ (g : Int) (2 ^ n - 1)] else []) := by
  unfold angsK
  rw [List.range_succ, List.map_append, List.filter_append]
  congr 1
  by_cases h : perI (ofQ (g : Int) (2 ^ n - 1)) = n <;> simp [h]
def angsOfC : PCtr := fun _ _ lr vals k => match vals with
  | [.int .i64 n] => (1 ≤ n ∧ n ≤ 8) ∧ k [⟨aT, 25, true, angsN n.toNat⟩] (.vw lr 0 (angsN n.toNat).length 2)
  | _ => False
abbrev GAP := GOk.cons angle_ok (GOk.cons per_ok .nil)
theorem angsOf_ok : PCtrOk Try.prog 123 angsOfC where
  enter := enter_ok Try.func123 (by kernel_rfl) rfl
  calls := by
    intro hg rg lr vals k h
    unfold angsOfC at h
    split at h
    case h_2 => exact h.elim
    rename_i n
    obtain ⟨hn, hk⟩ := h
    refine ⟨_, _, hk, fun A w _ _ => ?_⟩
    refine enter T_ok GAP Try.func123 rfl (K := (· < w.heap.size)) (fun _ h => h) (A := A) (n0 := 0) (b0 := 0) (rows := []) (hp := []) rfl (Nat.zero_le _) (fun k r h => by cases h) rfl (fun k r h => by cases h) rfl rfl (Nat.le_of_ble_eq_true rfl) ?_
    conv => whnf
    repeat (refine V_step T_ok GAP rfl ?_; conv => whnf)
    obtain ⟨N, rfl⟩ : ∃ N : Nat, n = (N : Int) := ⟨n.toNat, by omega⟩
    have hp := pow_rng (n := N) (by omega) (by omega)
    have hD : (1 : Int) * 2 ^ N - 1 = 2 ^ N - 1 := by rw [Int.one_mul]
    have hA : ∀ g : Int, IsA (ofQ g (1 * 2 ^ N - 1)) := fun g => by rw [hD]; exact ofQ_isA _ _ hp.1 (by omega)
    have hDr : 1 ≤ (1 : Int) * 2 ^ N - 1 ∧ (1 : Int) * 2 ^ N - 1 ≤ 255 := by rw [hD]; exact hp
    have hDt : 1 ≤ (1 : Int) * 2 ^ (N : Int).toNat - 1 ∧ (1 : Int) * 2 ^ (N : Int).toNat - 1 ≤ 255 := hDr
    repeat (any_goals (first
      | (refine V_step T_ok GAP rfl ?_; conv => whnf)
      | (refine V_drawA T_ok GAP mixed (by kernel_rfl) ?_; conv => whnf)
      | (refine bcond_split (fun hc => ?_) (fun hc => ?_) <;> (try simp only [decide_eq_true_eq, decide_eq_false_iff_not, Bool.not_eq_true', Bool.not_eq_false', Bool.and_eq_true, Bool.or_eq_true, Bool.and_eq_false_imp, Bool.or_eq_false_iff, ne_eq, Decidable.not_not] at hc) <;> conv => whnf)
      | (intro ysK hysK; have hysl := congrArg List.length hysK; (try simp only [List.length_set, List.length_append, List.length_cons, List.length_nil, List.length_take, List.length_drop, List.length_replicate] at hysl); conv => whnf)
      | (refine And.intro (by first | (first | exact True.intro | omega | (simp only [Rng]; omega) | (simp only [Rng, Int.toNat_natCast]; omega)) | exact True.intro | exact ⟨rfl, True.intro, fun _ _ => rfl⟩ | exact Nat.le_of_ble_eq_true rfl | (refine ⟨by (try simp only [List.length_cons, List.length_nil]); omega, Int.le_trans (Int.mul_le_mul_of_nonneg_left (show (TInfo.bytes _ : Int) ≤ 64 from Int.ofNat_le.2 (Nat.le_of_ble_eq_true rfl)) (by omega)) (by (try simp only [List.length_cons, List.length_nil]); omega)⟩)) ?_; conv => whnf)))
    refine V_loopP (γ := Nat) (fun g => (g : Int) ≤ 2 ^ N - 1) (fun g => (2 ^ N - 1 : Int).toNat - g)
      (fun g => [(3, .row 0), (11, .int .i64 g)]) (fun _ => []) (fun _ => []) (fun g => [some ⟨aT, 25, true, angsK N g⟩]) 0 (by omega) ?_ ?_
    · conv => whnf
      refine ⟨?_, by (conv => whnf); repeat (first | exact True.intro | (refine And.intro rfl ?_; conv => whnf)), by (conv => whnf); repeat (first | exact True.intro | (refine And.intro (by first | rfl | (subst_vars; rfl)) ?_; conv => whnf)), rfl, rfl, rfl, rfl, rfl, rfl, rfl, Nat.le_of_ble_eq_true rfl, Nat.le_of_ble_eq_true rfl⟩
      conv => whnf
      repeat (first | exact True.intro | (refine And.intro (by first | rfl | ((conv => whnf); exact congrArg (AVal.int .i64) (by omega)) | ((conv => whnf); exact congrArg (AVal.int .i64) (by simp only [Int.natCast_add, Int.natCast_one]; omega)) | ((conv => whnf); exact congrArg (AVal.irow _) (by first | omega | assumption | (simp only; omega)))) ?_; conv => whnf))
    · rintro g hg1
      have hlen := angsK_len N g
      have hl2 : (List.length (α := Int × Int) (angsK N g) : Int) ≤ 255 := by omega
      conv => whnf
      refine vcCode_sound T_ok GAP _ _ _ _ _ ?_
      conv => whnf
      repeat (refine V_step T_ok GAP rfl ?_; conv => whnf)
      repeat (any_goals (first
        | (refine V_step T_ok GAP rfl ?_; conv => whnf)
        | (refine V_drawA T_ok GAP mixed (by kernel_rfl) ?_; conv => whnf)
        | (refine bcond_split (fun hc => ?_) (fun hc => ?_) <;> (try simp only [decide_eq_true_eq, decide_eq_false_iff_not, Bool.not_eq_true', Bool.not_eq_false', Bool.and_eq_true, Bool.or_eq_true, Bool.and_eq_false_imp, Bool.or_eq_false_iff, ne_eq, Decidable.not_not] at hc) <;> conv => whnf)
        | (intro ysK hysK; have hysl := congrArg List.length hysK; (try simp only [List.length_set, List.length_append, List.length_cons, List.length_nil, List.length_take, List.length_drop, List.length_replicate] at hysl); conv => whnf)
        | (refine And.intro (by first | (first | exact True.intro | omega | (simp only [Rng]; omega) | exact hA _ | (have hq : (g : Int) < 1 * 2 ^ (N : Int).toNat - 1 := (by assumption); exact ⟨⟨by omega, by omega⟩, by omega, by omega⟩)) | exact True.intro | exact ⟨rfl, True.intro, fun _ _ => rfl⟩ | exact Nat.le_of_ble_eq_true rfl | (refine ⟨by (try simp only [List.length_cons, List.length_nil]); omega, Int.le_trans (Int.mul_le_mul_of_nonneg_left (show (TInfo.bytes _ : Int) ≤ 64 from Int.ofNat_le.2 (Nat.le_of_ble_eq_true rfl)) (by omega)) (by (try simp only [List.length_cons, List.length_nil]); omega)⟩)) ?_; conv => whnf)))
      · rename_i hg2
        have hg2 : (g : Int) < 1 * 2 ^ N - 1 := hg2
        have hpe : perI (ofQ g (2 ^ N - 1)) = N := by rw [← hD]; exact hc
        have hK : ysK = angsK N (g + 1) := by
          rw [angsK_succ, if_pos hpe, ← hD]; exact hysK
        subst hK
        refine ⟨g + 1, by omega, by omega, ?_⟩
        conv => whnf
        refine ⟨?_, by (conv => whnf); repeat (first | exact True.intro | (refine And.intro rfl ?_; conv => whnf)), by (conv => whnf); repeat (first | exact True.intro | (refine And.intro (by first | rfl | (subst_vars; rfl)) ?_; conv => whnf)), rfl, rfl, rfl, rfl, rfl, rfl, rfl, Nat.le_of_ble_eq_true rfl, Nat.le_of_ble_eq_true rfl⟩
        conv => whnf
        repeat (first | exact True.intro | (refine And.intro (by first | rfl | ((conv => whnf); exact congrArg (AVal.int .i64) (by omega)) | ((conv => whnf); exact congrArg (AVal.int .i64) (by simp only [Int.natCast_add, Int.natCast_one]; omega)) | ((conv => whnf); exact congrArg (AVal.irow _) (by first | omega | assumption | (simp only; omega)))) ?_; conv => whnf))
      · rename_i hg2
        have hg2 : (g : Int) < 1 * 2 ^ N - 1 := hg2
        have hpe : ¬ perI (ofQ g (2 ^ N - 1)) = N := by rw [← hD]; exact hc
        have hK : angsK N g = angsK N (g + 1) := by
          rw [angsK_succ, if_neg hpe, List.append_nil]
        refine ⟨g + 1, by omega, by omega, ?_⟩
        rw [← hK]
        conv => whnf
        refine ⟨?_, by (conv => whnf); repeat (first | exact True.intro | (refine And.intro rfl ?_; conv => whnf)), by (conv => whnf); repeat (first | exact True.intro | (refine And.intro (by first | rfl | (subst_vars; rfl)) ?_; conv => whnf)), rfl, rfl, rfl, rfl, rfl, rfl, rfl, Nat.le_of_ble_eq_true rfl, Nat.le_of_ble_eq_true rfl⟩
        conv => whnf
        repeat (first | exact True.intro | (refine And.intro (by first | rfl | ((conv => whnf); exact congrArg (AVal.int .i64) (by omega)) | ((conv => whnf); exact congrArg (AVal.int .i64) (by simp only [Int.natCast_add, Int.natCast_one]; omega)) | ((conv => whnf); exact congrArg (AVal.irow _) (by first | omega | assumption | (simp only; omega)))) ?_; conv => whnf))
      · have hg2 : ¬ (g : Int) < 1 * 2 ^ N - 1 := hc
        have hK : angsK N g = angsN N := by
          have e1 := @pow_cast N
          rw [show g = 2 ^ N - 1 by omega]; rfl
        refine leaf1W 0 rfl rfl (by rw [hK]; rfl) rfl (fun B C h1 h2 => ?_)
        show (B.rw 0).val = ((C.rw lr).view 0 _ 2).val
        rw [view_all _ _ _ h2, h1]
end Go.Proofs.Ytadlnnjgocknhab.Fw
