/- Contracts: counts of paths, traces of powers. -/
import Derived.Test.YtllagpbbbdekiabK14
namespace Go.Proofs.Ytllagpbbbdekiab.Fw
open Go Go.RowKit
set_option linter.unusedVariables false
set_option linter.unusedSimpArgs false
set_option maxRecDepth 100000
set_option maxHeartbeats 2000000
def sumR (a : List (List Int)) (i : Nat) : Int := sumN (fun j => ent a i j) (a.getD i []).length
structure AllOk (a : List (List Int)) (s : Int) : Prop where
  len : a.length ≤ 1000
  nn : ∀ r ∈ a, Nn s r
  sq : ∀ r ∈ a, r.length = a.length
  s0 : 0 ≤ s
  sb : s ≤ 9000000000000000
theorem AllOk.bd {a : List (List Int)} {s : Int} (h : AllOk a s) {i : Nat} (hi : i < a.length) {j : Nat} (hj : j ≤ (a.getD i []).length) :
    0 ≤ sumN (sumR a) i + sumN (fun j => ent a i j) j ∧ sumN (sumR a) i + sumN (fun j => ent a i j) j ≤ 9010000000000000000 := by
  have h1 := all_part h.nn (k := i) (by omega)
  have h2 := row_part (h.nn _ (getD_mem hi)) hj
  have e1 : sumN (fun i => sumN (fun j => ent a i j) (a.getD i []).length) i = sumN (sumR a) i := rfl
  have e2 : sumN (fun j => (a.getD i []).getD j 0) j = sumN (fun j => ent a i j) j := rfl
  rw [e1] at h1
  rw [e2] at h2
  have h3 : s * (i : Int) ≤ 9000000000000000 * 1000 := by
    have a1 := Int.mul_le_mul_of_nonneg_right h.sb (show (0 : Int) ≤ (i : Int) by omega)
    have := h.len
    omega
  have := h.s0
  have := h.sb
  omega
theorem powM_all {xs : List Ang} (ho : Orb xs) {k : Nat} (hk : k ≤ 40) : AllOk (powM (matP xs) k) (2 ^ k) := by
  have h40 := pow40 k hk
  have h21 := matP_21 ho
  refine ⟨by rw [powM_len]; omega, powM_nn (matP_nn ho) (matP_sq xs) k, fun r hr => by rw [powM_len]; exact powM_row _ _ r hr, ?_, by omega⟩
  exact Int.le_of_lt (Int.pow_pos (by decide))
theorem powM_tr {xs : List Ang} (ho : Orb xs) {k : Nat} (hk : k ≤ 40) : TrOk (powM (matP xs) k) := by
  have h := powM_all ho hk
  have h40 := pow40 k hk
  refine ⟨h.len, h.sq, fun q hq => ?_⟩
  have h1 := tr_part h.nn h.s0 hq
  have h3 : (2 : Int) ^ k * (q : Int) ≤ 9000000000000000 * 1000 := by
    have a1 := Int.mul_le_mul_of_nonneg_right h.sb (show (0 : Int) ≤ (q : Int) by omega)
    have := h.len
    omega
  omega
def okK (q : Int) : Bool := decide (0 ≤ q ∧ q ≤ 40)
theorem okK_iff (q : Int) : okK q = true ↔ 0 ≤ q ∧ q ≤ 40 := by simp [okK]
def powC : PCtr := fun _ _ _ vals k => match vals with
  | [.int .i64 q] => True ∧ k [] (.bool (okK q))
  | _ => False
theorem isPower_ok : PCtrOk Try.prog 40 powC where
  enter := enter_ok Try.func40 (by kernel_rfl) rfl
  calls := by
    intro hg rg lr vals k h
    unfold powC at h
    split at h
    case h_2 => exact h.elim
    rename_i q
    obtain ⟨_, hk⟩ := h
    refine ⟨_, _, hk, fun A w _ _ => ?_⟩
    refine enter T_ok (GOk.cons within_ok .nil) Try.func40 rfl (K := (· < w.heap.size)) (fun _ h => h) (A := A) (n0 := 0) (b0 := 0) (rows := []) (hp := []) rfl (Nat.zero_le _) (fun k r h => by cases h) rfl (fun k r h => by cases h) rfl rfl (Nat.le_of_ble_eq_true rfl) ?_
    conv => whnf
    repeat (refine V_step T_ok (GOk.cons within_ok .nil) rfl ?_; conv => whnf)
    repeat (any_goals (first
      | (refine V_step T_ok (GOk.cons within_ok .nil) rfl ?_; conv => whnf)
      | (refine V_drawA T_ok (GOk.cons within_ok .nil) mixed (by kernel_rfl) ?_; conv => whnf)
      | (refine bcond_split (fun hc => ?_) (fun hc => ?_) <;> (try simp only [decide_eq_true_eq, decide_eq_false_iff_not, Bool.not_eq_true', Bool.not_eq_false', Bool.and_eq_true, Bool.or_eq_true, Bool.and_eq_false_imp, Bool.or_eq_false_iff, ne_eq, Decidable.not_not] at hc) <;> conv => whnf)
      | (intro ysK hysK; have hysl := congrArg List.length hysK; (try simp only [List.length_set, List.length_append, List.length_cons, List.length_nil, List.length_take, List.length_drop, List.length_replicate] at hysl); conv => whnf)
      | (refine And.intro (by first | exact True.intro | (with_reducible assumption) | omega | (simp only [Rng]; omega) | exact Nat.le_of_ble_eq_true rfl | exact True.intro | exact ⟨rfl, True.intro, fun _ _ => rfl⟩ | exact Nat.le_of_ble_eq_true rfl | (refine ⟨by (try simp only [List.length_cons, List.length_nil]); omega, Int.le_trans (Int.mul_le_mul_of_nonneg_left (show (TInfo.bytes _ : Int) ≤ 64 from Int.ofNat_le.2 (Nat.le_of_ble_eq_true rfl)) (by omega)) (by (try simp only [List.length_cons, List.length_nil]); omega)⟩)) ?_; conv => whnf)))
    all_goals exact leaf0 rfl rfl rfl
def pcN (x : Ang) (q : Int) : Int := parN x (okK q)
def pcV (x : Ang) (q : Int) : Int := if pcN x q = 0 then allM (powM (matP (orb8 x)) q.toNat) else 0
def ptV (x : Ang) (q : Int) : Int := if pcN x q = 0 then trM (powM (matP (orb8 x)) q.toNat) else 0
theorem pcN_0 {x : Ang} {q : Int} (h : pcN x q = 0) : Orb (orb8 x) ∧ 0 ≤ q ∧ q ≤ 40 := by
  unfold pcN parN at h
  split at h
  · split at h
    · rename_i h1 h2
      exact ⟨orb8_orb ⟨h1, h2.2⟩, (okK_iff q).1 h2.1⟩
    · cases h
  · cases h
def pcC : PCtr := fun _ _ _ vals k => match vals with
  | [.agg [.int .i64 n, .int .i64 d], .int .i64 q] => True ∧ k [] (.tup [.int .i64 (pcV (n, d) q), .int .i64 (pcN (n, d) q)])
  | _ => False
def ptC : PCtr := fun _ _ _ vals k => match vals with
  | [.agg [.int .i64 n, .int .i64 d], .int .i64 q] => True ∧ k [] (.tup [.int .i64 (ptV (n, d) q), .int .i64 (pcN (n, d) q)])
  | _ => False
abbrev GPT := GOk.cons isPower_ok (GOk.bcons par_ok (GOk.cons power_ok (GOk.cons tr_ok .nil)))
theorem pt_ok : PCtrOk Try.prog 16 ptC where
  enter := enter_ok Try.func16 (by kernel_rfl) rfl
  calls := by
    intro hg rg lr vals k h
    unfold ptC at h
    split at h
    case h_2 => exact h.elim
    rename_i n d q
    obtain ⟨_, hk⟩ := h
    refine ⟨_, _, hk, fun A w _ _ => ?_⟩
    refine enter T_ok GPT Try.func16 rfl (K := (· < w.heap.size)) (fun _ h => h) (A := A) (n0 := 0) (b0 := 0) (rows := []) (hp := []) rfl (Nat.zero_le _) (fun k r h => by cases h) rfl (fun k r h => by cases h) rfl rfl (Nat.le_of_ble_eq_true rfl) ?_
    conv => whnf
    repeat (refine V_step T_ok GPT rfl ?_; conv => whnf)
    repeat (any_goals (first
      | (refine V_step T_ok GPT rfl ?_; conv => whnf)
      | (refine V_drawA T_ok GPT mixed (by kernel_rfl) ?_; conv => whnf)
      | (refine bcond_split (fun hc => ?_) (fun hc => ?_) <;> (try simp only [decide_eq_true_eq, decide_eq_false_iff_not, Bool.not_eq_true', Bool.not_eq_false', Bool.and_eq_true, Bool.or_eq_true, Bool.and_eq_false_imp, Bool.or_eq_false_iff, ne_eq, Decidable.not_not] at hc) <;> conv => whnf)
      | (intro ysK hysK; have hysl := congrArg List.length hysK; (try simp only [List.length_set, List.length_append, List.length_cons, List.length_nil, List.length_take, List.length_drop, List.length_replicate] at hysl); conv => whnf)
      | (refine And.intro (by first | exact True.intro | (with_reducible assumption) | omega | (simp only [Rng]; omega) | exact Nat.le_of_ble_eq_true rfl | exact True.intro | exact ⟨rfl, True.intro, fun _ _ => rfl⟩ | exact Nat.le_of_ble_eq_true rfl | (refine ⟨by (try simp only [List.length_cons, List.length_nil]); omega, Int.le_trans (Int.mul_le_mul_of_nonneg_left (show (TInfo.bytes _ : Int) ≤ 64 from Int.ofNat_le.2 (Nat.le_of_ble_eq_true rfl)) (by omega)) (by (try simp only [List.length_cons, List.length_nil]); omega)⟩)) ?_; conv => whnf)))
    refine ⟨fun h1 => ?_, fun h2 => ?_, fun h0 xs prs hxs hprs => ?_⟩ <;> conv => whnf
    · skip
      repeat (any_goals (first
        | (refine V_step T_ok GPT rfl ?_; conv => whnf)
        | (refine V_drawA T_ok GPT mixed (by kernel_rfl) ?_; conv => whnf)
        | (refine bcond_split (fun hc => ?_) (fun hc => ?_) <;> (try simp only [decide_eq_true_eq, decide_eq_false_iff_not, Bool.not_eq_true', Bool.not_eq_false', Bool.and_eq_true, Bool.or_eq_true, Bool.and_eq_false_imp, Bool.or_eq_false_iff, ne_eq, Decidable.not_not] at hc) <;> conv => whnf)
        | (intro ysK hysK; have hysl := congrArg List.length hysK; (try simp only [List.length_set, List.length_append, List.length_cons, List.length_nil, List.length_take, List.length_drop, List.length_replicate] at hysl); conv => whnf)
        | (refine And.intro (by first | exact True.intro | (with_reducible assumption) | omega | (simp only [Rng]; omega) | exact Nat.le_of_ble_eq_true rfl | exact True.intro | exact ⟨rfl, True.intro, fun _ _ => rfl⟩ | exact Nat.le_of_ble_eq_true rfl | (refine ⟨by (try simp only [List.length_cons, List.length_nil]); omega, Int.le_trans (Int.mul_le_mul_of_nonneg_left (show (TInfo.bytes _ : Int) ≤ 64 from Int.ofNat_le.2 (Nat.le_of_ble_eq_true rfl)) (by omega)) (by (try simp only [List.length_cons, List.length_nil]); omega)⟩)) ?_; conv => whnf)))
      have h1 : pcN (n, d) q = 1 := h1
      exact leaf0 rfl (by rw [ptV, if_neg (by omega), h1]) rfl
    · skip
      repeat (any_goals (first
        | (refine V_step T_ok GPT rfl ?_; conv => whnf)
        | (refine V_drawA T_ok GPT mixed (by kernel_rfl) ?_; conv => whnf)
        | (refine bcond_split (fun hc => ?_) (fun hc => ?_) <;> (try simp only [decide_eq_true_eq, decide_eq_false_iff_not, Bool.not_eq_true', Bool.not_eq_false', Bool.and_eq_true, Bool.or_eq_true, Bool.and_eq_false_imp, Bool.or_eq_false_iff, ne_eq, Decidable.not_not] at hc) <;> conv => whnf)
        | (intro ysK hysK; have hysl := congrArg List.length hysK; (try simp only [List.length_set, List.length_append, List.length_cons, List.length_nil, List.length_take, List.length_drop, List.length_replicate] at hysl); conv => whnf)
        | (refine And.intro (by first | exact True.intro | (with_reducible assumption) | omega | (simp only [Rng]; omega) | exact Nat.le_of_ble_eq_true rfl | exact True.intro | exact ⟨rfl, True.intro, fun _ _ => rfl⟩ | exact Nat.le_of_ble_eq_true rfl | (refine ⟨by (try simp only [List.length_cons, List.length_nil]); omega, Int.le_trans (Int.mul_le_mul_of_nonneg_left (show (TInfo.bytes _ : Int) ≤ 64 from Int.ofNat_le.2 (Nat.le_of_ble_eq_true rfl)) (by omega)) (by (try simp only [List.length_cons, List.length_nil]); omega)⟩)) ?_; conv => whnf)))
      have h1 : pcN (n, d) q = 2 := h2
      exact leaf0 rfl (by rw [ptV, if_neg (by omega), h1]) rfl
    · have h0 : pcN (n, d) q = 0 := h0
      obtain ⟨ho, hq⟩ := pcN_0 h0
      rw [← hxs] at ho
      have htr := powM_tr ho (k := q.toNat) (by omega)
      repeat (any_goals (first
        | (refine V_step T_ok GPT rfl ?_; conv => whnf)
        | (refine V_drawA T_ok GPT mixed (by kernel_rfl) ?_; conv => whnf)
        | (refine bcond_split (fun hc => ?_) (fun hc => ?_) <;> (try simp only [decide_eq_true_eq, decide_eq_false_iff_not, Bool.not_eq_true', Bool.not_eq_false', Bool.and_eq_true, Bool.or_eq_true, Bool.and_eq_false_imp, Bool.or_eq_false_iff, ne_eq, Decidable.not_not] at hc) <;> conv => whnf)
        | (intro ysK hysK; have hysl := congrArg List.length hysK; (try simp only [List.length_set, List.length_append, List.length_cons, List.length_nil, List.length_take, List.length_drop, List.length_replicate] at hysl); conv => whnf)
        | (refine And.intro (by first | (first | exact True.intro | exact ⟨ho, hprs, hq⟩) | exact True.intro | exact ⟨rfl, True.intro, fun _ _ => rfl⟩ | exact Nat.le_of_ble_eq_true rfl | (refine ⟨by (try simp only [List.length_cons, List.length_nil]); omega, Int.le_trans (Int.mul_le_mul_of_nonneg_left (show (TInfo.bytes _ : Int) ≤ 64 from Int.ofNat_le.2 (Nat.le_of_ble_eq_true rfl)) (by omega)) (by (try simp only [List.length_cons, List.length_nil]); omega)⟩)) ?_; conv => whnf)))
      have hY : ysK = powM (matP xs) q.toNat := hysK
      rw [← hY] at htr
      repeat (any_goals (first
        | (refine V_step T_ok GPT rfl ?_; conv => whnf)
        | (refine V_drawA T_ok GPT mixed (by kernel_rfl) ?_; conv => whnf)
        | (refine bcond_split (fun hc => ?_) (fun hc => ?_) <;> (try simp only [decide_eq_true_eq, decide_eq_false_iff_not, Bool.not_eq_true', Bool.not_eq_false', Bool.and_eq_true, Bool.or_eq_true, Bool.and_eq_false_imp, Bool.or_eq_false_iff, ne_eq, Decidable.not_not] at hc) <;> conv => whnf)
        | (intro ysK hysK; have hysl := congrArg List.length hysK; (try simp only [List.length_set, List.length_append, List.length_cons, List.length_nil, List.length_take, List.length_drop, List.length_replicate] at hysl); conv => whnf)
        | (refine And.intro (by first | (first | exact True.intro | exact htr) | exact True.intro | exact ⟨rfl, True.intro, fun _ _ => rfl⟩ | exact Nat.le_of_ble_eq_true rfl | (refine ⟨by (try simp only [List.length_cons, List.length_nil]); omega, Int.le_trans (Int.mul_le_mul_of_nonneg_left (show (TInfo.bytes _ : Int) ≤ 64 from Int.ofNat_le.2 (Nat.le_of_ble_eq_true rfl)) (by omega)) (by (try simp only [List.length_cons, List.length_nil]); omega)⟩)) ?_; conv => whnf)))
      refine leaf0 rfl ?_ rfl
      rw [ptV, if_pos h0, h0, ← hxs, hY]
end Go.Proofs.Ytllagpbbbdekiab.Fw
