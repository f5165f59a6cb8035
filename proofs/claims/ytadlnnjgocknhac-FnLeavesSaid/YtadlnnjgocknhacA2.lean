/- Contracts: sums, distances, halves, doubles, orbits, fractions: both sides. -/
import Derived.Test.YtadlnnjgocknhacO2
import Derived.Test.YtadlnnjgocknhacHC
namespace Go.Proofs.Ytadlnnjgocknhac.Fw
open Go Go.RowKit
set_option linter.unusedVariables false
set_option linter.unusedSimpArgs false
set_option maxRecDepth 100000
set_option maxHeartbeats 2000000

def anC : PCtr := fun hg rg _ vals k => match vals with
  | [.row i] => rowC aT (rg i) fun xs => True ∧ k [] (.int .i64 (if (xs : List Ang).all allAY = true then 0 else 1))
  | _ => False
theorem anC_ok : PCtrOk Try.prog 73 anC where
  enter := enter_ok Try.func73 (by kernel_rfl) rfl
  calls := by
    intro hg rg lr vals k h
    unfold anC at h
    split at h
    case h_2 => exact h.elim
    rename_i i
    obtain ⟨e, own, xs, hi, h⟩ : ∃ e own, ∃ (xs : List Ang), _ := rowC_inv h
    have hk := h.2
    refine ⟨_, _, hk, fun A w hB hR => ?_⟩
    refine enter T_ok (GOk.cons allA_ok .nil) Try.func73 rfl (K := (· < w.heap.size)) (fun _ h => h) (A := A.pick [] [i]) (vals := [.row 0]) (n0 := 0) (b0 := 0) (rows := [some ⟨aT, e, false, xs⟩]) (hp := []) rfl (Nat.zero_le _) no_box rfl (one_row (hR i _ hi)) rfl rfl (Nat.le_of_ble_eq_true rfl) ?_
    conv => whnf
    repeat (refine V_step T_ok (GOk.cons allA_ok .nil) rfl ?_; conv => whnf)
    repeat (any_goals (first
      | (refine V_step T_ok (GOk.cons allA_ok .nil) rfl ?_; conv => whnf)
      | (refine V_drawA T_ok (GOk.cons allA_ok .nil) mixed (by kernel_rfl) ?_; conv => whnf)
      | (refine bcond_split (fun hc => ?_) (fun hc => ?_) <;> (try simp only [decide_eq_true_eq, decide_eq_false_iff_not, Bool.not_eq_true', Bool.not_eq_false', Bool.and_eq_true, Bool.or_eq_true, Bool.and_eq_false_imp, Bool.or_eq_false_iff, ne_eq, Decidable.not_not] at hc) <;> conv => whnf)
      | (intro ysK hysK; have hysl := congrArg List.length hysK; (try simp only [List.length_set, List.length_append, List.length_cons, List.length_nil, List.length_take, List.length_drop, List.length_replicate] at hysl); conv => whnf)
      | (intro bK hbK; have hbl := congrArg ByteArray.size hbK; conv => whnf)
      | (intro sK hsK; conv => whnf)
      | (refine And.intro (by first | exact True.intro | (with_reducible assumption) | omega | (simp only [Rng]; omega) | exact Nat.le_of_ble_eq_true rfl | exact True.intro | exact ⟨rfl, True.intro, fun _ _ => rfl⟩ | exact Nat.le_of_ble_eq_true rfl | (refine ⟨by (try simp only [List.length_cons, List.length_nil]); omega, Int.le_trans (Int.mul_le_mul_of_nonneg_left (show (TInfo.bytes _ : Int) ≤ 64 from Int.ofNat_le.2 (Nat.le_of_ble_eq_true rfl)) (by omega)) (by (try simp only [List.length_cons, List.length_nil]); omega)⟩)) ?_; conv => whnf)))
    · have hc : (xs : List Ang).all allAY = false := hc
      exact leaf0 rfl (by rw [hc]; rfl) rfl
    · have hc : (xs : List Ang).all allAY = true := hc
      exact leaf0 rfl (by rw [hc]; rfl) rfl
theorem anA1 (a : Ang) : (if [a].all allAY = true then (0 : Int) else 1) = 0 ↔ IsA a := by
  by_cases h : IsA a <;> simp [allAY, h]
theorem anA1' {a : Ang} (h : ¬ IsA a) : (if [a].all allAY = true then (0 : Int) else 1) = 1 := by simp [allAY, h]
theorem anA2 (a b : Ang) : (if [a, b].all allAY = true then (0 : Int) else 1) = 0 ↔ IsA a ∧ IsA b := by
  by_cases h : IsA a <;> by_cases h' : IsA b <;> simp [allAY, h, h']
theorem anA2' {a b : Ang} (h : ¬ (IsA a ∧ IsA b)) : (if [a, b].all allAY = true then (0 : Int) else 1) = 1 := by
  by_cases h1 : IsA a <;> by_cases h2 : IsA b <;> simp_all [allAY]

/-- An angle whose Den is not too great. -/
@[irreducible] def tolA (x : Ang) : Ang × Int := if 8191 < x.2 then ((0, 0), 3) else (x, 0)
theorem tolA_t {x : Ang} (h : 8191 < x.2) : tolA x = ((0, 0), 3) := by unfold tolA; rw [if_pos h]
theorem tolA_f {x : Ang} (h : ¬ 8191 < x.2) : tolA x = (x, 0) := by unfold tolA; rw [if_neg h]
def tolC : PCtr := fun _ _ _ vals k => match vals with
  | [.agg [.int .i64 n, .int .i64 d]] => True ∧ ∀ q : Ang × Int, q = tolA (n, d) → k [] (.tup [aV q.1, .int .i64 q.2])
  | _ => False
theorem tol_ok : PCtrOk Try.prog 68 tolC where
  enter := enter_ok Try.func68 (by kernel_rfl) rfl
  calls := by
    intro hg rg lr vals k h
    unfold tolC at h
    split at h
    case h_2 => exact h.elim
    rename_i n d
    obtain ⟨_, hk⟩ := h
    replace hk := hk _ rfl
    refine ⟨_, _, hk, fun A w _ _ => ?_⟩
    refine enter T_ok .nil Try.func68 rfl (K := (· < w.heap.size)) (fun _ h => h) (A := A) (n0 := 0) (b0 := 0) (rows := []) (hp := []) rfl (Nat.zero_le _) (fun k r h => by cases h) rfl (fun k r h => by cases h) rfl rfl (Nat.le_of_ble_eq_true rfl) ?_
    conv => whnf
    repeat (refine V_step T_ok .nil rfl ?_; conv => whnf)
    repeat (any_goals (first
      | (refine V_step T_ok .nil rfl ?_; conv => whnf)
      | (refine V_drawA T_ok .nil mixed (by kernel_rfl) ?_; conv => whnf)
      | (refine bcond_split (fun hc => ?_) (fun hc => ?_) <;> (try simp only [decide_eq_true_eq, decide_eq_false_iff_not, Bool.not_eq_true', Bool.not_eq_false', Bool.and_eq_true, Bool.or_eq_true, Bool.and_eq_false_imp, Bool.or_eq_false_iff, ne_eq, Decidable.not_not] at hc) <;> conv => whnf)
      | (intro ysK hysK; have hysl := congrArg List.length hysK; (try simp only [List.length_set, List.length_append, List.length_cons, List.length_nil, List.length_take, List.length_drop, List.length_replicate] at hysl); conv => whnf)
      | (intro bK hbK; have hbl := congrArg ByteArray.size hbK; conv => whnf)
      | (intro sK hsK; conv => whnf)
      | (refine And.intro (by first | exact True.intro | (with_reducible assumption) | omega | (simp only [Rng]; omega) | exact Nat.le_of_ble_eq_true rfl | exact True.intro | exact ⟨rfl, True.intro, fun _ _ => rfl⟩ | exact Nat.le_of_ble_eq_true rfl | (refine ⟨by (try simp only [List.length_cons, List.length_nil]); omega, Int.le_trans (Int.mul_le_mul_of_nonneg_left (show (TInfo.bytes _ : Int) ≤ 64 from Int.ofNat_le.2 (Nat.le_of_ble_eq_true rfl)) (by omega)) (by (try simp only [List.length_cons, List.length_nil]); omega)⟩)) ?_; conv => whnf)))
    · exact leaf0 rfl (by rw [tolA_t hc]) rfl
    · exact leaf0 rfl (by rw [tolA_f hc]) rfl
theorem sTol_ok : PCtrOk Try.prog 70 tolC where
  enter := enter_ok Try.func70 (by kernel_rfl) rfl
  calls := by
    intro hg rg lr vals k h
    unfold tolC at h
    split at h
    case h_2 => exact h.elim
    rename_i n d
    obtain ⟨_, hk⟩ := h
    replace hk := hk _ rfl
    refine ⟨_, _, hk, fun A w _ _ => ?_⟩
    refine enter T_ok .nil Try.func70 rfl (K := (· < w.heap.size)) (fun _ h => h) (A := A) (n0 := 0) (b0 := 0) (rows := []) (hp := []) rfl (Nat.zero_le _) (fun k r h => by cases h) rfl (fun k r h => by cases h) rfl rfl (Nat.le_of_ble_eq_true rfl) ?_
    conv => whnf
    repeat (refine V_step T_ok .nil rfl ?_; conv => whnf)
    repeat (any_goals (first
      | (refine V_step T_ok .nil rfl ?_; conv => whnf)
      | (refine V_drawA T_ok .nil mixed (by kernel_rfl) ?_; conv => whnf)
      | (refine bcond_split (fun hc => ?_) (fun hc => ?_) <;> (try simp only [decide_eq_true_eq, decide_eq_false_iff_not, Bool.not_eq_true', Bool.not_eq_false', Bool.and_eq_true, Bool.or_eq_true, Bool.and_eq_false_imp, Bool.or_eq_false_iff, ne_eq, Decidable.not_not] at hc) <;> conv => whnf)
      | (intro ysK hysK; have hysl := congrArg List.length hysK; (try simp only [List.length_set, List.length_append, List.length_cons, List.length_nil, List.length_take, List.length_drop, List.length_replicate] at hysl); conv => whnf)
      | (intro bK hbK; have hbl := congrArg ByteArray.size hbK; conv => whnf)
      | (intro sK hsK; conv => whnf)
      | (refine And.intro (by first | exact True.intro | (with_reducible assumption) | omega | (simp only [Rng]; omega) | exact Nat.le_of_ble_eq_true rfl | exact True.intro | exact ⟨rfl, True.intro, fun _ _ => rfl⟩ | exact Nat.le_of_ble_eq_true rfl | (refine ⟨by (try simp only [List.length_cons, List.length_nil]); omega, Int.le_trans (Int.mul_le_mul_of_nonneg_left (show (TInfo.bytes _ : Int) ≤ 64 from Int.ofNat_le.2 (Nat.le_of_ble_eq_true rfl)) (by omega)) (by (try simp only [List.length_cons, List.length_nil]); omega)⟩)) ?_; conv => whnf)))
    · exact leaf0 rfl (by rw [tolA_t hc]) rfl
    · exact leaf0 rfl (by rw [tolA_f hc]) rfl

/-! ### sums -/
def plusC : PCtr := fun _ _ _ vals k => match vals with
  | [.agg [.int .i64 n, .int .i64 d], .agg [.int .i64 m, .int .i64 e]] => (Sm (n, d) ∧ Sm (m, e)) ∧ k [] (aV (plusA (n, d) (m, e)))
  | _ => False
theorem plus_bd {n d m e : Int} (hn : Sm (n, d)) (hd : Sm (m, e)) : (0 ≤ n * e ∧ n * e ≤ 1073741824) ∧ (0 ≤ m * d ∧ m * d ≤ 1073741824) ∧ (1 ≤ d * e ∧ d * e ≤ 1073741824) := by
  obtain ⟨⟨h1, h2⟩, ⟨h3, h4⟩⟩ := hn
  obtain ⟨⟨h5, h6⟩, ⟨h7, h8⟩⟩ := hd
  simp only at h1 h2 h3 h4 h5 h6 h7 h8
  exact ⟨⟨Int.mul_nonneg h1 (by omega), Int.le_trans (Int.mul_le_mul h2 h8 (by omega) (by omega)) (by omega)⟩, ⟨Int.mul_nonneg h5 (by omega), Int.le_trans (Int.mul_le_mul h6 h4 (by omega) (by omega)) (by omega)⟩, mulPos h3 h7, Int.le_trans (Int.mul_le_mul h4 h8 (by omega) (by omega)) (by omega)⟩
@[irreducible] def addO (a b : Ang) : Ang × Int := if IsA a ∧ IsA b then tolA (plusA a b) else ((0, 0), 1)
theorem addO_t {a b : Ang} (h : IsA a ∧ IsA b) : addO a b = tolA (plusA a b) := by unfold addO; rw [if_pos h]
theorem addO_f {a b : Ang} (h : ¬ (IsA a ∧ IsA b)) : addO a b = ((0, 0), 1) := by unfold addO; rw [if_neg h]
def addC : PCtr := fun _ _ _ vals k => match vals with
  | [.agg [.int .i64 n, .int .i64 d], .agg [.int .i64 m, .int .i64 e]] => True ∧ ∀ q : Ang × Int, q = addO (n, d) (m, e) → k [] (.tup [aV q.1, .int .i64 q.2])
  | _ => False
abbrev GAdd := (GOk.cons anC_ok ((GOk.cons tol_ok .nil)))
abbrev GSAdd := (GOk.cons sIs_ok ((GOk.cons sTol_ok .nil)))
end Go.Proofs.Ytadlnnjgocknhac.Fw
-- %intro
