/- Contracts: the reference's longest leaf, the law's own functions. -/
import Derived.Test.YtlplngafncobkaaC7
namespace Go.Proofs.Ytlplngafncobkaa.Fw
open Go Go.RowKit
set_option linter.unusedVariables false
set_option linter.unusedSimpArgs false
set_option maxRecDepth 100000
set_option maxHeartbeats 2000000

def dvC : PCtr := fun _ _ _ vals k => match vals with
  | [.agg [.int .i64 n, .int .i64 d]] => True ∧ k [] (aV (n, d))
  | _ => False
theorem toAngle_ok : PCtrOk Try.prog 91 dvC where
  enter := enter_ok Try.func91 (by kernel_rfl) rfl
  calls := by
    intro hg rg lr vals k h
    unfold dvC at h
    split at h
    case h_2 => exact h.elim
    rename_i n d
    obtain ⟨_, hk⟩ := h
    refine ⟨_, _, hk, fun A w _ _ => ?_⟩
    refine enter T_ok .nil Try.func91 rfl (K := (· < w.heap.size)) (fun _ h => h) (A := A) (n0 := 0) (b0 := 0) (rows := []) (hp := []) rfl (Nat.zero_le _) (fun k r h => by cases h) rfl (fun k r h => by cases h) rfl rfl (Nat.le_of_ble_eq_true rfl) ?_
    conv => whnf
    repeat (refine V_step T_ok .nil rfl ?_; conv => whnf)
    all_goals exact leaf0 rfl rfl rfl
def dlC : PCtr := fun _ _ _ vals k => match vals with
  | [.agg [.int .i64 n, .int .i64 d, .int .i64 m, .int .i64 e]] => True ∧ k [] (lV ((n, d), (m, e)))
  | _ => False
theorem toLeaf_ok : PCtrOk Try.prog 21 dlC where
  enter := enter_ok Try.func21 (by kernel_rfl) rfl
  calls := by
    intro hg rg lr vals k h
    unfold dlC at h
    split at h
    case h_2 => exact h.elim
    rename_i n d m e
    obtain ⟨_, hk⟩ := h
    refine ⟨_, _, hk, fun A w _ _ => ?_⟩
    refine enter T_ok (GOk.cons toAngle_ok .nil) Try.func21 rfl (K := (· < w.heap.size)) (fun _ h => h) (A := A) (n0 := 0) (b0 := 0) (rows := []) (hp := []) rfl (Nat.zero_le _) (fun k r h => by cases h) rfl (fun k r h => by cases h) rfl rfl (Nat.le_of_ble_eq_true rfl) ?_
    conv => whnf
    repeat (refine V_step T_ok (GOk.cons toAngle_ok .nil) rfl ?_; conv => whnf)
    repeat (any_goals (first
      | (refine V_step T_ok (GOk.cons toAngle_ok .nil) rfl ?_; conv => whnf)
      | (refine V_drawA T_ok (GOk.cons toAngle_ok .nil) mixed (by kernel_rfl) ?_; conv => whnf)
      | (refine bcond_split (fun hc => ?_) (fun hc => ?_) <;> (try simp only [decide_eq_true_eq, decide_eq_false_iff_not, Bool.not_eq_true', Bool.not_eq_false', Bool.and_eq_true, Bool.or_eq_true, Bool.and_eq_false_imp, Bool.or_eq_false_iff, ne_eq, Decidable.not_not] at hc) <;> conv => whnf)
      | (intro ysK hysK; have hysl := congrArg List.length hysK; (try simp only [List.length_set, List.length_append, List.length_cons, List.length_nil] at hysl); conv => whnf)
      | (refine And.intro (by first | exact True.intro | (with_reducible assumption) | omega | (simp only [Rng]; omega) | exact Nat.le_of_ble_eq_true rfl | exact True.intro | exact Nat.le_of_ble_eq_true rfl | (refine ⟨by (try simp only [List.length_cons, List.length_nil]); omega, Int.le_trans (Int.mul_le_mul_of_nonneg_left (show (TInfo.bytes _ : Int) ≤ 64 from Int.ofNat_le.2 (Nat.le_of_ble_eq_true rfl)) (by omega)) (by (try simp only [List.length_cons, List.length_nil]); omega)⟩)) ?_; conv => whnf)))
    all_goals exact leaf0 rfl rfl rfl
def eqAC : PCtr := fun _ _ _ vals k => match vals with
  | [.agg [.int .i64 n, .int .i64 d], .agg [.int .i64 m, .int .i64 e]] => True ∧ k [] (.bool (decide (((n, d) : Ang) = (m, e))))
  | _ => False
theorem eqAngle_ok : PCtrOk Try.prog 88 eqAC where
  enter := enter_ok Try.func88 (by kernel_rfl) rfl
  calls := by
    intro hg rg lr vals k h
    unfold eqAC at h
    split at h
    case h_2 => exact h.elim
    rename_i n d m e
    obtain ⟨_, hk⟩ := h
    refine ⟨_, _, hk, fun A w _ _ => ?_⟩
    refine enter T_ok .nil Try.func88 rfl (K := (· < w.heap.size)) (fun _ h => h) (A := A) (n0 := 0) (b0 := 0) (rows := []) (hp := []) rfl (Nat.zero_le _) (fun k r h => by cases h) rfl (fun k r h => by cases h) rfl rfl (Nat.le_of_ble_eq_true rfl) ?_
    conv => whnf
    repeat (refine V_step T_ok .nil rfl ?_; conv => whnf)
    repeat (any_goals (first
      | (refine V_step T_ok .nil rfl ?_; conv => whnf)
      | (refine V_drawA T_ok .nil mixed (by kernel_rfl) ?_; conv => whnf)
      | (refine bcond_split (fun hc => ?_) (fun hc => ?_) <;> (try simp only [decide_eq_true_eq, decide_eq_false_iff_not, Bool.not_eq_true', Bool.not_eq_false', Bool.and_eq_true, Bool.or_eq_true, Bool.and_eq_false_imp, Bool.or_eq_false_iff, ne_eq, Decidable.not_not] at hc) <;> conv => whnf)
      | (intro ysK hysK; have hysl := congrArg List.length hysK; (try simp only [List.length_set, List.length_append, List.length_cons, List.length_nil] at hysl); conv => whnf)
      | (refine And.intro (by first | exact True.intro | (with_reducible assumption) | omega | (simp only [Rng]; omega) | exact Nat.le_of_ble_eq_true rfl | exact True.intro | exact Nat.le_of_ble_eq_true rfl | (refine ⟨by (try simp only [List.length_cons, List.length_nil]); omega, Int.le_trans (Int.mul_le_mul_of_nonneg_left (show (TInfo.bytes _ : Int) ≤ 64 from Int.ofNat_le.2 (Nat.le_of_ble_eq_true rfl)) (by omega)) (by (try simp only [List.length_cons, List.length_nil]); omega)⟩)) ?_; conv => whnf)))
    all_goals refine leaf0 rfl (congrArg AVal.bool ?_) rfl
    all_goals simp [*]
def eqLC : PCtr := fun _ _ _ vals k => match vals with
  | [.agg [.int .i64 n, .int .i64 d, .int .i64 m, .int .i64 e], .agg [.int .i64 n', .int .i64 d', .int .i64 m', .int .i64 e']] => True ∧ k [] (.bool (decide ((((n, d), (m, e)) : Lf) = ((n', d'), (m', e')))))
  | _ => False
theorem eqLeaf_ok : PCtrOk Try.prog 18 eqLC where
  enter := enter_ok Try.func18 (by kernel_rfl) rfl
  calls := by
    intro hg rg lr vals k h
    unfold eqLC at h
    split at h
    case h_2 => exact h.elim
    rename_i n d m e n' d' m' e'
    obtain ⟨_, hk⟩ := h
    refine ⟨_, _, hk, fun A w _ _ => ?_⟩
    refine enter T_ok (GOk.cons eqAngle_ok .nil) Try.func18 rfl (K := (· < w.heap.size)) (fun _ h => h) (A := A) (n0 := 0) (b0 := 0) (rows := []) (hp := []) rfl (Nat.zero_le _) (fun k r h => by cases h) rfl (fun k r h => by cases h) rfl rfl (Nat.le_of_ble_eq_true rfl) ?_
    conv => whnf
    repeat (refine V_step T_ok (GOk.cons eqAngle_ok .nil) rfl ?_; conv => whnf)
    repeat (any_goals (first
      | (refine V_step T_ok (GOk.cons eqAngle_ok .nil) rfl ?_; conv => whnf)
      | (refine V_drawA T_ok (GOk.cons eqAngle_ok .nil) mixed (by kernel_rfl) ?_; conv => whnf)
      | (refine bcond_split (fun hc => ?_) (fun hc => ?_) <;> (try simp only [decide_eq_true_eq, decide_eq_false_iff_not, Bool.not_eq_true', Bool.not_eq_false', Bool.and_eq_true, Bool.or_eq_true, Bool.and_eq_false_imp, Bool.or_eq_false_iff, ne_eq, Decidable.not_not] at hc) <;> conv => whnf)
      | (intro ysK hysK; have hysl := congrArg List.length hysK; (try simp only [List.length_set, List.length_append, List.length_cons, List.length_nil] at hysl); conv => whnf)
      | (refine And.intro (by first | exact True.intro | (with_reducible assumption) | omega | (simp only [Rng]; omega) | exact Nat.le_of_ble_eq_true rfl | exact True.intro | exact Nat.le_of_ble_eq_true rfl | (refine ⟨by (try simp only [List.length_cons, List.length_nil]); omega, Int.le_trans (Int.mul_le_mul_of_nonneg_left (show (TInfo.bytes _ : Int) ≤ 64 from Int.ofNat_le.2 (Nat.le_of_ble_eq_true rfl)) (by omega)) (by (try simp only [List.length_cons, List.length_nil]); omega)⟩)) ?_; conv => whnf)))
    all_goals refine leaf0 rfl (congrArg AVal.bool ?_) rfl
    all_goals (simp only [Prod.mk.injEq] at *; simp [*])

def szC : PCtr := fun _ rg _ vals k => match vals with
  | [.row i, .int .i64 l] => rowC lT (rg i) fun xs => (0 ≤ l ∧ l ≤ 1048576) ∧ k [] (.int .i64 (if l - (xs.length : Int) < 0 then -1 else l - xs.length))
  | _ => False
theorem sz_ok : PCtrOk Try.prog 14 szC where
  enter := enter_ok Try.func14 (by kernel_rfl) rfl
  calls := by
    intro hg rg lr vals k h
    unfold szC at h
    split at h
    case h_2 => exact h.elim
    rename_i i l
    obtain ⟨e, own, xs, hi, h⟩ : ∃ e own, ∃ (xs : List Lf), _ := rowC_inv h
    obtain ⟨hl, hk⟩ := h
    refine ⟨_, _, hk, fun A w hB hR => ?_⟩
    refine enter T_ok .nil Try.func14 rfl (K := (· < w.heap.size)) (fun _ h => h) (A := A.pick [] [i]) (vals := [.row 0, .int .i64 l]) (n0 := 0) (b0 := 0) (rows := [some ⟨lT, e, false, xs⟩]) (hp := []) rfl (Nat.zero_le _) no_box rfl (one_row (hR i _ hi)) rfl rfl (Nat.le_of_ble_eq_true rfl) ?_
    conv => whnf
    repeat (refine V_step T_ok .nil rfl ?_; conv => whnf)
    have hcap' : (@List.length (TyC.α lT) xs : Int) ≤ 9223372036854775807 := by
      have h1 := (hR i _ hi).len
      have h2 := (hR i _ hi).cap
      have h3 := (hR i _ hi).max
      simp only at h1
      have : maxLen = 9223372036854775807 := rfl
      omega
    repeat (any_goals (first
      | (refine V_step T_ok .nil rfl ?_; conv => whnf)
      | (refine V_drawA T_ok .nil mixed (by kernel_rfl) ?_; conv => whnf)
      | (refine bcond_split (fun hc => ?_) (fun hc => ?_) <;> (try simp only [decide_eq_true_eq, decide_eq_false_iff_not, Bool.not_eq_true', Bool.not_eq_false', Bool.and_eq_true, Bool.or_eq_true, Bool.and_eq_false_imp, Bool.or_eq_false_iff, ne_eq, Decidable.not_not] at hc) <;> conv => whnf)
      | (intro ysK hysK; have hysl := congrArg List.length hysK; (try simp only [List.length_set, List.length_append, List.length_cons, List.length_nil] at hysl); conv => whnf)
      | (refine And.intro (by first | exact True.intro | (with_reducible assumption) | omega | (simp only [Rng]; omega) | exact Nat.le_of_ble_eq_true rfl | exact True.intro | exact Nat.le_of_ble_eq_true rfl | (refine ⟨by (try simp only [List.length_cons, List.length_nil]); omega, Int.le_trans (Int.mul_le_mul_of_nonneg_left (show (TInfo.bytes _ : Int) ≤ 64 from Int.ofNat_le.2 (Nat.le_of_ble_eq_true rfl)) (by omega)) (by (try simp only [List.length_cons, List.length_nil]); omega)⟩)) ?_; conv => whnf)))
    · have hc : l - (xs.length : Int) < 0 := hc
      exact leaf0 rfl (congrArg (AVal.int .i64) (if_pos hc).symm) rfl
    · have hc : ¬ l - (xs.length : Int) < 0 := hc
      exact leaf0 rfl (congrArg (AVal.int .i64) (if_neg hc).symm) rfl

def eqLs (xs ys : List Lf) : Bool := decide (xs = ys)
def eqLsC : PCtr := fun _ rg _ vals k => match vals with
  | [.row i, .row j] => rowC lT (rg i) fun xs => rowC lT (rg j) fun ys => True ∧ k [] (.bool (eqLs xs ys))
  | _ => False
theorem eqLs_ok : PCtrOk Try.prog 19 eqLsC where
  enter := enter_ok Try.func19 (by kernel_rfl) rfl
  calls := by
    intro hg rg lr vals k h
    unfold eqLsC at h
    split at h
    case h_2 => exact h.elim
    rename_i i j
    obtain ⟨e, own, xs, hi, h⟩ : ∃ e own, ∃ (xs : List Lf), _ := rowC_inv h
    obtain ⟨e', own', ys, hj, h⟩ : ∃ e own, ∃ (xs : List Lf), _ := rowC_inv h
    have hk := h.2
    refine ⟨_, _, hk, fun A w hB hR => ?_⟩
    refine enter T_ok (GOk.cons eqLeaf_ok .nil) Try.func19 rfl (K := (· < w.heap.size)) (fun _ h => h) (A := A.pick [] [i, j]) (vals := [.row 0, .row 1]) (n0 := 0) (b0 := 0) (rows := [some ⟨lT, e, false, xs⟩, some ⟨lT, e', false, ys⟩]) (hp := []) rfl (Nat.zero_le _) no_box rfl (two_rows (hR i _ hi) (hR j _ hj)) rfl rfl (Nat.le_of_ble_eq_true rfl) ?_
    conv => whnf
    repeat (refine V_step T_ok (GOk.cons eqLeaf_ok .nil) rfl ?_; conv => whnf)
    have hcap' : (@List.length (TyC.α lT) xs : Int) ≤ 9223372036854775807 := by
      have h1 := (hR i _ hi).len
      have h2 := (hR i _ hi).cap
      have h3 := (hR i _ hi).max
      simp only at h1
      have : maxLen = 9223372036854775807 := rfl
      omega
    repeat (any_goals (first
      | (refine V_step T_ok (GOk.cons eqLeaf_ok .nil) rfl ?_; conv => whnf)
      | (refine V_drawA T_ok (GOk.cons eqLeaf_ok .nil) mixed (by kernel_rfl) ?_; conv => whnf)
      | (refine bcond_split (fun hc => ?_) (fun hc => ?_) <;> (try simp only [decide_eq_true_eq, decide_eq_false_iff_not, Bool.not_eq_true', Bool.not_eq_false', Bool.and_eq_true, Bool.or_eq_true, Bool.and_eq_false_imp, Bool.or_eq_false_iff, ne_eq, Decidable.not_not] at hc) <;> conv => whnf)
      | (intro ysK hysK; have hysl := congrArg List.length hysK; (try simp only [List.length_set, List.length_append, List.length_cons, List.length_nil] at hysl); conv => whnf)
      | (refine And.intro (by first | exact True.intro | (with_reducible assumption) | omega | (simp only [Rng]; omega) | exact Nat.le_of_ble_eq_true rfl | exact True.intro | exact Nat.le_of_ble_eq_true rfl | (refine ⟨by (try simp only [List.length_cons, List.length_nil]); omega, Int.le_trans (Int.mul_le_mul_of_nonneg_left (show (TInfo.bytes _ : Int) ≤ 64 from Int.ofNat_le.2 (Nat.le_of_ble_eq_true rfl)) (by omega)) (by (try simp only [List.length_cons, List.length_nil]); omega)⟩)) ?_; conv => whnf)))
    · have hc : ¬ (xs.length : Int) = ys.length := hc
      refine leaf0 rfl (congrArg AVal.bool ?_) rfl
      rw [eqLs, eq_comm, decide_eq_false_iff_not]
      intro h; rw [h] at hc; exact hc rfl
    · have hlen : (xs.length : Int) = ys.length := hc
      refine V_loopH (γ := Nat) (fun n => n ≤ xs.length ∧ ∀ j, j < n → xs.getD j dL = ys.getD j dL) (fun n => xs.length - n)
        (fun n => [(5, .int .i64 n)]) (fun _ => []) (fun _ => []) 0 ⟨Nat.zero_le _, fun j h => absurd h (Nat.not_lt_zero _)⟩ ?_ ?_
      · conv => whnf
        refine ⟨?_, by (conv => whnf); repeat (first | exact True.intro | (refine And.intro rfl ?_; conv => whnf)), by (conv => whnf); repeat (first | exact True.intro | (refine And.intro (by first | rfl | (subst_vars; rfl)) ?_; conv => whnf)), rfl, rfl, rfl, rfl, rfl, rfl, rfl, Nat.le_of_ble_eq_true rfl, Nat.le_of_ble_eq_true rfl⟩
        conv => whnf
        repeat (first | exact True.intro | (refine And.intro (by first | rfl | ((conv => whnf); exact congrArg (AVal.int .i64) (by omega)) | ((conv => whnf); exact congrArg (AVal.int .i64) (by simp only [Int.natCast_add, Int.natCast_one]; omega))) ?_; conv => whnf))
      · rintro n ⟨h1, h2⟩
        conv => whnf
        refine vcCode_sound T_ok (GOk.cons eqLeaf_ok .nil) _ _ _ _ _ ?_
        conv => whnf
        repeat (refine V_step T_ok (GOk.cons eqLeaf_ok .nil) rfl ?_; conv => whnf)
        repeat (any_goals (first
          | (refine V_step T_ok (GOk.cons eqLeaf_ok .nil) rfl ?_; conv => whnf)
          | (refine V_drawA T_ok (GOk.cons eqLeaf_ok .nil) mixed (by kernel_rfl) ?_; conv => whnf)
          | (refine bcond_split (fun hc => ?_) (fun hc => ?_) <;> (try simp only [decide_eq_true_eq, decide_eq_false_iff_not, Bool.not_eq_true', Bool.not_eq_false', Bool.and_eq_true, Bool.or_eq_true, Bool.and_eq_false_imp, Bool.or_eq_false_iff, ne_eq, Decidable.not_not] at hc) <;> conv => whnf)
          | (intro ysK hysK; have hysl := congrArg List.length hysK; (try simp only [List.length_set, List.length_append, List.length_cons, List.length_nil] at hysl); conv => whnf)
          | (refine And.intro (by first | (first | exact True.intro | omega | (simp only [Rng]; omega) | (refine ⟨by omega, ?_⟩; have hll : (n : Int) < (@List.length (TyC.α lT) ys : Nat) := (by (have hl' : (n : Int) < (List.length (α := Lf) xs : Nat) := by assumption); rw [hlen] at hl'; exact hl'); exact hll)) | exact True.intro | exact Nat.le_of_ble_eq_true rfl | (refine ⟨by (try simp only [List.length_cons, List.length_nil]); omega, Int.le_trans (Int.mul_le_mul_of_nonneg_left (show (TInfo.bytes _ : Int) ≤ 64 from Int.ofNat_le.2 (Nat.le_of_ble_eq_true rfl)) (by omega)) (by (try simp only [List.length_cons, List.length_nil]); omega)⟩)) ?_; conv => whnf)))
        · rename_i hc1
          have hl : (n : Int) < (xs.length : Nat) := hc1
          have hc' : ¬ xs.getD n dL = ys.getD n dL := hc
          refine leaf0 rfl (congrArg AVal.bool ?_) rfl
          rw [eqLs, eq_comm, decide_eq_false_iff_not]
          intro h; rw [h] at hc'; exact hc' rfl
        · rename_i hc1
          have hl : (n : Int) < (xs.length : Nat) := hc1
          have hc' : xs.getD n dL = ys.getD n dL := hc
          refine ⟨n + 1, ⟨by omega, fun j hj => ?_⟩, by omega, ?_⟩
          · rcases Nat.lt_or_ge j n with h | h
            · exact h2 j h
            · obtain rfl : j = n := by omega
              exact hc'
          · conv => whnf
            refine ⟨?_, by (conv => whnf); repeat (first | exact True.intro | (refine And.intro rfl ?_; conv => whnf)), by (conv => whnf); repeat (first | exact True.intro | (refine And.intro (by first | rfl | (subst_vars; rfl)) ?_; conv => whnf)), rfl, rfl, rfl, rfl, rfl, rfl, rfl, Nat.le_of_ble_eq_true rfl, Nat.le_of_ble_eq_true rfl⟩
            conv => whnf
            repeat (first | exact True.intro | (refine And.intro (by first | rfl | ((conv => whnf); exact congrArg (AVal.int .i64) (by omega)) | ((conv => whnf); exact congrArg (AVal.int .i64) (by simp only [Int.natCast_add, Int.natCast_one]; omega))) ?_; conv => whnf))
        · have hl : ¬ (n : Int) < (xs.length : Nat) := hc
          refine leaf0 rfl (congrArg AVal.bool ?_) rfl
          rw [eqLs, eq_comm, decide_eq_true_iff]
          apply List.ext_getElem (by omega)
          intro j h3 h4
          have := h2 j (by omega)
          rw [List.getD_eq_getElem?_getD, List.getElem?_eq_getElem h3, List.getD_eq_getElem?_getD, List.getElem?_eq_getElem h4] at this
          exact this

def longerS (b l : Lf) : Lf := if lessA (sDistA b.1 b.2) (sDistA l.1 l.2) then l else b
def longestSR (xs : List Lf) : AVal := if sLamL xs = true then (if xs = [] then .tup [lV dL, .int .i64 5] else .tup [lV ((xs.drop 1).foldl longerS (xs.getD 0 dL)), .int .i64 0]) else .tup [lV dL, .int .i64 1]
theorem longestSR_bad {xs : List Lf} (h : sLamL xs = false) : longestSR xs = .tup [lV dL, .int .i64 1] := by simp [longestSR, h]
theorem longestSR_nil {xs : List Lf} (h : sLamL xs = true) (hx : xs = []) : longestSR xs = .tup [lV dL, .int .i64 5] := by rw [longestSR, if_pos h, if_pos hx]
theorem longestSR_good {xs : List Lf} (h : sLamL xs = true) (hx : xs ≠ []) : longestSR xs = .tup [lV ((xs.drop 1).foldl longerS (xs.getD 0 dL)), .int .i64 0] := by rw [longestSR, if_pos h, if_neg hx]
theorem sLam_all {xs : List Lf} (h : sLamL xs = true) : ∀ j, j < xs.length → IsL (xs.getD j dL) := fun j hj => by
  simp only [sLamL, Bool.and_eq_true] at h
  exact sOkAt_isL (List.all_eq_true.1 h.2 j (List.mem_range.2 hj))
theorem sDist_bd {a b : Ang} (h : Sm a) (h' : Sm b) : Bd (sDistA a b) := by
  have u4 := mulPos h.2.1 h'.2.1
  have u3 : a.2 * b.2 ≤ 1073741824 := Int.le_trans (Int.mul_le_mul h.2.2 h'.2.2 (by have := h'.2.1; omega) (by omega)) (by omega)
  have b1 := ofQ_bd (b.1 * a.2 - a.1 * b.2) (a.2 * b.2) u4
  have b2 := ofQ_bd (-(ofQ (b.1 * a.2 - a.1 * b.2) (a.2 * b.2)).1) (ofQ (b.1 * a.2 - a.1 * b.2) (a.2 * b.2)).2 b1.2.1
  unfold sDistA
  split <;> (unfold Bd; omega)
def longestSC : PCtr := fun _ rg _ vals k => match vals with
  | [.row i] => rowC lT (rg i) fun xs => True ∧ k [] (longestSR xs)
  | _ => False
abbrev G9 := GOk.cons sLam_ok (GOk.cons sDist_ok (GOk.cons sLess_ok .nil))
theorem longestS_ok : PCtrOk Try.prog 15 longestSC where
  enter := enter_ok Try.func15 (by kernel_rfl) rfl
  calls := by
    intro hg rg lr vals k h
    unfold longestSC at h
    split at h
    case h_2 => exact h.elim
    rename_i i
    obtain ⟨e, own, xs, hi, h⟩ : ∃ e own, ∃ (xs : List Lf), _ := rowC_inv h
    have hk := h.2
    refine ⟨_, _, hk, fun A w hB hR => ?_⟩
    refine enter T_ok G9 Try.func15 rfl (K := (· < w.heap.size)) (fun _ h => h) (A := A.pick [] [i]) (vals := [.row 0]) (n0 := 0) (b0 := 0) (rows := [some ⟨lT, e, false, xs⟩]) (hp := []) rfl (Nat.zero_le _) no_box rfl (one_row (hR i _ hi)) rfl rfl (Nat.le_of_ble_eq_true rfl) ?_
    conv => whnf
    repeat (refine V_step T_ok G9 rfl ?_; conv => whnf)
    have hcap' : (@List.length (TyC.α lT) xs : Int) ≤ 9223372036854775807 := by
      have h1 := (hR i _ hi).len
      have h2 := (hR i _ hi).cap
      have h3 := (hR i _ hi).max
      simp only at h1
      have : maxLen = 9223372036854775807 := rfl
      omega
    repeat (any_goals (first
      | (refine V_step T_ok G9 rfl ?_; conv => whnf)
      | (refine V_drawA T_ok G9 mixed (by kernel_rfl) ?_; conv => whnf)
      | (refine bcond_split (fun hc => ?_) (fun hc => ?_) <;> (try simp only [decide_eq_true_eq, decide_eq_false_iff_not, Bool.not_eq_true', Bool.not_eq_false', Bool.and_eq_true, Bool.or_eq_true, Bool.and_eq_false_imp, Bool.or_eq_false_iff, ne_eq, Decidable.not_not] at hc) <;> conv => whnf)
      | (intro ysK hysK; have hysl := congrArg List.length hysK; (try simp only [List.length_set, List.length_append, List.length_cons, List.length_nil] at hysl); conv => whnf)
      | (refine And.intro (by first | exact True.intro | (with_reducible assumption) | omega | (simp only [Rng]; omega) | exact Nat.le_of_ble_eq_true rfl | exact True.intro | exact Nat.le_of_ble_eq_true rfl | (refine ⟨by (try simp only [List.length_cons, List.length_nil]); omega, Int.le_trans (Int.mul_le_mul_of_nonneg_left (show (TInfo.bytes _ : Int) ≤ 64 from Int.ofNat_le.2 (Nat.le_of_ble_eq_true rfl)) (by omega)) (by (try simp only [List.length_cons, List.length_nil]); omega)⟩)) ?_; conv => whnf)))
    · have hc : sLamL xs = false := hc
      exact leaf0 rfl (longestSR_bad hc).symm (by rw [longestSR_bad hc]; rfl)
    · rename_i hc0
      have hc0 : sLamL xs = true := hc0
      have hc : (xs.length : Int) = 0 := hc
      have hx : xs = [] := List.eq_nil_of_length_eq_zero (by omega)
      exact leaf0 rfl (longestSR_nil hc0 hx).symm (by rw [longestSR_nil hc0 hx]; rfl)
    · rename_i hc0
      have hc0 : sLamL xs = true := hc0
      have hc : ¬ (xs.length : Int) = 0 := hc
      have hx : xs ≠ [] := fun h => hc (by rw [h]; rfl)
      have hgS : ∀ j, j < xs.length → SmL (xs.getD j dL) := fun j hj => (sLam_all hc0 j hj).sm
      refine V_loopH (γ := Nat × Lf) (fun g => (1 ≤ g.1 ∧ g.1 ≤ xs.length) ∧ SmL g.2 ∧ g.2 = ((xs.drop 1).take (g.1 - 1)).foldl longerS (xs.getD 0 dL)) (fun g => xs.length - g.1)
        (fun g => [(5, .int .i64 g.1)]) (fun g => [(1, lC g.2)]) (fun _ => []) (1, xs.getD 0 dL) ⟨⟨Nat.le_refl _, by simp only; omega⟩, hgS 0 (by omega), rfl⟩ ?_ ?_
      · conv => whnf
        refine ⟨?_, by (conv => whnf); repeat (first | exact True.intro | (refine And.intro rfl ?_; conv => whnf)), by (conv => whnf); repeat (first | exact True.intro | (refine And.intro (by first | rfl | (subst_vars; rfl)) ?_; conv => whnf)), rfl, rfl, rfl, rfl, rfl, rfl, rfl, Nat.le_of_ble_eq_true rfl, Nat.le_of_ble_eq_true rfl⟩
        conv => whnf
        repeat (first | exact True.intro | (refine And.intro (by first | rfl | ((conv => whnf); exact congrArg (AVal.int .i64) (by omega)) | ((conv => whnf); exact congrArg (AVal.int .i64) (by simp only [Int.natCast_add, Int.natCast_one]; omega))) ?_; conv => whnf))
      · rintro ⟨n, b⟩ ⟨h1, h2, h3⟩
        simp only at h1 h2 h3
        conv => whnf
        refine vcCode_sound T_ok G9 _ _ _ _ _ ?_
        conv => whnf
        repeat (refine V_step T_ok G9 rfl ?_; conv => whnf)
        repeat (any_goals (first
          | (refine V_step T_ok G9 rfl ?_; conv => whnf)
          | (refine V_drawA T_ok G9 mixed (by kernel_rfl) ?_; conv => whnf)
          | (refine bcond_split (fun hc => ?_) (fun hc => ?_) <;> (try simp only [decide_eq_true_eq, decide_eq_false_iff_not, Bool.not_eq_true', Bool.not_eq_false', Bool.and_eq_true, Bool.or_eq_true, Bool.and_eq_false_imp, Bool.or_eq_false_iff, ne_eq, Decidable.not_not] at hc) <;> conv => whnf)
          | (intro ysK hysK; have hysl := congrArg List.length hysK; (try simp only [List.length_set, List.length_append, List.length_cons, List.length_nil] at hysl); conv => whnf)
          | (refine And.intro (by first | (first | exact True.intro | omega | (simp only [Rng]; omega) | exact h2 | exact hgS n (by (have hl' : (n : Int) < (List.length (α := Lf) xs : Nat) := by assumption); omega) | exact ⟨sDist_bd h2.1 h2.2, sDist_bd (hgS n (by (have hl' : (n : Int) < (List.length (α := Lf) xs : Nat) := by assumption); omega)).1 (hgS n (by (have hl' : (n : Int) < (List.length (α := Lf) xs : Nat) := by assumption); omega)).2⟩) | exact True.intro | exact Nat.le_of_ble_eq_true rfl | (refine ⟨by (try simp only [List.length_cons, List.length_nil]); omega, Int.le_trans (Int.mul_le_mul_of_nonneg_left (show (TInfo.bytes _ : Int) ≤ 64 from Int.ofNat_le.2 (Nat.le_of_ble_eq_true rfl)) (by omega)) (by (try simp only [List.length_cons, List.length_nil]); omega)⟩)) ?_; conv => whnf)))
        · rename_i hc1
          have hl : (n : Int) < (xs.length : Nat) := hc1
          have hc' : lessA (sDistA b.1 b.2) (sDistA (xs.getD n dL).1 (xs.getD n dL).2) := hc
          refine ⟨(n + 1, xs.getD n dL), ⟨by simp only; omega, hgS n (by omega), ?_⟩, by simp only; omega, ?_⟩
          · have e : (xs.drop 1).getD (n - 1) dL = xs.getD n dL := by rw [List.getD_eq_getElem?_getD, List.getElem?_drop, show 1 + (n - 1) = n by omega, ← List.getD_eq_getElem?_getD]
            simp only
            rw [show n + 1 - 1 = (n - 1) + 1 by omega, foldl_take _ _ _ (n - 1) dL (by simp; omega), ← h3, e, longerS, if_pos hc']
          · conv => whnf
            refine ⟨?_, by (conv => whnf); repeat (first | exact True.intro | (refine And.intro rfl ?_; conv => whnf)), by (conv => whnf); repeat (first | exact True.intro | (refine And.intro (by first | rfl | (subst_vars; rfl)) ?_; conv => whnf)), rfl, rfl, rfl, rfl, rfl, rfl, rfl, Nat.le_of_ble_eq_true rfl, Nat.le_of_ble_eq_true rfl⟩
            conv => whnf
            repeat (first | exact True.intro | (refine And.intro (by first | rfl | ((conv => whnf); exact congrArg (AVal.int .i64) (by omega)) | ((conv => whnf); exact congrArg (AVal.int .i64) (by simp only [Int.natCast_add, Int.natCast_one]; omega))) ?_; conv => whnf))
        · rename_i hc1
          have hl : (n : Int) < (xs.length : Nat) := hc1
          have hc' : ¬ lessA (sDistA b.1 b.2) (sDistA (xs.getD n dL).1 (xs.getD n dL).2) := hc
          refine ⟨(n + 1, b), ⟨by simp only; omega, h2, ?_⟩, by simp only; omega, ?_⟩
          · have e : (xs.drop 1).getD (n - 1) dL = xs.getD n dL := by rw [List.getD_eq_getElem?_getD, List.getElem?_drop, show 1 + (n - 1) = n by omega, ← List.getD_eq_getElem?_getD]
            simp only
            rw [show n + 1 - 1 = (n - 1) + 1 by omega, foldl_take _ _ _ (n - 1) dL (by simp; omega), ← h3, e, longerS, if_neg hc']
          · conv => whnf
            refine ⟨?_, by (conv => whnf); repeat (first | exact True.intro | (refine And.intro rfl ?_; conv => whnf)), by (conv => whnf); repeat (first | exact True.intro | (refine And.intro (by first | rfl | (subst_vars; rfl)) ?_; conv => whnf)), rfl, rfl, rfl, rfl, rfl, rfl, rfl, Nat.le_of_ble_eq_true rfl, Nat.le_of_ble_eq_true rfl⟩
            conv => whnf
            repeat (first | exact True.intro | (refine And.intro (by first | rfl | ((conv => whnf); exact congrArg (AVal.int .i64) (by omega)) | ((conv => whnf); exact congrArg (AVal.int .i64) (by simp only [Int.natCast_add, Int.natCast_one]; omega))) ?_; conv => whnf))
        · have hl : ¬ (n : Int) < (xs.length : Nat) := hc
          rw [List.take_of_length_le (by simp; omega)] at h3
          refine leaf0 rfl ?_ (by rw [longestSR_good hc0 hx]; rfl)
          rw [longestSR_good hc0 hx, ← h3]

def toLsC : PCtr := fun _ rg lr vals k => match vals with
  | [.row i] => rowC lT (rg i) fun xs => ((xs.length : Int) ≤ 1048576) ∧ k [⟨lT, 27, true, xs⟩] (.row lr)
  | _ => False
theorem toLs_ok : PCtrOk Try.prog 16 toLsC where
  enter := enter_ok Try.func16 (by kernel_rfl) rfl
  calls := by
    intro hg rg lr vals k h
    unfold toLsC at h
    split at h
    case h_2 => exact h.elim
    rename_i i
    obtain ⟨e, own, xs, hi, h⟩ : ∃ e own, ∃ (xs : List Lf), _ := rowC_inv h
    obtain ⟨hx, hk⟩ := h
    refine ⟨_, _, hk, fun A w hB hR => ?_⟩
    refine enter T_ok (GOk.cons toLeaf_ok .nil) Try.func16 rfl (K := (· < w.heap.size)) (fun _ h => h) (A := A.pick [] [i]) (vals := [.row 0]) (n0 := 0) (b0 := 0) (rows := [some ⟨lT, e, false, xs⟩]) (hp := []) rfl (Nat.zero_le _) no_box rfl (one_row (hR i _ hi)) rfl rfl (Nat.le_of_ble_eq_true rfl) ?_
    conv => whnf
    repeat (refine V_step T_ok (GOk.cons toLeaf_ok .nil) rfl ?_; conv => whnf)
    have hcap' : (@List.length (TyC.α lT) xs : Int) ≤ 1048576 := hx
    repeat (any_goals (first
      | (refine V_step T_ok (GOk.cons toLeaf_ok .nil) rfl ?_; conv => whnf)
      | (refine V_drawA T_ok (GOk.cons toLeaf_ok .nil) mixed (by kernel_rfl) ?_; conv => whnf)
      | (refine bcond_split (fun hc => ?_) (fun hc => ?_) <;> (try simp only [decide_eq_true_eq, decide_eq_false_iff_not, Bool.not_eq_true', Bool.not_eq_false', Bool.and_eq_true, Bool.or_eq_true, Bool.and_eq_false_imp, Bool.or_eq_false_iff, ne_eq, Decidable.not_not] at hc) <;> conv => whnf)
      | (intro ysK hysK; have hysl := congrArg List.length hysK; (try simp only [List.length_set, List.length_append, List.length_cons, List.length_nil] at hysl); conv => whnf)
      | (refine And.intro (by first | (first | exact True.intro | (refine ⟨by omega, rfl, ?_, by omega⟩; have hb : (ti27.bytes : Int) = 32 := rfl; rw [hb]; omega)) | exact True.intro | exact Nat.le_of_ble_eq_true rfl | (refine ⟨by (try simp only [List.length_cons, List.length_nil]); omega, Int.le_trans (Int.mul_le_mul_of_nonneg_left (show (TInfo.bytes _ : Int) ≤ 64 from Int.ofNat_le.2 (Nat.le_of_ble_eq_true rfl)) (by omega)) (by (try simp only [List.length_cons, List.length_nil]); omega)⟩)) ?_; conv => whnf)))
    refine V_loopH (γ := Nat × List Lf) (fun g => g.1 ≤ xs.length ∧ g.2.length = xs.length ∧ ∀ j, j < g.1 → g.2.getD j dL = xs.getD j dL) (fun g => xs.length - g.1)
      (fun g => [(4, .int .i64 g.1)]) (fun _ => []) (fun g => [(1, some ⟨lT, 27, true, g.2⟩)]) (0, List.replicate xs.length dL) ⟨Nat.zero_le _, by simp, fun j h => absurd h (Nat.not_lt_zero _)⟩ ?_ ?_
    · conv => whnf
      refine ⟨?_, by (conv => whnf); repeat (first | exact True.intro | (refine And.intro rfl ?_; conv => whnf)), by (conv => whnf); repeat (first | exact True.intro | (refine And.intro (by first | rfl | (subst_vars; rfl)) ?_; conv => whnf)), rfl, rfl, rfl, rfl, rfl, rfl, rfl, Nat.le_of_ble_eq_true rfl, Nat.le_of_ble_eq_true rfl⟩
      conv => whnf
      repeat (first | exact True.intro | (refine And.intro (by first | rfl | ((conv => whnf); exact congrArg (AVal.int .i64) (by omega)) | ((conv => whnf); exact congrArg (AVal.int .i64) (by simp only [Int.natCast_add, Int.natCast_one]; omega))) ?_; conv => whnf))
    · rintro ⟨n, ys⟩ ⟨h1, hlen, h2⟩
      simp only at h1 hlen h2
      conv => whnf
      refine vcCode_sound T_ok (GOk.cons toLeaf_ok .nil) _ _ _ _ _ ?_
      conv => whnf
      repeat (refine V_step T_ok (GOk.cons toLeaf_ok .nil) rfl ?_; conv => whnf)
      repeat (any_goals (first
        | (refine V_step T_ok (GOk.cons toLeaf_ok .nil) rfl ?_; conv => whnf)
        | (refine V_drawA T_ok (GOk.cons toLeaf_ok .nil) mixed (by kernel_rfl) ?_; conv => whnf)
        | (refine bcond_split (fun hc => ?_) (fun hc => ?_) <;> (try simp only [decide_eq_true_eq, decide_eq_false_iff_not, Bool.not_eq_true', Bool.not_eq_false', Bool.and_eq_true, Bool.or_eq_true, Bool.and_eq_false_imp, Bool.or_eq_false_iff, ne_eq, Decidable.not_not] at hc) <;> conv => whnf)
        | (intro ysK hysK; have hysl := congrArg List.length hysK; (try simp only [List.length_set, List.length_append, List.length_cons, List.length_nil] at hysl); conv => whnf)
        | (refine And.intro (by first | (first | exact True.intro | omega | (simp only [Rng]; omega) | (have hl' : (n : Int) < (List.length (α := Lf) xs : Nat) := by assumption); (have hl2 : (n : Int) < (List.length (α := Lf) ys : Nat) := by rw [hlen]; exact hl'); (first | exact ⟨by omega, hl2⟩ | exact (show n < List.length (α := Lf) ys by omega))) | exact True.intro | exact Nat.le_of_ble_eq_true rfl | (refine ⟨by (try simp only [List.length_cons, List.length_nil]); omega, Int.le_trans (Int.mul_le_mul_of_nonneg_left (show (TInfo.bytes _ : Int) ≤ 64 from Int.ofNat_le.2 (Nat.le_of_ble_eq_true rfl)) (by omega)) (by (try simp only [List.length_cons, List.length_nil]); omega)⟩)) ?_; conv => whnf)))
      · have hl : (n : Int) < (xs.length : Nat) := hc
        refine ⟨(n + 1, ys.set n (xs.getD n dL)), ⟨by simp only; omega, by simp only [List.length_set]; exact hlen, fun j hj => ?_⟩, by simp only; omega, ?_⟩
        · simp only at hj ⊢
          rw [List.getD_eq_getElem?_getD, List.getElem?_set]
          by_cases hjn : n = j
          · subst hjn
            rw [if_pos rfl, if_pos (by omega)]; rfl
          · rw [if_neg hjn, ← List.getD_eq_getElem?_getD]
            exact h2 j (by omega)
        · conv => whnf
          refine ⟨?_, by (conv => whnf); repeat (first | exact True.intro | (refine And.intro rfl ?_; conv => whnf)), by (conv => whnf); repeat (first | exact True.intro | (refine And.intro (by first | rfl | (subst_vars; rfl)) ?_; conv => whnf)), rfl, rfl, rfl, rfl, rfl, rfl, rfl, Nat.le_of_ble_eq_true rfl, Nat.le_of_ble_eq_true rfl⟩
          conv => whnf
          repeat (first | exact True.intro | (refine And.intro (by first | rfl | ((conv => whnf); exact congrArg (AVal.int .i64) (by omega)) | ((conv => whnf); exact congrArg (AVal.int .i64) (by simp only [Int.natCast_add, Int.natCast_one]; omega))) ?_; conv => whnf))
      · have hl : ¬ (n : Int) < (xs.length : Nat) := hc
        have hy : ys = xs := by
          apply List.ext_getElem hlen
          intro j h3 h4
          have := h2 j (by omega)
          rw [List.getD_eq_getElem?_getD, List.getElem?_eq_getElem h3, List.getD_eq_getElem?_getD, List.getElem?_eq_getElem h4] at this
          exact this
        subst hy
        exact leaf1 1 rfl rfl rfl rfl (fun B C h => by simp [AVal.den, h])

end Go.Proofs.Ytlplngafncobkaa.Fw
