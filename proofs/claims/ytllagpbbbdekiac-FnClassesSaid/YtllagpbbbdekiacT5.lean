/- Contracts: the program's classes, by their names. -/
import Derived.Test.YtllagpbbbdekiacT4
namespace Go.Proofs.Ytllagpbbbdekiac.Fw
open Go Go.RowKit
set_option linter.unusedVariables false
set_option linter.unusedSimpArgs false
set_option maxRecDepth 100000
set_option maxHeartbeats 2000000
def codeA2 : PCtr := fun hg rg _ vals k => match vals with
  | [.row i] => rowC aT (rg i) fun xs => True ∧ k [] (.int .i64 (if (xs : List Ang).all allAY = true then 0 else 1))
  | _ => False
theorem anglesCode2_ok : PCtrOk Try.prog 48 codeA2 where
  enter := enter_ok Try.func48 (by kernel_rfl) rfl
  calls := by
    intro hg rg lr vals k h
    unfold codeA2 at h
    split at h
    case h_2 => exact h.elim
    rename_i i
    obtain ⟨e, own, xs, hi, h⟩ : ∃ e own, ∃ (xs : List Ang), _ := rowC_inv h
    have hk := h.2
    refine ⟨_, _, hk, fun A w hB hR => ?_⟩
    refine enter T_ok (GOk.cons allA_ok .nil) Try.func48 rfl (K := (· < w.heap.size)) (fun _ h => h) (A := A.pick [] [i]) (vals := [.row 0]) (n0 := 0) (b0 := 0) (rows := [some ⟨aT, e, false, xs⟩]) (hp := []) rfl (Nat.zero_le _) no_box rfl (one_row (hR i _ hi)) rfl rfl (Nat.le_of_ble_eq_true rfl) ?_
    conv => whnf
    repeat (refine V_step T_ok (GOk.cons allA_ok .nil) rfl ?_; conv => whnf)
    repeat (any_goals (first
      | (refine V_step T_ok (GOk.cons allA_ok .nil) rfl ?_; conv => whnf)
      | (refine V_drawA T_ok (GOk.cons allA_ok .nil) mixed (by kernel_rfl) ?_; conv => whnf)
      | (refine bcond_split (fun hc => ?_) (fun hc => ?_) <;> (try simp only [decide_eq_true_eq, decide_eq_false_iff_not, Bool.not_eq_true', Bool.not_eq_false', Bool.and_eq_true, Bool.or_eq_true, Bool.and_eq_false_imp, Bool.or_eq_false_iff, ne_eq, Decidable.not_not] at hc) <;> conv => whnf)
      | (intro ysK hysK; have hysl := congrArg List.length hysK; (try simp only [List.length_set, List.length_append, List.length_cons, List.length_nil, List.length_take, List.length_drop, List.length_replicate] at hysl); conv => whnf)
      | (intro bK hbK; have hbl := congrArg ByteArray.size hbK; conv => whnf)
      | (intro sK hsK; conv => whnf)
      | (refine And.intro (by first | exact True.intro | (with_reducible assumption) | omega | (simp only [Rng]; omega) | exact Nat.le_of_ble_eq_true rfl | exact True.intro | exact ⟨rfl, True.intro, fun _ _ => rfl⟩ | exact Nat.le_of_ble_eq_true rfl | (refine ⟨by (try simp only [List.length_cons, List.length_nil]); omega, Int.le_trans (Int.mul_le_mul_of_nonneg_left (show (TInfo.bytes _ : Int) ≤ 64 from Int.ofNat_le.2 (Nat.le_of_ble_eq_true rfl)) (by omega)) (by (try simp only [List.length_cons, List.length_nil]); omega)⟩)) ?_; conv => whnf)))
    · have hc : (xs : List Ang).all allAY = false := hc
      exact leaf0 rfl (by rw [hc]; rfl) rfl
    · have hc : (xs : List Ang).all allAY = true := hc
      exact leaf0 rfl (by rw [hc]; rfl) rfl
theorem two_isA (a b : Ang) : (if [a, b].all allAY = true then (0 : Int) else 1) = 0 ↔ IsA a ∧ IsA b := by
  by_cases h : IsA a <;> by_cases h' : IsA b <;> simp [allAY, h, h']
theorem two_isA' {a b : Ang} (h : ¬ (IsA a ∧ IsA b)) : (if [a, b].all allAY = true then (0 : Int) else 1) = 1 := by
  by_cases h1 : IsA a <;> by_cases h2 : IsA b <;> simp_all [allAY]
def clsOfC : PCtr := fun _ _ lr vals k => match vals with
  | [.agg [.int .i64 a, .int .i64 b], .int .i64 n] => (IsA (a, b) ∧ (1 ≤ n ∧ n ≤ 63)) ∧ ∀ ys : List (List Int), ys = cls1 (a, b) n → k [⟨rT1, 41, true, ys⟩] (.row lr)
  | _ => False
abbrev GCo := (GOk.cons itr_ok (GOk.cons cls1_ok .nil))
theorem clsOf_ok : PCtrOk Try.prog 28 clsOfC where
  enter := enter_ok Try.func28 (by kernel_rfl) rfl
  calls := by
    intro hg rg lr vals k h
    unfold clsOfC at h
    split at h
    case h_2 => exact h.elim
    rename_i a b n
    obtain ⟨⟨ht, hn⟩, hk⟩ := h
    replace hk := hk _ rfl
    refine ⟨_, _, hk, fun A w _ _ => ?_⟩
    refine enter T_ok GCo Try.func28 rfl (K := (· < w.heap.size)) (fun _ h => h) (A := A) (n0 := 0) (b0 := 0) (rows := []) (hp := []) rfl (Nat.zero_le _) (fun k r h => by cases h) rfl (fun k r h => by cases h) rfl rfl (Nat.le_of_ble_eq_true rfl) ?_
    conv => whnf
    repeat (refine V_step T_ok GCo rfl ?_; conv => whnf)
    repeat (any_goals (first
      | (refine V_step T_ok GCo rfl ?_; conv => whnf)
      | (refine V_drawN T_ok GCo mixed (by kernel_rfl) ?_; conv => whnf)
      | (refine bcond_split (fun hc => ?_) (fun hc => ?_) <;> (try simp only [decide_eq_true_eq, decide_eq_false_iff_not, Bool.not_eq_true', Bool.not_eq_false', Bool.and_eq_true, Bool.or_eq_true, Bool.and_eq_false_imp, Bool.or_eq_false_iff, ne_eq, Decidable.not_not] at hc) <;> conv => whnf)
      | (intro ysK hysK; have hysl := congrArg List.length hysK; (try simp only [List.length_set, List.length_append, List.length_cons, List.length_nil, List.length_take, List.length_drop, List.length_replicate] at hysl); conv => whnf)
      | (intro bK hbK; have hbl := congrArg ByteArray.size hbK; conv => whnf)
      | (intro sK hsK; conv => whnf)
      | (refine And.intro (by first | (first | exact True.intro | exact ⟨⟨ht, hn⟩, rfl, rfl⟩) | exact True.intro | exact ⟨rfl, True.intro, fun _ _ => rfl⟩ | exact Nat.le_of_ble_eq_true rfl | (refine ⟨by (try simp only [List.length_cons, List.length_nil]); omega, Int.le_trans (Int.mul_le_mul_of_nonneg_left (show (TInfo.bytes _ : Int) ≤ 64 from Int.ofNat_le.2 (Nat.le_of_ble_eq_true rfl)) (by omega)) (by (try simp only [List.length_cons, List.length_nil]); omega)⟩)) ?_; conv => whnf)))
    all_goals exact leaf1 3 rfl rfl (congrArg (fun ys => (⟨rT1, 41, true, ys⟩ : Row)) hysK) rfl (fun B C h => by simp [AVal.den, h])
def joinC : PCtr := fun _ _ lr vals k => match vals with
  | [.agg [.int .i64 a, .int .i64 b], .agg [.int .i64 c, .int .i64 d], .int .i64 n] => ((IsA (a, b) ∧ IsA (c, d)) ∧ (1 ≤ n ∧ n ≤ 63)) ∧ ∀ ys : List (List Int), ys = cls2 (a, b) (c, d) n → k [⟨rT1, 41, true, ys⟩] (.row lr)
  | _ => False
abbrev GJo := (GOk.cons itr_ok (GOk.cons cls2_ok .nil))
theorem joined_ok : PCtrOk Try.prog 36 joinC where
  enter := enter_ok Try.func36 (by kernel_rfl) rfl
  calls := by
    intro hg rg lr vals k h
    unfold joinC at h
    split at h
    case h_2 => exact h.elim
    rename_i a b c d n
    obtain ⟨⟨ht, hn⟩, hk⟩ := h
    replace hk := hk _ rfl
    refine ⟨_, _, hk, fun A w _ _ => ?_⟩
    refine enter T_ok GJo Try.func36 rfl (K := (· < w.heap.size)) (fun _ h => h) (A := A) (n0 := 0) (b0 := 0) (rows := []) (hp := []) rfl (Nat.zero_le _) (fun k r h => by cases h) rfl (fun k r h => by cases h) rfl rfl (Nat.le_of_ble_eq_true rfl) ?_
    conv => whnf
    repeat (refine V_step T_ok GJo rfl ?_; conv => whnf)
    repeat (any_goals (first
      | (refine V_step T_ok GJo rfl ?_; conv => whnf)
      | (refine V_drawN T_ok GJo mixed (by kernel_rfl) ?_; conv => whnf)
      | (refine bcond_split (fun hc => ?_) (fun hc => ?_) <;> (try simp only [decide_eq_true_eq, decide_eq_false_iff_not, Bool.not_eq_true', Bool.not_eq_false', Bool.and_eq_true, Bool.or_eq_true, Bool.and_eq_false_imp, Bool.or_eq_false_iff, ne_eq, Decidable.not_not] at hc) <;> conv => whnf)
      | (intro ysK hysK; have hysl := congrArg List.length hysK; (try simp only [List.length_set, List.length_append, List.length_cons, List.length_nil, List.length_take, List.length_drop, List.length_replicate] at hysl); conv => whnf)
      | (intro bK hbK; have hbl := congrArg ByteArray.size hbK; conv => whnf)
      | (intro sK hsK; conv => whnf)
      | (refine And.intro (by first | (first | exact True.intro | exact ⟨⟨ht, hn⟩, ⟨rfl, rfl⟩, rfl, rfl⟩) | exact True.intro | exact ⟨rfl, True.intro, fun _ _ => rfl⟩ | exact Nat.le_of_ble_eq_true rfl | (refine ⟨by (try simp only [List.length_cons, List.length_nil]); omega, Int.le_trans (Int.mul_le_mul_of_nonneg_left (show (TInfo.bytes _ : Int) ≤ 64 from Int.ofNat_le.2 (Nat.le_of_ble_eq_true rfl)) (by omega)) (by (try simp only [List.length_cons, List.length_nil]); omega)⟩)) ?_; conv => whnf)))
    all_goals exact leaf1 6 rfl rfl (congrArg (fun ys => (⟨rT1, 41, true, ys⟩ : Row)) hysK) rfl (fun B C h => by simp [AVal.den, h])
def isPartsC : PCtr := fun _ _ _ vals k => match vals with
  | [.int .i64 n] => True ∧ k [] (.bool (decide (1 ≤ n ∧ n ≤ 63)))
  | _ => False
theorem isParts_ok : PCtrOk Try.prog 27 isPartsC where
  enter := enter_ok Try.func27 (by kernel_rfl) rfl
  calls := by
    intro hg rg lr vals k h
    unfold isPartsC at h
    split at h
    case h_2 => exact h.elim
    rename_i n
    obtain ⟨_, hk⟩ := h
    refine ⟨_, _, hk, fun A w _ _ => ?_⟩
    refine enter T_ok (GOk.cons within_ok .nil) Try.func27 rfl (K := (· < w.heap.size)) (fun _ h => h) (A := A) (n0 := 0) (b0 := 0) (rows := []) (hp := []) rfl (Nat.zero_le _) (fun k r h => by cases h) rfl (fun k r h => by cases h) rfl rfl (Nat.le_of_ble_eq_true rfl) ?_
    conv => whnf
    repeat (refine V_step T_ok (GOk.cons within_ok .nil) rfl ?_; conv => whnf)
    repeat (any_goals (first
      | (refine V_step T_ok (GOk.cons within_ok .nil) rfl ?_; conv => whnf)
      | (refine V_drawA T_ok (GOk.cons within_ok .nil) mixed (by kernel_rfl) ?_; conv => whnf)
      | (refine bcond_split (fun hc => ?_) (fun hc => ?_) <;> (try simp only [decide_eq_true_eq, decide_eq_false_iff_not, Bool.not_eq_true', Bool.not_eq_false', Bool.and_eq_true, Bool.or_eq_true, Bool.and_eq_false_imp, Bool.or_eq_false_iff, ne_eq, Decidable.not_not] at hc) <;> conv => whnf)
      | (intro ysK hysK; have hysl := congrArg List.length hysK; (try simp only [List.length_set, List.length_append, List.length_cons, List.length_nil, List.length_take, List.length_drop, List.length_replicate] at hysl); conv => whnf)
      | (intro bK hbK; have hbl := congrArg ByteArray.size hbK; conv => whnf)
      | (intro sK hsK; conv => whnf)
      | (refine And.intro (by first | exact True.intro | (with_reducible assumption) | omega | (simp only [Rng]; omega) | exact Nat.le_of_ble_eq_true rfl | exact True.intro | exact ⟨rfl, True.intro, fun _ _ => rfl⟩ | exact Nat.le_of_ble_eq_true rfl | (refine ⟨by (try simp only [List.length_cons, List.length_nil]); omega, Int.le_trans (Int.mul_le_mul_of_nonneg_left (show (TInfo.bytes _ : Int) ≤ 64 from Int.ofNat_le.2 (Nat.le_of_ble_eq_true rfl)) (by omega)) (by (try simp only [List.length_cons, List.length_nil]); omega)⟩)) ?_; conv => whnf)))
    all_goals exact leaf0 rfl rfl rfl
def pcodeC : PCtr := fun _ rg _ vals k => match vals with
  | [.bool b, .row i] => rowC aT (rg i) fun xs => True ∧ k [] (.int .i64 (if (xs : List Ang).all allAY = true then (if b = true then 0 else 2) else 1))
  | _ => False
theorem pcode_ok : PCtrOk Try.prog 26 pcodeC where
  enter := enter_ok Try.func26 (by kernel_rfl) rfl
  calls := by
    intro hg rg lr vals k h
    unfold pcodeC at h
    split at h
    case h_2 => exact h.elim
    rename_i b i
    obtain ⟨e, own, xs, hi, h⟩ : ∃ e own, ∃ (xs : List Ang), _ := rowC_inv h
    have hk := h.2
    refine ⟨_, _, hk, fun A w hB hR => ?_⟩
    refine enter T_ok (GOk.cons anglesCode2_ok .nil) Try.func26 rfl (K := (· < w.heap.size)) (fun _ h => h) (A := A.pick [] [i]) (vals := [.bool b, .row 0]) (n0 := 0) (b0 := 0) (rows := [some ⟨aT, e, false, xs⟩]) (hp := []) rfl (Nat.zero_le _) no_box rfl (one_row (hR i _ hi)) rfl rfl (Nat.le_of_ble_eq_true rfl) ?_
    conv => whnf
    repeat (refine V_step T_ok (GOk.cons anglesCode2_ok .nil) rfl ?_; conv => whnf)
    repeat (any_goals (first
      | (refine V_step T_ok (GOk.cons anglesCode2_ok .nil) rfl ?_; conv => whnf)
      | (refine V_drawA T_ok (GOk.cons anglesCode2_ok .nil) mixed (by kernel_rfl) ?_; conv => whnf)
      | (refine bcond_split (fun hc => ?_) (fun hc => ?_) <;> (try simp only [decide_eq_true_eq, decide_eq_false_iff_not, Bool.not_eq_true', Bool.not_eq_false', Bool.and_eq_true, Bool.or_eq_true, Bool.and_eq_false_imp, Bool.or_eq_false_iff, ne_eq, Decidable.not_not] at hc) <;> conv => whnf)
      | (intro ysK hysK; have hysl := congrArg List.length hysK; (try simp only [List.length_set, List.length_append, List.length_cons, List.length_nil, List.length_take, List.length_drop, List.length_replicate] at hysl); conv => whnf)
      | (intro bK hbK; have hbl := congrArg ByteArray.size hbK; conv => whnf)
      | (intro sK hsK; conv => whnf)
      | (refine And.intro (by first | exact True.intro | (with_reducible assumption) | omega | (simp only [Rng]; omega) | exact Nat.le_of_ble_eq_true rfl | exact True.intro | exact ⟨rfl, True.intro, fun _ _ => rfl⟩ | exact Nat.le_of_ble_eq_true rfl | (refine ⟨by (try simp only [List.length_cons, List.length_nil]); omega, Int.le_trans (Int.mul_le_mul_of_nonneg_left (show (TInfo.bytes _ : Int) ≤ 64 from Int.ofNat_le.2 (Nat.le_of_ble_eq_true rfl)) (by omega)) (by (try simp only [List.length_cons, List.length_nil]); omega)⟩)) ?_; conv => whnf)))
    · have h1 : (xs : List Ang).all allAY = false := by
        rcases hb : (xs : List Ang).all allAY with _ | _
        · rfl
        · exact absurd (show (if (xs : List Ang).all allAY = true then (0 : Int) else 1) = 0 by rw [hb]; rfl) hc
      exact leaf0 rfl (congrArg (AVal.int .i64) (by rw [h1]; rfl)) rfl
    · rename_i h0
      have h1 : (xs : List Ang).all allAY = true := by
        rcases hb : (xs : List Ang).all allAY with _ | _
        · have h0 : (if (xs : List Ang).all allAY = true then (0 : Int) else 1) = 0 := h0
          rw [hb] at h0; cases h0
        · rfl
      exact leaf0 rfl (congrArg (AVal.int .i64) (by rw [h1, hc]; rfl)) rfl
    · rename_i h0
      have h1 : (xs : List Ang).all allAY = true := by
        rcases hb : (xs : List Ang).all allAY with _ | _
        · have h0 : (if (xs : List Ang).all allAY = true then (0 : Int) else 1) = 0 := h0
          rw [hb] at h0; cases h0
        · rfl
      exact leaf0 rfl (congrArg (AVal.int .i64) (by rw [h1, hc]; rfl)) rfl
abbrev OkN (n : Int) : Prop := 1 ≤ n ∧ n ≤ 63
open Classical in
@[irreducible] noncomputable def cloR (t : Ang) (n : Int) : List (List Int) × Int := if IsA t then (if OkN n then (cls1 t n, 0) else ([], 2)) else ([], 1)
theorem cloR_i {t : Ang} {n : Int} (h : ¬ IsA t) : cloR t n = ([], 1) := by unfold cloR; rw [if_neg h]
theorem cloR_r {t : Ang} {n : Int} (h : IsA t) (h2 : ¬ OkN n) : cloR t n = ([], 2) := by unfold cloR; rw [if_pos h, if_neg h2]
theorem cloR_t {t : Ang} {n : Int} (h : IsA t) (h2 : OkN n) : cloR t n = (cls1 t n, 0) := by unfold cloR; rw [if_pos h, if_pos h2]
open Classical in
@[irreducible] noncomputable def jocR (t u : Ang) (n : Int) : List (List Int) × Int := if IsA t ∧ IsA u then (if OkN n then (cls2 t u n, 0) else ([], 2)) else ([], 1)
theorem jocR_i {t u : Ang} {n : Int} (h : ¬ (IsA t ∧ IsA u)) : jocR t u n = ([], 1) := by unfold jocR; rw [if_neg h]
theorem jocR_r {t u : Ang} {n : Int} (h : IsA t ∧ IsA u) (h2 : ¬ OkN n) : jocR t u n = ([], 2) := by unfold jocR; rw [if_pos h, if_neg h2]
theorem jocR_t {t u : Ang} {n : Int} (h : IsA t ∧ IsA u) (h2 : OkN n) : jocR t u n = (cls2 t u n, 0) := by unfold jocR; rw [if_pos h, if_pos h2]
theorem code1 (t : Ang) (b : Bool) : ((if [t].all allAY = true then (if b = true then (0 : Int) else 2) else 1) = 0 ↔ IsA t ∧ b = true) ∧ (¬ IsA t → (if [t].all allAY = true then (if b = true then (0 : Int) else 2) else 1) = 1) ∧ (IsA t → b = false → (if [t].all allAY = true then (if b = true then (0 : Int) else 2) else 1) = 2) := by
  by_cases h : IsA t <;> cases b <;> simp [allAY, h]
theorem code2 (t u : Ang) (b : Bool) : ((if [t, u].all allAY = true then (if b = true then (0 : Int) else 2) else 1) = 0 ↔ (IsA t ∧ IsA u) ∧ b = true) ∧ (¬ (IsA t ∧ IsA u) → (if [t, u].all allAY = true then (if b = true then (0 : Int) else 2) else 1) = 1) ∧ (IsA t ∧ IsA u → b = false → (if [t, u].all allAY = true then (if b = true then (0 : Int) else 2) else 1) = 2) := by
  by_cases h : IsA t <;> by_cases h' : IsA u <;> cases b <;> simp [allAY, h, h']
theorem code1P {t : Ang} {n : Int} : (if [t].all allAY = true then (if 1 ≤ n ∧ n ≤ 63 then (0 : Int) else 2) else 1) = 0 ↔ IsA t ∧ OkN n := by
  have := (code1 t (decide (OkN n))).1
  simp only [decide_eq_true_iff] at this
  exact this
theorem code2P {t u : Ang} {n : Int} : (if [t, u].all allAY = true then (if 1 ≤ n ∧ n ≤ 63 then (0 : Int) else 2) else 1) = 0 ↔ (IsA t ∧ IsA u) ∧ OkN n := by
  have := (code2 t u (decide (OkN n))).1
  simp only [decide_eq_true_iff] at this
  exact this
def cloC : PCtr := fun _ _ lr vals k => match vals with
  | [.agg [.int .i64 a, .int .i64 b], .int .i64 n] => True ∧ ∀ q : List (List Int) × Int, q = cloR (a, b) n → k [⟨rT1, 41, true, q.1⟩] (.tup [.row lr, .int .i64 q.2])
  | _ => False
abbrev GCl := (GOk.cons isParts_ok (GOk.cons pcode_ok (GOk.cons clsOf_ok .nil)))
theorem classesOf_ok : PCtrOk Try.prog 6 cloC where
  enter := enter_ok Try.func6 (by kernel_rfl) rfl
  calls := by
    intro hg rg lr vals k h
    unfold cloC at h
    split at h
    case h_2 => exact h.elim
    rename_i a b n
    obtain ⟨_, hk⟩ := h
    replace hk := hk _ rfl
    refine ⟨_, _, hk, fun A w _ _ => ?_⟩
    refine enter T_ok GCl Try.func6 rfl (K := (· < w.heap.size)) (fun _ h => h) (A := A) (n0 := 0) (b0 := 0) (rows := []) (hp := []) rfl (Nat.zero_le _) (fun k r h => by cases h) rfl (fun k r h => by cases h) rfl rfl (Nat.le_of_ble_eq_true rfl) ?_
    conv => whnf
    repeat (refine V_step T_ok GCl rfl ?_; conv => whnf)
    repeat (any_goals (first
      | (refine V_step T_ok GCl rfl ?_; conv => whnf)
      | (refine V_drawN T_ok GCl mixed (by kernel_rfl) ?_; conv => whnf)
      | (refine bcond_split (fun hc => ?_) (fun hc => ?_) <;> (try simp only [decide_eq_true_eq, decide_eq_false_iff_not, Bool.not_eq_true', Bool.not_eq_false', Bool.and_eq_true, Bool.or_eq_true, Bool.and_eq_false_imp, Bool.or_eq_false_iff, ne_eq, Decidable.not_not] at hc) <;> conv => whnf)
      | (intro ysK hysK; have hysl := congrArg List.length hysK; (try simp only [List.length_set, List.length_append, List.length_cons, List.length_nil, List.length_take, List.length_drop, List.length_replicate] at hysl); conv => whnf)
      | (intro bK hbK; have hbl := congrArg ByteArray.size hbK; conv => whnf)
      | (intro sK hsK; conv => whnf)
      | (refine And.intro (by first | (first | exact True.intro | exact code1P.1 (by assumption)) | exact True.intro | exact ⟨rfl, True.intro, fun _ _ => rfl⟩ | exact Nat.le_of_ble_eq_true rfl | (refine ⟨by (try simp only [List.length_cons, List.length_nil]); omega, Int.le_trans (Int.mul_le_mul_of_nonneg_left (show (TInfo.bytes _ : Int) ≤ 64 from Int.ofNat_le.2 (Nat.le_of_ble_eq_true rfl)) (by omega)) (by (try simp only [List.length_cons, List.length_nil]); omega)⟩)) ?_; conv => whnf)))
    · by_cases h1 : IsA (a, b)
      · have h2 : ¬ OkN n := fun h => hc (code1P.2 ⟨h1, h⟩)
        have e1 := (code1 (a, b) (decide (OkN n))).2.2 h1 (decide_eq_false h2)
        rw [cloR_r h1 h2]
        exact leafN rfl rfl (fun B C h => by simp only [AVal.den, dens, h]; exact congrArg (fun z => Value.tuple #[Value.slice none 0 0, Value.int .i64 z]) e1)
      · have e1 := (code1 (a, b) (decide (OkN n))).2.1 h1
        rw [cloR_i h1]
        exact leafN rfl rfl (fun B C h => by simp only [AVal.den, dens, h]; exact congrArg (fun z => Value.tuple #[Value.slice none 0 0, Value.int .i64 z]) e1)
    · obtain ⟨h1, h2⟩ := code1P.1 hc
      rw [cloR_t h1 h2]
      exact leaf1 1 rfl rfl (congrArg (fun ys => (⟨rT1, 41, true, ys⟩ : Row)) hysK) rfl (fun B C h => by simp [AVal.den, dens, h])
def jocC : PCtr := fun _ _ lr vals k => match vals with
  | [.agg [.int .i64 a, .int .i64 b], .agg [.int .i64 c, .int .i64 d], .int .i64 n] => True ∧ ∀ q : List (List Int) × Int, q = jocR (a, b) (c, d) n → k [⟨rT1, 41, true, q.1⟩] (.tup [.row lr, .int .i64 q.2])
  | _ => False
abbrev GJc := (GOk.cons isParts_ok (GOk.cons pcode_ok (GOk.cons joined_ok .nil)))
theorem joinedClasses_ok : PCtrOk Try.prog 10 jocC where
  enter := enter_ok Try.func10 (by kernel_rfl) rfl
  calls := by
    intro hg rg lr vals k h
    unfold jocC at h
    split at h
    case h_2 => exact h.elim
    rename_i a b c d n
    obtain ⟨_, hk⟩ := h
    replace hk := hk _ rfl
    refine ⟨_, _, hk, fun A w _ _ => ?_⟩
    refine enter T_ok GJc Try.func10 rfl (K := (· < w.heap.size)) (fun _ h => h) (A := A) (n0 := 0) (b0 := 0) (rows := []) (hp := []) rfl (Nat.zero_le _) (fun k r h => by cases h) rfl (fun k r h => by cases h) rfl rfl (Nat.le_of_ble_eq_true rfl) ?_
    conv => whnf
    repeat (refine V_step T_ok GJc rfl ?_; conv => whnf)
    repeat (any_goals (first
      | (refine V_step T_ok GJc rfl ?_; conv => whnf)
      | (refine V_drawN T_ok GJc mixed (by kernel_rfl) ?_; conv => whnf)
      | (refine bcond_split (fun hc => ?_) (fun hc => ?_) <;> (try simp only [decide_eq_true_eq, decide_eq_false_iff_not, Bool.not_eq_true', Bool.not_eq_false', Bool.and_eq_true, Bool.or_eq_true, Bool.and_eq_false_imp, Bool.or_eq_false_iff, ne_eq, Decidable.not_not] at hc) <;> conv => whnf)
      | (intro ysK hysK; have hysl := congrArg List.length hysK; (try simp only [List.length_set, List.length_append, List.length_cons, List.length_nil, List.length_take, List.length_drop, List.length_replicate] at hysl); conv => whnf)
      | (intro bK hbK; have hbl := congrArg ByteArray.size hbK; conv => whnf)
      | (intro sK hsK; conv => whnf)
      | (refine And.intro (by first | (first | exact True.intro | exact code2P.1 (by assumption)) | exact True.intro | exact ⟨rfl, True.intro, fun _ _ => rfl⟩ | exact Nat.le_of_ble_eq_true rfl | (refine ⟨by (try simp only [List.length_cons, List.length_nil]); omega, Int.le_trans (Int.mul_le_mul_of_nonneg_left (show (TInfo.bytes _ : Int) ≤ 64 from Int.ofNat_le.2 (Nat.le_of_ble_eq_true rfl)) (by omega)) (by (try simp only [List.length_cons, List.length_nil]); omega)⟩)) ?_; conv => whnf)))
    · by_cases h1 : IsA (a, b) ∧ IsA (c, d)
      · have h2 : ¬ OkN n := fun h => hc (code2P.2 ⟨h1, h⟩)
        have e1 := (code2 (a, b) (c, d) (decide (OkN n))).2.2 h1 (decide_eq_false h2)
        rw [jocR_r h1 h2]
        exact leafN rfl rfl (fun B C h => by simp only [AVal.den, dens, h]; exact congrArg (fun z => Value.tuple #[Value.slice none 0 0, Value.int .i64 z]) e1)
      · have e1 := (code2 (a, b) (c, d) (decide (OkN n))).2.1 h1
        rw [jocR_i h1]
        exact leafN rfl rfl (fun B C h => by simp only [AVal.den, dens, h]; exact congrArg (fun z => Value.tuple #[Value.slice none 0 0, Value.int .i64 z]) e1)
    · obtain ⟨h1, h2⟩ := code2P.1 hc
      rw [jocR_t h1 h2]
      exact leaf1 1 rfl rfl (congrArg (fun ys => (⟨rT1, 41, true, ys⟩ : Row)) hysK) rfl (fun B C h => by simp [AVal.den, dens, h])
end Go.Proofs.Ytllagpbbbdekiac.Fw
