/- Contracts: the program's wakes about angles. -/
import Derived.Test.YtlplngafncobkabQ4
import Derived.Test.YtlplngafncobkabQ5
namespace Go.Proofs.Ytlplngafncobkab.Fw
open Go Go.RowKit
set_option linter.unusedVariables false
set_option linter.unusedSimpArgs false
set_option maxRecDepth 100000
set_option maxHeartbeats 2000000

/-- A box with a function value whose first argument is a leaf. -/
def boxFL (o : Option (List AVal)) (f : FuncId) (X : Lf → Prop) : Prop :=
  match o with
  | some [.fn g [.agg [.int .i64 a, .int .i64 b, .int .i64 c, .int .i64 d]] []] => (match Nat.beq g f with | true => X ((a, b), (c, d)) | false => False)
  | _ => False
theorem boxFL_inv {o : Option (List AVal)} {f : FuncId} {X : Lf → Prop} (h : boxFL o f X) : ∃ p : Lf, o = some [.fn f [.agg [.int .i64 p.1.1, .int .i64 p.1.2, .int .i64 p.2.1, .int .i64 p.2.2]] []] ∧ X p := by
  unfold boxFL at h
  split at h
  · split at h
    · rename_i hb
      rw [Nat.eq_of_beq_eq_true hb]
      exact ⟨_, rfl, h⟩
    · exact h.elim
  · exact h.elim
def arB (p : Lf) (x : Ang) : Bool := inW x p
def wa1C : PCtr := fun hg rg _ vals k => match vals with
  | [.agg [.int .i64 n, .int .i64 d], .loc j 0] => boxFL (hg j) 93 fun p0 => ((IsL p0) ∧ IsA (n, d)) ∧ k [] (.bool (!(arB p0) (n, d)))
  | _ => False
theorem wa1_ok : PCtrOk Try.prog 121 wa1C where
  enter := enter_ok Try.func121 (by kernel_rfl) rfl
  calls := by
    intro hg rg lr vals k h
    unfold wa1C at h
    split at h
    case h_2 => exact h.elim
    rename_i n d j
    obtain ⟨p0, hj, h⟩ := boxFL_inv h
    obtain ⟨⟨hE, hx⟩, hk⟩ := h
    refine ⟨_, _, hk, fun A w hB hR => ?_⟩
    refine enter T_ok (GOk.cons ar_ok .nil) Try.func121 rfl (K := (· < w.heap.size)) (fun _ h => h) (A := A.pick [j] []) (vals := [.agg [.int .i64 n, .int .i64 d], .loc 0 0]) (n0 := 0) (b0 := 1) (rows := []) (hp := [some [.fn 93 [.agg [.int .i64 p0.1.1, .int .i64 p0.1.2, .int .i64 p0.2.1, .int .i64 p0.2.2]] []]]) rfl (Nat.zero_le _) (fun i9 cs h9 => by
      match i9, h9 with
      | 0, h9 => cases h9; exact box_lt (hB j _ hj)
      | i9 + 1, h9 => simp [nthj] at h9) rfl no_row rfl rfl (Nat.le_of_ble_eq_true rfl) ?_
    conv => whnf
    repeat (refine V_step T_ok (GOk.cons ar_ok .nil) rfl ?_; conv => whnf)
    repeat (any_goals (first
      | (refine V_step T_ok (GOk.cons ar_ok .nil) rfl ?_; conv => whnf)
      | (refine V_drawA T_ok (GOk.cons ar_ok .nil) mixed (by kernel_rfl) ?_; conv => whnf)
      | (refine bcond_split (fun hc => ?_) (fun hc => ?_) <;> (try simp only [decide_eq_true_eq, decide_eq_false_iff_not, Bool.not_eq_true', Bool.not_eq_false', Bool.and_eq_true, Bool.or_eq_true, Bool.and_eq_false_imp, Bool.or_eq_false_iff, ne_eq, Decidable.not_not] at hc) <;> conv => whnf)
      | (intro ysK hysK; have hysl := congrArg List.length hysK; (try simp only [List.length_set, List.length_append, List.length_cons, List.length_nil, List.length_take, List.length_drop, List.length_replicate] at hysl); conv => whnf)
      | (refine And.intro (by first | (first | exact True.intro | exact ⟨hE, hx⟩) | exact True.intro | exact Nat.le_of_ble_eq_true rfl | (refine ⟨by (try simp only [List.length_cons, List.length_nil]); omega, Int.le_trans (Int.mul_le_mul_of_nonneg_left (show (TInfo.bytes _ : Int) ≤ 64 from Int.ofNat_le.2 (Nat.le_of_ble_eq_true rfl)) (by omega)) (by (try simp only [List.length_cons, List.length_nil]); omega)⟩)) ?_; conv => whnf)))
    all_goals exact leaf0 rfl rfl rfl

def waxC : PCtr := fun hg rg _ vals k => match vals with
  | [.row i, .fn f [] [.loc j 0]] => isF f 121 (rowC aT (rg i) fun xs => boxFL (hg j) 93 fun p0 => ((IsL p0) ∧ ∀ x ∈ (xs : List Ang), IsA x) ∧ k [] (.int .i64 (idxP (α := Ang) (fun x => !(arB p0) x) xs)))
  | _ => False
theorem wax_ok : PCtrOk Try.prog 113 waxC where
  enter := enter_ok Try.func113 (by kernel_rfl) rfl
  calls := by
    intro hg rg lr vals k h
    unfold waxC at h
    split at h
    case h_2 => exact h.elim
    rename_i i f j
    obtain ⟨rfl, h⟩ := isF_inv h
    obtain ⟨e, own, xs, hi, h⟩ : ∃ e own, ∃ (xs : List Ang), _ := rowC_inv h
    obtain ⟨p0, hj, h⟩ := boxFL_inv h
    obtain ⟨⟨hE, hx⟩, hk⟩ := h
    refine ⟨_, _, hk, fun A w hB hR => ?_⟩
    refine enter T_ok (GOk.cons wa1_ok .nil) Try.func113 rfl (K := (· < w.heap.size)) (fun _ h => h) (A := A.pick [j] [i]) (vals := [.row 0, .fn 121 [] [.loc 0 0]]) (n0 := 0) (b0 := 1) (rows := [some ⟨aT, e, false, xs⟩]) (hp := [some [.fn 93 [.agg [.int .i64 p0.1.1, .int .i64 p0.1.2, .int .i64 p0.2.1, .int .i64 p0.2.2]] []]]) rfl (Nat.zero_le _) (fun i9 cs h9 => by
      match i9, h9 with
      | 0, h9 => cases h9; exact box_lt (hB j _ hj)
      | i9 + 1, h9 => simp [nthj] at h9) rfl (fun i9 r h9 => by
      match i9, h9 with
      | 0, h9 => cases h9; exact ⟨rfl, RowsAt.ro (hR i _ hi)⟩
      | i9 + 1, h9 => simp [nthj] at h9) rfl rfl (Nat.le_of_ble_eq_true rfl) ?_
    conv => whnf
    repeat (refine V_step T_ok (GOk.cons wa1_ok .nil) rfl ?_; conv => whnf)
    have hcap' : (@List.length (TyC.α aT) xs : Int) ≤ 9223372036854775807 := by
      have h1 := (hR i _ hi).len
      have h2 := (hR i _ hi).cap
      have h3 := (hR i _ hi).max
      simp only at h1
      have : maxLen = 9223372036854775807 := rfl
      omega
    have hcap : (xs.length : Int) ≤ 9223372036854775807 := hcap'
    have hx' : ∀ n : Nat, (n : Int) < (List.length (α := Ang) xs : Nat) → IsA (xs.getD n aT.dflt) := fun n hn => hx _ (getD_mem (by omega))
    refine V_loopH (γ := Nat) (fun n => n ≤ xs.length ∧ ∀ j, j < n → (fun x => !(arB p0) x) (xs.getD j aT.dflt) = false) (fun n => xs.length - n)
      (fun n => [(8, .int .i64 n)]) (fun _ => []) (fun _ => []) 0 ⟨Nat.zero_le _, fun j h => absurd h (Nat.not_lt_zero _)⟩ ?_ ?_
    · conv => whnf
      refine ⟨?_, by (conv => whnf); repeat (first | exact True.intro | (refine And.intro rfl ?_; conv => whnf)), by (conv => whnf); repeat (first | exact True.intro | (refine And.intro (by first | rfl | (subst_vars; rfl)) ?_; conv => whnf)), rfl, rfl, rfl, rfl, rfl, rfl, rfl, Nat.le_of_ble_eq_true rfl, Nat.le_of_ble_eq_true rfl⟩
      conv => whnf
      repeat (first | exact True.intro | (refine And.intro (by first | rfl | ((conv => whnf); exact congrArg (AVal.int .i64) (by omega)) | ((conv => whnf); exact congrArg (AVal.int .i64) (by simp only [Int.natCast_add, Int.natCast_one]; omega))) ?_; conv => whnf))
    · rintro n ⟨h1, h2⟩
      conv => whnf
      refine vcCode_sound T_ok (GOk.cons wa1_ok .nil) _ _ _ _ _ ?_
      conv => whnf
      repeat (refine V_step T_ok (GOk.cons wa1_ok .nil) rfl ?_; conv => whnf)
      repeat (any_goals (first
        | (refine V_step T_ok (GOk.cons wa1_ok .nil) rfl ?_; conv => whnf)
        | (refine V_drawA T_ok (GOk.cons wa1_ok .nil) mixed (by kernel_rfl) ?_; conv => whnf)
        | (refine bcond_split (fun hc => ?_) (fun hc => ?_) <;> (try simp only [decide_eq_true_eq, decide_eq_false_iff_not, Bool.not_eq_true', Bool.not_eq_false', Bool.and_eq_true, Bool.or_eq_true, Bool.and_eq_false_imp, Bool.or_eq_false_iff, ne_eq, Decidable.not_not] at hc) <;> conv => whnf)
        | (intro ysK hysK; have hysl := congrArg List.length hysK; (try simp only [List.length_set, List.length_append, List.length_cons, List.length_nil, List.length_take, List.length_drop, List.length_replicate] at hysl); conv => whnf)
        | (refine And.intro (by first | (first | exact True.intro | omega | (simp only [Rng]; omega) | exact ⟨hE, hx' n (by assumption)⟩) | exact True.intro | exact Nat.le_of_ble_eq_true rfl | (refine ⟨by (try simp only [List.length_cons, List.length_nil]); omega, Int.le_trans (Int.mul_le_mul_of_nonneg_left (show (TInfo.bytes _ : Int) ≤ 64 from Int.ofNat_le.2 (Nat.le_of_ble_eq_true rfl)) (by omega)) (by (try simp only [List.length_cons, List.length_nil]); omega)⟩)) ?_; conv => whnf)))
      · rename_i hc0
        have hl : (n : Int) < (xs.length : Nat) := hc0
        exact leaf0 rfl (congrArg (AVal.int .i64) (idxP_found (fun x => !(arB p0) x) xs n aT.dflt (by omega) h2 (by first | exact hc | exact congrArg not hc | (simp only [Bool.not_not]; exact hc))).symm) rfl
      · rename_i hc0
        have hl : (n : Int) < (xs.length : Nat) := hc0
        refine ⟨n + 1, ⟨by omega, fun j hj => ?_⟩, by omega, ?_⟩
        · rcases Nat.lt_or_ge j n with h | h
          · exact h2 j h
          · obtain rfl : j = n := by omega
            first | exact hc | exact congrArg not hc | (simp only [Bool.not_not]; exact hc)
        · conv => whnf
          refine ⟨?_, by (conv => whnf); repeat (first | exact True.intro | (refine And.intro rfl ?_; conv => whnf)), by (conv => whnf); repeat (first | exact True.intro | (refine And.intro (by first | rfl | (subst_vars; rfl)) ?_; conv => whnf)), rfl, rfl, rfl, rfl, rfl, rfl, rfl, Nat.le_of_ble_eq_true rfl, Nat.le_of_ble_eq_true rfl⟩
          conv => whnf
          repeat (first | exact True.intro | (refine And.intro (by first | rfl | ((conv => whnf); exact congrArg (AVal.int .i64) (by omega)) | ((conv => whnf); exact congrArg (AVal.int .i64) (by simp only [Int.natCast_add, Int.natCast_one]; omega))) ?_; conv => whnf))
      · have hl : ¬ (n : Int) < (xs.length : Nat) := hc
        exact leaf0 rfl (congrArg (AVal.int .i64) (idxP_none (fun x => !(arB p0) x) xs aT.dflt (fun j hj => h2 j (by omega))).symm) rfl

def wacC : PCtr := fun hg rg _ vals k => match vals with
  | [.row i, .fn f [] [.loc j 0]] => isF f 121 (rowC aT (rg i) fun xs => boxFL (hg j) 93 fun p0 => ((IsL p0) ∧ ∀ x ∈ (xs : List Ang), IsA x) ∧ k [] (.bool (List.any (α := Ang) xs (fun x => !(arB p0) x))))
  | _ => False
theorem wac_ok : PCtrOk Try.prog 120 wacC where
  enter := enter_ok Try.func120 (by kernel_rfl) rfl
  calls := by
    intro hg rg lr vals k h
    unfold wacC at h
    split at h
    case h_2 => exact h.elim
    rename_i i f j
    obtain ⟨rfl, h⟩ := isF_inv h
    obtain ⟨e, own, xs, hi, h⟩ : ∃ e own, ∃ (xs : List Ang), _ := rowC_inv h
    obtain ⟨p0, hj, h⟩ := boxFL_inv h
    obtain ⟨⟨hE, hx⟩, hk⟩ := h
    refine ⟨_, _, hk, fun A w hB hR => ?_⟩
    refine enter T_ok (GOk.cons wax_ok .nil) Try.func120 rfl (K := (· < w.heap.size)) (fun _ h => h) (A := A.pick [j] [i]) (vals := [.row 0, .fn 121 [] [.loc 0 0]]) (n0 := 0) (b0 := 1) (rows := [some ⟨aT, e, false, xs⟩]) (hp := [some [.fn 93 [.agg [.int .i64 p0.1.1, .int .i64 p0.1.2, .int .i64 p0.2.1, .int .i64 p0.2.2]] []]]) rfl (Nat.zero_le _) (fun i9 cs h9 => by
      match i9, h9 with
      | 0, h9 => cases h9; exact box_lt (hB j _ hj)
      | i9 + 1, h9 => simp [nthj] at h9) rfl (fun i9 r h9 => by
      match i9, h9 with
      | 0, h9 => cases h9; exact ⟨rfl, RowsAt.ro (hR i _ hi)⟩
      | i9 + 1, h9 => simp [nthj] at h9) rfl rfl (Nat.le_of_ble_eq_true rfl) ?_
    conv => whnf
    repeat (refine V_step T_ok (GOk.cons wax_ok .nil) rfl ?_; conv => whnf)
    repeat (any_goals (first
      | (refine V_step T_ok (GOk.cons wax_ok .nil) rfl ?_; conv => whnf)
      | (refine V_drawA T_ok (GOk.cons wax_ok .nil) mixed (by kernel_rfl) ?_; conv => whnf)
      | (refine bcond_split (fun hc => ?_) (fun hc => ?_) <;> (try simp only [decide_eq_true_eq, decide_eq_false_iff_not, Bool.not_eq_true', Bool.not_eq_false', Bool.and_eq_true, Bool.or_eq_true, Bool.and_eq_false_imp, Bool.or_eq_false_iff, ne_eq, Decidable.not_not] at hc) <;> conv => whnf)
      | (intro ysK hysK; have hysl := congrArg List.length hysK; (try simp only [List.length_set, List.length_append, List.length_cons, List.length_nil, List.length_take, List.length_drop, List.length_replicate] at hysl); conv => whnf)
      | (refine And.intro (by first | (first | exact ⟨hE, hx⟩ | exact True.intro) | exact True.intro | exact Nat.le_of_ble_eq_true rfl | (refine ⟨by (try simp only [List.length_cons, List.length_nil]); omega, Int.le_trans (Int.mul_le_mul_of_nonneg_left (show (TInfo.bytes _ : Int) ≤ 64 from Int.ofNat_le.2 (Nat.le_of_ble_eq_true rfl)) (by omega)) (by (try simp only [List.length_cons, List.length_nil]); omega)⟩)) ?_; conv => whnf)))
    all_goals exact leaf0 rfl (congrArg AVal.bool (idxP_any (fun x => !(arB p0) x) xs)) rfl

def waC : PCtr := fun hg rg _ vals k => match vals with
  | [.row i, .fn f [.agg [.int .i64 a0, .int .i64 b0, .int .i64 c0, .int .i64 d0]] []] => isF f 93 (rowC aT (rg i) fun xs => ((IsL ((a0, b0), (c0, d0))) ∧ ∀ x ∈ (xs : List Ang), IsA x) ∧ k [] (.bool (List.all (α := Ang) xs (arB ((a0, b0), (c0, d0))))))
  | _ => False
theorem wa_ok : PCtrOk Try.prog 92 waC where
  enter := enter_ok Try.func92 (by kernel_rfl) rfl
  calls := by
    intro hg rg lr vals k h
    unfold waC at h
    split at h
    case h_2 => exact h.elim
    rename_i i f a0 b0 c0 d0
    obtain ⟨rfl, h⟩ := isF_inv h
    obtain ⟨e, own, xs, hi, h⟩ : ∃ e own, ∃ (xs : List Ang), _ := rowC_inv h
    obtain ⟨⟨hE, hx⟩, hk⟩ := h
    refine ⟨_, _, hk, fun A w hB hR => ?_⟩
    refine enter T_ok (GOk.cons wac_ok .nil) Try.func92 rfl (K := (· < w.heap.size)) (fun _ h => h) (A := A.pick [] [i]) (vals := [.row 0, .fn 93 [.agg [.int .i64 a0, .int .i64 b0, .int .i64 c0, .int .i64 d0]] []]) (n0 := 0) (b0 := 0) (rows := [some ⟨aT, e, false, xs⟩]) (hp := []) rfl (Nat.zero_le _) no_box rfl (fun i9 r h9 => by
      match i9, h9 with
      | 0, h9 => cases h9; exact ⟨rfl, RowsAt.ro (hR i _ hi)⟩
      | i9 + 1, h9 => simp [nthj] at h9) rfl rfl (Nat.le_of_ble_eq_true rfl) ?_
    conv => whnf
    repeat (refine V_step T_ok (GOk.cons wac_ok .nil) rfl ?_; conv => whnf)
    repeat (any_goals (first
      | (refine V_step T_ok (GOk.cons wac_ok .nil) rfl ?_; conv => whnf)
      | (refine V_drawA T_ok (GOk.cons wac_ok .nil) mixed (by kernel_rfl) ?_; conv => whnf)
      | (refine bcond_split (fun hc => ?_) (fun hc => ?_) <;> (try simp only [decide_eq_true_eq, decide_eq_false_iff_not, Bool.not_eq_true', Bool.not_eq_false', Bool.and_eq_true, Bool.or_eq_true, Bool.and_eq_false_imp, Bool.or_eq_false_iff, ne_eq, Decidable.not_not] at hc) <;> conv => whnf)
      | (intro ysK hysK; have hysl := congrArg List.length hysK; (try simp only [List.length_set, List.length_append, List.length_cons, List.length_nil, List.length_take, List.length_drop, List.length_replicate] at hysl); conv => whnf)
      | (refine And.intro (by first | (first | exact ⟨hE, hx⟩ | exact True.intro) | exact True.intro | exact Nat.le_of_ble_eq_true rfl | (refine ⟨by (try simp only [List.length_cons, List.length_nil]); omega, Int.le_trans (Int.mul_le_mul_of_nonneg_left (show (TInfo.bytes _ : Int) ≤ 64 from Int.ofNat_le.2 (Nat.le_of_ble_eq_true rfl)) (by omega)) (by (try simp only [List.length_cons, List.length_nil]); omega)⟩)) ?_; conv => whnf)))
    all_goals exact leaf0 rfl (congrArg AVal.bool (not_any_not (arB ((a0, b0), (c0, d0))) xs)) rfl



def notAll (lst : List Ang) (p : Lf) : Bool := !lst.all (arB p)
def wkC : PCtr := fun hg rg _ vals k => match vals with
  | [.agg [.int .i64 n, .int .i64 d, .int .i64 m, .int .i64 e], .loc qlst 0] => boxR (hg qlst) fun rlst => rowC aT (rg rlst) fun lst => ((∀ x ∈ (lst : List Ang), IsA x) ∧ IsL ((n, d), (m, e))) ∧ k [] (.bool (notAll lst ((n, d), (m, e))))
  | _ => False
theorem wk_ok : PCtrOk Try.prog 91 wkC where
  enter := enter_ok Try.func91 (by kernel_rfl) rfl
  calls := by
    intro hg rg lr vals k h
    unfold wkC at h
    split at h
    case h_2 => exact h.elim
    rename_i n d m e qlst
    obtain ⟨rlst, hqlst, h⟩ := boxR_inv h
    obtain ⟨elst, ownlst, lst, hrlst, h⟩ : ∃ e own, ∃ (xs : List (TyC.α aT)), _ := rowC_inv h
    obtain ⟨⟨hE, hx⟩, hk⟩ := h
    refine ⟨_, _, hk, fun A w hB hR => ?_⟩
    refine enter T_ok (GOk.cons wa_ok .nil) Try.func91 rfl (K := (· < w.heap.size)) (fun _ h => h) (A := A.pick [qlst] [rlst]) (vals := [.agg [.int .i64 n, .int .i64 d, .int .i64 m, .int .i64 e], .loc 0 0]) (n0 := 0) (b0 := 1) (rows := [some ⟨aT, elst, false, lst⟩]) (hp := [some [.row 0]]) rfl (Nat.zero_le _) (fun i9 cs h9 => by
      match i9, h9 with
      | 0, h9 => cases h9; exact box_lt (hB qlst _ hqlst)
      | i9 + 1, h9 => simp [nthj] at h9) rfl (fun i9 r h9 => by
      match i9, h9 with
      | 0, h9 => cases h9; exact ⟨rfl, RowsAt.ro (hR rlst _ hrlst)⟩
      | i9 + 1, h9 => simp [nthj] at h9) rfl rfl (Nat.le_of_ble_eq_true rfl) ?_
    conv => whnf
    repeat (refine V_step T_ok (GOk.cons wa_ok .nil) rfl ?_; conv => whnf)

    repeat (any_goals (first
      | (refine V_step T_ok (GOk.cons wa_ok .nil) rfl ?_; conv => whnf)
      | (refine V_drawA T_ok (GOk.cons wa_ok .nil) mixed (by kernel_rfl) ?_; conv => whnf)
      | (refine bcond_split (fun hc => ?_) (fun hc => ?_) <;> (try simp only [decide_eq_true_eq, decide_eq_false_iff_not, Bool.not_eq_true', Bool.not_eq_false', Bool.and_eq_true, Bool.or_eq_true, Bool.and_eq_false_imp, Bool.or_eq_false_iff, ne_eq, Decidable.not_not] at hc) <;> conv => whnf)
      | (intro ysK hysK; have hysl := congrArg List.length hysK; (try simp only [List.length_set, List.length_append, List.length_cons, List.length_nil, List.length_take, List.length_drop, List.length_replicate] at hysl); conv => whnf)
      | (refine And.intro (by first | (first | exact True.intro | exact ⟨hx, hE⟩) | exact True.intro | exact Nat.le_of_ble_eq_true rfl | (refine ⟨by (try simp only [List.length_cons, List.length_nil]); omega, Int.le_trans (Int.mul_le_mul_of_nonneg_left (show (TInfo.bytes _ : Int) ≤ 64 from Int.ofNat_le.2 (Nat.le_of_ble_eq_true rfl)) (by omega)) (by (try simp only [List.length_cons, List.length_nil]); omega)⟩)) ?_; conv => whnf)))
    all_goals exact leaf0 rfl rfl rfl

def wkxC : PCtr := fun hg rg _ vals k => match vals with
  | [.row i, .fn f [] [.loc qlst 0]] => isF f 91 (rowC lT (rg i) fun xs => boxR (hg qlst) fun rlst => rowC aT (rg rlst) fun lst => ((∀ x ∈ (lst : List Ang), IsA x) ∧ ∀ x ∈ (xs : List Lf), IsL x) ∧ k [] (.int .i64 (idxP (α := Lf) (notAll lst) xs)))
  | _ => False
theorem wkx_ok : PCtrOk Try.prog 68 wkxC where
  enter := enter_ok Try.func68 (by kernel_rfl) rfl
  calls := by
    intro hg rg lr vals k h
    unfold wkxC at h
    split at h
    case h_2 => exact h.elim
    rename_i i f qlst
    obtain ⟨rfl, h⟩ := isF_inv h
    obtain ⟨e, own, xs, hi, h⟩ : ∃ e own, ∃ (xs : List Lf), _ := rowC_inv h
    obtain ⟨rlst, hqlst, h⟩ := boxR_inv h
    obtain ⟨elst, ownlst, lst, hrlst, h⟩ : ∃ e own, ∃ (xs : List (TyC.α aT)), _ := rowC_inv h
    obtain ⟨⟨hE, hx⟩, hk⟩ := h
    refine ⟨_, _, hk, fun A w hB hR => ?_⟩
    refine enter T_ok (GOk.cons wk_ok .nil) Try.func68 rfl (K := (· < w.heap.size)) (fun _ h => h) (A := A.pick [qlst] [i, rlst]) (vals := [.row 0, .fn 91 [] [.loc 0 0]]) (n0 := 0) (b0 := 1) (rows := [some ⟨lT, e, false, xs⟩, some ⟨aT, elst, false, lst⟩]) (hp := [some [.row 1]]) rfl (Nat.zero_le _) (fun i9 cs h9 => by
      match i9, h9 with
      | 0, h9 => cases h9; exact box_lt (hB qlst _ hqlst)
      | i9 + 1, h9 => simp [nthj] at h9) rfl (fun i9 r h9 => by
      match i9, h9 with
      | 0, h9 => cases h9; exact ⟨rfl, RowsAt.ro (hR i _ hi)⟩
      | 1, h9 => cases h9; exact ⟨rfl, RowsAt.ro (hR rlst _ hrlst)⟩
      | i9 + 2, h9 => simp [nthj] at h9) rfl rfl (Nat.le_of_ble_eq_true rfl) ?_
    conv => whnf
    repeat (refine V_step T_ok (GOk.cons wk_ok .nil) rfl ?_; conv => whnf)
    have hcap' : (@List.length (TyC.α lT) xs : Int) ≤ 9223372036854775807 := by
      have h1 := (hR i _ hi).len
      have h2 := (hR i _ hi).cap
      have h3 := (hR i _ hi).max
      simp only at h1
      have : maxLen = 9223372036854775807 := rfl
      omega
    have hcap : (xs.length : Int) ≤ 9223372036854775807 := hcap'
    have hx' : ∀ n : Nat, (n : Int) < (List.length (α := Lf) xs : Nat) → IsL (xs.getD n lT.dflt) := fun n hn => hx _ (getD_mem (by omega))
    refine V_loopH (γ := Nat) (fun n => n ≤ xs.length ∧ ∀ j, j < n → (notAll lst) (xs.getD j lT.dflt) = false) (fun n => xs.length - n)
      (fun n => [(8, .int .i64 n)]) (fun _ => []) (fun _ => []) 0 ⟨Nat.zero_le _, fun j h => absurd h (Nat.not_lt_zero _)⟩ ?_ ?_
    · conv => whnf
      refine ⟨?_, by (conv => whnf); repeat (first | exact True.intro | (refine And.intro rfl ?_; conv => whnf)), by (conv => whnf); repeat (first | exact True.intro | (refine And.intro (by first | rfl | (subst_vars; rfl)) ?_; conv => whnf)), rfl, rfl, rfl, rfl, rfl, rfl, rfl, Nat.le_of_ble_eq_true rfl, Nat.le_of_ble_eq_true rfl⟩
      conv => whnf
      repeat (first | exact True.intro | (refine And.intro (by first | rfl | ((conv => whnf); exact congrArg (AVal.int .i64) (by omega)) | ((conv => whnf); exact congrArg (AVal.int .i64) (by simp only [Int.natCast_add, Int.natCast_one]; omega))) ?_; conv => whnf))
    · rintro n ⟨h1, h2⟩
      conv => whnf
      refine vcCode_sound T_ok (GOk.cons wk_ok .nil) _ _ _ _ _ ?_
      conv => whnf
      repeat (refine V_step T_ok (GOk.cons wk_ok .nil) rfl ?_; conv => whnf)
      repeat (any_goals (first
        | (refine V_step T_ok (GOk.cons wk_ok .nil) rfl ?_; conv => whnf)
        | (refine V_drawA T_ok (GOk.cons wk_ok .nil) mixed (by kernel_rfl) ?_; conv => whnf)
        | (refine bcond_split (fun hc => ?_) (fun hc => ?_) <;> (try simp only [decide_eq_true_eq, decide_eq_false_iff_not, Bool.not_eq_true', Bool.not_eq_false', Bool.and_eq_true, Bool.or_eq_true, Bool.and_eq_false_imp, Bool.or_eq_false_iff, ne_eq, Decidable.not_not] at hc) <;> conv => whnf)
        | (intro ysK hysK; have hysl := congrArg List.length hysK; (try simp only [List.length_set, List.length_append, List.length_cons, List.length_nil, List.length_take, List.length_drop, List.length_replicate] at hysl); conv => whnf)
        | (refine And.intro (by first | (first | exact True.intro | omega | (simp only [Rng]; omega) | exact ⟨hE, hx' n (by assumption)⟩) | exact True.intro | exact Nat.le_of_ble_eq_true rfl | (refine ⟨by (try simp only [List.length_cons, List.length_nil]); omega, Int.le_trans (Int.mul_le_mul_of_nonneg_left (show (TInfo.bytes _ : Int) ≤ 64 from Int.ofNat_le.2 (Nat.le_of_ble_eq_true rfl)) (by omega)) (by (try simp only [List.length_cons, List.length_nil]); omega)⟩)) ?_; conv => whnf)))
      · rename_i hc0
        have hl : (n : Int) < (xs.length : Nat) := hc0
        exact leaf0 rfl (congrArg (AVal.int .i64) (idxP_found (notAll lst) xs n lT.dflt (by omega) h2 hc).symm) rfl
      · rename_i hc0
        have hl : (n : Int) < (xs.length : Nat) := hc0
        refine ⟨n + 1, ⟨by omega, fun j hj => ?_⟩, by omega, ?_⟩
        · rcases Nat.lt_or_ge j n with h | h
          · exact h2 j h
          · obtain rfl : j = n := by omega
            exact hc
        · conv => whnf
          refine ⟨?_, by (conv => whnf); repeat (first | exact True.intro | (refine And.intro rfl ?_; conv => whnf)), by (conv => whnf); repeat (first | exact True.intro | (refine And.intro (by first | rfl | (subst_vars; rfl)) ?_; conv => whnf)), rfl, rfl, rfl, rfl, rfl, rfl, rfl, Nat.le_of_ble_eq_true rfl, Nat.le_of_ble_eq_true rfl⟩
          conv => whnf
          repeat (first | exact True.intro | (refine And.intro (by first | rfl | ((conv => whnf); exact congrArg (AVal.int .i64) (by omega)) | ((conv => whnf); exact congrArg (AVal.int .i64) (by simp only [Int.natCast_add, Int.natCast_one]; omega))) ?_; conv => whnf))
      · have hl : ¬ (n : Int) < (xs.length : Nat) := hc
        exact leaf0 rfl (congrArg (AVal.int .i64) (idxP_none (notAll lst) xs lT.dflt (fun j hj => h2 j (by omega))).symm) rfl


def wkdC : MCtr := fun hg rg lr vals k => match vals with
  | [.row i, .fn f [] [.loc qlst 0]] => isF f 91 (rowO lT (rg i) fun e xs => boxR (hg qlst) fun rlst => rowC aT (rg rlst) fun lst => (¬ i = rlst ∧ (∀ x ∈ (lst : List Ang), IsA x) ∧ ∀ x ∈ (xs : List Lf), IsL x) ∧ k [(i, none)] [⟨lT, e, true, (xs : List Lf).filter (fun x => !(notAll lst) x)⟩] (.row lr))
  | _ => False
theorem wkd_ok : MCtrOk Try.prog 77 wkdC where
  enter := enter_ok Try.func77 (by kernel_rfl) rfl
  calls := by
    intro hg rg lr vals k h
    unfold wkdC at h
    split at h
    case h_2 => exact h.elim
    rename_i i f qlst
    obtain ⟨rfl, h⟩ := isF_inv h
    obtain ⟨e, xs, hi, h⟩ : ∃ e, ∃ (xs : List Lf), _ := rowO_inv h
    obtain ⟨rlst, hqlst, h⟩ := boxR_inv h
    obtain ⟨elst, ownlst, lst, hrlst, h⟩ : ∃ e own, ∃ (xs : List (TyC.α aT)), _ := rowC_inv h
    obtain ⟨hH, hk⟩ := h
    obtain ⟨hnerlst, hH⟩ := hH
    obtain ⟨hE, hx⟩ := hH
    refine ⟨_, _, _, hk, (ups_one hi rfl (fun r' hr' => by cases hr')), fun A w hM => ?_⟩
    have hO : One rg [i, rlst] [some ⟨lT, e, true, xs⟩, some ⟨aT, elst, false, lst⟩] i ⟨lT, e, true, xs⟩ := ⟨rfl, hi, rfl, rfl, fun q r hq ho => by
      match q, hq with
      | 0, hq => rfl
      | 1, hq => cases hq; cases ho
      | q + 2, hq => simp [nthj] at hq⟩
    refine enterM T_ok (GOk.cons wkx_ok (GOk.cons wk_ok .nil)) Try.func77 rfl (w := w) (A := A.pick [qlst] [i, rlst]) (vals := [.row 0, .fn 91 [] [.loc 0 0]]) (n0 := 1) (b0 := 1) (rows := [some ⟨lT, e, true, xs⟩, some ⟨aT, elst, false, lst⟩]) (hp := [some [.row 1]]) rfl (Nat.le_add_left _ _) (hM.pick [qlst] [i, rlst] [some [.row 1]] [some ⟨lT, e, true, xs⟩, some ⟨aT, elst, false, lst⟩] (fun i9 cs h9 => by
      match i9, h9 with
      | 0, h9 => cases h9; exact ⟨_, hqlst, rfl⟩
      | i9 + 1, h9 => simp [nthj] at h9) (fun i9 r h9 => by
      match i9, h9 with
      | 0, h9 => cases h9; exact ⟨_, hi, .inl rfl⟩
      | 1, h9 => cases h9; exact ⟨_, hrlst, .inr rfl⟩
      | i9 + 2, h9 => simp [nthj] at h9) (fun i9 j9 r r' h9 h8 hij ho => by
      have h0 : i9 = 0 := hO.only i9 r h9 ho
      subst h0
      match j9, h8 with
      | 0, h8 => exact absurd rfl hij
      | 1, h8 => exact hnerlst
      | j9 + 2, h8 => simp [nthj] at h8)) rfl rfl rfl (Nat.le_of_ble_eq_true rfl) ?_
    conv => whnf
    repeat (refine V_step T_ok (GOk.cons wkx_ok (GOk.cons wk_ok .nil)) rfl ?_; conv => whnf)
    have hcap : (List.length (α := Lf) xs : Int) ≤ 9223372036854775807 := by
      have h1 := (hM.row i _ hi).1.len
      have h2 := (hM.row i _ hi).1.cap
      have h3 := (hM.row i _ hi).1.max
      simp only at h1
      have : maxLen = 9223372036854775807 := rfl
      omega
    have hx' : ∀ n : Nat, n < (List.length (α := Lf) xs : Nat) → IsL (xs.getD n lT.dflt) := fun n hn => hx _ (getD_mem hn)
    have hd := idxP_cases (notAll lst) lT.dflt xs
    have hd2 := idxP_ge (notAll lst) xs
    repeat (any_goals (first
      | (refine V_step T_ok (GOk.cons wkx_ok (GOk.cons wk_ok .nil)) rfl ?_; conv => whnf)
      | (refine V_drawA T_ok (GOk.cons wkx_ok (GOk.cons wk_ok .nil)) mixed (by kernel_rfl) ?_; conv => whnf)
      | (refine bcond_split (fun hc => ?_) (fun hc => ?_) <;> (try simp only [decide_eq_true_eq, decide_eq_false_iff_not, Bool.not_eq_true', Bool.not_eq_false', Bool.and_eq_true, Bool.or_eq_true, Bool.and_eq_false_imp, Bool.or_eq_false_iff, ne_eq, Decidable.not_not] at hc) <;> conv => whnf)
      | (intro ysK hysK; have hysl := congrArg List.length hysK; (try simp only [List.length_set, List.length_append, List.length_cons, List.length_nil, List.length_take, List.length_drop, List.length_replicate] at hysl); conv => whnf)
      | (refine And.intro (by first | (first | exact ⟨hE, hx⟩ | exact True.intro | (simp only [Rng]; omega) | omega) | exact True.intro | exact Nat.le_of_ble_eq_true rfl | (refine ⟨by (try simp only [List.length_cons, List.length_nil]); omega, Int.le_trans (Int.mul_le_mul_of_nonneg_left (show (TInfo.bytes _ : Int) ≤ 64 from Int.ofNat_le.2 (Nat.le_of_ble_eq_true rfl)) (by omega)) (by (try simp only [List.length_cons, List.length_nil]); omega)⟩)) ?_; conv => whnf)))
    · -- none
      have hall : ∀ x ∈ xs, (notAll lst) x = false := by
        rcases hd with ⟨_, h2⟩ | ⟨n, h1, _⟩
        · exact h2
        · have hc' : idxP (notAll lst) xs = -1 := hc
          omega
      refine leafM1 hO 0 rfl ?_ rfl (fun B C h => by simp [AVal.den, h])
      rw [List.filter_eq_self.2 fun x hx => by rw [hall x hx]; rfl]
    · have hc' : ¬ idxP (notAll lst) xs = -1 := hc
      obtain ⟨nD, hn1, hn2, hn3, hn4⟩ : ∃ n : Nat, idxP (notAll lst) xs = (n : Int) ∧ n < xs.length ∧ (notAll lst) (xs.getD n lT.dflt) = true ∧ ∀ x ∈ xs.take n, (notAll lst) x = false := by
        rcases hd with ⟨h1, _⟩ | h
        · exact absurd h1 hc'
        · exact h
      clear hd
      refine V_loopH (γ := (Nat × Nat) × List Lf) (fun g => (g.1.1 < g.1.2 ∧ g.1.2 ≤ xs.length) ∧ g.2.length = xs.length ∧ g.2.take g.1.1 = (xs.take g.1.2).filter (fun x => !(notAll lst) x) ∧ ∀ q, g.1.2 ≤ q → g.2.getD q lT.dflt = xs.getD q lT.dflt) (fun g => xs.length - g.1.2)
        (fun g => [(5, .int .i64 g.1.1), (6, .int .i64 g.1.2)]) (fun _ => []) (fun g => [(0, some ⟨lT, e, true, g.2⟩)]) ((nD, nD + 1), xs) ⟨⟨Nat.lt_succ_self _, hn2⟩, rfl, (del_first hn2 hn3 hn4).symm, fun _ _ => rfl⟩ ?_ ?_
      · conv => whnf
        refine ⟨?_, by (conv => whnf); repeat (first | exact True.intro | (refine And.intro rfl ?_; conv => whnf)), by (conv => whnf); repeat (first | exact True.intro | (refine And.intro (by first | rfl | (subst_vars; rfl)) ?_; conv => whnf)), rfl, rfl, rfl, rfl, rfl, rfl, rfl, Nat.le_of_ble_eq_true rfl, Nat.le_of_ble_eq_true rfl⟩
        conv => whnf
        repeat (first | exact True.intro | (refine And.intro (by first | rfl | ((conv => whnf); exact congrArg (AVal.int .i64) (by omega)) | ((conv => whnf); exact congrArg (AVal.int .i64) (by simp only [Int.natCast_add, Int.natCast_one]; omega))) ?_; conv => whnf))
      · rintro ⟨⟨iD, jD⟩, yD⟩ ⟨⟨h1, h2⟩, hlen, htk, hdr⟩
        simp only at h1 h2 hlen htk hdr
        have hy : ∀ q : Nat, (q : Int) < (List.length (α := Lf) yD : Nat) → jD ≤ q → IsL (yD.getD q lT.dflt) := fun q hq hle => by rw [hdr q hle]; exact hx' q (by omega)
        conv => whnf
        refine vcCode_sound T_ok (GOk.cons wkx_ok (GOk.cons wk_ok .nil)) _ _ _ _ _ ?_
        conv => whnf
        repeat (refine V_step T_ok (GOk.cons wkx_ok (GOk.cons wk_ok .nil)) rfl ?_; conv => whnf)
        repeat (any_goals (first
          | (refine V_step T_ok (GOk.cons wkx_ok (GOk.cons wk_ok .nil)) rfl ?_; conv => whnf)
          | (refine V_drawA T_ok (GOk.cons wkx_ok (GOk.cons wk_ok .nil)) mixed (by kernel_rfl) ?_; conv => whnf)
          | (refine bcond_split (fun hc => ?_) (fun hc => ?_) <;> (try simp only [decide_eq_true_eq, decide_eq_false_iff_not, Bool.not_eq_true', Bool.not_eq_false', Bool.and_eq_true, Bool.or_eq_true, Bool.and_eq_false_imp, Bool.or_eq_false_iff, ne_eq, Decidable.not_not] at hc) <;> conv => whnf)
          | (intro ysK hysK; have hysl := congrArg List.length hysK; (try simp only [List.length_set, List.length_append, List.length_cons, List.length_nil, List.length_take, List.length_drop, List.length_replicate] at hysl); conv => whnf)
          | (refine And.intro (by first | (first | exact True.intro | omega | (simp only [Rng]; omega) | exact ⟨hE, hy jD (by assumption) (Nat.le_refl _)⟩) | exact True.intro | exact Nat.le_of_ble_eq_true rfl | (refine ⟨by (try simp only [List.length_cons, List.length_nil]); omega, Int.le_trans (Int.mul_le_mul_of_nonneg_left (show (TInfo.bytes _ : Int) ≤ 64 from Int.ofNat_le.2 (Nat.le_of_ble_eq_true rfl)) (by omega)) (by (try simp only [List.length_cons, List.length_nil]); omega)⟩)) ?_; conv => whnf)))
        · -- it stays
          rename_i hjD
          have hjD : (jD : Int) < (List.length (α := Lf) yD : Nat) := hjD
          have hp : (notAll lst) (xs.getD jD lT.dflt) = false := by rw [← hdr jD (Nat.le_refl _)]; exact hc
          have hyK : ysK = yD.set iD (xs.getD jD lT.dflt) := by rw [← hdr jD (Nat.le_refl _)]; exact hysK
          refine ⟨((iD + 1, jD + 1), ysK), ⟨⟨by simp only; omega, by simp only; omega⟩, by rw [hyK]; simp only [List.length_set]; exact hlen, ?_, fun q hq => ?_⟩, by simp only; omega, ?_⟩
          · simp only
            rw [hyK, take_set (by omega), del_step (d := lT.dflt) (by omega), htk, hp]; rfl
          · simp only at hq ⊢
            rw [hyK, List.getD_eq_getElem?_getD, List.getElem?_set_ne (by omega), ← List.getD_eq_getElem?_getD]
            exact hdr q (by omega)
          · conv => whnf
            refine ⟨?_, by (conv => whnf); repeat (first | exact True.intro | (refine And.intro rfl ?_; conv => whnf)), by (conv => whnf); repeat (first | exact True.intro | (refine And.intro (by first | rfl | (subst_vars; rfl)) ?_; conv => whnf)), rfl, rfl, rfl, rfl, rfl, rfl, rfl, Nat.le_of_ble_eq_true rfl, Nat.le_of_ble_eq_true rfl⟩
            conv => whnf
            repeat (first | exact True.intro | (refine And.intro (by first | rfl | ((conv => whnf); exact congrArg (AVal.int .i64) (by omega)) | ((conv => whnf); exact congrArg (AVal.int .i64) (by simp only [Int.natCast_add, Int.natCast_one]; omega))) ?_; conv => whnf))
        · -- it goes
          rename_i hjD
          have hjD : (jD : Int) < (List.length (α := Lf) yD : Nat) := hjD
          have hp : (notAll lst) (xs.getD jD lT.dflt) = true := by rw [← hdr jD (Nat.le_refl _)]; exact hc
          refine ⟨((iD, jD + 1), yD), ⟨⟨by simp only; omega, by simp only; omega⟩, hlen, ?_, fun q hq => hdr q (by simp only at hq; omega)⟩, by simp only; omega, ?_⟩
          · simp only
            rw [del_step (d := lT.dflt) (by omega), htk, hp]; simp
          · conv => whnf
            refine ⟨?_, by (conv => whnf); repeat (first | exact True.intro | (refine And.intro rfl ?_; conv => whnf)), by (conv => whnf); repeat (first | exact True.intro | (refine And.intro (by first | rfl | (subst_vars; rfl)) ?_; conv => whnf)), rfl, rfl, rfl, rfl, rfl, rfl, rfl, Nat.le_of_ble_eq_true rfl, Nat.le_of_ble_eq_true rfl⟩
            conv => whnf
            repeat (first | exact True.intro | (refine And.intro (by first | rfl | ((conv => whnf); exact congrArg (AVal.int .i64) (by omega)) | ((conv => whnf); exact congrArg (AVal.int .i64) (by simp only [Int.natCast_add, Int.natCast_one]; omega))) ?_; conv => whnf))
        · have hge : ¬ (jD : Int) < (List.length (α := Lf) yD : Nat) := hc
          have hj : jD = xs.length := by omega
          have hlK : ysK.length = yD.length := by
            have hyK : ysK = yD.take iD ++ (List.replicate (yD.length - iD) lT.dflt ++ yD.drop (iD + (yD.length - iD))) := hysK
            rw [hyK]; simp; omega
          have hT : ysK.take iD = (xs : List Lf).filter (fun x => !(notAll lst) x) := by
            have hyK : ysK = yD.take iD ++ (List.replicate (yD.length - iD) lT.dflt ++ yD.drop (iD + (yD.length - iD))) := hysK
            rw [hyK, List.take_append_of_le_length (by simp; omega), List.take_take, Nat.min_self, htk, hj, List.take_length]
          refine leafMV (xs := ysK) hO 0 iD rfl rfl (by omega) hT (fun B C h => ?_)
          simp [AVal.den, h, TyC.sz] <;> rfl


theorem wcmp_ok : PCtrOk Try.prog 95 (cmpPC widF) where
  enter := enter_ok Try.func95 (by kernel_rfl) rfl
  calls := by
    intro hg rg lr vals k h
    unfold cmpPC at h
    split at h
    case h_2 => exact h.elim
    rename_i n d m e n' d' m' e'
    obtain ⟨⟨hx, hy⟩, hk⟩ := h
    refine ⟨_, _, hk, fun A w _ _ => ?_⟩
    refine enter T_ok (GOk.cons wid_ok (GOk.cons cmpA_ok .nil)) Try.func95 rfl (K := (· < w.heap.size)) (fun _ h => h) (A := A) (n0 := 0) (b0 := 0) (rows := []) (hp := []) rfl (Nat.zero_le _) (fun k r h => by cases h) rfl (fun k r h => by cases h) rfl rfl (Nat.le_of_ble_eq_true rfl) ?_
    conv => whnf
    repeat (refine V_step T_ok (GOk.cons wid_ok (GOk.cons cmpA_ok .nil)) rfl ?_; conv => whnf)
    have b1 := hx.sm.bd
    have b2 := hy.sm.bd
    have b3 : Bd (widthA ((n, d), (m, e))) := hx.sm.2.minus hx.sm.1
    have b4 : Bd (widthA ((n', d'), (m', e'))) := hy.sm.2.minus hy.sm.1
    repeat (any_goals (first
      | (refine V_step T_ok (GOk.cons wid_ok (GOk.cons cmpA_ok .nil)) rfl ?_; conv => whnf)
      | (refine V_drawA T_ok (GOk.cons wid_ok (GOk.cons cmpA_ok .nil)) mixed (by kernel_rfl) ?_; conv => whnf)
      | (refine bcond_split (fun hc => ?_) (fun hc => ?_) <;> (try simp only [decide_eq_true_eq, decide_eq_false_iff_not, Bool.not_eq_true', Bool.not_eq_false', Bool.and_eq_true, Bool.or_eq_true, Bool.and_eq_false_imp, Bool.or_eq_false_iff, ne_eq, Decidable.not_not] at hc) <;> conv => whnf)
      | (intro ysK hysK; have hysl := congrArg List.length hysK; (try simp only [List.length_set, List.length_append, List.length_cons, List.length_nil, List.length_take, List.length_drop, List.length_replicate] at hysl); conv => whnf)
      | (refine And.intro (by first | (first | exact True.intro | exact b1 | exact b2 | exact ⟨b4, b3⟩ | exact ⟨b3, b4⟩) | exact True.intro | exact Nat.le_of_ble_eq_true rfl | (refine ⟨by (try simp only [List.length_cons, List.length_nil]); omega, Int.le_trans (Int.mul_le_mul_of_nonneg_left (show (TInfo.bytes _ : Int) ≤ 64 from Int.ofNat_le.2 (Nat.le_of_ble_eq_true rfl)) (by omega)) (by (try simp only [List.length_cons, List.length_nil]); omega)⟩)) ?_; conv => whnf)))
    all_goals exact leaf0 rfl rfl rfl
end Go.Proofs.Ytlplngafncobkab.Fw
