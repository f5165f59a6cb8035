/- Contracts: the program's ray pairs of a period, the pair of an angle. -/
import Derived.Test.YtlplngafncobkabP4
import Derived.Test.YtlplngafncobkabP7
import Derived.Test.YtlplngafncobkabO2
namespace Go.Proofs.Ytlplngafncobkab.Fw
open Go Go.RowKit
set_option linter.unusedVariables false
set_option linter.unusedSimpArgs false
set_option maxRecDepth 100000
set_option maxHeartbeats 2000000

def lowF (p q : Lf) : Int := cmpA p.1 q.1
theorem pcmp_ok : PCtrOk Try.prog 99 (cmpPC lowF) where
  enter := enter_ok Try.func99 (by kernel_rfl) rfl
  calls := by
    intro hg rg lr vals k h
    unfold cmpPC at h
    split at h
    case h_2 => exact h.elim
    rename_i n d m e n' d' m' e'
    obtain ⟨⟨hx, hy⟩, hk⟩ := h
    refine ⟨_, _, hk, fun A w _ _ => ?_⟩
    refine enter T_ok (GOk.cons cmpA_ok .nil) Try.func99 rfl (K := (· < w.heap.size)) (fun _ h => h) (A := A) (n0 := 0) (b0 := 0) (rows := []) (hp := []) rfl (Nat.zero_le _) (fun k r h => by cases h) rfl (fun k r h => by cases h) rfl rfl (Nat.le_of_ble_eq_true rfl) ?_
    conv => whnf
    repeat (refine V_step T_ok (GOk.cons cmpA_ok .nil) rfl ?_; conv => whnf)
    have b1 := hx.1.bd
    have b2 := hy.1.bd
    repeat (any_goals (first
      | (refine V_step T_ok (GOk.cons cmpA_ok .nil) rfl ?_; conv => whnf)
      | (refine V_drawA T_ok (GOk.cons cmpA_ok .nil) mixed (by kernel_rfl) ?_; conv => whnf)
      | (refine bcond_split (fun hc => ?_) (fun hc => ?_) <;> (try simp only [decide_eq_true_eq, decide_eq_false_iff_not, Bool.not_eq_true', Bool.not_eq_false', Bool.and_eq_true, Bool.or_eq_true, Bool.and_eq_false_imp, Bool.or_eq_false_iff, ne_eq, Decidable.not_not] at hc) <;> conv => whnf)
      | (intro ysK hysK; have hysl := congrArg List.length hysK; (try simp only [List.length_set, List.length_append, List.length_cons, List.length_nil, List.length_take, List.length_drop, List.length_replicate] at hysl); conv => whnf)
      | (refine And.intro (by first | (first | exact True.intro | exact ⟨b1, b2⟩) | exact True.intro | exact Nat.le_of_ble_eq_true rfl | (refine ⟨by (try simp only [List.length_cons, List.length_nil]); omega, Int.le_trans (Int.mul_le_mul_of_nonneg_left (show (TInfo.bytes _ : Int) ≤ 64 from Int.ofNat_le.2 (Nat.le_of_ble_eq_true rfl)) (by omega)) (by (try simp only [List.length_cons, List.length_nil]); omega)⟩)) ?_; conv => whnf)))
    all_goals exact leaf0 rfl rfl rfl
theorem sortLow_ok : MCtrOk Try.prog 94 (sortC 99 lowF) :=
  sort_ok pcmp_ok (fun p => vA p.1.1) (fun x y => by unfold lowF; rw [cmpA_neg, lessA_v x.2.1.f y.2.1.f]) (fun x y => by unfold lowF; rw [cmpA_neg, cmpA_neg]; exact lessA_asymm _ _)

def pairsC : PCtr := fun _ _ lr vals k => match vals with
  | [.int .i64 n] => (2 ≤ n ∧ n ≤ 8) ∧ k [⟨lT, 36, true, newN (n.toNat - 2)⟩] (.row lr)
  | _ => False
theorem filter_pod {m : Nat} (h : m < 7) : (prN (m + 1)).filter (fun x => !(perNot ((m + 2 : Nat) : Int)) x) = newN m := by
  rw [← filter_per h]
  congr 1
  funext x
  simp [perNot]
abbrev GPO := GOk.cons upTo_ok (GOk.mcons pod_ok (GOk.mcons sortLow_ok .nil))
theorem pairs_ok : PCtrOk Try.prog 64 pairsC where
  enter := enter_ok Try.func64 (by kernel_rfl) rfl
  calls := by
    intro hg rg lr vals k h
    unfold pairsC at h
    split at h
    case h_2 => exact h.elim
    rename_i n
    obtain ⟨hn, hk⟩ := h
    refine ⟨_, _, hk, fun A w _ _ => ?_⟩
    refine enter T_ok GPO Try.func64 rfl (K := (· < w.heap.size)) (fun _ h => h) (A := A) (n0 := 0) (b0 := 0) (rows := []) (hp := []) rfl (Nat.zero_le _) (fun k r h => by cases h) rfl (fun k r h => by cases h) rfl rfl (Nat.le_of_ble_eq_true rfl) ?_
    conv => whnf
    repeat (refine V_step T_ok GPO rfl ?_; conv => whnf)
    obtain ⟨m, rfl⟩ : ∃ m : Nat, n = ((m + 2 : Nat) : Int) := ⟨n.toNat - 2, by omega⟩
    have hm : m < 7 := by omega
    have hL : ∀ x ∈ prN (m + 1), IsL x := prN_isL (by omega)
    have hlen := prN_len (m := m + 1) (by omega)
    have hf := filter_pod hm
    have hnl : (newN m).length ≤ 2000 := by rw [← hf]; exact Nat.le_trans (List.length_filter_le ..) hlen
    repeat (any_goals (first
      | (refine V_step T_ok GPO rfl ?_; conv => whnf)
      | (refine V_drawA T_ok GPO mixed (by kernel_rfl) ?_; conv => whnf)
      | (refine bcond_split (fun hc => ?_) (fun hc => ?_) <;> (try simp only [decide_eq_true_eq, decide_eq_false_iff_not, Bool.not_eq_true', Bool.not_eq_false', Bool.and_eq_true, Bool.or_eq_true, Bool.and_eq_false_imp, Bool.or_eq_false_iff, ne_eq, Decidable.not_not] at hc) <;> conv => whnf)
      | (intro ysK hysK; have hysl := congrArg List.length hysK; (try simp only [List.length_set, List.length_append, List.length_cons, List.length_nil, List.length_take, List.length_drop, List.length_replicate] at hysl); conv => whnf)
      | (refine And.intro (by first | (first | exact True.intro | omega | exact ⟨trivial, hL⟩) | exact True.intro | exact Nat.le_of_ble_eq_true rfl | (refine ⟨by (try simp only [List.length_cons, List.length_nil]); omega, Int.le_trans (Int.mul_le_mul_of_nonneg_left (show (TInfo.bytes _ : Int) ≤ 64 from Int.ofNat_le.2 (Nat.le_of_ble_eq_true rfl)) (by omega)) (by (try simp only [List.length_cons, List.length_nil]); omega)⟩)) ?_; conv => whnf)))
    have hf' : List.filter (fun x => !perNot (((m + 2 : Nat) : Int)) x) (prN ((((m + 2 : Nat) : Int)).toNat - 1)) = newN m := hf
    rw [hf']
    refine ⟨⟨newN_isL hm, by show ((newN m).length : Int) ≤ 1000000; omega⟩, newN m, ⟨List.Perm.refl _, (prN_succ hm).2.2.1.imp fun h => (cmpA_neg _ _).2 h⟩, ?_⟩
    conv => whnf
    repeat (any_goals (first
      | (refine V_step T_ok GPO rfl ?_; conv => whnf)
      | (refine V_drawA T_ok GPO mixed (by kernel_rfl) ?_; conv => whnf)
      | (refine bcond_split (fun hc => ?_) (fun hc => ?_) <;> (try simp only [decide_eq_true_eq, decide_eq_false_iff_not, Bool.not_eq_true', Bool.not_eq_false', Bool.and_eq_true, Bool.or_eq_true, Bool.and_eq_false_imp, Bool.or_eq_false_iff, ne_eq, Decidable.not_not] at hc) <;> conv => whnf)
      | (intro ysK hysK; have hysl := congrArg List.length hysK; (try simp only [List.length_set, List.length_append, List.length_cons, List.length_nil, List.length_take, List.length_drop, List.length_replicate] at hysl); conv => whnf)
      | (refine And.intro (by first | exact True.intro | (with_reducible assumption) | omega | (simp only [Rng]; omega) | exact Nat.le_of_ble_eq_true rfl | exact True.intro | exact Nat.le_of_ble_eq_true rfl | (refine ⟨by (try simp only [List.length_cons, List.length_nil]); omega, Int.le_trans (Int.mul_le_mul_of_nonneg_left (show (TInfo.bytes _ : Int) ≤ 64 from Int.ofNat_le.2 (Nat.le_of_ble_eq_true rfl)) (by omega)) (by (try simp only [List.length_cons, List.length_nil]); omega)⟩)) ?_; conv => whnf)))
    all_goals refine leaf1 1 rfl rfl rfl rfl (fun B C h => by simp [AVal.den, h])

def popC : PCtr := fun _ _ lr vals k => match vals with
  | [.int .i64 n] => True ∧ k [⟨lT, 36, true, popL n⟩] (.tup [.row lr, .int .i64 (popN n)])
  | _ => False
def isPerC : PCtr := fun _ _ lr vals k => match vals with
  | [.int .i64 n] => True ∧ k [] (.bool (decide (2 ≤ n ∧ n ≤ 8)))
  | _ => False
theorem isPeriod_ok : PCtrOk Try.prog 56 isPerC where
  enter := enter_ok Try.func56 (by kernel_rfl) rfl
  calls := by
    intro hg rg lr vals k h
    unfold isPerC at h
    split at h
    case h_2 => exact h.elim
    rename_i n
    obtain ⟨_, hk⟩ := h
    refine ⟨_, _, hk, fun A w _ _ => ?_⟩
    refine enter T_ok (GOk.cons within_ok .nil) Try.func56 rfl (K := (· < w.heap.size)) (fun _ h => h) (A := A) (n0 := 0) (b0 := 0) (rows := []) (hp := []) rfl (Nat.zero_le _) (fun k r h => by cases h) rfl (fun k r h => by cases h) rfl rfl (Nat.le_of_ble_eq_true rfl) ?_
    conv => whnf
    repeat (refine V_step T_ok (GOk.cons within_ok .nil) rfl ?_; conv => whnf)
    repeat (any_goals (first
      | (refine V_step T_ok (GOk.cons within_ok .nil) rfl ?_; conv => whnf)
      | (refine V_drawA T_ok (GOk.cons within_ok .nil) mixed (by kernel_rfl) ?_; conv => whnf)
      | (refine bcond_split (fun hc => ?_) (fun hc => ?_) <;> (try simp only [decide_eq_true_eq, decide_eq_false_iff_not, Bool.not_eq_true', Bool.not_eq_false', Bool.and_eq_true, Bool.or_eq_true, Bool.and_eq_false_imp, Bool.or_eq_false_iff, ne_eq, Decidable.not_not] at hc) <;> conv => whnf)
      | (intro ysK hysK; have hysl := congrArg List.length hysK; (try simp only [List.length_set, List.length_append, List.length_cons, List.length_nil, List.length_take, List.length_drop, List.length_replicate] at hysl); conv => whnf)
      | (refine And.intro (by first | exact True.intro | (with_reducible assumption) | omega | (simp only [Rng]; omega) | exact Nat.le_of_ble_eq_true rfl | exact True.intro | exact Nat.le_of_ble_eq_true rfl | (refine ⟨by (try simp only [List.length_cons, List.length_nil]); omega, Int.le_trans (Int.mul_le_mul_of_nonneg_left (show (TInfo.bytes _ : Int) ≤ 64 from Int.ofNat_le.2 (Nat.le_of_ble_eq_true rfl)) (by omega)) (by (try simp only [List.length_cons, List.length_nil]); omega)⟩)) ?_; conv => whnf)))
    all_goals exact leaf0 rfl rfl rfl
abbrev GPP := GOk.cons isPeriod_ok (GOk.cons pairs_ok .nil)
theorem pop_ok : PCtrOk Try.prog 29 popC where
  enter := enter_ok Try.func29 (by kernel_rfl) rfl
  calls := by
    intro hg rg lr vals k h
    unfold popC at h
    split at h
    case h_2 => exact h.elim
    rename_i n
    obtain ⟨_, hk⟩ := h
    refine ⟨_, _, hk, fun A w _ _ => ?_⟩
    refine enter T_ok GPP Try.func29 rfl (K := (· < w.heap.size)) (fun _ h => h) (A := A) (n0 := 0) (b0 := 0) (rows := []) (hp := []) rfl (Nat.zero_le _) (fun k r h => by cases h) rfl (fun k r h => by cases h) rfl rfl (Nat.le_of_ble_eq_true rfl) ?_
    conv => whnf
    repeat (refine V_step T_ok GPP rfl ?_; conv => whnf)
    repeat (any_goals (first
      | (refine V_step T_ok GPP rfl ?_; conv => whnf)
      | (refine V_drawA T_ok GPP mixed (by kernel_rfl) ?_; conv => whnf)
      | (refine bcond_split (fun hc => ?_) (fun hc => ?_) <;> (try simp only [decide_eq_true_eq, decide_eq_false_iff_not, Bool.not_eq_true', Bool.not_eq_false', Bool.and_eq_true, Bool.or_eq_true, Bool.and_eq_false_imp, Bool.or_eq_false_iff, ne_eq, Decidable.not_not] at hc) <;> conv => whnf)
      | (intro ysK hysK; have hysl := congrArg List.length hysK; (try simp only [List.length_set, List.length_append, List.length_cons, List.length_nil, List.length_take, List.length_drop, List.length_replicate] at hysl); conv => whnf)
      | (refine And.intro (by first | (first | exact True.intro | (with_reducible assumption) | omega) | exact True.intro | exact Nat.le_of_ble_eq_true rfl | (refine ⟨by (try simp only [List.length_cons, List.length_nil]); omega, Int.le_trans (Int.mul_le_mul_of_nonneg_left (show (TInfo.bytes _ : Int) ≤ 64 from Int.ofNat_le.2 (Nat.le_of_ble_eq_true rfl)) (by omega)) (by (try simp only [List.length_cons, List.length_nil]); omega)⟩)) ?_; conv => whnf)))
    · refine leafN rfl (by rw [popL, if_neg hc]) (fun B C h => ?_)
      simp [AVal.den, dens, h, popN, hc, Hdr.val]
    · refine leaf1 0 rfl rfl (by rw [popL, if_pos hc]) rfl (fun B C h => ?_)
      simp [AVal.den, dens, h, popN, hc]

/-! ### the pair of an angle -/
def pfC : PCtr := fun hg rg _ vals k => match vals with
  | [.agg [.int .i64 n, .int .i64 d, .int .i64 m, .int .i64 e], .loc qa0 0] => boxA (hg qa0) fun a0 => ((True) ∧ IsL ((n, d), (m, e))) ∧ k [] (.bool (hasE a0 ((n, d), (m, e))))
  | _ => False
theorem pf_ok : PCtrOk Try.prog 69 pfC where
  enter := enter_ok Try.func69 (by kernel_rfl) rfl
  calls := by
    intro hg rg lr vals k h
    unfold pfC at h
    split at h
    case h_2 => exact h.elim
    rename_i n d m e qa0
    obtain ⟨a0, hqa0, h⟩ := boxA_inv h
    obtain ⟨⟨hE, hx⟩, hk⟩ := h
    refine ⟨_, _, hk, fun A w hB hR => ?_⟩
    refine enter T_ok .nil Try.func69 rfl (K := (· < w.heap.size)) (fun _ h => h) (A := A.pick [qa0] []) (vals := [.agg [.int .i64 n, .int .i64 d, .int .i64 m, .int .i64 e], .loc 0 0]) (n0 := 0) (b0 := 1) (rows := []) (hp := [some [.int .i64 a0.1, .int .i64 a0.2]]) rfl (Nat.zero_le _) (fun i9 cs h9 => by
      match i9, h9 with
      | 0, h9 => cases h9; exact box_lt (hB qa0 _ hqa0)
      | i9 + 1, h9 => simp [nthj] at h9) rfl no_row rfl rfl (Nat.le_of_ble_eq_true rfl) ?_
    conv => whnf
    repeat (refine V_step T_ok .nil rfl ?_; conv => whnf)

    obtain ⟨p, q⟩ := a0
    repeat (any_goals (first
      | (refine V_step T_ok .nil rfl ?_; conv => whnf)
      | (refine V_drawA T_ok .nil mixed (by kernel_rfl) ?_; conv => whnf)
      | (refine bcond_split (fun hc => ?_) (fun hc => ?_) <;> (try simp only [decide_eq_true_eq, decide_eq_false_iff_not, Bool.not_eq_true', Bool.not_eq_false', Bool.and_eq_true, Bool.or_eq_true, Bool.and_eq_false_imp, Bool.or_eq_false_iff, ne_eq, Decidable.not_not] at hc) <;> conv => whnf)
      | (intro ysK hysK; have hysl := congrArg List.length hysK; (try simp only [List.length_set, List.length_append, List.length_cons, List.length_nil, List.length_take, List.length_drop, List.length_replicate] at hysl); conv => whnf)
      | (refine And.intro (by first | exact True.intro | (with_reducible assumption) | omega | (simp only [Rng]; omega) | exact Nat.le_of_ble_eq_true rfl | exact True.intro | exact Nat.le_of_ble_eq_true rfl | (refine ⟨by (try simp only [List.length_cons, List.length_nil]); omega, Int.le_trans (Int.mul_le_mul_of_nonneg_left (show (TInfo.bytes _ : Int) ≤ 64 from Int.ofNat_le.2 (Nat.le_of_ble_eq_true rfl)) (by omega)) (by (try simp only [List.length_cons, List.length_nil]); omega)⟩)) ?_; conv => whnf)))
    all_goals refine leaf0 rfl (congrArg AVal.bool ?_) rfl
    all_goals (simp only [hasE, Prod.mk.injEq] at *)
    · simp [hc]
    · have hc : ¬ (n = p ∧ d = q) := fun h => hc h.1 h.2
      simp [hc]

def pfxC : PCtr := fun hg rg _ vals k => match vals with
  | [.row i, .fn f [] [.loc qa0 0]] => isF f 69 (rowC lT (rg i) fun xs => boxA (hg qa0) fun a0 => ((True) ∧ ∀ x ∈ (xs : List Lf), IsL x) ∧ k [] (.int .i64 (idxP (α := Lf) (hasE a0) xs)))
  | _ => False
theorem pfx_ok : PCtrOk Try.prog 68 pfxC where
  enter := enter_ok Try.func68 (by kernel_rfl) rfl
  calls := by
    intro hg rg lr vals k h
    unfold pfxC at h
    split at h
    case h_2 => exact h.elim
    rename_i i f qa0
    obtain ⟨rfl, h⟩ := isF_inv h
    obtain ⟨e, own, xs, hi, h⟩ : ∃ e own, ∃ (xs : List Lf), _ := rowC_inv h
    obtain ⟨a0, hqa0, h⟩ := boxA_inv h
    obtain ⟨⟨hE, hx⟩, hk⟩ := h
    refine ⟨_, _, hk, fun A w hB hR => ?_⟩
    refine enter T_ok (GOk.cons pf_ok .nil) Try.func68 rfl (K := (· < w.heap.size)) (fun _ h => h) (A := A.pick [qa0] [i]) (vals := [.row 0, .fn 69 [] [.loc 0 0]]) (n0 := 0) (b0 := 1) (rows := [some ⟨lT, e, false, xs⟩]) (hp := [some [.int .i64 a0.1, .int .i64 a0.2]]) rfl (Nat.zero_le _) (fun i9 cs h9 => by
      match i9, h9 with
      | 0, h9 => cases h9; exact box_lt (hB qa0 _ hqa0)
      | i9 + 1, h9 => simp [nthj] at h9) rfl (fun i9 r h9 => by
      match i9, h9 with
      | 0, h9 => cases h9; exact ⟨rfl, RowsAt.ro (hR i _ hi)⟩
      | i9 + 1, h9 => simp [nthj] at h9) rfl rfl (Nat.le_of_ble_eq_true rfl) ?_
    conv => whnf
    repeat (refine V_step T_ok (GOk.cons pf_ok .nil) rfl ?_; conv => whnf)
    have hcap' : (@List.length (TyC.α lT) xs : Int) ≤ 9223372036854775807 := by
      have h1 := (hR i _ hi).len
      have h2 := (hR i _ hi).cap
      have h3 := (hR i _ hi).max
      simp only at h1
      have : maxLen = 9223372036854775807 := rfl
      omega
    have hcap : (xs.length : Int) ≤ 9223372036854775807 := hcap'
    have hx' : ∀ n : Nat, (n : Int) < (List.length (α := Lf) xs : Nat) → IsL (xs.getD n lT.dflt) := fun n hn => hx _ (getD_mem (by omega))
    refine V_loopH (γ := Nat) (fun n => n ≤ xs.length ∧ ∀ j, j < n → (hasE a0) (xs.getD j lT.dflt) = false) (fun n => xs.length - n)
      (fun n => [(8, .int .i64 n)]) (fun _ => []) (fun _ => []) 0 ⟨Nat.zero_le _, fun j h => absurd h (Nat.not_lt_zero _)⟩ ?_ ?_
    · conv => whnf
      refine ⟨?_, by (conv => whnf); repeat (first | exact True.intro | (refine And.intro rfl ?_; conv => whnf)), by (conv => whnf); repeat (first | exact True.intro | (refine And.intro (by first | rfl | (subst_vars; rfl)) ?_; conv => whnf)), rfl, rfl, rfl, rfl, rfl, rfl, rfl, Nat.le_of_ble_eq_true rfl, Nat.le_of_ble_eq_true rfl⟩
      conv => whnf
      repeat (first | exact True.intro | (refine And.intro (by first | rfl | ((conv => whnf); exact congrArg (AVal.int .i64) (by omega)) | ((conv => whnf); exact congrArg (AVal.int .i64) (by simp only [Int.natCast_add, Int.natCast_one]; omega))) ?_; conv => whnf))
    · rintro n ⟨h1, h2⟩
      conv => whnf
      refine vcCode_sound T_ok (GOk.cons pf_ok .nil) _ _ _ _ _ ?_
      conv => whnf
      repeat (refine V_step T_ok (GOk.cons pf_ok .nil) rfl ?_; conv => whnf)
      repeat (any_goals (first
        | (refine V_step T_ok (GOk.cons pf_ok .nil) rfl ?_; conv => whnf)
        | (refine V_drawA T_ok (GOk.cons pf_ok .nil) mixed (by kernel_rfl) ?_; conv => whnf)
        | (refine bcond_split (fun hc => ?_) (fun hc => ?_) <;> (try simp only [decide_eq_true_eq, decide_eq_false_iff_not, Bool.not_eq_true', Bool.not_eq_false', Bool.and_eq_true, Bool.or_eq_true, Bool.and_eq_false_imp, Bool.or_eq_false_iff, ne_eq, Decidable.not_not] at hc) <;> conv => whnf)
        | (intro ysK hysK; have hysl := congrArg List.length hysK; (try simp only [List.length_set, List.length_append, List.length_cons, List.length_nil, List.length_take, List.length_drop, List.length_replicate] at hysl); conv => whnf)
        | (refine And.intro (by first | (first | exact True.intro | omega | (simp only [Rng]; omega) | exact ⟨hE, hx' n (by assumption)⟩) | exact True.intro | exact Nat.le_of_ble_eq_true rfl | (refine ⟨by (try simp only [List.length_cons, List.length_nil]); omega, Int.le_trans (Int.mul_le_mul_of_nonneg_left (show (TInfo.bytes _ : Int) ≤ 64 from Int.ofNat_le.2 (Nat.le_of_ble_eq_true rfl)) (by omega)) (by (try simp only [List.length_cons, List.length_nil]); omega)⟩)) ?_; conv => whnf)))
      · rename_i hc0
        have hl : (n : Int) < (xs.length : Nat) := hc0
        exact leaf0 rfl (congrArg (AVal.int .i64) (idxP_found (hasE a0) xs n lT.dflt (by omega) h2 hc).symm) rfl
      · rename_i hc0
        have hl : (n : Int) < (xs.length : Nat) := hc0
        refine ⟨n + 1, ⟨by omega, fun j hj => ?_⟩, by omega, ?_⟩
        · rcases Nat.lt_or_ge j n with h | h
          · exact h2 j h
          · obtain rfl : j = n := by omega
            exact hc
        · conv => whnf
          refine ⟨?_, by (conv => whnf); repeat (first | exact True.intro | (refine And.intro rfl ?_; conv => whnf)), by (conv => whnf); repeat (first | exact True.intro | (refine And.intro (by first | rfl | (subst_vars; rfl)) ?_; conv => whnf)), rfl, rfl, rfl, rfl, rfl, rfl, rfl, Nat.le_of_ble_eq_true rfl, Nat.le_of_ble_eq_true rfl⟩
          conv => whnf
          repeat (first | exact True.intro | (refine And.intro (by first | rfl | ((conv => whnf); exact congrArg (AVal.int .i64) (by omega)) | ((conv => whnf); exact congrArg (AVal.int .i64) (by simp only [Int.natCast_add, Int.natCast_one]; omega))) ?_; conv => whnf))
      · have hl : ¬ (n : Int) < (xs.length : Nat) := hc
        exact leaf0 rfl (congrArg (AVal.int .i64) (idxP_none (hasE a0) xs lT.dflt (fun j hj => h2 j (by omega))).symm) rfl


def codeAC : PCtr := fun hg rg _ vals k => match vals with
  | [.row i] => rowC aT (rg i) fun xs => True ∧ k [] (.int .i64 (if (xs : List Ang).all allAY = true then 0 else 1))
  | _ => False
theorem anglesCode_ok : PCtrOk Try.prog 60 codeAC where
  enter := enter_ok Try.func60 (by kernel_rfl) rfl
  calls := by
    intro hg rg lr vals k h
    unfold codeAC at h
    split at h
    case h_2 => exact h.elim
    rename_i i
    obtain ⟨e, own, xs, hi, h⟩ : ∃ e own, ∃ (xs : List Ang), _ := rowC_inv h
    have hk := h.2
    refine ⟨_, _, hk, fun A w hB hR => ?_⟩
    refine enter T_ok (GOk.cons allA_ok .nil) Try.func60 rfl (K := (· < w.heap.size)) (fun _ h => h) (A := A.pick [] [i]) (vals := [.row 0]) (n0 := 0) (b0 := 0) (rows := [some ⟨aT, e, false, xs⟩]) (hp := []) rfl (Nat.zero_le _) no_box rfl (one_row (hR i _ hi)) rfl rfl (Nat.le_of_ble_eq_true rfl) ?_
    conv => whnf
    repeat (refine V_step T_ok (GOk.cons allA_ok .nil) rfl ?_; conv => whnf)
    repeat (any_goals (first
      | (refine V_step T_ok (GOk.cons allA_ok .nil) rfl ?_; conv => whnf)
      | (refine V_drawA T_ok (GOk.cons allA_ok .nil) mixed (by kernel_rfl) ?_; conv => whnf)
      | (refine bcond_split (fun hc => ?_) (fun hc => ?_) <;> (try simp only [decide_eq_true_eq, decide_eq_false_iff_not, Bool.not_eq_true', Bool.not_eq_false', Bool.and_eq_true, Bool.or_eq_true, Bool.and_eq_false_imp, Bool.or_eq_false_iff, ne_eq, Decidable.not_not] at hc) <;> conv => whnf)
      | (intro ysK hysK; have hysl := congrArg List.length hysK; (try simp only [List.length_set, List.length_append, List.length_cons, List.length_nil, List.length_take, List.length_drop, List.length_replicate] at hysl); conv => whnf)
      | (refine And.intro (by first | exact True.intro | (with_reducible assumption) | omega | (simp only [Rng]; omega) | exact Nat.le_of_ble_eq_true rfl | exact True.intro | exact Nat.le_of_ble_eq_true rfl | (refine ⟨by (try simp only [List.length_cons, List.length_nil]); omega, Int.le_trans (Int.mul_le_mul_of_nonneg_left (show (TInfo.bytes _ : Int) ≤ 64 from Int.ofNat_le.2 (Nat.le_of_ble_eq_true rfl)) (by omega)) (by (try simp only [List.length_cons, List.length_nil]); omega)⟩)) ?_; conv => whnf)))
    · have hc : (xs : List Ang).all allAY = false := hc
      exact leaf0 rfl (by rw [hc]; rfl) rfl
    · have hc : (xs : List Ang).all allAY = true := hc
      exact leaf0 rfl (by rw [hc]; rfl) rfl
theorem one_isA (a : Ang) : (if [a].all allAY = true then (0 : Int) else 1) = 0 ↔ IsA a := by
  by_cases h : IsA a <;> simp [allAY, h]
theorem one_isA' {a : Ang} (h : ¬ IsA a) : (if [a].all allAY = true then (0 : Int) else 1) = 1 := by simp [allAY, h]

theorem prOf_bad {x : Ang} (h : ¬ okX x) : prOf x = prZ := if_neg h
theorem pr_idx {x : Ang} (h : okX x) : ∃ j : Nat, idxP (hasE x) (newN ((perI x).toNat - 2)) = (j : Int) ∧ j < (newN ((perI x).toNat - 2)).length ∧ (newN ((perI x).toNat - 2)).getD j lT.dflt = prOf x := by
  obtain ⟨p, hp, hm, he, hf⟩ := prOf_ok h
  rcases idxP_cases (hasE x) lT.dflt (newN ((perI x).toNat - 2)) with ⟨_, h2⟩ | ⟨j, h1, h2, h3, h4⟩
  · have := h2 p hm
    rw [hasE, decide_eq_false_iff_not] at this
    exact absurd he this
  · refine ⟨j, h1, h2, ?_⟩
    have := find_of (d := lT.dflt) h2 h3 h4
    rw [hf] at this
    rw [hp]; exact (Option.some.inj this).symm

def prC : PCtr := fun _ _ _ vals k => match vals with
  | [.agg [.int .i64 n, .int .i64 d]] => True ∧ k [] (.tup [lV (prOf (n, d)), .int .i64 (prCode (n, d))])
  | _ => False
abbrev GPr := GOk.cons anglesCode_ok (GOk.cons per_ok (GOk.cons isPeriod_ok (GOk.cons pairs_ok (GOk.cons pfx_ok .nil))))
theorem pr_ok : PCtrOk Try.prog 31 prC where
  enter := enter_ok Try.func31 (by kernel_rfl) rfl
  calls := by
    intro hg rg lr vals k h
    unfold prC at h
    split at h
    case h_2 => exact h.elim
    rename_i n d
    obtain ⟨_, hk⟩ := h
    refine ⟨_, _, hk, fun A w _ _ => ?_⟩
    refine enter T_ok GPr Try.func31 rfl (K := (· < w.heap.size)) (fun _ h => h) (A := A) (n0 := 0) (b0 := 0) (rows := []) (hp := []) rfl (Nat.zero_le _) (fun k r h => by cases h) rfl (fun k r h => by cases h) rfl rfl (Nat.le_of_ble_eq_true rfl) ?_
    conv => whnf
    repeat (refine V_step T_ok GPr rfl ?_; conv => whnf)
    repeat (any_goals (first
      | (refine V_step T_ok GPr rfl ?_; conv => whnf)
      | (refine V_drawA T_ok GPr mixed (by kernel_rfl) ?_; conv => whnf)
      | (refine bcond_split (fun hc => ?_) (fun hc => ?_) <;> (try simp only [decide_eq_true_eq, decide_eq_false_iff_not, Bool.not_eq_true', Bool.not_eq_false', Bool.and_eq_true, Bool.or_eq_true, Bool.and_eq_false_imp, Bool.or_eq_false_iff, ne_eq, Decidable.not_not] at hc) <;> conv => whnf)
      | (intro ysK hysK; have hysl := congrArg List.length hysK; (try simp only [List.length_set, List.length_append, List.length_cons, List.length_nil, List.length_take, List.length_drop, List.length_replicate] at hysl); conv => whnf)
      | (refine And.intro (by first | (first | exact True.intro | (with_reducible assumption) | omega | exact (one_isA _).1 (by assumption) | exact ⟨trivial, newN_isL (by omega)⟩) | exact True.intro | exact Nat.le_of_ble_eq_true rfl | (refine ⟨by (try simp only [List.length_cons, List.length_nil]); omega, Int.le_trans (Int.mul_le_mul_of_nonneg_left (show (TInfo.bytes _ : Int) ≤ 64 from Int.ofNat_le.2 (Nat.le_of_ble_eq_true rfl)) (by omega)) (by (try simp only [List.length_cons, List.length_nil]); omega)⟩)) ?_; conv => whnf)))
    · have ha : ¬ IsA (n, d) := fun h => hc ((one_isA _).2 h)
      refine leaf0 rfl ?_ rfl
      rw [prOf_bad (fun h => ha h.1), one_isA' ha, prCode, if_neg ha]; rfl
    · have ha : IsA (n, d) := (one_isA _).1 (by assumption)
      refine leaf0 rfl ?_ rfl
      rw [prOf_bad (fun h => hc h.2), prCode, if_pos ha, if_neg hc]; rfl
    · have ha : okX (n, d) := ⟨(one_isA _).1 (by assumption), hc⟩
      obtain ⟨j, h1, h2, h3⟩ := pr_idx ha
      simp only [h1]
      repeat (any_goals (first
        | (refine V_step T_ok GPr rfl ?_; conv => whnf)
        | (refine V_drawA T_ok GPr mixed (by kernel_rfl) ?_; conv => whnf)
        | (refine bcond_split (fun hc => ?_) (fun hc => ?_) <;> (try simp only [decide_eq_true_eq, decide_eq_false_iff_not, Bool.not_eq_true', Bool.not_eq_false', Bool.and_eq_true, Bool.or_eq_true, Bool.and_eq_false_imp, Bool.or_eq_false_iff, ne_eq, Decidable.not_not] at hc) <;> conv => whnf)
        | (intro ysK hysK; have hysl := congrArg List.length hysK; (try simp only [List.length_set, List.length_append, List.length_cons, List.length_nil, List.length_take, List.length_drop, List.length_replicate] at hysl); conv => whnf)
        | (refine And.intro (by first | (first | exact True.intro | exact h2 | exact ⟨Int.natCast_nonneg _, Int.ofNat_lt.2 h2⟩) | exact True.intro | exact Nat.le_of_ble_eq_true rfl | (refine ⟨by (try simp only [List.length_cons, List.length_nil]); omega, Int.le_trans (Int.mul_le_mul_of_nonneg_left (show (TInfo.bytes _ : Int) ≤ 64 from Int.ofNat_le.2 (Nat.le_of_ble_eq_true rfl)) (by omega)) (by (try simp only [List.length_cons, List.length_nil]); omega)⟩)) ?_; conv => whnf)))
      simp only [Int.toNat_natCast]
      refine leaf0 (v := .tup [lV (prOf (n, d)), .int .i64 (prCode (n, d))]) rfl ?_ rfl
      rw [prCode, if_pos ha.1, if_pos hc, ← h3]
end Go.Proofs.Ytlplngafncobkab.Fw
