/- Contracts: laminations that are carried. -/
import Derived.Test.YtlplngafncobkaaC11
namespace Go.Proofs.Ytlplngafncobkaa.Fw
open Go Go.RowKit
set_option linter.unusedVariables false
set_option linter.unusedSimpArgs false
set_option maxRecDepth 100000
set_option maxHeartbeats 2000000

def carAllC : PCtr := fun hg rg _ vals k => match vals with
  | [.row i, .fn f [] [.loc q 0]] => isF f 98 (rowC lT (rg i) fun xs => boxR (hg q) fun r => rowC lT (rg r) fun ys => (∀ x ∈ (xs : List Lf), SmL x) ∧ k [] (.bool ((xs : List Lf).all (carL ys))))
  | _ => False
theorem car_all (ys xs : List Lf) : (!xs.any (carN ys)) = xs.all (carL ys) := by
  induction xs with
  | nil => rfl
  | cons x l ih => simp only [List.any_cons, List.all_cons, ← ih, carN, Bool.not_or, Bool.not_not]
theorem carAll_ok : PCtrOk Try.prog 97 carAllC where
  enter := enter_ok Try.func97 (by kernel_rfl) rfl
  calls := by
    intro hg rg lr vals k h
    unfold carAllC at h
    split at h
    case h_2 => exact h.elim
    rename_i i f q
    obtain ⟨rfl, h⟩ := isF_inv h
    obtain ⟨e, own, xs, hi, h⟩ : ∃ e own, ∃ (xs : List Lf), _ := rowC_inv h
    obtain ⟨r, hq, h⟩ := boxR_inv h
    obtain ⟨e', own', ys, hr, h⟩ : ∃ e own, ∃ (xs : List Lf), _ := rowC_inv h
    obtain ⟨hx, hk⟩ := h
    refine ⟨_, _, hk, fun A w hB hR => ?_⟩
    refine enter T_ok (GOk.cons carC_ok .nil) Try.func97 rfl (K := (· < w.heap.size)) (fun _ h => h) (A := A.pick [q] [i, r]) (vals := [.row 0, .fn 98 [] [.loc 0 0]]) (n0 := 0) (b0 := 1) (rows := [some ⟨lT, e, false, xs⟩, some ⟨lT, e', false, ys⟩]) (hp := [some [.row 1]]) rfl (Nat.zero_le _) (one_box (hB q _ hq)) rfl (two_rows (hR i _ hi) (hR r _ hr)) rfl rfl (Nat.le_of_ble_eq_true rfl) ?_
    conv => whnf
    repeat (refine V_step T_ok (GOk.cons carC_ok .nil) rfl ?_; conv => whnf)
    repeat (any_goals (first
      | (refine V_step T_ok (GOk.cons carC_ok .nil) rfl ?_; conv => whnf)
      | (refine V_drawA T_ok (GOk.cons carC_ok .nil) mixed (by kernel_rfl) ?_; conv => whnf)
      | (refine bcond_split (fun hc => ?_) (fun hc => ?_) <;> (try simp only [decide_eq_true_eq, decide_eq_false_iff_not, Bool.not_eq_true', Bool.not_eq_false', Bool.and_eq_true, Bool.or_eq_true, Bool.and_eq_false_imp, Bool.or_eq_false_iff, ne_eq, Decidable.not_not] at hc) <;> conv => whnf)
      | (intro ysK hysK; have hysl := congrArg List.length hysK; (try simp only [List.length_set, List.length_append, List.length_cons, List.length_nil] at hysl); conv => whnf)
      | (refine And.intro (by first | (first | exact True.intro | exact hx) | exact True.intro | exact Nat.le_of_ble_eq_true rfl | (refine ⟨by (try simp only [List.length_cons, List.length_nil]); omega, Int.le_trans (Int.mul_le_mul_of_nonneg_left (show (TInfo.bytes _ : Int) ≤ 64 from Int.ofNat_le.2 (Nat.le_of_ble_eq_true rfl)) (by omega)) (by (try simp only [List.length_cons, List.length_nil]); omega)⟩)) ?_; conv => whnf)))
    all_goals exact leaf0 rfl (congrArg AVal.bool (car_all ys xs)) rfl

def crB (xs : List Lf) : Bool := lamL xs && xs.all (carL xs)
def crC (xs : List Lf) : Int := if lamL xs = true then 0 else 1
def carriedC : PCtr := fun _ rg _ vals k => match vals with
  | [.row i] => rowC lT (rg i) fun xs => True ∧ k [] (.tup [.bool (crB xs), .int .i64 (crC xs)])
  | _ => False
abbrev G12 := GOk.cons lam_ok (GOk.cons carAll_ok .nil)
theorem carried_ok : PCtrOk Try.prog 26 carriedC where
  enter := enter_ok Try.func26 (by kernel_rfl) rfl
  calls := by
    intro hg rg lr vals k h
    unfold carriedC at h
    split at h
    case h_2 => exact h.elim
    rename_i i
    obtain ⟨e, own, xs, hi, h⟩ : ∃ e own, ∃ (xs : List Lf), _ := rowC_inv h
    have hk := h.2
    refine ⟨_, _, hk, fun A w hB hR => ?_⟩
    refine enter T_ok G12 Try.func26 rfl (K := (· < w.heap.size)) (fun _ h => h) (A := A.pick [] [i]) (vals := [.row 0]) (n0 := 0) (b0 := 0) (rows := [some ⟨lT, e, false, xs⟩]) (hp := []) rfl (Nat.zero_le _) no_box rfl (one_row (hR i _ hi)) rfl rfl (Nat.le_of_ble_eq_true rfl) ?_
    conv => whnf
    repeat (refine V_step T_ok G12 rfl ?_; conv => whnf)
    repeat (any_goals (first
      | (refine V_step T_ok G12 rfl ?_; conv => whnf)
      | (refine V_drawA T_ok G12 mixed (by kernel_rfl) ?_; conv => whnf)
      | (refine bcond_split (fun hc => ?_) (fun hc => ?_) <;> (try simp only [decide_eq_true_eq, decide_eq_false_iff_not, Bool.not_eq_true', Bool.not_eq_false', Bool.and_eq_true, Bool.or_eq_true, Bool.and_eq_false_imp, Bool.or_eq_false_iff, ne_eq, Decidable.not_not] at hc) <;> conv => whnf)
      | (intro ysK hysK; have hysl := congrArg List.length hysK; (try simp only [List.length_set, List.length_append, List.length_cons, List.length_nil] at hysl); conv => whnf)
      | (refine And.intro (by first | (first | exact True.intro | exact (fun x hx => (lam_all (by assumption) x hx).sm)) | exact True.intro | exact Nat.le_of_ble_eq_true rfl | (refine ⟨by (try simp only [List.length_cons, List.length_nil]); omega, Int.le_trans (Int.mul_le_mul_of_nonneg_left (show (TInfo.bytes _ : Int) ≤ 64 from Int.ofNat_le.2 (Nat.le_of_ble_eq_true rfl)) (by omega)) (by (try simp only [List.length_cons, List.length_nil]); omega)⟩)) ?_; conv => whnf)))
    · have hc : lamL xs = false := hc
      refine leaf0 rfl ?_ rfl
      rw [show crB xs = false by rw [crB, hc]; rfl, show crC xs = 1 by rw [crC, hc]; rfl]
    · have hc : lamL xs = true := hc
      refine leaf0 rfl ?_ rfl
      rw [show crB xs = xs.all (carL xs) by rw [crB, hc]; rfl, show crC xs = 0 by rw [crC, hc]; rfl]

def qeL (l x : Lf) : Bool := decide (x = l)
def sHasC : PCtr := fun _ rg _ vals k => match vals with
  | [.row i, .agg [.int .i64 p, .int .i64 q, .int .i64 r, .int .i64 s]] => rowC lT (rg i) fun xs => True ∧ k [] (.bool (xs.any (qeL ((p, q), (r, s)))))
  | _ => False
theorem sHas_ok : PCtrOk Try.prog 95 sHasC where
  enter := enter_ok Try.func95 (by kernel_rfl) rfl
  calls := by
    intro hg rg lr vals k h
    unfold sHasC at h
    split at h
    case h_2 => exact h.elim
    rename_i i p q r s
    obtain ⟨e, own, xs, hi, h⟩ : ∃ e own, ∃ (xs : List Lf), _ := rowC_inv h
    have hk := h.2
    refine ⟨_, _, hk, fun A w hB hR => ?_⟩
    refine enter T_ok .nil Try.func95 rfl (K := (· < w.heap.size)) (fun _ h => h) (A := A.pick [] [i]) (vals := [.row 0, .agg [.int .i64 p, .int .i64 q, .int .i64 r, .int .i64 s]]) (n0 := 0) (b0 := 0) (rows := [some ⟨lT, e, false, xs⟩]) (hp := []) rfl (Nat.zero_le _) no_box rfl (one_row (hR i _ hi)) rfl rfl (Nat.le_of_ble_eq_true rfl) ?_
    conv => whnf
    repeat (refine V_step T_ok .nil rfl ?_; conv => whnf)
    have hcap' : (@List.length (TyC.α lT) xs : Int) ≤ 9223372036854775807 := by
      have h1 := (hR i _ hi).len
      have h2 := (hR i _ hi).cap
      have h3 := (hR i _ hi).max
      simp only at h1
      have : maxLen = 9223372036854775807 := rfl
      omega
    refine V_loopH (γ := Nat) (fun n => n ≤ xs.length ∧ ∀ j, j < n → qeL ((p, q), (r, s)) (xs.getD j dL) = false) (fun n => xs.length - n)
      (fun n => [(5, .int .i64 n)]) (fun _ => []) (fun _ => []) 0 ⟨Nat.zero_le _, fun j h => absurd h (Nat.not_lt_zero _)⟩ ?_ ?_
    · conv => whnf
      refine ⟨?_, by (conv => whnf); repeat (first | exact True.intro | (refine And.intro rfl ?_; conv => whnf)), by (conv => whnf); repeat (first | exact True.intro | (refine And.intro (by first | rfl | (subst_vars; rfl)) ?_; conv => whnf)), rfl, rfl, rfl, rfl, rfl, rfl, rfl, Nat.le_of_ble_eq_true rfl, Nat.le_of_ble_eq_true rfl⟩
      conv => whnf
      repeat (first | exact True.intro | (refine And.intro (by first | rfl | ((conv => whnf); exact congrArg (AVal.int .i64) (by omega)) | ((conv => whnf); exact congrArg (AVal.int .i64) (by simp only [Int.natCast_add, Int.natCast_one]; omega))) ?_; conv => whnf))
    · rintro n ⟨h1, h2⟩
      conv => whnf
      refine vcCode_sound T_ok .nil _ _ _ _ _ ?_
      conv => whnf
      repeat (refine V_step T_ok .nil rfl ?_; conv => whnf)
      repeat (any_goals (first
        | (refine V_step T_ok .nil rfl ?_; conv => whnf)
        | (refine V_drawA T_ok .nil mixed (by kernel_rfl) ?_; conv => whnf)
        | (refine bcond_split (fun hc => ?_) (fun hc => ?_) <;> (try simp only [decide_eq_true_eq, decide_eq_false_iff_not, Bool.not_eq_true', Bool.not_eq_false', Bool.and_eq_true, Bool.or_eq_true, Bool.and_eq_false_imp, Bool.or_eq_false_iff, ne_eq, Decidable.not_not] at hc) <;> conv => whnf)
        | (intro ysK hysK; have hysl := congrArg List.length hysK; (try simp only [List.length_set, List.length_append, List.length_cons, List.length_nil] at hysl); conv => whnf)
        | (refine And.intro (by first | exact True.intro | (with_reducible assumption) | omega | (simp only [Rng]; omega) | exact Nat.le_of_ble_eq_true rfl | exact True.intro | exact Nat.le_of_ble_eq_true rfl | (refine ⟨by (try simp only [List.length_cons, List.length_nil]); omega, Int.le_trans (Int.mul_le_mul_of_nonneg_left (show (TInfo.bytes _ : Int) ≤ 64 from Int.ofNat_le.2 (Nat.le_of_ble_eq_true rfl)) (by omega)) (by (try simp only [List.length_cons, List.length_nil]); omega)⟩)) ?_; conv => whnf)))
      · rename_i hc0
        have hl : (n : Int) < (xs.length : Nat) := hc0
        have hp : qeL ((p, q), (r, s)) (xs.getD n dL) = true := decide_eq_true (Prod.ext (Prod.ext hc.1.1 hc.1.2) (Prod.ext hc.2.1 hc.2.2))
        exact leaf0 rfl (congrArg AVal.bool (List.any_eq_true.2 ⟨_, getD_mem (by omega), hp⟩).symm) rfl
      · rename_i hc0
        have hl : (n : Int) < (xs.length : Nat) := hc0
        have hc' : (xs.getD n dL).1.1 = p ∧ (xs.getD n dL).1.2 = q → (xs.getD n dL).2.1 = r → ¬ (xs.getD n dL).2.2 = s := hc
        have hp : qeL ((p, q), (r, s)) (xs.getD n dL) = false := decide_eq_false (fun h => by rw [h] at hc'; exact hc' ⟨rfl, rfl⟩ rfl rfl)
        refine ⟨n + 1, ⟨by omega, fun j hj => ?_⟩, by omega, ?_⟩
        · rcases Nat.lt_or_ge j n with h | h
          · exact h2 j h
          · obtain rfl : j = n := by omega
            exact hp
        · conv => whnf
          refine ⟨?_, by (conv => whnf); repeat (first | exact True.intro | (refine And.intro rfl ?_; conv => whnf)), by (conv => whnf); repeat (first | exact True.intro | (refine And.intro (by first | rfl | (subst_vars; rfl)) ?_; conv => whnf)), rfl, rfl, rfl, rfl, rfl, rfl, rfl, Nat.le_of_ble_eq_true rfl, Nat.le_of_ble_eq_true rfl⟩
          conv => whnf
          repeat (first | exact True.intro | (refine And.intro (by first | rfl | ((conv => whnf); exact congrArg (AVal.int .i64) (by omega)) | ((conv => whnf); exact congrArg (AVal.int .i64) (by simp only [Int.natCast_add, Int.natCast_one]; omega))) ?_; conv => whnf))
      · have hl : ¬ (n : Int) < (xs.length : Nat) := hc
        have hf : (xs : List Lf).any (qeL ((p, q), (r, s))) = false := by
          rw [List.any_eq_false]
          intro x hx
          obtain ⟨j, hj, rfl⟩ := List.mem_iff_getElem.1 hx
          have := h2 j (by omega)
          rw [List.getD_eq_getElem?_getD, List.getElem?_eq_getElem hj] at this
          rw [show xs[j] = (some xs[j]).getD dL from rfl, this]; simp
        exact leaf0 rfl (congrArg AVal.bool hf.symm) rfl

def sCarL (ys : List Lf) (l : Lf) : Bool := sDiaL l || ys.any (qeL (imageL l))
def sCrB (xs : List Lf) : Bool := sLamL xs && xs.all (sCarL xs)
def sCrC (xs : List Lf) : Int := if sLamL xs = true then 0 else 1
def sCarriedC : PCtr := fun _ rg _ vals k => match vals with
  | [.row i] => rowC lT (rg i) fun xs => True ∧ k [] (.tup [.bool (sCrB xs), .int .i64 (sCrC xs)])
  | _ => False
abbrev G13 := GOk.cons sLam_ok (GOk.cons sDia_ok (GOk.cons sImage_ok (GOk.cons sHas_ok .nil)))
theorem sCarried_ok : PCtrOk Try.prog 25 sCarriedC where
  enter := enter_ok Try.func25 (by kernel_rfl) rfl
  calls := by
    intro hg rg lr vals k h
    unfold sCarriedC at h
    split at h
    case h_2 => exact h.elim
    rename_i i
    obtain ⟨e, own, xs, hi, h⟩ : ∃ e own, ∃ (xs : List Lf), _ := rowC_inv h
    have hk := h.2
    refine ⟨_, _, hk, fun A w hB hR => ?_⟩
    refine enter T_ok G13 Try.func25 rfl (K := (· < w.heap.size)) (fun _ h => h) (A := A.pick [] [i]) (vals := [.row 0]) (n0 := 0) (b0 := 0) (rows := [some ⟨lT, e, false, xs⟩]) (hp := []) rfl (Nat.zero_le _) no_box rfl (one_row (hR i _ hi)) rfl rfl (Nat.le_of_ble_eq_true rfl) ?_
    conv => whnf
    repeat (refine V_step T_ok G13 rfl ?_; conv => whnf)
    have hcap' : (@List.length (TyC.α lT) xs : Int) ≤ 9223372036854775807 := by
      have h1 := (hR i _ hi).len
      have h2 := (hR i _ hi).cap
      have h3 := (hR i _ hi).max
      simp only at h1
      have : maxLen = 9223372036854775807 := rfl
      omega
    repeat (any_goals (first
      | (refine V_step T_ok G13 rfl ?_; conv => whnf)
      | (refine V_drawA T_ok G13 mixed (by kernel_rfl) ?_; conv => whnf)
      | (refine bcond_split (fun hc => ?_) (fun hc => ?_) <;> (try simp only [decide_eq_true_eq, decide_eq_false_iff_not, Bool.not_eq_true', Bool.not_eq_false', Bool.and_eq_true, Bool.or_eq_true, Bool.and_eq_false_imp, Bool.or_eq_false_iff, ne_eq, Decidable.not_not] at hc) <;> conv => whnf)
      | (intro ysK hysK; have hysl := congrArg List.length hysK; (try simp only [List.length_set, List.length_append, List.length_cons, List.length_nil] at hysl); conv => whnf)
      | (refine And.intro (by first | exact True.intro | (with_reducible assumption) | omega | (simp only [Rng]; omega) | exact Nat.le_of_ble_eq_true rfl | exact True.intro | exact Nat.le_of_ble_eq_true rfl | (refine ⟨by (try simp only [List.length_cons, List.length_nil]); omega, Int.le_trans (Int.mul_le_mul_of_nonneg_left (show (TInfo.bytes _ : Int) ≤ 64 from Int.ofNat_le.2 (Nat.le_of_ble_eq_true rfl)) (by omega)) (by (try simp only [List.length_cons, List.length_nil]); omega)⟩)) ?_; conv => whnf)))
    · have hc : sLamL xs = false := hc
      refine leaf0 rfl ?_ rfl
      rw [show sCrB xs = false by rw [sCrB, hc]; rfl, show sCrC xs = 1 by rw [sCrC, hc]; rfl]
    · have hL : sLamL xs = true := hc
      have hgS : ∀ j, j < xs.length → SmL (xs.getD j dL) := fun j hj => (sLam_all hL j hj).sm
      have e0 : sCrC xs = 0 := by rw [sCrC, hL]; rfl
      refine V_loopH (γ := Nat) (fun n => n ≤ xs.length ∧ ∀ j, j < n → sCarL xs (xs.getD j dL) = true) (fun n => xs.length - n)
        (fun n => [(4, .int .i64 n)]) (fun _ => []) (fun _ => []) 0 ⟨Nat.zero_le _, fun j h => absurd h (Nat.not_lt_zero _)⟩ ?_ ?_
      · conv => whnf
        refine ⟨?_, by (conv => whnf); repeat (first | exact True.intro | (refine And.intro rfl ?_; conv => whnf)), by (conv => whnf); repeat (first | exact True.intro | (refine And.intro (by first | rfl | (subst_vars; rfl)) ?_; conv => whnf)), rfl, rfl, rfl, rfl, rfl, rfl, rfl, Nat.le_of_ble_eq_true rfl, Nat.le_of_ble_eq_true rfl⟩
        conv => whnf
        repeat (first | exact True.intro | (refine And.intro (by first | rfl | ((conv => whnf); exact congrArg (AVal.int .i64) (by omega)) | ((conv => whnf); exact congrArg (AVal.int .i64) (by simp only [Int.natCast_add, Int.natCast_one]; omega))) ?_; conv => whnf))
      · rintro n ⟨h1, h2⟩
        conv => whnf
        refine vcCode_sound T_ok G13 _ _ _ _ _ ?_
        conv => whnf
        repeat (refine V_step T_ok G13 rfl ?_; conv => whnf)
        repeat (any_goals (first
          | (refine V_step T_ok G13 rfl ?_; conv => whnf)
          | (refine V_drawA T_ok G13 mixed (by kernel_rfl) ?_; conv => whnf)
          | (refine bcond_split (fun hc => ?_) (fun hc => ?_) <;> (try simp only [decide_eq_true_eq, decide_eq_false_iff_not, Bool.not_eq_true', Bool.not_eq_false', Bool.and_eq_true, Bool.or_eq_true, Bool.and_eq_false_imp, Bool.or_eq_false_iff, ne_eq, Decidable.not_not] at hc) <;> conv => whnf)
          | (intro ysK hysK; have hysl := congrArg List.length hysK; (try simp only [List.length_set, List.length_append, List.length_cons, List.length_nil] at hysl); conv => whnf)
          | (refine And.intro (by first | (first | exact True.intro | omega | (simp only [Rng]; omega) | exact hgS n (by (have hl' : (n : Int) < (List.length (α := Lf) xs : Nat) := by assumption); omega)) | exact True.intro | exact Nat.le_of_ble_eq_true rfl | (refine ⟨by (try simp only [List.length_cons, List.length_nil]); omega, Int.le_trans (Int.mul_le_mul_of_nonneg_left (show (TInfo.bytes _ : Int) ≤ 64 from Int.ofNat_le.2 (Nat.le_of_ble_eq_true rfl)) (by omega)) (by (try simp only [List.length_cons, List.length_nil]); omega)⟩)) ?_; conv => whnf)))
        · rename_i hc1 hc2
          have hl : (n : Int) < (xs.length : Nat) := hc1
          have hd : sDiaL (xs.getD n dL) = false := hc2
          have ha : xs.any (qeL (imageL (xs.getD n dL))) = false := hc
          have hs : sCarL xs (xs.getD n dL) = false := by rw [sCarL, hd, ha]; rfl
          have hb : sCrB xs = false := by
            have : xs.all (sCarL xs) = false := List.all_eq_false.2 ⟨_, getD_mem (show n < xs.length by omega), by rw [hs]; simp⟩
            rw [sCrB, this, Bool.and_false]
          refine leaf0 rfl ?_ rfl
          rw [hb, e0]
        · rename_i hc1 hc2
          have hl : (n : Int) < (xs.length : Nat) := hc1
          have ha : xs.any (qeL (imageL (xs.getD n dL))) = true := hc
          have hs : sCarL xs (xs.getD n dL) = true := by rw [sCarL, ha, Bool.or_true]
          refine ⟨n + 1, ⟨by omega, fun j hj => ?_⟩, by omega, ?_⟩
          · rcases Nat.lt_or_ge j n with h | h
            · exact h2 j h
            · obtain rfl : j = n := by omega
              exact hs
          · conv => whnf
            refine ⟨?_, by (conv => whnf); repeat (first | exact True.intro | (refine And.intro rfl ?_; conv => whnf)), by (conv => whnf); repeat (first | exact True.intro | (refine And.intro (by first | rfl | (subst_vars; rfl)) ?_; conv => whnf)), rfl, rfl, rfl, rfl, rfl, rfl, rfl, Nat.le_of_ble_eq_true rfl, Nat.le_of_ble_eq_true rfl⟩
            conv => whnf
            repeat (first | exact True.intro | (refine And.intro (by first | rfl | ((conv => whnf); exact congrArg (AVal.int .i64) (by omega)) | ((conv => whnf); exact congrArg (AVal.int .i64) (by simp only [Int.natCast_add, Int.natCast_one]; omega))) ?_; conv => whnf))
        · rename_i hc1
          have hl : (n : Int) < (xs.length : Nat) := hc1
          have hd : sDiaL (xs.getD n dL) = true := hc
          have hs : sCarL xs (xs.getD n dL) = true := by rw [sCarL, hd, Bool.true_or]
          refine ⟨n + 1, ⟨by omega, fun j hj => ?_⟩, by omega, ?_⟩
          · rcases Nat.lt_or_ge j n with h | h
            · exact h2 j h
            · obtain rfl : j = n := by omega
              exact hs
          · conv => whnf
            refine ⟨?_, by (conv => whnf); repeat (first | exact True.intro | (refine And.intro rfl ?_; conv => whnf)), by (conv => whnf); repeat (first | exact True.intro | (refine And.intro (by first | rfl | (subst_vars; rfl)) ?_; conv => whnf)), rfl, rfl, rfl, rfl, rfl, rfl, rfl, Nat.le_of_ble_eq_true rfl, Nat.le_of_ble_eq_true rfl⟩
            conv => whnf
            repeat (first | exact True.intro | (refine And.intro (by first | rfl | ((conv => whnf); exact congrArg (AVal.int .i64) (by omega)) | ((conv => whnf); exact congrArg (AVal.int .i64) (by simp only [Int.natCast_add, Int.natCast_one]; omega))) ?_; conv => whnf))
        · have hl : ¬ (n : Int) < (xs.length : Nat) := hc
          have hb : sCrB xs = true := by
            have : xs.all (sCarL xs) = true := List.all_eq_true.2 fun x hx => by
              obtain ⟨j, hj, rfl⟩ := List.mem_iff_getElem.1 hx
              have := h2 j (by omega)
              rw [List.getD_eq_getElem?_getD, List.getElem?_eq_getElem hj] at this
              exact this
            rw [sCrB, hL, this]; rfl
          refine leaf0 rfl ?_ rfl
          rw [hb, e0]

end Go.Proofs.Ytlplngafncobkaa.Fw
