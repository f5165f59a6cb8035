/- Contracts: lists of ray pairs in the laws; the reference's pairs of a period. -/
import Derived.Test.YtlplngafncobkabQ4
namespace Go.Proofs.Ytlplngafncobkab.Fw
open Go Go.RowKit
set_option linter.unusedVariables false
set_option linter.unusedSimpArgs false
set_option maxRecDepth 100000
set_option maxHeartbeats 2000000

/-- What the law marks a result with. -/
def mkPF (q : Int) (i : Nat) : Lf := ((q + 4 * i, q + 4 * i + 1), (q + 4 * i + 2, q + 4 * i + 3))
def mkPMC : MCtr := fun hg rg _ vals k => match vals with
  | [.row i, .int .i64 q] => rowO lT (rg i) fun e xs => ((0 ≤ q ∧ q ≤ 1000000) ∧ (@List.length Lf xs : Int) ≤ 1000000) ∧ k [(i, some ⟨lT, e, true, (List.range (@List.length Lf xs)).map (mkPF q)⟩)] [] (.int .i64 (q + 4 * (@List.length Lf xs : Int)))
  | _ => False
theorem mkPM_ok : MCtrOk Try.prog 19 mkPMC where
  enter := enter_ok Try.func19 (by kernel_rfl) rfl
  calls := by
    intro hg rg lr vals k h
    unfold mkPMC at h
    split at h
    case h_2 => exact h.elim
    rename_i i q
    obtain ⟨e, xs, hi, h⟩ : ∃ e, ∃ (xs : List Lf), _ := rowO_inv h
    obtain ⟨⟨hq, hl⟩, hk⟩ := h
    refine ⟨_, _, _, hk, (ups_one hi rfl (fun r' hr' => by cases hr'; exact ⟨rfl, rfl, rfl⟩)), fun A w hM => ?_⟩
    have hO := One.of hi rfl
    refine enterM T_ok .nil Try.func19 rfl (w := w) (A := A.pick [] [i]) (vals := [.row 0, .int .i64 q]) (n0 := 1) (b0 := 0) (rows := [some ⟨lT, e, true, xs⟩]) (hp := []) rfl (Nat.le_refl _) (hM.one hi) rfl rfl rfl (Nat.le_of_ble_eq_true rfl) ?_
    conv => whnf
    repeat (refine V_step T_ok .nil rfl ?_; conv => whnf)
    refine V_loopH (γ := Nat × List Lf) (fun g => g.1 ≤ xs.length ∧ g.2.length = xs.length ∧ ∀ j, j < g.1 → g.2.getD j lT.dflt = mkPF q j) (fun g => xs.length - g.1)
      (fun g => [(1, .int .i64 (q + 4 * g.1)), (5, .int .i64 g.1)]) (fun _ => []) (fun g => [(0, some ⟨lT, e, true, g.2⟩)]) (0, xs) ⟨Nat.zero_le _, rfl, fun j h => absurd h (Nat.not_lt_zero _)⟩ ?_ ?_
    · conv => whnf
      refine ⟨?_, by (conv => whnf); repeat (first | exact True.intro | (refine And.intro rfl ?_; conv => whnf)), by (conv => whnf); repeat (first | exact True.intro | (refine And.intro (by first | rfl | (subst_vars; rfl)) ?_; conv => whnf)), rfl, rfl, rfl, rfl, rfl, rfl, rfl, Nat.le_of_ble_eq_true rfl, Nat.le_of_ble_eq_true rfl⟩
      conv => whnf
      repeat (first | exact True.intro | (refine And.intro (by first | rfl | ((conv => whnf); exact congrArg (AVal.int .i64) (by omega)) | ((conv => whnf); exact congrArg (AVal.int .i64) (by simp only [Int.natCast_add, Int.natCast_one]; omega))) ?_; conv => whnf))
    · rintro ⟨n, L⟩ ⟨h1, hlen, h2⟩
      simp only at h1 hlen h2
      conv => whnf
      refine vcCode_sound T_ok .nil _ _ _ _ _ ?_
      conv => whnf
      repeat (refine V_step T_ok .nil rfl ?_; conv => whnf)
      repeat (any_goals (first
        | (refine V_step T_ok .nil rfl ?_; conv => whnf)
        | (refine V_drawA T_ok .nil mixed (by kernel_rfl) ?_; conv => whnf)
        | (refine bcond_split (fun hc => ?_) (fun hc => ?_) <;> (try simp only [decide_eq_true_eq, decide_eq_false_iff_not, Bool.not_eq_true', Bool.not_eq_false', Bool.and_eq_true, Bool.or_eq_true, Bool.and_eq_false_imp, Bool.or_eq_false_iff, ne_eq, Decidable.not_not] at hc) <;> conv => whnf)
        | (intro ysK hysK; have hysl := congrArg List.length hysK; (try simp only [List.length_set, List.length_append, List.length_cons, List.length_nil, List.length_take, List.length_drop, List.length_replicate] at hysl); conv => whnf)
        | (refine And.intro (by first | exact True.intro | (with_reducible assumption) | omega | (simp only [Rng]; omega) | exact Nat.le_of_ble_eq_true rfl | exact True.intro | exact Nat.le_of_ble_eq_true rfl | (refine ⟨by (try simp only [List.length_cons, List.length_nil]); omega, Int.le_trans (Int.mul_le_mul_of_nonneg_left (show (TInfo.bytes _ : Int) ≤ 64 from Int.ofNat_le.2 (Nat.le_of_ble_eq_true rfl)) (by omega)) (by (try simp only [List.length_cons, List.length_nil]); omega)⟩)) ?_; conv => whnf)))
      · have hl : (n : Int) < (L.length : Nat) := by assumption
        rename_i y1 e1 l1 y2 e2 l2 y3 e3 l3
        simp only [Int.toNat_natCast] at e1 e2 e3 hysK
        have g1 : y1.getD n lT.dflt = _ := (congrArg (fun z => List.getD z n lT.dflt) e1).trans (getD_set (by omega))
        have g2 : y2.getD n lT.dflt = _ := (congrArg (fun z => List.getD z n lT.dflt) e2).trans (getD_set (by omega))
        rw [g1] at g2
        have g3 : y3.getD n lT.dflt = _ := (congrArg (fun z => List.getD z n lT.dflt) e3).trans (getD_set (by omega))
        rw [g2] at g3
        have g4 : ysK.getD n lT.dflt = _ := (congrArg (fun z => List.getD z n lT.dflt) hysK).trans (getD_set (by omega))
        rw [g3] at g4
        refine ⟨(n + 1, ysK), ⟨by simp only; omega, by simp only; omega, fun j hj => ?_⟩, by simp only; omega, ?_⟩
        · simp only at hj ⊢
          rcases Nat.lt_or_ge j n with h | h
          · rw [← h2 j h, List.getD_eq_getElem?_getD, List.getD_eq_getElem?_getD, hysK, List.getElem?_set_ne (by omega), e3, List.getElem?_set_ne (by omega), e2, List.getElem?_set_ne (by omega), e1, List.getElem?_set_ne (by omega)]
          · obtain rfl : j = n := by omega
            rw [g4]
            simp only [mkPF, Int.add_assoc]
            rfl
        · conv => whnf
          refine ⟨?_, by (conv => whnf); repeat (first | exact True.intro | (refine And.intro rfl ?_; conv => whnf)), by (conv => whnf); repeat (first | exact True.intro | (refine And.intro (by first | rfl | (subst_vars; rfl)) ?_; conv => whnf)), rfl, rfl, rfl, rfl, rfl, rfl, rfl, Nat.le_of_ble_eq_true rfl, Nat.le_of_ble_eq_true rfl⟩
          conv => whnf
          repeat (first | exact True.intro | (refine And.intro (by first | rfl | ((conv => whnf); exact congrArg (AVal.int .i64) (by omega)) | ((conv => whnf); exact congrArg (AVal.int .i64) (by simp only [Int.natCast_add, Int.natCast_one]; omega))) ?_; conv => whnf))
      · have hge : ¬ (n : Int) < (L.length : Nat) := hc
        obtain rfl : n = L.length := by omega
        have hL : (List.range xs.length).map (mkPF q) = L := by
          refine List.ext_getElem (by simp [hlen]) fun j h3 h4 => ?_
          have := h2 j (by omega)
          rw [List.getD_eq_getElem?_getD, List.getElem?_eq_getElem h4] at this
          simp only [List.getElem_map, List.getElem_range]
          exact this.symm
        rw [hL, ← hlen]
        exact leafM0 hO Nat.zero_lt_one rfl rfl rfl rfl rfl

def mkPHC : PCtr := fun hg rg _ vals k => match vals with
  | [.row i, .int .i64 q] => rowC lT (rg i) fun xs => ((0 ≤ q ∧ q ≤ 1000000) ∧ (@List.length Lf xs : Int) ≤ 1000000 ∧ (xs : List Lf) = (List.range (@List.length Lf xs)).map (mkPF q)) ∧ k [] (.int .i64 (q + 4 * (@List.length Lf xs : Int)))
  | _ => False
theorem mkPH_ok : PCtrOk Try.prog 20 mkPHC where
  enter := enter_ok Try.func20 (by kernel_rfl) rfl
  calls := by
    intro hg rg lr vals k h
    unfold mkPHC at h
    split at h
    case h_2 => exact h.elim
    rename_i i q
    obtain ⟨e, own, xs, hi, h⟩ : ∃ e own, ∃ (xs : List Lf), _ := rowC_inv h
    obtain ⟨⟨hq, hl, hx⟩, hk⟩ := h
    refine ⟨_, _, hk, fun A w hB hR => ?_⟩
    refine enter T_ok .nil Try.func20 rfl (K := (· < w.heap.size)) (fun _ h => h) (A := A.pick [] [i]) (vals := [.row 0, .int .i64 q]) (n0 := 0) (b0 := 0) (rows := [some ⟨lT, e, false, xs⟩]) (hp := []) rfl (Nat.zero_le _) no_box rfl (one_row (hR i _ hi)) rfl rfl (Nat.le_of_ble_eq_true rfl) ?_
    conv => whnf
    repeat (refine V_step T_ok .nil rfl ?_; conv => whnf)
    have hget : ∀ n, n < xs.length → xs.getD n lT.dflt = mkPF q n := fun n hn => by
      rw [hx, List.getD_eq_getElem?_getD, List.getElem?_map, List.getElem?_range (by simpa using hn)]; rfl
    clear hx
    refine V_loopH (γ := Nat) (fun n => n ≤ xs.length) (fun n => xs.length - n)
      (fun n => [(1, .int .i64 (q + 4 * n)), (5, .int .i64 n)]) (fun _ => []) (fun _ => []) 0 (Nat.zero_le _) ?_ ?_
    · conv => whnf
      refine ⟨?_, by (conv => whnf); repeat (first | exact True.intro | (refine And.intro rfl ?_; conv => whnf)), by (conv => whnf); repeat (first | exact True.intro | (refine And.intro (by first | rfl | (subst_vars; rfl)) ?_; conv => whnf)), rfl, rfl, rfl, rfl, rfl, rfl, rfl, Nat.le_of_ble_eq_true rfl, Nat.le_of_ble_eq_true rfl⟩
      conv => whnf
      repeat (first | exact True.intro | (refine And.intro (by first | rfl | ((conv => whnf); exact congrArg (AVal.int .i64) (by omega)) | ((conv => whnf); exact congrArg (AVal.int .i64) (by simp only [Int.natCast_add, Int.natCast_one]; omega))) ?_; conv => whnf))
    · rintro n h1
      conv => whnf
      refine vcCode_sound T_ok .nil _ _ _ _ _ ?_
      conv => whnf
      repeat (refine V_step T_ok .nil rfl ?_; conv => whnf)
      repeat (any_goals (first
        | (refine V_step T_ok .nil rfl ?_; conv => whnf)
        | (refine V_drawA T_ok .nil mixed (by kernel_rfl) ?_; conv => whnf)
        | (refine bcond_split (fun hc => ?_) (fun hc => ?_) <;> (try simp only [decide_eq_true_eq, decide_eq_false_iff_not, Bool.not_eq_true', Bool.not_eq_false', Bool.and_eq_true, Bool.or_eq_true, Bool.and_eq_false_imp, Bool.or_eq_false_iff, ne_eq, Decidable.not_not] at hc) <;> conv => whnf)
        | (intro ysK hysK; have hysl := congrArg List.length hysK; (try simp only [List.length_set, List.length_append, List.length_cons, List.length_nil, List.length_take, List.length_drop, List.length_replicate] at hysl); conv => whnf)
        | (refine And.intro (by first | exact True.intro | (with_reducible assumption) | omega | (simp only [Rng]; omega) | exact Nat.le_of_ble_eq_true rfl | exact True.intro | exact Nat.le_of_ble_eq_true rfl | (refine ⟨by (try simp only [List.length_cons, List.length_nil]); omega, Int.le_trans (Int.mul_le_mul_of_nonneg_left (show (TInfo.bytes _ : Int) ≤ 64 from Int.ofNat_le.2 (Nat.le_of_ble_eq_true rfl)) (by omega)) (by (try simp only [List.length_cons, List.length_nil]); omega)⟩)) ?_; conv => whnf)))
      all_goals first
        | (have hge : ¬ (n : Int) < (xs.length : Nat) := hc
           obtain rfl : n = xs.length := by omega
           exact leaf0 rfl rfl rfl)
        | (have hl' : (n : Int) < (xs.length : Nat) := by assumption
           have hg := hget n (by omega)
           exact absurd (by (simp only [Int.toNat_natCast, hg, mkPF]) <;> omega) hc)
        | skip
      all_goals (have hl' : (n : Int) < (xs.length : Nat) := by assumption
                 have hg := hget n (by omega)
                 refine ⟨n + 1, by omega, by omega, ?_⟩)
      · conv => whnf
        refine ⟨?_, by (conv => whnf); repeat (first | exact True.intro | (refine And.intro rfl ?_; conv => whnf)), by (conv => whnf); repeat (first | exact True.intro | (refine And.intro (by first | rfl | (subst_vars; rfl)) ?_; conv => whnf)), rfl, rfl, rfl, rfl, rfl, rfl, rfl, Nat.le_of_ble_eq_true rfl, Nat.le_of_ble_eq_true rfl⟩
        conv => whnf
        repeat (first | exact True.intro | (refine And.intro (by first | rfl | ((conv => whnf); exact congrArg (AVal.int .i64) (by omega)) | ((conv => whnf); exact congrArg (AVal.int .i64) (by simp only [Int.natCast_add, Int.natCast_one]; omega))) ?_; conv => whnf))


def eqPs (xs ys : List Lf) : Bool := decide (xs = ys)
def eqPsC : PCtr := fun _ rg _ vals k => match vals with
  | [.row i, .row j] => rowC lT (rg i) fun xs => rowC lT (rg j) fun ys => True ∧ k [] (.bool (eqPs xs ys))
  | _ => False
theorem eqPs_ok : PCtrOk Try.prog 18 eqPsC where
  enter := enter_ok Try.func18 (by kernel_rfl) rfl
  calls := by
    intro hg rg lr vals k h
    unfold eqPsC at h
    split at h
    case h_2 => exact h.elim
    rename_i i j
    obtain ⟨e, own, xs, hi, h⟩ : ∃ e own, ∃ (xs : List Lf), _ := rowC_inv h
    obtain ⟨e', own', ys, hj, h⟩ : ∃ e own, ∃ (xs : List Lf), _ := rowC_inv h
    have hk := h.2
    refine ⟨_, _, hk, fun A w hB hR => ?_⟩
    refine enter T_ok (GOk.cons eqPair_ok .nil) Try.func18 rfl (K := (· < w.heap.size)) (fun _ h => h) (A := A.pick [] [i, j]) (vals := [.row 0, .row 1]) (n0 := 0) (b0 := 0) (rows := [some ⟨lT, e, false, xs⟩, some ⟨lT, e', false, ys⟩]) (hp := []) rfl (Nat.zero_le _) no_box rfl (two_rows (hR i _ hi) (hR j _ hj)) rfl rfl (Nat.le_of_ble_eq_true rfl) ?_
    conv => whnf
    repeat (refine V_step T_ok (GOk.cons eqPair_ok .nil) rfl ?_; conv => whnf)
    have hcap' : (@List.length (TyC.α lT) xs : Int) ≤ 9223372036854775807 := by
      have h1 := (hR i _ hi).len
      have h2 := (hR i _ hi).cap
      have h3 := (hR i _ hi).max
      simp only at h1
      have : maxLen = 9223372036854775807 := rfl
      omega
    repeat (any_goals (first
      | (refine V_step T_ok (GOk.cons eqPair_ok .nil) rfl ?_; conv => whnf)
      | (refine V_drawA T_ok (GOk.cons eqPair_ok .nil) mixed (by kernel_rfl) ?_; conv => whnf)
      | (refine bcond_split (fun hc => ?_) (fun hc => ?_) <;> (try simp only [decide_eq_true_eq, decide_eq_false_iff_not, Bool.not_eq_true', Bool.not_eq_false', Bool.and_eq_true, Bool.or_eq_true, Bool.and_eq_false_imp, Bool.or_eq_false_iff, ne_eq, Decidable.not_not] at hc) <;> conv => whnf)
      | (intro ysK hysK; have hysl := congrArg List.length hysK; (try simp only [List.length_set, List.length_append, List.length_cons, List.length_nil, List.length_take, List.length_drop, List.length_replicate] at hysl); conv => whnf)
      | (refine And.intro (by first | exact True.intro | (with_reducible assumption) | omega | (simp only [Rng]; omega) | exact Nat.le_of_ble_eq_true rfl | exact True.intro | exact Nat.le_of_ble_eq_true rfl | (refine ⟨by (try simp only [List.length_cons, List.length_nil]); omega, Int.le_trans (Int.mul_le_mul_of_nonneg_left (show (TInfo.bytes _ : Int) ≤ 64 from Int.ofNat_le.2 (Nat.le_of_ble_eq_true rfl)) (by omega)) (by (try simp only [List.length_cons, List.length_nil]); omega)⟩)) ?_; conv => whnf)))
    · have hc : ¬ (xs.length : Int) = ys.length := hc
      refine leaf0 rfl (congrArg AVal.bool ?_) rfl
      rw [eqPs, eq_comm, decide_eq_false_iff_not]
      intro h; rw [h] at hc; exact hc rfl
    · have hlen : (xs.length : Int) = ys.length := hc
      refine V_loopH (γ := Nat) (fun n => n ≤ xs.length ∧ ∀ j, j < n → xs.getD j dL = ys.getD j dL) (fun n => xs.length - n)
        (fun n => [(5, .int .i64 n)]) (fun _ => []) (fun _ => []) 0 ⟨Nat.zero_le _, fun j h => absurd h (Nat.not_lt_zero _)⟩ ?_ ?_
      · conv => whnf
        refine ⟨?_, by (conv => whnf); repeat (first | exact True.intro | (refine And.intro rfl ?_; conv => whnf)), by (conv => whnf); repeat (first | exact True.intro | (refine And.intro (by first | rfl | (subst_vars; rfl)) ?_; conv => whnf)), rfl, rfl, rfl, rfl, rfl, rfl, rfl, Nat.le_of_ble_eq_true rfl, Nat.le_of_ble_eq_true rfl⟩
        conv => whnf
        repeat (first | exact True.intro | (refine And.intro (by first | rfl | ((conv => whnf); exact congrArg (AVal.int .i64) (by omega)) | ((conv => whnf); exact congrArg (AVal.int .i64) (by simp only [Int.natCast_add, Int.natCast_one]; omega))) ?_; conv => whnf))
      · rintro n ⟨h1, h2⟩
        conv => whnf
        refine vcCode_sound T_ok (GOk.cons eqPair_ok .nil) _ _ _ _ _ ?_
        conv => whnf
        repeat (refine V_step T_ok (GOk.cons eqPair_ok .nil) rfl ?_; conv => whnf)
        repeat (any_goals (first
          | (refine V_step T_ok (GOk.cons eqPair_ok .nil) rfl ?_; conv => whnf)
          | (refine V_drawA T_ok (GOk.cons eqPair_ok .nil) mixed (by kernel_rfl) ?_; conv => whnf)
          | (refine bcond_split (fun hc => ?_) (fun hc => ?_) <;> (try simp only [decide_eq_true_eq, decide_eq_false_iff_not, Bool.not_eq_true', Bool.not_eq_false', Bool.and_eq_true, Bool.or_eq_true, Bool.and_eq_false_imp, Bool.or_eq_false_iff, ne_eq, Decidable.not_not] at hc) <;> conv => whnf)
          | (intro ysK hysK; have hysl := congrArg List.length hysK; (try simp only [List.length_set, List.length_append, List.length_cons, List.length_nil, List.length_take, List.length_drop, List.length_replicate] at hysl); conv => whnf)
          | (refine And.intro (by first | (first | exact True.intro | omega | (simp only [Rng]; omega) | (refine ⟨by omega, ?_⟩; have hll : (n : Int) < (@List.length (TyC.α lT) ys : Nat) := (by (have hl' : (n : Int) < (List.length (α := Lf) xs : Nat) := by assumption); rw [hlen] at hl'; exact hl'); exact hll)) | exact True.intro | exact Nat.le_of_ble_eq_true rfl | (refine ⟨by (try simp only [List.length_cons, List.length_nil]); omega, Int.le_trans (Int.mul_le_mul_of_nonneg_left (show (TInfo.bytes _ : Int) ≤ 64 from Int.ofNat_le.2 (Nat.le_of_ble_eq_true rfl)) (by omega)) (by (try simp only [List.length_cons, List.length_nil]); omega)⟩)) ?_; conv => whnf)))
        · rename_i hc1
          have hl : (n : Int) < (xs.length : Nat) := hc1
          have hc' : ¬ xs.getD n dL = ys.getD n dL := hc
          refine leaf0 rfl (congrArg AVal.bool ?_) rfl
          rw [eqPs, eq_comm, decide_eq_false_iff_not]
          intro h; rw [h] at hc'; exact hc' rfl
        · rename_i hc1
          have hl : (n : Int) < (xs.length : Nat) := hc1
          have hc' : xs.getD n dL = ys.getD n dL := hc
          refine ⟨n + 1, ⟨by omega, fun j hj => ?_⟩, by omega, ?_⟩
          · rcases Nat.lt_or_ge j n with h | h
            · exact h2 j h
            · obtain rfl : j = n := by omega
              exact hc'
          · conv => whnf
            refine ⟨?_, by (conv => whnf); repeat (first | exact True.intro | (refine And.intro rfl ?_; conv => whnf)), by (conv => whnf); repeat (first | exact True.intro | (refine And.intro (by first | rfl | (subst_vars; rfl)) ?_; conv => whnf)), rfl, rfl, rfl, rfl, rfl, rfl, rfl, Nat.le_of_ble_eq_true rfl, Nat.le_of_ble_eq_true rfl⟩
            conv => whnf
            repeat (first | exact True.intro | (refine And.intro (by first | rfl | ((conv => whnf); exact congrArg (AVal.int .i64) (by omega)) | ((conv => whnf); exact congrArg (AVal.int .i64) (by simp only [Int.natCast_add, Int.natCast_one]; omega))) ?_; conv => whnf))
        · have hl : ¬ (n : Int) < (xs.length : Nat) := hc
          refine leaf0 rfl (congrArg AVal.bool ?_) rfl
          rw [eqPs, eq_comm, decide_eq_true_iff]
          apply List.ext_getElem (by omega)
          intro j h3 h4
          have := h2 j (by omega)
          rw [List.getD_eq_getElem?_getD, List.getElem?_eq_getElem h3, List.getD_eq_getElem?_getD, List.getElem?_eq_getElem h4] at this
          exact this

/-! ### the reference's pairs of a period: the end of the list of all -/
def popA (n : Int) : List Lf := if 2 ≤ n ∧ n ≤ 8 then prN (n.toNat - 1) else []
def popK (n : Int) : Nat := if 2 ≤ n ∧ n ≤ 8 then (prN (n.toNat - 2)).length else 0
theorem pop_drop (n : Int) : (popA n).drop (popK n) = popL n := by
  unfold popA popK popL
  split
  · rw [show n.toNat - 1 = (n.toNat - 2) + 1 by omega]; rfl
  · rfl
theorem pop_len (n : Int) : (popA n).length = popK n + (popL n).length := by
  by_cases h : 2 ≤ n ∧ n ≤ 8
  · unfold popA popK popL
    rw [if_pos h, if_pos h, if_pos h, show n.toNat - 1 = (n.toNat - 2) + 1 by omega, (prN_succ (m := n.toNat - 2) (by omega)).1, List.length_append]
  · unfold popA popK popL
    rw [if_neg h, if_neg h, if_neg h]; rfl
def sPopC : PCtr := fun _ _ lr vals k => match vals with
  | [.int .i64 n] => True ∧ ∀ zs, zs = popA n → ∀ a, a = popK n → ∀ l, l = (popL n).length → k [⟨lT, 36, true, zs⟩] (.tup [.vw lr a l 4, .int .i64 (popN n)])
  | _ => False
abbrev GSPo := GOk.cons sIn_ok (GOk.cons sPairs_ok .nil)
theorem sPop_ok : PCtrOk Try.prog 28 sPopC where
  enter := enter_ok Try.func28 (by kernel_rfl) rfl
  calls := by
    intro hg rg lr vals k h
    unfold sPopC at h
    split at h
    case h_2 => exact h.elim
    rename_i n
    obtain ⟨_, hk⟩ := h
    replace hk := hk _ rfl _ rfl _ rfl
    refine ⟨_, _, hk, fun A w _ _ => ?_⟩
    refine enter T_ok GSPo Try.func28 rfl (K := (· < w.heap.size)) (fun _ h => h) (A := A) (n0 := 0) (b0 := 0) (rows := []) (hp := []) rfl (Nat.zero_le _) (fun k r h => by cases h) rfl (fun k r h => by cases h) rfl rfl (Nat.le_of_ble_eq_true rfl) ?_
    conv => whnf
    repeat (refine V_step T_ok GSPo rfl ?_; conv => whnf)
    by_cases h0 : 2 ≤ n ∧ n ≤ 8
    · have hA : popA n = prN (n.toNat - 1) := if_pos h0
      have hK : popK n = (prN (n.toNat - 2)).length := if_pos h0
      have hpl := pop_len n
      have e1 : (n - 1).toNat - 1 = n.toNat - 2 := by omega
      rw [hA, hK] at hpl
      have hN : popN n = 0 := if_pos h0
      rw [hA, hK, hN]
      repeat (any_goals (first
        | (refine V_step T_ok GSPo rfl ?_; conv => whnf)
        | (refine V_drawA T_ok GSPo mixed (by kernel_rfl) ?_; conv => whnf)
        | (refine bcond_split (fun hc => ?_) (fun hc => ?_) <;> (try simp only [decide_eq_true_eq, decide_eq_false_iff_not, Bool.not_eq_true', Bool.not_eq_false', Bool.and_eq_true, Bool.or_eq_true, Bool.and_eq_false_imp, Bool.or_eq_false_iff, ne_eq, Decidable.not_not] at hc) <;> conv => whnf)
        | (intro ysK hysK; have hysl := congrArg List.length hysK; (try simp only [List.length_set, List.length_append, List.length_cons, List.length_nil, List.length_take, List.length_drop, List.length_replicate] at hysl); conv => whnf)
        | (refine And.intro (by first | (first | exact True.intro | omega | (simp only [Rng]; omega)) | exact True.intro | exact Nat.le_of_ble_eq_true rfl | (refine ⟨by (try simp only [List.length_cons, List.length_nil]); omega, Int.le_trans (Int.mul_le_mul_of_nonneg_left (show (TInfo.bytes _ : Int) ≤ 64 from Int.ofNat_le.2 (Nat.le_of_ble_eq_true rfl)) (by omega)) (by (try simp only [List.length_cons, List.length_nil]); omega)⟩)) ?_; conv => whnf)))
      · exact absurd h0 hc
      · rw [e1]
        generalize prN (n.toNat - 1) = zs at *
        generalize prN (n.toNat - 2) = ws at *
        have hpl' : List.length (α := Lf) zs = List.length (α := Lf) ws + (popL n).length := hpl
        repeat (any_goals (first
          | (refine V_step T_ok GSPo rfl ?_; conv => whnf)
          | (refine V_drawA T_ok GSPo mixed (by kernel_rfl) ?_; conv => whnf)
          | (refine bcond_split (fun hc => ?_) (fun hc => ?_) <;> (try simp only [decide_eq_true_eq, decide_eq_false_iff_not, Bool.not_eq_true', Bool.not_eq_false', Bool.and_eq_true, Bool.or_eq_true, Bool.and_eq_false_imp, Bool.or_eq_false_iff, ne_eq, Decidable.not_not] at hc) <;> conv => whnf)
          | (intro ysK hysK; have hysl := congrArg List.length hysK; (try simp only [List.length_set, List.length_append, List.length_cons, List.length_nil, List.length_take, List.length_drop, List.length_replicate] at hysl); conv => whnf)
          | (refine And.intro (by first | (first | exact True.intro | omega | (simp only [Rng]; omega)) | exact True.intro | exact Nat.le_of_ble_eq_true rfl | (refine ⟨by (try simp only [List.length_cons, List.length_nil]); omega, Int.le_trans (Int.mul_le_mul_of_nonneg_left (show (TInfo.bytes _ : Int) ≤ 64 from Int.ofNat_le.2 (Nat.le_of_ble_eq_true rfl)) (by omega)) (by (try simp only [List.length_cons, List.length_nil]); omega)⟩)) ?_; conv => whnf)))
        refine leaf1 0 rfl rfl rfl rfl (fun B C h => ?_)
        have e2 : zs.length - ((ws.length : Int)).toNat = (popL n).length := by omega
        simp only [Int.toNat_natCast] at e2 ⊢
        simp [AVal.den, dens, h, e2]
        rfl
    · have hA : popA n = [] := if_neg h0
      have hK : popK n = 0 := if_neg h0
      have hL : popL n = [] := if_neg h0
      have hN : popN n = 2 := if_neg h0
      rw [hA, hK, hL, hN]
      repeat (any_goals (first
        | (refine V_step T_ok GSPo rfl ?_; conv => whnf)
        | (refine V_drawA T_ok GSPo mixed (by kernel_rfl) ?_; conv => whnf)
        | (refine bcond_split (fun hc => ?_) (fun hc => ?_) <;> (try simp only [decide_eq_true_eq, decide_eq_false_iff_not, Bool.not_eq_true', Bool.not_eq_false', Bool.and_eq_true, Bool.or_eq_true, Bool.and_eq_false_imp, Bool.or_eq_false_iff, ne_eq, Decidable.not_not] at hc) <;> conv => whnf)
        | (intro ysK hysK; have hysl := congrArg List.length hysK; (try simp only [List.length_set, List.length_append, List.length_cons, List.length_nil, List.length_take, List.length_drop, List.length_replicate] at hysl); conv => whnf)
        | (refine And.intro (by first | exact True.intro | (with_reducible assumption) | omega | (simp only [Rng]; omega) | exact Nat.le_of_ble_eq_true rfl | exact True.intro | exact Nat.le_of_ble_eq_true rfl | (refine ⟨by (try simp only [List.length_cons, List.length_nil]); omega, Int.le_trans (Int.mul_le_mul_of_nonneg_left (show (TInfo.bytes _ : Int) ≤ 64 from Int.ofNat_le.2 (Nat.le_of_ble_eq_true rfl)) (by omega)) (by (try simp only [List.length_cons, List.length_nil]); omega)⟩)) ?_; conv => whnf)))
      · refine leafN rfl rfl (fun B C h => ?_)
        simp [AVal.den, dens, h, Hdr.val, Hdr.view]
      · exact absurd hc h0
end Go.Proofs.Ytlplngafncobkab.Fw
