/- The law of rotation sets. -/
import Derived.Test.YtmbfflckgmdncaaZ6
namespace Go.Proofs.Ytmbfflckgmdncaa.Fw
open Go Go.RowKit
set_option linter.unusedVariables false
set_option linter.unusedSimpArgs false
set_option maxRecDepth 100000
set_option maxHeartbeats 2000000

/-- What the law marks a result with. -/
def mkAF (q : Int) (i : Nat) : Ang := (q + 2 * i, q + 2 * i + 1)
def mkAMC : MCtr := fun hg rg _ vals k => match vals with
  | [.row i, .int .i64 q] => rowO aT (rg i) fun e xs => ((0 ≤ q ∧ q ≤ 1000000) ∧ (@List.length Ang xs : Int) ≤ 1000000) ∧ k [(i, some ⟨aT, e, true, (List.range (@List.length Ang xs)).map (mkAF q)⟩)] [] (.int .i64 (q + 2 * (@List.length Ang xs : Int)))
  | _ => False
theorem mkAM_ok : MCtrOk Try.prog 7 mkAMC where
  enter := enter_ok Try.func7 (by kernel_rfl) rfl
  calls := by
    intro hg rg lr vals k h
    unfold mkAMC at h
    split at h
    case h_2 => exact h.elim
    rename_i i q
    obtain ⟨e, xs, hi, h⟩ : ∃ e, ∃ (xs : List Ang), _ := rowO_inv h
    obtain ⟨⟨hq, hl⟩, hk⟩ := h
    refine ⟨_, _, _, hk, (ups_one hi rfl (fun r' hr' => by cases hr'; exact ⟨rfl, rfl, rfl⟩)), fun A w hM => ?_⟩
    have hO := One.of hi rfl
    refine enterM T_ok .nil Try.func7 rfl (w := w) (A := A.pick [] [i]) (vals := [.row 0, .int .i64 q]) (n0 := 1) (b0 := 0) (rows := [some ⟨aT, e, true, xs⟩]) (hp := []) rfl (Nat.le_refl _) (hM.one hi) rfl rfl rfl (Nat.le_of_ble_eq_true rfl) ?_
    conv => whnf
    repeat (refine V_step T_ok .nil rfl ?_; conv => whnf)
    refine V_loopH (γ := Nat × List Ang) (fun g => g.1 ≤ xs.length ∧ g.2.length = xs.length ∧ ∀ j, j < g.1 → g.2.getD j aT.dflt = mkAF q j) (fun g => xs.length - g.1)
      (fun g => [(1, .int .i64 (q + 2 * g.1)), (5, .int .i64 g.1)]) (fun _ => []) (fun g => [(0, some ⟨aT, e, true, g.2⟩)]) (0, xs) ⟨Nat.zero_le _, rfl, fun j h => absurd h (Nat.not_lt_zero _)⟩ ?_ ?_
    · conv => whnf
      refine ⟨?_, by (conv => whnf); repeat (first | exact True.intro | (refine And.intro rfl ?_; conv => whnf)), by (conv => whnf); repeat (first | exact True.intro | (refine And.intro (by first | rfl | (subst_vars; rfl)) ?_; conv => whnf)), rfl, rfl, rfl, rfl, rfl, rfl, rfl, Nat.le_of_ble_eq_true rfl, Nat.le_of_ble_eq_true rfl⟩
      conv => whnf
      repeat (first | exact True.intro | (refine And.intro (by first | rfl | ((conv => whnf); exact congrArg (AVal.int .i64) (by omega)) | ((conv => whnf); exact congrArg (AVal.int .i64) (by simp only [Int.natCast_add, Int.natCast_one]; omega)) | ((conv => whnf); exact congrArg (AVal.irow _) (by first | omega | assumption | (simp only; omega)))) ?_; conv => whnf))
    · rintro ⟨n, L⟩ ⟨h1, hlen, h2⟩
      simp only at h1 hlen h2
      conv => whnf
      refine vcCode_sound T_ok .nil _ _ _ _ _ ?_
      conv => whnf
      repeat (refine V_step T_ok .nil rfl ?_; conv => whnf)
      repeat (any_goals (first
        | (refine V_step T_ok .nil rfl ?_; conv => whnf)
        | (refine V_drawA T_ok .nil mixed (by kernel_rfl) ?_; conv => whnf)
        | (refine bcond_split (fun hc => ?_) (fun hc => ?_) <;> (try simp only [decide_eq_true_eq, decide_eq_false_iff_not, Bool.not_eq_true', Bool.not_eq_false', Bool.and_eq_true, Bool.or_eq_true, Bool.and_eq_false_imp, Bool.or_eq_false_iff, ne_eq, Decidable.not_not] at hc) <;> conv => whnf)
        | (intro ysK hysK; have hysl := congrArg List.length hysK; (try simp only [List.length_set, List.length_append, List.length_cons, List.length_nil, List.length_take, List.length_drop, List.length_replicate] at hysl); conv => whnf)
        | (intro bK hbK; have hbl := congrArg ByteArray.size hbK; conv => whnf)
        | (intro sK hsK; conv => whnf)
        | (refine And.intro (by first | exact True.intro | (with_reducible assumption) | omega | (simp only [Rng]; omega) | exact Nat.le_of_ble_eq_true rfl | exact True.intro | exact ⟨rfl, True.intro, fun _ _ => rfl⟩ | exact Nat.le_of_ble_eq_true rfl | (refine ⟨by (try simp only [List.length_cons, List.length_nil]); omega, Int.le_trans (Int.mul_le_mul_of_nonneg_left (show (TInfo.bytes _ : Int) ≤ 64 from Int.ofNat_le.2 (Nat.le_of_ble_eq_true rfl)) (by omega)) (by (try simp only [List.length_cons, List.length_nil]); omega)⟩)) ?_; conv => whnf)))
      · have hl : (n : Int) < (L.length : Nat) := by assumption
        rename_i y1 e1 l1
        simp only [Int.toNat_natCast] at e1 hysK
        have g1 : y1.getD n aT.dflt = _ := (congrArg (fun z => List.getD z n aT.dflt) e1).trans (getD_set (by omega))
        have g2 : ysK.getD n aT.dflt = _ := (congrArg (fun z => List.getD z n aT.dflt) hysK).trans (getD_set (by omega))
        rw [g1] at g2
        refine ⟨(n + 1, ysK), ⟨by simp only; omega, by simp only; omega, fun j hj => ?_⟩, by simp only; omega, ?_⟩
        · simp only at hj ⊢
          rcases Nat.lt_or_ge j n with h | h
          · rw [← h2 j h, List.getD_eq_getElem?_getD, List.getD_eq_getElem?_getD, hysK, List.getElem?_set_ne (by omega), e1, List.getElem?_set_ne (by omega)]
          · obtain rfl : j = n := by omega
            rw [g2]
            first | (simp only [mkAF, Int.add_assoc]; done) | (simp only [mkAF, Int.add_assoc]; rfl)
        · conv => whnf
          refine ⟨?_, by (conv => whnf); repeat (first | exact True.intro | (refine And.intro rfl ?_; conv => whnf)), by (conv => whnf); repeat (first | exact True.intro | (refine And.intro (by first | rfl | (subst_vars; rfl)) ?_; conv => whnf)), rfl, rfl, rfl, rfl, rfl, rfl, rfl, Nat.le_of_ble_eq_true rfl, Nat.le_of_ble_eq_true rfl⟩
          conv => whnf
          repeat (first | exact True.intro | (refine And.intro (by first | rfl | ((conv => whnf); exact congrArg (AVal.int .i64) (by omega)) | ((conv => whnf); exact congrArg (AVal.int .i64) (by simp only [Int.natCast_add, Int.natCast_one]; omega)) | ((conv => whnf); exact congrArg (AVal.irow _) (by first | omega | assumption | (simp only; omega)))) ?_; conv => whnf))
      · have hge : ¬ (n : Int) < (L.length : Nat) := hc
        obtain rfl : n = L.length := by omega
        have hL : (List.range xs.length).map (mkAF q) = L := by
          refine List.ext_getElem (by simp [hlen]) fun j h3 h4 => ?_
          have := h2 j (by omega)
          rw [List.getD_eq_getElem?_getD, List.getElem?_eq_getElem h4] at this
          simp only [List.getElem_map, List.getElem_range]
          exact this.symm
        rw [hL, ← hlen]
        exact leafM0 hO Nat.zero_lt_one rfl rfl rfl rfl rfl

def mkAHC : PCtr := fun hg rg _ vals k => match vals with
  | [.row i, .int .i64 q] => rowC aT (rg i) fun xs => ((0 ≤ q ∧ q ≤ 1000000) ∧ (@List.length Ang xs : Int) ≤ 1000000 ∧ (xs : List Ang) = (List.range (@List.length Ang xs)).map (mkAF q)) ∧ k [] (.int .i64 (q + 2 * (@List.length Ang xs : Int)))
  | _ => False
theorem mkAH_ok : PCtrOk Try.prog 8 mkAHC where
  enter := enter_ok Try.func8 (by kernel_rfl) rfl
  calls := by
    intro hg rg lr vals k h
    unfold mkAHC at h
    split at h
    case h_2 => exact h.elim
    rename_i i q
    obtain ⟨e, own, xs, hi, h⟩ : ∃ e own, ∃ (xs : List Ang), _ := rowC_inv h
    obtain ⟨⟨hq, hl, hx⟩, hk⟩ := h
    refine ⟨_, _, hk, fun A w hB hR => ?_⟩
    refine enter T_ok .nil Try.func8 rfl (K := (· < w.heap.size)) (fun _ h => h) (A := A.pick [] [i]) (vals := [.row 0, .int .i64 q]) (n0 := 0) (b0 := 0) (rows := [some ⟨aT, e, false, xs⟩]) (hp := []) rfl (Nat.zero_le _) no_box rfl (one_row (hR i _ hi)) rfl rfl (Nat.le_of_ble_eq_true rfl) ?_
    conv => whnf
    repeat (refine V_step T_ok .nil rfl ?_; conv => whnf)
    have hget : ∀ n, n < xs.length → xs.getD n aT.dflt = mkAF q n := fun n hn => by
      rw [hx, List.getD_eq_getElem?_getD, List.getElem?_map, List.getElem?_range (by simpa using hn)]; rfl
    clear hx
    refine V_loopH (γ := Nat) (fun n => n ≤ xs.length) (fun n => xs.length - n)
      (fun n => [(1, .int .i64 (q + 2 * n)), (5, .int .i64 n)]) (fun _ => []) (fun _ => []) 0 (Nat.zero_le _) ?_ ?_
    · conv => whnf
      refine ⟨?_, by (conv => whnf); repeat (first | exact True.intro | (refine And.intro rfl ?_; conv => whnf)), by (conv => whnf); repeat (first | exact True.intro | (refine And.intro (by first | rfl | (subst_vars; rfl)) ?_; conv => whnf)), rfl, rfl, rfl, rfl, rfl, rfl, rfl, Nat.le_of_ble_eq_true rfl, Nat.le_of_ble_eq_true rfl⟩
      conv => whnf
      repeat (first | exact True.intro | (refine And.intro (by first | rfl | ((conv => whnf); exact congrArg (AVal.int .i64) (by omega)) | ((conv => whnf); exact congrArg (AVal.int .i64) (by simp only [Int.natCast_add, Int.natCast_one]; omega)) | ((conv => whnf); exact congrArg (AVal.irow _) (by first | omega | assumption | (simp only; omega)))) ?_; conv => whnf))
    · rintro n h1
      conv => whnf
      refine vcCode_sound T_ok .nil _ _ _ _ _ ?_
      conv => whnf
      repeat (refine V_step T_ok .nil rfl ?_; conv => whnf)
      repeat (any_goals (first
        | (refine V_step T_ok .nil rfl ?_; conv => whnf)
        | (refine V_drawA T_ok .nil mixed (by kernel_rfl) ?_; conv => whnf)
        | (refine bcond_split (fun hc => ?_) (fun hc => ?_) <;> (try simp only [decide_eq_true_eq, decide_eq_false_iff_not, Bool.not_eq_true', Bool.not_eq_false', Bool.and_eq_true, Bool.or_eq_true, Bool.and_eq_false_imp, Bool.or_eq_false_iff, ne_eq, Decidable.not_not] at hc) <;> conv => whnf)
        | (intro ysK hysK; have hysl := congrArg List.length hysK; (try simp only [List.length_set, List.length_append, List.length_cons, List.length_nil, List.length_take, List.length_drop, List.length_replicate] at hysl); conv => whnf)
        | (intro bK hbK; have hbl := congrArg ByteArray.size hbK; conv => whnf)
        | (intro sK hsK; conv => whnf)
        | (refine And.intro (by first | exact True.intro | (with_reducible assumption) | omega | (simp only [Rng]; omega) | exact Nat.le_of_ble_eq_true rfl | exact True.intro | exact ⟨rfl, True.intro, fun _ _ => rfl⟩ | exact Nat.le_of_ble_eq_true rfl | (refine ⟨by (try simp only [List.length_cons, List.length_nil]); omega, Int.le_trans (Int.mul_le_mul_of_nonneg_left (show (TInfo.bytes _ : Int) ≤ 64 from Int.ofNat_le.2 (Nat.le_of_ble_eq_true rfl)) (by omega)) (by (try simp only [List.length_cons, List.length_nil]); omega)⟩)) ?_; conv => whnf)))
      all_goals first
        | (have hge : ¬ (n : Int) < (xs.length : Nat) := hc
           obtain rfl : n = xs.length := by omega
           exact leaf0 rfl rfl rfl)
        | (have hl' : (n : Int) < (xs.length : Nat) := by assumption
           have hg := hget n (by omega)
           exact absurd (by (simp only [Int.toNat_natCast, hg, mkAF]) <;> omega) hc)
        | skip
      all_goals (have hl' : (n : Int) < (xs.length : Nat) := by assumption
                 have hg := hget n (by omega)
                 refine ⟨n + 1, by omega, by omega, ?_⟩)
      · conv => whnf
        refine ⟨?_, by (conv => whnf); repeat (first | exact True.intro | (refine And.intro rfl ?_; conv => whnf)), by (conv => whnf); repeat (first | exact True.intro | (refine And.intro (by first | rfl | (subst_vars; rfl)) ?_; conv => whnf)), rfl, rfl, rfl, rfl, rfl, rfl, rfl, Nat.le_of_ble_eq_true rfl, Nat.le_of_ble_eq_true rfl⟩
        conv => whnf
        repeat (first | exact True.intro | (refine And.intro (by first | rfl | ((conv => whnf); exact congrArg (AVal.int .i64) (by omega)) | ((conv => whnf); exact congrArg (AVal.int .i64) (by simp only [Int.natCast_add, Int.natCast_one]; omega)) | ((conv => whnf); exact congrArg (AVal.irow _) (by first | omega | assumption | (simp only; omega)))) ?_; conv => whnf))

def eqAs (xs ys : List Ang) : Bool := decide (xs = ys)
def eqAsC : PCtr := fun _ rg _ vals k => match vals with
  | [.row i, .row j] => rowC aT (rg i) fun xs => rowC aT (rg j) fun ys => True ∧ k [] (.bool (eqAs xs ys))
  | _ => False
theorem eqAs_ok : PCtrOk Try.prog 6 eqAsC where
  enter := enter_ok Try.func6 (by kernel_rfl) rfl
  calls := by
    intro hg rg lr vals k h
    unfold eqAsC at h
    split at h
    case h_2 => exact h.elim
    rename_i i j
    obtain ⟨e, own, xs, hi, h⟩ : ∃ e own, ∃ (xs : List Ang), _ := rowC_inv h
    obtain ⟨e', own', ys, hj, h⟩ : ∃ e own, ∃ (xs : List Ang), _ := rowC_inv h
    have hk := h.2
    refine ⟨_, _, hk, fun A w hB hR => ?_⟩
    refine enter T_ok (GOk.cons eqAngle_ok .nil) Try.func6 rfl (K := (· < w.heap.size)) (fun _ h => h) (A := A.pick [] [i, j]) (vals := [.row 0, .row 1]) (n0 := 0) (b0 := 0) (rows := [some ⟨aT, e, false, xs⟩, some ⟨aT, e', false, ys⟩]) (hp := []) rfl (Nat.zero_le _) no_box rfl (two_rows (hR i _ hi) (hR j _ hj)) rfl rfl (Nat.le_of_ble_eq_true rfl) ?_
    conv => whnf
    repeat (refine V_step T_ok (GOk.cons eqAngle_ok .nil) rfl ?_; conv => whnf)
    have hcap' : (@List.length (TyC.α aT) xs : Int) ≤ 9223372036854775807 := by
      have h1 := (hR i _ hi).len
      have h2 := (hR i _ hi).cap
      have h3 := (hR i _ hi).max
      simp only at h1
      have : maxLen = 9223372036854775807 := rfl
      omega
    repeat (any_goals (first
      | (refine V_step T_ok (GOk.cons eqAngle_ok .nil) rfl ?_; conv => whnf)
      | (refine V_drawA T_ok (GOk.cons eqAngle_ok .nil) mixed (by kernel_rfl) ?_; conv => whnf)
      | (refine bcond_split (fun hc => ?_) (fun hc => ?_) <;> (try simp only [decide_eq_true_eq, decide_eq_false_iff_not, Bool.not_eq_true', Bool.not_eq_false', Bool.and_eq_true, Bool.or_eq_true, Bool.and_eq_false_imp, Bool.or_eq_false_iff, ne_eq, Decidable.not_not] at hc) <;> conv => whnf)
      | (intro ysK hysK; have hysl := congrArg List.length hysK; (try simp only [List.length_set, List.length_append, List.length_cons, List.length_nil, List.length_take, List.length_drop, List.length_replicate] at hysl); conv => whnf)
      | (intro bK hbK; have hbl := congrArg ByteArray.size hbK; conv => whnf)
      | (intro sK hsK; conv => whnf)
      | (refine And.intro (by first | exact True.intro | (with_reducible assumption) | omega | (simp only [Rng]; omega) | exact Nat.le_of_ble_eq_true rfl | exact True.intro | exact ⟨rfl, True.intro, fun _ _ => rfl⟩ | exact Nat.le_of_ble_eq_true rfl | (refine ⟨by (try simp only [List.length_cons, List.length_nil]); omega, Int.le_trans (Int.mul_le_mul_of_nonneg_left (show (TInfo.bytes _ : Int) ≤ 64 from Int.ofNat_le.2 (Nat.le_of_ble_eq_true rfl)) (by omega)) (by (try simp only [List.length_cons, List.length_nil]); omega)⟩)) ?_; conv => whnf)))
    · have hc : ¬ (xs.length : Int) = ys.length := hc
      refine leaf0 rfl (congrArg AVal.bool ?_) rfl
      rw [eqAs, eq_comm, decide_eq_false_iff_not]
      intro h; rw [h] at hc; exact hc rfl
    · have hlen : (xs.length : Int) = ys.length := hc
      refine V_loopH (γ := Nat) (fun n => n ≤ xs.length ∧ ∀ j, j < n → xs.getD j dA9 = ys.getD j dA9) (fun n => xs.length - n)
        (fun n => [(5, .int .i64 n)]) (fun _ => []) (fun _ => []) 0 ⟨Nat.zero_le _, fun j h => absurd h (Nat.not_lt_zero _)⟩ ?_ ?_
      · conv => whnf
        refine ⟨?_, by (conv => whnf); repeat (first | exact True.intro | (refine And.intro rfl ?_; conv => whnf)), by (conv => whnf); repeat (first | exact True.intro | (refine And.intro (by first | rfl | (subst_vars; rfl)) ?_; conv => whnf)), rfl, rfl, rfl, rfl, rfl, rfl, rfl, Nat.le_of_ble_eq_true rfl, Nat.le_of_ble_eq_true rfl⟩
        conv => whnf
        repeat (first | exact True.intro | (refine And.intro (by first | rfl | ((conv => whnf); exact congrArg (AVal.int .i64) (by omega)) | ((conv => whnf); exact congrArg (AVal.int .i64) (by simp only [Int.natCast_add, Int.natCast_one]; omega)) | ((conv => whnf); exact congrArg (AVal.irow _) (by first | omega | assumption | (simp only; omega)))) ?_; conv => whnf))
      · rintro n ⟨h1, h2⟩
        conv => whnf
        refine vcCode_sound T_ok (GOk.cons eqAngle_ok .nil) _ _ _ _ _ ?_
        conv => whnf
        repeat (refine V_step T_ok (GOk.cons eqAngle_ok .nil) rfl ?_; conv => whnf)
        repeat (any_goals (first
          | (refine V_step T_ok (GOk.cons eqAngle_ok .nil) rfl ?_; conv => whnf)
          | (refine V_drawA T_ok (GOk.cons eqAngle_ok .nil) mixed (by kernel_rfl) ?_; conv => whnf)
          | (refine bcond_split (fun hc => ?_) (fun hc => ?_) <;> (try simp only [decide_eq_true_eq, decide_eq_false_iff_not, Bool.not_eq_true', Bool.not_eq_false', Bool.and_eq_true, Bool.or_eq_true, Bool.and_eq_false_imp, Bool.or_eq_false_iff, ne_eq, Decidable.not_not] at hc) <;> conv => whnf)
          | (intro ysK hysK; have hysl := congrArg List.length hysK; (try simp only [List.length_set, List.length_append, List.length_cons, List.length_nil, List.length_take, List.length_drop, List.length_replicate] at hysl); conv => whnf)
          | (intro bK hbK; have hbl := congrArg ByteArray.size hbK; conv => whnf)
          | (intro sK hsK; conv => whnf)
          | (refine And.intro (by first | (first | exact True.intro | omega | (simp only [Rng]; omega) | (refine ⟨by omega, ?_⟩; have hll : (n : Int) < (@List.length (TyC.α aT) ys : Nat) := (by (have hl' : (n : Int) < (List.length (α := Ang) xs : Nat) := by assumption); rw [hlen] at hl'; exact hl'); exact hll)) | exact True.intro | exact ⟨rfl, True.intro, fun _ _ => rfl⟩ | exact Nat.le_of_ble_eq_true rfl | (refine ⟨by (try simp only [List.length_cons, List.length_nil]); omega, Int.le_trans (Int.mul_le_mul_of_nonneg_left (show (TInfo.bytes _ : Int) ≤ 64 from Int.ofNat_le.2 (Nat.le_of_ble_eq_true rfl)) (by omega)) (by (try simp only [List.length_cons, List.length_nil]); omega)⟩)) ?_; conv => whnf)))
        · rename_i hc1
          have hl : (n : Int) < (xs.length : Nat) := hc1
          have hc' : ¬ xs.getD n dA9 = ys.getD n dA9 := hc
          refine leaf0 rfl (congrArg AVal.bool ?_) rfl
          rw [eqAs, eq_comm, decide_eq_false_iff_not]
          intro h; rw [h] at hc'; exact hc' rfl
        · rename_i hc1
          have hl : (n : Int) < (xs.length : Nat) := hc1
          have hc' : xs.getD n dA9 = ys.getD n dA9 := hc
          refine ⟨n + 1, ⟨by omega, fun j hj => ?_⟩, by omega, ?_⟩
          · rcases Nat.lt_or_ge j n with h | h
            · exact h2 j h
            · obtain rfl : j = n := by omega
              exact hc'
          · conv => whnf
            refine ⟨?_, by (conv => whnf); repeat (first | exact True.intro | (refine And.intro rfl ?_; conv => whnf)), by (conv => whnf); repeat (first | exact True.intro | (refine And.intro (by first | rfl | (subst_vars; rfl)) ?_; conv => whnf)), rfl, rfl, rfl, rfl, rfl, rfl, rfl, Nat.le_of_ble_eq_true rfl, Nat.le_of_ble_eq_true rfl⟩
            conv => whnf
            repeat (first | exact True.intro | (refine And.intro (by first | rfl | ((conv => whnf); exact congrArg (AVal.int .i64) (by omega)) | ((conv => whnf); exact congrArg (AVal.int .i64) (by simp only [Int.natCast_add, Int.natCast_one]; omega)) | ((conv => whnf); exact congrArg (AVal.irow _) (by first | omega | assumption | (simp only; omega)))) ?_; conv => whnf))
        · have hl : ¬ (n : Int) < (xs.length : Nat) := hc
          refine leaf0 rfl (congrArg AVal.bool ?_) rfl
          rw [eqAs, eq_comm, decide_eq_true_iff]
          apply List.ext_getElem (by omega)
          intro j h3 h4
          have := h2 j (by omega)
          rw [List.getD_eq_getElem?_getD, List.getElem?_eq_getElem h3, List.getD_eq_getElem?_getD, List.getElem?_eq_getElem h4] at this
          exact this


theorem roO_len (q v : Int) : (roO q v).1.length ≤ 13 := by
  by_cases h : okR q v
  · rw [roO_t h]
    have := rotS_len q v v.toNat
    have := h.1.2
    show (rotS q v v.toNat).length ≤ 13
    omega
  · rw [roO_f h]; exact Nat.zero_le _
def lawRoC : PCtr := fun _ _ _ vals k => match vals with
  | [.int .i64 q, .int .i64 v] => True ∧ k [] (.bool true)
  | _ => False
theorem lawRo_ok : PCtrOk Try.prog 3 lawRoC where
  enter := enter_ok Try.func3 (by kernel_rfl) rfl
  calls := by
    intro hg rg lr vals k h
    unfold lawRoC at h
    split at h
    case h_2 => exact h.elim
    rename_i q v
    obtain ⟨_, hk⟩ := h
    refine ⟨_, _, hk, fun A w _ _ => ?_⟩
    refine enter T_ok (GOk.cons sRot_ok (GOk.cons rot_ok (GOk.cons eqAs_ok (GOk.mcons mkAM_ok (GOk.cons mkAH_ok GOk.nil))))) Try.func3 rfl (K := (· < w.heap.size)) (fun _ h => h) (A := A) (n0 := 0) (b0 := 0) (rows := []) (hp := []) rfl (Nat.zero_le _) (fun k r h => by cases h) rfl (fun k r h => by cases h) rfl rfl (Nat.le_of_ble_eq_true rfl) ?_
    conv => whnf
    repeat (refine V_step T_ok (GOk.cons sRot_ok (GOk.cons rot_ok (GOk.cons eqAs_ok (GOk.mcons mkAM_ok (GOk.cons mkAH_ok GOk.nil))))) rfl ?_; conv => whnf)
    have hb := roO_len q v
    repeat (any_goals (first
      | (refine V_step T_ok (GOk.cons sRot_ok (GOk.cons rot_ok (GOk.cons eqAs_ok (GOk.mcons mkAM_ok (GOk.cons mkAH_ok GOk.nil))))) rfl ?_; conv => whnf)
      | (refine V_drawA T_ok (GOk.cons sRot_ok (GOk.cons rot_ok (GOk.cons eqAs_ok (GOk.mcons mkAM_ok (GOk.cons mkAH_ok GOk.nil))))) mixed (by kernel_rfl) ?_; conv => whnf)
      | (refine bcond_split (fun hc => ?_) (fun hc => ?_) <;> (try simp only [decide_eq_true_eq, decide_eq_false_iff_not, Bool.not_eq_true', Bool.not_eq_false', Bool.and_eq_true, Bool.or_eq_true, Bool.and_eq_false_imp, Bool.or_eq_false_iff, ne_eq, Decidable.not_not] at hc) <;> conv => whnf)
      | (intro ysK hysK; have hysl := congrArg List.length hysK; (try simp only [List.length_set, List.length_append, List.length_cons, List.length_nil, List.length_take, List.length_drop, List.length_replicate] at hysl); conv => whnf)
      | (intro bK hbK; have hbl := congrArg ByteArray.size hbK; conv => whnf)
      | (intro sK hsK; conv => whnf)
      | (refine And.intro (by first | (exact True.intro) | exact True.intro | exact ⟨rfl, True.intro, fun _ _ => rfl⟩ | exact Nat.le_of_ble_eq_true rfl | (refine ⟨by (try simp only [List.length_cons, List.length_nil]); omega, Int.le_trans (Int.mul_le_mul_of_nonneg_left (show (TInfo.bytes _ : Int) ≤ 64 from Int.ofNat_le.2 (Nat.le_of_ble_eq_true rfl)) (by omega)) (by (try simp only [List.length_cons, List.length_nil]); omega)⟩)) ?_; conv => whnf)))
    · rename_i y1 hy1
      have e1 := hy1.trans hsK.symm
      subst e1
      simp [eqAs] at hc
    · rename_i y1 hy1 _
      exact absurd (congrArg Prod.snd (hsK.trans hy1.symm)) hc
    rename_i y1 hy1 _
    have e1 := hy1.trans hsK.symm
    subst e1
    rw [← hsK] at hb
    have hb' : (List.length (α := Ang) y1.1 : Int) ≤ 13 := Int.ofNat_le.2 hb
    repeat (any_goals (first
      | (refine V_step T_ok (GOk.cons sRot_ok (GOk.cons rot_ok (GOk.cons eqAs_ok (GOk.mcons mkAM_ok (GOk.cons mkAH_ok GOk.nil))))) rfl ?_; conv => whnf)
      | (refine V_drawA T_ok (GOk.cons sRot_ok (GOk.cons rot_ok (GOk.cons eqAs_ok (GOk.mcons mkAM_ok (GOk.cons mkAH_ok GOk.nil))))) mixed (by kernel_rfl) ?_; conv => whnf)
      | (refine bcond_split (fun hc => ?_) (fun hc => ?_) <;> (try simp only [decide_eq_true_eq, decide_eq_false_iff_not, Bool.not_eq_true', Bool.not_eq_false', Bool.and_eq_true, Bool.or_eq_true, Bool.and_eq_false_imp, Bool.or_eq_false_iff, ne_eq, Decidable.not_not] at hc) <;> conv => whnf)
      | (intro ysK hysK; have hysl := congrArg List.length hysK; (try simp only [List.length_set, List.length_append, List.length_cons, List.length_nil, List.length_take, List.length_drop, List.length_replicate] at hysl); conv => whnf)
      | (intro bK hbK; have hbl := congrArg ByteArray.size hbK; conv => whnf)
      | (intro sK hsK; conv => whnf)
      | (refine And.intro (by first | (first | exact True.intro | omega | exact ⟨by omega, Int.le_trans hb' (by omega)⟩ | exact ⟨by omega, by rw [List.length_map, List.length_range]; exact Int.le_trans hb' (by omega), by rw [List.length_map, List.length_range]⟩) | exact True.intro | exact ⟨rfl, True.intro, fun _ _ => rfl⟩ | exact Nat.le_of_ble_eq_true rfl | (refine ⟨by (try simp only [List.length_cons, List.length_nil]); omega, Int.le_trans (Int.mul_le_mul_of_nonneg_left (show (TInfo.bytes _ : Int) ≤ 64 from Int.ofNat_le.2 (Nat.le_of_ble_eq_true rfl)) (by omega)) (by (try simp only [List.length_cons, List.length_nil]); omega)⟩)) ?_; conv => whnf)))
    all_goals first
      | exact leaf0 rfl rfl rfl
      | (simp at hc; done)
      | (exact absurd trivial hc)
      | (exact absurd rfl hc)
      | exact absurd (congrArg Prod.fst (hsK.trans hy1.symm)) hc
      | exact absurd (congrArg Prod.snd (hsK.trans hy1.symm)) hc
      | (simp [eqAs] at hc; done)
      | (have e9 := congrArg Prod.fst (hsK.trans hy1.symm); simp only [eqAs, e9] at hc; simp at hc; done)
      | skip
end Go.Proofs.Ytmbfflckgmdncaa.Fw
-- %intro
