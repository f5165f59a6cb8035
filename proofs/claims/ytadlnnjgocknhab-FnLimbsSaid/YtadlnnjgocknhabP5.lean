/- Contracts: the reference's ray pairs. -/
import Derived.Test.YtadlnnjgocknhabO1
import Derived.Test.YtadlnnjgocknhabN4
import Derived.Test.YtadlnnjgocknhabP2
namespace Go.Proofs.Ytadlnnjgocknhab.Fw
open Go Go.RowKit
set_option linter.unusedVariables false
set_option linter.unusedSimpArgs false
set_option maxRecDepth 100000
set_option maxHeartbeats 2000000
def sPerC : PCtr := fun _ _ _ vals k => match vals with
  | [.agg [.int .i64 n, .int .i64 d]] => IsA (n, d) ∧ k [] (.int .i64 (perS (n, d)))
  | _ => False
theorem sPer_ok : PCtrOk Try.prog 176 sPerC where
  enter := enter_ok Try.func176 (by kernel_rfl) rfl
  calls := by
    intro hg rg lr vals k h
    unfold sPerC at h
    split at h
    case h_2 => exact h.elim
    rename_i n d
    obtain ⟨hA, hk⟩ := h
    refine ⟨_, _, hk, fun A w _ _ => ?_⟩
    refine enter T_ok (GOk.cons sOrbit_ok .nil) Try.func176 rfl (K := (· < w.heap.size)) (fun _ h => h) (A := A) (n0 := 0) (b0 := 0) (rows := []) (hp := []) rfl (Nat.zero_le _) (fun k r h => by cases h) rfl (fun k r h => by cases h) rfl rfl (Nat.le_of_ble_eq_true rfl) ?_
    conv => whnf
    repeat (refine V_step T_ok (GOk.cons sOrbit_ok .nil) rfl ?_; conv => whnf)
    repeat (any_goals (first
      | (refine V_step T_ok (GOk.cons sOrbit_ok .nil) rfl ?_; conv => whnf)
      | (refine V_drawA T_ok (GOk.cons sOrbit_ok .nil) mixed (by kernel_rfl) ?_; conv => whnf)
      | (refine bcond_split (fun hc => ?_) (fun hc => ?_) <;> (try simp only [decide_eq_true_eq, decide_eq_false_iff_not, Bool.not_eq_true', Bool.not_eq_false', Bool.and_eq_true, Bool.or_eq_true, Bool.and_eq_false_imp, Bool.or_eq_false_iff, ne_eq, Decidable.not_not] at hc) <;> conv => whnf)
      | (intro ysK hysK; have hysl := congrArg List.length hysK; (try simp only [List.length_set, List.length_append, List.length_cons, List.length_nil, List.length_take, List.length_drop, List.length_replicate] at hysl); conv => whnf)
      | (refine And.intro (by first | (first | exact True.intro | exact hA) | exact True.intro | exact ⟨rfl, True.intro, fun _ _ => rfl⟩ | exact Nat.le_of_ble_eq_true rfl | (refine ⟨by (try simp only [List.length_cons, List.length_nil]); omega, Int.le_trans (Int.mul_le_mul_of_nonneg_left (show (TInfo.bytes _ : Int) ≤ 64 from Int.ofNat_le.2 (Nat.le_of_ble_eq_true rfl)) (by omega)) (by (try simp only [List.length_cons, List.length_nil]); omega)⟩)) ?_; conv => whnf)))
    · refine leaf0 rfl (congrArg (AVal.int .i64) ?_) rfl
      unfold perS; rw [hc]; simp
    · rename_i hb
      refine leaf0 rfl (congrArg (AVal.int .i64) ?_) rfl
      have hc : (0 : Int) < (orbP (n, d) : Int) := hc
      unfold perS; rw [if_neg (fun h => h.2 (by omega))]
    · rename_i hb
      have hb : orbB (n, d) = true := hb
      have hc : ¬ (0 : Int) < (orbP (n, d) : Int) := hc
      refine leaf0 rfl (congrArg (AVal.int .i64) ?_) rfl
      unfold perS; rw [if_pos ⟨hb, by omega⟩]
def sAngsC : PCtr := fun _ _ lr vals k => match vals with
  | [.int .i64 n] => (1 ≤ n ∧ n ≤ 8) ∧ k [⟨aT, 25, true, angsN n.toNat⟩] (.row lr)
  | _ => False
theorem perS_iff {a : Ang} (h : IsA a) {N : Nat} (h1 : 1 ≤ N) (h2 : N ≤ 8) : perS a = (N : Int) ↔ perI a = (N : Int) := by
  rcases per_eq h with ⟨h3, h4⟩ | ⟨h3, h4⟩
  · rw [h3]
  · omega
abbrev GSA := GOk.cons sOf_ok (GOk.cons sPer_ok .nil)
theorem sAngs_ok : PCtrOk Try.prog 161 sAngsC where
  enter := enter_ok Try.func161 (by kernel_rfl) rfl
  calls := by
    intro hg rg lr vals k h
    unfold sAngsC at h
    split at h
    case h_2 => exact h.elim
    rename_i n
    obtain ⟨hn, hk⟩ := h
    refine ⟨_, _, hk, fun A w _ _ => ?_⟩
    refine enter T_ok GSA Try.func161 rfl (K := (· < w.heap.size)) (fun _ h => h) (A := A) (n0 := 0) (b0 := 0) (rows := []) (hp := []) rfl (Nat.zero_le _) (fun k r h => by cases h) rfl (fun k r h => by cases h) rfl rfl (Nat.le_of_ble_eq_true rfl) ?_
    conv => whnf
    repeat (refine V_step T_ok GSA rfl ?_; conv => whnf)
    obtain ⟨N, rfl⟩ : ∃ N : Nat, n = (N : Int) := ⟨n.toNat, by omega⟩
    have hp := pow_rng (n := N) (by omega) (by omega)
    have hD : (1 : Int) * 2 ^ N - 1 = 2 ^ N - 1 := by rw [Int.one_mul]
    have hA : ∀ g : Int, IsA (ofQ g (1 * 2 ^ N - 1)) := fun g => by rw [hD]; exact ofQ_isA _ _ hp.1 (by omega)
    have hDr : 1 ≤ (1 : Int) * 2 ^ N - 1 ∧ (1 : Int) * 2 ^ N - 1 ≤ 255 := by rw [hD]; exact hp
    have hDt : 1 ≤ (1 : Int) * 2 ^ (N : Int).toNat - 1 ∧ (1 : Int) * 2 ^ (N : Int).toNat - 1 ≤ 255 := hDr
    repeat (any_goals (first
      | (refine V_step T_ok GSA rfl ?_; conv => whnf)
      | (refine V_drawA T_ok GSA mixed (by kernel_rfl) ?_; conv => whnf)
      | (refine bcond_split (fun hc => ?_) (fun hc => ?_) <;> (try simp only [decide_eq_true_eq, decide_eq_false_iff_not, Bool.not_eq_true', Bool.not_eq_false', Bool.and_eq_true, Bool.or_eq_true, Bool.and_eq_false_imp, Bool.or_eq_false_iff, ne_eq, Decidable.not_not] at hc) <;> conv => whnf)
      | (intro ysK hysK; have hysl := congrArg List.length hysK; (try simp only [List.length_set, List.length_append, List.length_cons, List.length_nil, List.length_take, List.length_drop, List.length_replicate] at hysl); conv => whnf)
      | (refine And.intro (by first | (first | exact True.intro | omega | (simp only [Rng]; omega) | (simp only [Rng, Int.toNat_natCast]; omega)) | exact True.intro | exact ⟨rfl, True.intro, fun _ _ => rfl⟩ | exact Nat.le_of_ble_eq_true rfl | (refine ⟨by (try simp only [List.length_cons, List.length_nil]); omega, Int.le_trans (Int.mul_le_mul_of_nonneg_left (show (TInfo.bytes _ : Int) ≤ 64 from Int.ofNat_le.2 (Nat.le_of_ble_eq_true rfl)) (by omega)) (by (try simp only [List.length_cons, List.length_nil]); omega)⟩)) ?_; conv => whnf)))
    refine V_loopH (γ := Nat) (fun g => (g : Int) ≤ 2 ^ N - 1) (fun g => (2 ^ N - 1 : Int).toNat - g)
      (fun g => [(3, .row 0), (5, .int .i64 g), (7, .junk)]) (fun _ => []) (fun g => [(0, some ⟨aT, 25, true, angsK N g⟩)]) 0 (by omega) ?_ ?_
    · conv => whnf
      refine ⟨?_, by (conv => whnf); repeat (first | exact True.intro | (refine And.intro rfl ?_; conv => whnf)), by (conv => whnf); repeat (first | exact True.intro | (refine And.intro (by first | rfl | (subst_vars; rfl)) ?_; conv => whnf)), rfl, rfl, rfl, rfl, rfl, rfl, rfl, Nat.le_of_ble_eq_true rfl, Nat.le_of_ble_eq_true rfl⟩
      conv => whnf
      repeat (first | exact True.intro | (refine And.intro (by first | rfl | ((conv => whnf); exact congrArg (AVal.int .i64) (by omega)) | ((conv => whnf); exact congrArg (AVal.int .i64) (by simp only [Int.natCast_add, Int.natCast_one]; omega)) | ((conv => whnf); exact congrArg (AVal.irow _) (by first | omega | assumption | (simp only; omega)))) ?_; conv => whnf))
    · rintro g hg1
      have hlen := angsK_len N g
      have hl2 : (List.length (α := Int × Int) (angsK N g) : Int) ≤ 255 := by omega
      conv => whnf
      refine vcCode_sound T_ok GSA _ _ _ _ _ ?_
      conv => whnf
      repeat (refine V_step T_ok GSA rfl ?_; conv => whnf)
      repeat (any_goals (first
        | (refine V_step T_ok GSA rfl ?_; conv => whnf)
        | (refine V_drawA T_ok GSA mixed (by kernel_rfl) ?_; conv => whnf)
        | (refine bcond_split (fun hc => ?_) (fun hc => ?_) <;> (try simp only [decide_eq_true_eq, decide_eq_false_iff_not, Bool.not_eq_true', Bool.not_eq_false', Bool.and_eq_true, Bool.or_eq_true, Bool.and_eq_false_imp, Bool.or_eq_false_iff, ne_eq, Decidable.not_not] at hc) <;> conv => whnf)
        | (intro ysK hysK; have hysl := congrArg List.length hysK; (try simp only [List.length_set, List.length_append, List.length_cons, List.length_nil, List.length_take, List.length_drop, List.length_replicate] at hysl); conv => whnf)
        | (refine And.intro (by first | (first | exact True.intro | omega | (simp only [Rng]; omega) | exact hA _ | (have hq : (g : Int) < 1 * 2 ^ (N : Int).toNat - 1 := (by assumption); exact ⟨⟨by omega, by omega⟩, by omega, by omega⟩)) | exact True.intro | exact ⟨rfl, True.intro, fun _ _ => rfl⟩ | exact Nat.le_of_ble_eq_true rfl | (refine ⟨by (try simp only [List.length_cons, List.length_nil]); omega, Int.le_trans (Int.mul_le_mul_of_nonneg_left (show (TInfo.bytes _ : Int) ≤ 64 from Int.ofNat_le.2 (Nat.le_of_ble_eq_true rfl)) (by omega)) (by (try simp only [List.length_cons, List.length_nil]); omega)⟩)) ?_; conv => whnf)))
      · rename_i hg2
        have hg2 : (g : Int) < 1 * 2 ^ N - 1 := hg2
        have hpe : perI (ofQ g (2 ^ N - 1)) = N := by
          rw [← hD]; exact (perS_iff (hA g) (by omega) (by omega)).1 hc
        have hK : ysK = angsK N (g + 1) := by
          rw [angsK_succ, if_pos hpe, ← hD]; exact hysK
        subst hK
        refine ⟨g + 1, by omega, by omega, ?_⟩
        conv => whnf
        refine ⟨?_, by (conv => whnf); repeat (first | exact True.intro | (refine And.intro rfl ?_; conv => whnf)), by (conv => whnf); repeat (first | exact True.intro | (refine And.intro (by first | rfl | (subst_vars; rfl)) ?_; conv => whnf)), rfl, rfl, rfl, rfl, rfl, rfl, rfl, Nat.le_of_ble_eq_true rfl, Nat.le_of_ble_eq_true rfl⟩
        conv => whnf
        repeat (first | exact True.intro | (refine And.intro (by first | rfl | ((conv => whnf); exact congrArg (AVal.int .i64) (by omega)) | ((conv => whnf); exact congrArg (AVal.int .i64) (by simp only [Int.natCast_add, Int.natCast_one]; omega)) | ((conv => whnf); exact congrArg (AVal.irow _) (by first | omega | assumption | (simp only; omega)))) ?_; conv => whnf))
      · rename_i hg2
        have hg2 : (g : Int) < 1 * 2 ^ N - 1 := hg2
        have hpe : ¬ perI (ofQ g (2 ^ N - 1)) = N := by
          rw [← hD]; exact fun h => hc ((perS_iff (hA g) (by omega) (by omega)).2 h)
        have hK : angsK N g = angsK N (g + 1) := by
          rw [angsK_succ, if_neg hpe, List.append_nil]
        refine ⟨g + 1, by omega, by omega, ?_⟩
        rw [← hK]
        conv => whnf
        refine ⟨?_, by (conv => whnf); repeat (first | exact True.intro | (refine And.intro rfl ?_; conv => whnf)), by (conv => whnf); repeat (first | exact True.intro | (refine And.intro (by first | rfl | (subst_vars; rfl)) ?_; conv => whnf)), rfl, rfl, rfl, rfl, rfl, rfl, rfl, Nat.le_of_ble_eq_true rfl, Nat.le_of_ble_eq_true rfl⟩
        conv => whnf
        repeat (first | exact True.intro | (refine And.intro (by first | rfl | ((conv => whnf); exact congrArg (AVal.int .i64) (by omega)) | ((conv => whnf); exact congrArg (AVal.int .i64) (by simp only [Int.natCast_add, Int.natCast_one]; omega)) | ((conv => whnf); exact congrArg (AVal.irow _) (by first | omega | assumption | (simp only; omega)))) ?_; conv => whnf))
      · have hg2 : ¬ (g : Int) < 1 * 2 ^ N - 1 := hc
        have hK : angsK N g = angsN N := by
          have e1 := @pow_cast N
          rw [show g = 2 ^ N - 1 by omega]; rfl
        refine leaf1 0 rfl rfl (by rw [hK]; rfl) rfl (fun B C h1 => ?_)
        simp [AVal.den, h1]
def insC : PCtr := fun _ _ _ vals k => match vals with
  | [.agg [.int .i64 p, .int .i64 q], .agg [.int .i64 n, .int .i64 d, .int .i64 m, .int .i64 e]] => (Bd (p, q) ∧ BdL ((n, d), (m, e))) ∧ k [] (.bool (sWithinA (p, q) (n, d) (m, e)))
  | _ => False
theorem sIns_ok : PCtrOk Try.prog 99 insC where
  enter := enter_ok Try.func99 (by kernel_rfl) rfl
  calls := by
    intro hg rg lr vals k h
    unfold insC at h
    split at h
    case h_2 => exact h.elim
    rename_i p q n d m e
    obtain ⟨⟨h1, h2, h3⟩, hk⟩ := h
    refine ⟨_, _, hk, fun A w _ _ => ?_⟩
    refine enter T_ok (GOk.cons sWithin_ok .nil) Try.func99 rfl (K := (· < w.heap.size)) (fun _ h => h) (A := A) (n0 := 0) (b0 := 0) (rows := []) (hp := []) rfl (Nat.zero_le _) (fun k r h => by cases h) rfl (fun k r h => by cases h) rfl rfl (Nat.le_of_ble_eq_true rfl) ?_
    conv => whnf
    repeat (refine V_step T_ok (GOk.cons sWithin_ok .nil) rfl ?_; conv => whnf)
    repeat (any_goals (first
      | (refine V_step T_ok (GOk.cons sWithin_ok .nil) rfl ?_; conv => whnf)
      | (refine V_drawA T_ok (GOk.cons sWithin_ok .nil) mixed (by kernel_rfl) ?_; conv => whnf)
      | (refine bcond_split (fun hc => ?_) (fun hc => ?_) <;> (try simp only [decide_eq_true_eq, decide_eq_false_iff_not, Bool.not_eq_true', Bool.not_eq_false', Bool.and_eq_true, Bool.or_eq_true, Bool.and_eq_false_imp, Bool.or_eq_false_iff, ne_eq, Decidable.not_not] at hc) <;> conv => whnf)
      | (intro ysK hysK; have hysl := congrArg List.length hysK; (try simp only [List.length_set, List.length_append, List.length_cons, List.length_nil, List.length_take, List.length_drop, List.length_replicate] at hysl); conv => whnf)
      | (refine And.intro (by first | (first | exact True.intro | exact ⟨h1, h2, h3⟩) | exact True.intro | exact ⟨rfl, True.intro, fun _ _ => rfl⟩ | exact Nat.le_of_ble_eq_true rfl | (refine ⟨by (try simp only [List.length_cons, List.length_nil]); omega, Int.le_trans (Int.mul_le_mul_of_nonneg_left (show (TInfo.bytes _ : Int) ≤ 64 from Int.ofNat_le.2 (Nat.le_of_ble_eq_true rfl)) (by omega)) (by (try simp only [List.length_cons, List.length_nil]); omega)⟩)) ?_; conv => whnf)))
    all_goals exact leaf0 rfl rfl rfl
def sCross4C : PCtr := fun _ _ _ vals k => match vals with
  | [.agg [.int .i64 n, .int .i64 d, .int .i64 m, .int .i64 e], .agg [.int .i64 n', .int .i64 d', .int .i64 m', .int .i64 e']] =>
    (BdL ((n, d), (m, e)) ∧ BdL ((n', d'), (m', e'))) ∧ k [] (.bool (sCrossL ((n, d), (m, e)) ((n', d'), (m', e'))))
  | _ => False
theorem sCross4_ok : PCtrOk Try.prog 177 sCross4C where
  enter := enter_ok Try.func177 (by kernel_rfl) rfl
  calls := by
    intro hg rg lr vals k h
    unfold sCross4C at h
    split at h
    case h_2 => exact h.elim
    rename_i n d m e n' d' m' e'
    obtain ⟨⟨⟨h1, h2⟩, ⟨h3, h4⟩⟩, hk⟩ := h
    refine ⟨_, _, hk, fun A w _ _ => ?_⟩
    refine enter T_ok (GOk.cons sIns_ok .nil) Try.func177 rfl (K := (· < w.heap.size)) (fun _ h => h) (A := A) (n0 := 0) (b0 := 0) (rows := []) (hp := []) rfl (Nat.zero_le _) (fun k r h => by cases h) rfl (fun k r h => by cases h) rfl rfl (Nat.le_of_ble_eq_true rfl) ?_
    conv => whnf
    repeat (refine V_step T_ok (GOk.cons sIns_ok .nil) rfl ?_; conv => whnf)
    repeat (any_goals (first
      | (refine V_step T_ok (GOk.cons sIns_ok .nil) rfl ?_; conv => whnf)
      | (refine V_drawA T_ok (GOk.cons sIns_ok .nil) mixed (by kernel_rfl) ?_; conv => whnf)
      | (refine bcond_split (fun hc => ?_) (fun hc => ?_) <;> (try simp only [decide_eq_true_eq, decide_eq_false_iff_not, Bool.not_eq_true', Bool.not_eq_false', Bool.and_eq_true, Bool.or_eq_true, Bool.and_eq_false_imp, Bool.or_eq_false_iff, ne_eq, Decidable.not_not] at hc) <;> conv => whnf)
      | (intro ysK hysK; have hysl := congrArg List.length hysK; (try simp only [List.length_set, List.length_append, List.length_cons, List.length_nil, List.length_take, List.length_drop, List.length_replicate] at hysl); conv => whnf)
      | (refine And.intro (by first | (first | exact True.intro | exact ⟨h1, h3, h4⟩ | exact ⟨h2, h3, h4⟩) | exact True.intro | exact ⟨rfl, True.intro, fun _ _ => rfl⟩ | exact Nat.le_of_ble_eq_true rfl | (refine ⟨by (try simp only [List.length_cons, List.length_nil]); omega, Int.le_trans (Int.mul_le_mul_of_nonneg_left (show (TInfo.bytes _ : Int) ≤ 64 from Int.ofNat_le.2 (Nat.le_of_ble_eq_true rfl)) (by omega)) (by (try simp only [List.length_cons, List.length_nil]); omega)⟩)) ?_; conv => whnf)))
    all_goals refine leaf0 rfl (congrArg AVal.bool ?_) rfl
    all_goals simp only [sCrossL, Prod.mk.injEq]
    all_goals (first | (simp [*]; done) | grind)
def sFreeC : PCtr := fun _ rg _ vals k => match vals with
  | [.agg [.int .i64 n, .int .i64 d, .int .i64 m, .int .i64 e], .row i] => rowC lT (rg i) fun xs => (BdL ((n, d), (m, e)) ∧ ∀ x ∈ (xs : List Lf), BdL x) ∧ k [] (.bool (freeS xs (n, d) (m, e)))
  | _ => False
theorem sFree_ok : PCtrOk Try.prog 162 sFreeC where
  enter := enter_ok Try.func162 (by kernel_rfl) rfl
  calls := by
    intro hg rg lr vals k h
    unfold sFreeC at h
    split at h
    case h_2 => exact h.elim
    rename_i n d m e i
    obtain ⟨e', own, xs, hi, h⟩ : ∃ e own, ∃ (xs : List Lf), _ := rowC_inv h
    obtain ⟨⟨hl, hx⟩, hk⟩ := h
    refine ⟨_, _, hk, fun A w hB hR => ?_⟩
    refine enter T_ok (GOk.cons sCross4_ok .nil) Try.func162 rfl (K := (· < w.heap.size)) (fun _ h => h) (A := A.pick [] [i]) (vals := [.agg [.int .i64 n, .int .i64 d, .int .i64 m, .int .i64 e], .row 0]) (n0 := 0) (b0 := 0) (rows := [some ⟨lT, e', false, xs⟩]) (hp := []) rfl (Nat.zero_le _) no_box rfl (one_row (hR i _ hi)) rfl rfl (Nat.le_of_ble_eq_true rfl) ?_
    conv => whnf
    repeat (refine V_step T_ok (GOk.cons sCross4_ok .nil) rfl ?_; conv => whnf)
    have hcap' : (@List.length (TyC.α lT) xs : Int) ≤ 9223372036854775807 := by
      have h1 := (hR i _ hi).len
      have h2 := (hR i _ hi).cap
      have h3 := (hR i _ hi).max
      simp only at h1
      have : maxLen = 9223372036854775807 := rfl
      omega
    have hx' : ∀ n : Nat, (n : Int) < (List.length (α := Lf) xs : Nat) → BdL (xs.getD n lT.dflt) := fun n hn => hx _ (getD_mem (by omega))
    refine V_loopH (γ := Nat) (fun g => g ≤ xs.length ∧ ∀ j, j < g → sCrossL ((n, d), (m, e)) (xs.getD j dL) = false) (fun g => xs.length - g)
      (fun g => [(5, .int .i64 g)]) (fun _ => []) (fun _ => []) 0 ⟨Nat.zero_le _, fun j h => absurd h (Nat.not_lt_zero _)⟩ ?_ ?_
    · conv => whnf
      refine ⟨?_, by (conv => whnf); repeat (first | exact True.intro | (refine And.intro rfl ?_; conv => whnf)), by (conv => whnf); repeat (first | exact True.intro | (refine And.intro (by first | rfl | (subst_vars; rfl)) ?_; conv => whnf)), rfl, rfl, rfl, rfl, rfl, rfl, rfl, Nat.le_of_ble_eq_true rfl, Nat.le_of_ble_eq_true rfl⟩
      conv => whnf
      repeat (first | exact True.intro | (refine And.intro (by first | rfl | ((conv => whnf); exact congrArg (AVal.int .i64) (by omega)) | ((conv => whnf); exact congrArg (AVal.int .i64) (by simp only [Int.natCast_add, Int.natCast_one]; omega)) | ((conv => whnf); exact congrArg (AVal.irow _) (by first | omega | assumption | (simp only; omega)))) ?_; conv => whnf))
    · rintro g ⟨h1, h2⟩
      conv => whnf
      refine vcCode_sound T_ok (GOk.cons sCross4_ok .nil) _ _ _ _ _ ?_
      conv => whnf
      repeat (refine V_step T_ok (GOk.cons sCross4_ok .nil) rfl ?_; conv => whnf)
      repeat (any_goals (first
        | (refine V_step T_ok (GOk.cons sCross4_ok .nil) rfl ?_; conv => whnf)
        | (refine V_drawA T_ok (GOk.cons sCross4_ok .nil) mixed (by kernel_rfl) ?_; conv => whnf)
        | (refine bcond_split (fun hc => ?_) (fun hc => ?_) <;> (try simp only [decide_eq_true_eq, decide_eq_false_iff_not, Bool.not_eq_true', Bool.not_eq_false', Bool.and_eq_true, Bool.or_eq_true, Bool.and_eq_false_imp, Bool.or_eq_false_iff, ne_eq, Decidable.not_not] at hc) <;> conv => whnf)
        | (intro ysK hysK; have hysl := congrArg List.length hysK; (try simp only [List.length_set, List.length_append, List.length_cons, List.length_nil, List.length_take, List.length_drop, List.length_replicate] at hysl); conv => whnf)
        | (refine And.intro (by first | (first | exact True.intro | omega | (simp only [Rng]; omega) | exact ⟨hl, hx' g (by assumption)⟩) | exact True.intro | exact ⟨rfl, True.intro, fun _ _ => rfl⟩ | exact Nat.le_of_ble_eq_true rfl | (refine ⟨by (try simp only [List.length_cons, List.length_nil]); omega, Int.le_trans (Int.mul_le_mul_of_nonneg_left (show (TInfo.bytes _ : Int) ≤ 64 from Int.ofNat_le.2 (Nat.le_of_ble_eq_true rfl)) (by omega)) (by (try simp only [List.length_cons, List.length_nil]); omega)⟩)) ?_; conv => whnf)))
      · rename_i hc0
        have hl : (g : Int) < (xs.length : Nat) := hc0
        have hc' : sCrossL ((n, d), (m, e)) (xs.getD g dL) = true := hc
        refine leaf0 rfl (congrArg AVal.bool ?_) rfl
        symm
        unfold freeS
        rw [List.all_eq_false]
        exact ⟨_, getD_mem (l := xs) (i := g) (d := dL) (by omega), by rw [hc']; simp⟩
      · rename_i hc0
        have hl : (g : Int) < (xs.length : Nat) := hc0
        refine ⟨g + 1, ⟨by omega, fun j hj => ?_⟩, by omega, ?_⟩
        · rcases Nat.lt_or_ge j g with h | h
          · exact h2 j h
          · obtain rfl : j = g := by omega
            exact hc
        · conv => whnf
          refine ⟨?_, by (conv => whnf); repeat (first | exact True.intro | (refine And.intro rfl ?_; conv => whnf)), by (conv => whnf); repeat (first | exact True.intro | (refine And.intro (by first | rfl | (subst_vars; rfl)) ?_; conv => whnf)), rfl, rfl, rfl, rfl, rfl, rfl, rfl, Nat.le_of_ble_eq_true rfl, Nat.le_of_ble_eq_true rfl⟩
          conv => whnf
          repeat (first | exact True.intro | (refine And.intro (by first | rfl | ((conv => whnf); exact congrArg (AVal.int .i64) (by omega)) | ((conv => whnf); exact congrArg (AVal.int .i64) (by simp only [Int.natCast_add, Int.natCast_one]; omega)) | ((conv => whnf); exact congrArg (AVal.irow _) (by first | omega | assumption | (simp only; omega)))) ?_; conv => whnf))
      · have hl : ¬ (g : Int) < (xs.length : Nat) := hc
        refine leaf0 rfl (congrArg AVal.bool ?_) rfl
        symm
        unfold freeS
        rw [List.all_eq_true]
        intro x hx
        obtain ⟨j, hj, rfl⟩ := List.mem_iff_getElem.1 hx
        have := h2 j (by omega)
        rw [List.getD_eq_getElem?_getD, List.getElem?_eq_getElem hj] at this
        rw [show xs[j] = (some xs[j]).getD dL from rfl, this]; rfl
end Go.Proofs.Ytadlnnjgocknhab.Fw
