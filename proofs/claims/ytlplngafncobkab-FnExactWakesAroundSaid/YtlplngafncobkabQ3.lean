/- Contracts: widths of wakes, satellites. -/
import Derived.Test.YtlplngafncobkabQ2
namespace Go.Proofs.Ytlplngafncobkab.Fw
open Go Go.RowKit
set_option linter.unusedVariables false
set_option linter.unusedSimpArgs false
set_option maxRecDepth 100000
set_option maxHeartbeats 2000000

/-! ### widths -/
/-- How often an angle takes the unit of its period. -/
def kA (a : Ang) (D : Int) : Int := a.1 * (D / a.2)
theorem k_rng {a : Ang} (h : IsA a) {N : Nat} (hn : 0 < N) (he : itA a N = a) : ((kA a (2 ^ N - 1) : Int) : Rat) = vA a * ((2 ^ N - 1 : Int) : Rat) ∧ 0 ≤ kA a (2 ^ N - 1) ∧ kA a (2 ^ N - 1) < 2 ^ N - 1 ∧ a.2 * ((2 ^ N - 1) / a.2) = 2 ^ N - 1 := by
  obtain ⟨k, hk, ho⟩ := per_ofQ h hn he
  have hf := h.f
  have hd : a.2 ∣ (2 ^ N - 1 : Int) := by
    rw [← ho]
    exact Int.ediv_dvd_of_dvd (Int.gcd_dvd_left ..)
  obtain ⟨q, hq⟩ := hd
  have hp : (0 : Int) < 2 ^ N - 1 := by omega
  have hq0 : 0 < q := by
    rcases Int.lt_or_le 0 q with h1 | h1
    · exact h1
    · have := Int.mul_nonpos_of_nonneg_of_nonpos (a := a.2) (b := q) (by have := hf.1; omega) h1
      omega
  unfold kA
  rw [hq, Int.mul_ediv_cancel_left _ (by have := hf.1; omega)]
  refine ⟨?_, Int.mul_nonneg hf.2.1 (by omega), Int.mul_lt_mul_of_pos_right hf.2.2.1 hq0, rfl⟩
  have h1 := vA_mul hf
  rw [Rat.intCast_mul, Rat.intCast_mul, h1]
  grind
/-- The width as the reference reckons it. -/
def sWidA (p : Lf) (D : Int) : Ang := ofQ (kA p.2 D - kA p.1 D) D
theorem wid_eq {p : Lf} (h : IsL p) {N : Nat} (hn : 0 < N) (h1 : itA p.1 N = p.1) (h2 : itA p.2 N = p.2) : sWidA p (2 ^ N - 1) = widthA p ∧ 0 ≤ kA p.2 (2 ^ N - 1) - kA p.1 (2 ^ N - 1) ∧ kA p.2 (2 ^ N - 1) - kA p.1 (2 ^ N - 1) < 2 ^ N - 1 := by
  obtain ⟨e1, b1, c1, _⟩ := k_rng h.1 hn h1
  obtain ⟨e2, b2, c2, _⟩ := k_rng h.2.1 hn h2
  have hp : (1 : Int) ≤ 2 ^ N - 1 := by omega
  have hl := (lessA_v h.1.f h.2.1.f).1 h.2.2
  have hr := rpos hp
  have hlt : kA p.1 (2 ^ N - 1) < kA p.2 (2 ^ N - 1) := by
    rw [← Rat.intCast_lt_intCast, e1, e2]
    exact Rat.mul_lt_mul_of_pos_right hl hr
  refine ⟨?_, by omega, by omega⟩
  unfold sWidA
  rw [eq_v (ofQ_f _ _ hp) (show IsF (widthA p) from minus_f h.2.1.f h.1.f), v_width h, v_ofQ_k _ _ 0 hp (by omega) (by omega), Rat.intCast_sub, e1, e2]
  have := rne hp
  grind
theorem it_per {a : Ang} {N : Nat} (hN : 0 < N) (h : perI a = N) : itA a N = a ∧ ∀ j, 0 < j → j < N → itA a j ≠ a := by
  rcases perI_cases a with ⟨m, h1, h2, h3, h4, h5⟩ | ⟨_, h5⟩
  · have : m = N := by omega
    subst this
    exact ⟨h3, h4⟩
  · omega
def widC : PCtr := fun _ _ _ vals k => match vals with
  | [.agg [.int .i64 n, .int .i64 d, .int .i64 m, .int .i64 e]] => BdL ((n, d), (m, e)) ∧ k [] (aV (widthA ((n, d), (m, e))))
  | _ => False
theorem wid_ok : PCtrOk Try.prog 73 widC where
  enter := enter_ok Try.func73 (by kernel_rfl) rfl
  calls := by
    intro hg rg lr vals k h
    unfold widC at h
    split at h
    case h_2 => exact h.elim
    rename_i n d m e
    obtain ⟨⟨h1, h2⟩, hk⟩ := h
    refine ⟨_, _, hk, fun A w _ _ => ?_⟩
    refine enter T_ok (GOk.cons minus_ok .nil) Try.func73 rfl (K := (· < w.heap.size)) (fun _ h => h) (A := A) (n0 := 0) (b0 := 0) (rows := []) (hp := []) rfl (Nat.zero_le _) (fun k r h => by cases h) rfl (fun k r h => by cases h) rfl rfl (Nat.le_of_ble_eq_true rfl) ?_
    conv => whnf
    repeat (refine V_step T_ok (GOk.cons minus_ok .nil) rfl ?_; conv => whnf)
    repeat (any_goals (first
      | (refine V_step T_ok (GOk.cons minus_ok .nil) rfl ?_; conv => whnf)
      | (refine V_drawA T_ok (GOk.cons minus_ok .nil) mixed (by kernel_rfl) ?_; conv => whnf)
      | (refine bcond_split (fun hc => ?_) (fun hc => ?_) <;> (try simp only [decide_eq_true_eq, decide_eq_false_iff_not, Bool.not_eq_true', Bool.not_eq_false', Bool.and_eq_true, Bool.or_eq_true, Bool.and_eq_false_imp, Bool.or_eq_false_iff, ne_eq, Decidable.not_not] at hc) <;> conv => whnf)
      | (intro ysK hysK; have hysl := congrArg List.length hysK; (try simp only [List.length_set, List.length_append, List.length_cons, List.length_nil, List.length_take, List.length_drop, List.length_replicate] at hysl); conv => whnf)
      | (refine And.intro (by first | (first | exact True.intro | exact ⟨h2, h1⟩) | exact True.intro | exact Nat.le_of_ble_eq_true rfl | (refine ⟨by (try simp only [List.length_cons, List.length_nil]); omega, Int.le_trans (Int.mul_le_mul_of_nonneg_left (show (TInfo.bytes _ : Int) ≤ 64 from Int.ofNat_le.2 (Nat.le_of_ble_eq_true rfl)) (by omega)) (by (try simp only [List.length_cons, List.length_nil]); omega)⟩)) ?_; conv => whnf)))
    all_goals exact leaf0 rfl rfl rfl
def limC : PCtr := fun _ _ _ vals k => match vals with
  | [.agg [.int .i64 n, .int .i64 d]] => d ≤ 8191 ∧ k [] (.tup [aV (n, d), .int .i64 0])
  | _ => False
theorem lim_ok : PCtrOk Try.prog 72 limC where
  enter := enter_ok Try.func72 (by kernel_rfl) rfl
  calls := by
    intro hg rg lr vals k h
    unfold limC at h
    split at h
    case h_2 => exact h.elim
    rename_i n d
    obtain ⟨hd, hk⟩ := h
    refine ⟨_, _, hk, fun A w _ _ => ?_⟩
    refine enter T_ok .nil Try.func72 rfl (K := (· < w.heap.size)) (fun _ h => h) (A := A) (n0 := 0) (b0 := 0) (rows := []) (hp := []) rfl (Nat.zero_le _) (fun k r h => by cases h) rfl (fun k r h => by cases h) rfl rfl (Nat.le_of_ble_eq_true rfl) ?_
    conv => whnf
    repeat (refine V_step T_ok .nil rfl ?_; conv => whnf)
    repeat (any_goals (first
      | (refine V_step T_ok .nil rfl ?_; conv => whnf)
      | (refine V_drawA T_ok .nil mixed (by kernel_rfl) ?_; conv => whnf)
      | (refine bcond_split (fun hc => ?_) (fun hc => ?_) <;> (try simp only [decide_eq_true_eq, decide_eq_false_iff_not, Bool.not_eq_true', Bool.not_eq_false', Bool.and_eq_true, Bool.or_eq_true, Bool.and_eq_false_imp, Bool.or_eq_false_iff, ne_eq, Decidable.not_not] at hc) <;> conv => whnf)
      | (intro ysK hysK; have hysl := congrArg List.length hysK; (try simp only [List.length_set, List.length_append, List.length_cons, List.length_nil, List.length_take, List.length_drop, List.length_replicate] at hysl); conv => whnf)
      | (refine And.intro (by first | exact True.intro | (with_reducible assumption) | omega | (simp only [Rng]; omega) | exact Nat.le_of_ble_eq_true rfl | exact True.intro | exact Nat.le_of_ble_eq_true rfl | (refine ⟨by (try simp only [List.length_cons, List.length_nil]); omega, Int.le_trans (Int.mul_le_mul_of_nonneg_left (show (TInfo.bytes _ : Int) ≤ 64 from Int.ofNat_le.2 (Nat.le_of_ble_eq_true rfl)) (by omega)) (by (try simp only [List.length_cons, List.length_nil]); omega)⟩)) ?_; conv => whnf)))
    · exact absurd hd (by omega)
    · exact leaf0 rfl rfl rfl
def widOf (x : Ang) : Ang := if prCode x = 0 then widthA (prOf x) else (0, 0)
def widOC : PCtr := fun _ _ _ vals k => match vals with
  | [.agg [.int .i64 n, .int .i64 d]] => True ∧ k [] (.tup [aV (widOf (n, d)), .int .i64 (prCode (n, d))])
  | _ => False
theorem wid_all {x : Ang} (h : okX x) {N : Nat} (hN : perI x = N) : sWidA (prOf x) (2 ^ N - 1) = widthA (prOf x) ∧ 0 ≤ kA (prOf x).2 (2 ^ N - 1) - kA (prOf x).1 (2 ^ N - 1) ∧ kA (prOf x).2 (2 ^ N - 1) - kA (prOf x).1 (2 ^ N - 1) < 2 ^ N - 1 := by
  obtain ⟨h1, h2, h3, _⟩ := prOf_isL h
  have h4 := h.2
  exact wid_eq h1 (by omega) (it_per (by omega) (h2.trans hN)).1 (it_per (by omega) (h3.trans hN)).1
theorem wid_den {x : Ang} (h : okX x) : (widthA (prOf x)).2 ≤ 8191 := by
  have h4 := h.2
  have hp := pow_rng (n := (perI x).toNat) (by omega) (by omega)
  rw [← (wid_all h (N := (perI x).toNat) (by omega)).1]
  unfold sWidA
  have := ofQ_bd (kA (prOf x).2 (2 ^ (perI x).toNat - 1) - kA (prOf x).1 (2 ^ (perI x).toNat - 1)) (2 ^ (perI x).toNat - 1) (by omega)
  omega
abbrev GWO := GOk.cons pr_ok (GOk.cons wid_ok (GOk.cons lim_ok .nil))
theorem widOf_ok : PCtrOk Try.prog 36 widOC where
  enter := enter_ok Try.func36 (by kernel_rfl) rfl
  calls := by
    intro hg rg lr vals k h
    unfold widOC at h
    split at h
    case h_2 => exact h.elim
    rename_i n d
    obtain ⟨_, hk⟩ := h
    refine ⟨_, _, hk, fun A w _ _ => ?_⟩
    refine enter T_ok GWO Try.func36 rfl (K := (· < w.heap.size)) (fun _ h => h) (A := A) (n0 := 0) (b0 := 0) (rows := []) (hp := []) rfl (Nat.zero_le _) (fun k r h => by cases h) rfl (fun k r h => by cases h) rfl rfl (Nat.le_of_ble_eq_true rfl) ?_
    conv => whnf
    repeat (refine V_step T_ok GWO rfl ?_; conv => whnf)
    repeat (any_goals (first
      | (refine V_step T_ok GWO rfl ?_; conv => whnf)
      | (refine V_drawA T_ok GWO mixed (by kernel_rfl) ?_; conv => whnf)
      | (refine bcond_split (fun hc => ?_) (fun hc => ?_) <;> (try simp only [decide_eq_true_eq, decide_eq_false_iff_not, Bool.not_eq_true', Bool.not_eq_false', Bool.and_eq_true, Bool.or_eq_true, Bool.and_eq_false_imp, Bool.or_eq_false_iff, ne_eq, Decidable.not_not] at hc) <;> conv => whnf)
      | (intro ysK hysK; have hysl := congrArg List.length hysK; (try simp only [List.length_set, List.length_append, List.length_cons, List.length_nil, List.length_take, List.length_drop, List.length_replicate] at hysl); conv => whnf)
      | (refine And.intro (by first | (first | exact True.intro | exact (prOf_isL ((prCode_ok _).1 (by assumption))).1.sm.bd | exact wid_den ((prCode_ok _).1 (by assumption))) | exact True.intro | exact Nat.le_of_ble_eq_true rfl | (refine ⟨by (try simp only [List.length_cons, List.length_nil]); omega, Int.le_trans (Int.mul_le_mul_of_nonneg_left (show (TInfo.bytes _ : Int) ≤ 64 from Int.ofNat_le.2 (Nat.le_of_ble_eq_true rfl)) (by omega)) (by (try simp only [List.length_cons, List.length_nil]); omega)⟩)) ?_; conv => whnf)))
    · exact leaf0 rfl (by rw [widOf, if_neg hc] <;> rfl) rfl
    · exact leaf0 rfl (by rw [widOf, if_pos hc, hc] <;> rfl) rfl

abbrev GSW := GOk.cons sPr_ok (GOk.cons sPer_ok (GOk.cons sOf_ok .nil))
theorem sWidOf_ok : PCtrOk Try.prog 35 widOC where
  enter := enter_ok Try.func35 (by kernel_rfl) rfl
  calls := by
    intro hg rg lr vals k h
    unfold widOC at h
    split at h
    case h_2 => exact h.elim
    rename_i n d
    obtain ⟨_, hk⟩ := h
    refine ⟨_, _, hk, fun A w _ _ => ?_⟩
    refine enter T_ok GSW Try.func35 rfl (K := (· < w.heap.size)) (fun _ h => h) (A := A) (n0 := 0) (b0 := 0) (rows := []) (hp := []) rfl (Nat.zero_le _) (fun k r h => by cases h) rfl (fun k r h => by cases h) rfl rfl (Nat.le_of_ble_eq_true rfl) ?_
    conv => whnf
    repeat (refine V_step T_ok GSW rfl ?_; conv => whnf)
    by_cases h0 : prCode (n, d) = 0
    · have hx := (prCode_ok _).1 h0
      have hS := hx.perS
      have h2 := hx.2
      obtain ⟨N, hN⟩ : ∃ N : Nat, perI (n, d) = N := ⟨(perI (n, d)).toNat, by omega⟩
      have hp := pow_rng (n := N) (by omega) (by omega)
      obtain ⟨w1, w2, w3⟩ := wid_all hx hN
      obtain ⟨hl, q1, q2, _⟩ := prOf_isL hx
      obtain ⟨_, a1, a2, a3⟩ := k_rng hl.1 (N := N) (by omega) (it_per (by omega) (q1.trans hN)).1
      obtain ⟨_, b1, b2, b3⟩ := k_rng hl.2.1 (N := N) (by omega) (it_per (by omega) (q2.trans hN)).1
      have f1 := hl.1.f
      have f2 := hl.2.1.f
      have hD : (1 : Int) * 2 ^ N - 1 = 2 ^ N - 1 := by rw [Int.one_mul]
      rw [hN] at hS
      repeat (any_goals (first
        | (refine V_step T_ok GSW rfl ?_; conv => whnf)
        | (refine V_drawA T_ok GSW mixed (by kernel_rfl) ?_; conv => whnf)
        | (refine bcond_split (fun hc => ?_) (fun hc => ?_) <;> (try simp only [decide_eq_true_eq, decide_eq_false_iff_not, Bool.not_eq_true', Bool.not_eq_false', Bool.and_eq_true, Bool.or_eq_true, Bool.and_eq_false_imp, Bool.or_eq_false_iff, ne_eq, Decidable.not_not] at hc) <;> conv => whnf)
        | (intro ysK hysK; have hysl := congrArg List.length hysK; (try simp only [List.length_set, List.length_append, List.length_cons, List.length_nil, List.length_take, List.length_drop, List.length_replicate] at hysl); conv => whnf)
        | (refine And.intro (by first | (first | exact True.intro | exact hx.1 | (simp only [Rng]; omega)) | exact True.intro | exact Nat.le_of_ble_eq_true rfl | (refine ⟨by (try simp only [List.length_cons, List.length_nil]); omega, Int.le_trans (Int.mul_le_mul_of_nonneg_left (show (TInfo.bytes _ : Int) ≤ 64 from Int.ofNat_le.2 (Nat.le_of_ble_eq_true rfl)) (by omega)) (by (try simp only [List.length_cons, List.length_nil]); omega)⟩)) ?_; conv => whnf)))
      · exact absurd h0 hc
      · simp only [hS, Int.toNat_natCast]
        have t1 : ((1 : Int) * 2 ^ N - 1).tdiv (prOf (n, d)).1.2 = (2 ^ N - 1) / (prOf (n, d)).1.2 := by rw [hD]; exact Int.tdiv_eq_ediv_of_nonneg (by omega)
        have t2 : ((1 : Int) * 2 ^ N - 1).tdiv (prOf (n, d)).2.2 = (2 ^ N - 1) / (prOf (n, d)).2.2 := by rw [hD]; exact Int.tdiv_eq_ediv_of_nonneg (by omega)
        have u1 : 0 ≤ (2 ^ N - 1 : Int) / (prOf (n, d)).1.2 := Int.ediv_nonneg (by omega) (by have := f1.1; omega)
        have u2 : (2 ^ N - 1 : Int) / (prOf (n, d)).1.2 ≤ 2 ^ N - 1 := Int.ediv_le_self _ (by omega)
        have u3 : 0 ≤ (2 ^ N - 1 : Int) / (prOf (n, d)).2.2 := Int.ediv_nonneg (by omega) (by have := f2.1; omega)
        have u4 : (2 ^ N - 1 : Int) / (prOf (n, d)).2.2 ≤ 2 ^ N - 1 := Int.ediv_le_self _ (by omega)
        have f3 := f1.1
        have f4 := f2.1
        unfold kA at a1 a2 b1 b2 w2 w3
        repeat (any_goals (first
          | (refine V_step T_ok GSW rfl ?_; conv => whnf)
          | (refine V_drawA T_ok GSW mixed (by kernel_rfl) ?_; conv => whnf)
          | (refine bcond_split (fun hc => ?_) (fun hc => ?_) <;> (try simp only [decide_eq_true_eq, decide_eq_false_iff_not, Bool.not_eq_true', Bool.not_eq_false', Bool.and_eq_true, Bool.or_eq_true, Bool.and_eq_false_imp, Bool.or_eq_false_iff, ne_eq, Decidable.not_not] at hc) <;> conv => whnf)
          | (intro ysK hysK; have hysl := congrArg List.length hysK; (try simp only [List.length_set, List.length_append, List.length_cons, List.length_nil, List.length_take, List.length_drop, List.length_replicate] at hysl); conv => whnf)
          | (refine And.intro (by first | (first | exact True.intro | omega | (simp only [Rng]; omega) | (simp only [Rng, t1, t2, ne_eq]; omega)) | exact True.intro | exact Nat.le_of_ble_eq_true rfl | (refine ⟨by (try simp only [List.length_cons, List.length_nil]); omega, Int.le_trans (Int.mul_le_mul_of_nonneg_left (show (TInfo.bytes _ : Int) ≤ 64 from Int.ofNat_le.2 (Nat.le_of_ble_eq_true rfl)) (by omega)) (by (try simp only [List.length_cons, List.length_nil]); omega)⟩)) ?_; conv => whnf)))
        all_goals refine leaf0 rfl ?_ rfl
        all_goals rw [widOf, if_pos h0, h0, ← w1, sWidA, kA, kA]
        all_goals (rw [hD] at t1 t2; simp only [hD, t1, t2])
    · skip
      repeat (any_goals (first
        | (refine V_step T_ok GSW rfl ?_; conv => whnf)
        | (refine V_drawA T_ok GSW mixed (by kernel_rfl) ?_; conv => whnf)
        | (refine bcond_split (fun hc => ?_) (fun hc => ?_) <;> (try simp only [decide_eq_true_eq, decide_eq_false_iff_not, Bool.not_eq_true', Bool.not_eq_false', Bool.and_eq_true, Bool.or_eq_true, Bool.and_eq_false_imp, Bool.or_eq_false_iff, ne_eq, Decidable.not_not] at hc) <;> conv => whnf)
        | (intro ysK hysK; have hysl := congrArg List.length hysK; (try simp only [List.length_set, List.length_append, List.length_cons, List.length_nil, List.length_take, List.length_drop, List.length_replicate] at hysl); conv => whnf)
        | (refine And.intro (by first | exact True.intro | (with_reducible assumption) | omega | (simp only [Rng]; omega) | exact Nat.le_of_ble_eq_true rfl | exact True.intro | exact Nat.le_of_ble_eq_true rfl | (refine ⟨by (try simp only [List.length_cons, List.length_nil]); omega, Int.le_trans (Int.mul_le_mul_of_nonneg_left (show (TInfo.bytes _ : Int) ≤ 64 from Int.ofNat_le.2 (Nat.le_of_ble_eq_true rfl)) (by omega)) (by (try simp only [List.length_cons, List.length_nil]); omega)⟩)) ?_; conv => whnf)))
      · exact leaf0 rfl (by rw [widOf, if_neg hc] <;> rfl) rfl
      · exact absurd hc h0
theorem lawWid_ok : PCtrOk Try.prog 10 lawAC where
  enter := enter_ok Try.func10 (by kernel_rfl) rfl
  calls := by
    intro hg rg lr vals k h
    unfold lawAC at h
    split at h
    case h_2 => exact h.elim
    rename_i n d
    obtain ⟨_, hk⟩ := h
    refine ⟨_, _, hk, fun A w _ _ => ?_⟩
    refine enter T_ok (GOk.cons toAngle_ok (GOk.cons sWidOf_ok (GOk.cons widOf_ok (GOk.cons eqAngle_ok .nil)))) Try.func10 rfl (K := (· < w.heap.size)) (fun _ h => h) (A := A) (n0 := 0) (b0 := 0) (rows := []) (hp := []) rfl (Nat.zero_le _) (fun k r h => by cases h) rfl (fun k r h => by cases h) rfl rfl (Nat.le_of_ble_eq_true rfl) ?_
    conv => whnf
    repeat (refine V_step T_ok (GOk.cons toAngle_ok (GOk.cons sWidOf_ok (GOk.cons widOf_ok (GOk.cons eqAngle_ok .nil)))) rfl ?_; conv => whnf)
    repeat (any_goals (first
      | (refine V_step T_ok (GOk.cons toAngle_ok (GOk.cons sWidOf_ok (GOk.cons widOf_ok (GOk.cons eqAngle_ok .nil)))) rfl ?_; conv => whnf)
      | (refine V_drawA T_ok (GOk.cons toAngle_ok (GOk.cons sWidOf_ok (GOk.cons widOf_ok (GOk.cons eqAngle_ok .nil)))) mixed (by kernel_rfl) ?_; conv => whnf)
      | (refine bcond_split (fun hc => ?_) (fun hc => ?_) <;> (try simp only [decide_eq_true_eq, decide_eq_false_iff_not, Bool.not_eq_true', Bool.not_eq_false', Bool.and_eq_true, Bool.or_eq_true, Bool.and_eq_false_imp, Bool.or_eq_false_iff, ne_eq, Decidable.not_not] at hc) <;> conv => whnf)
      | (intro ysK hysK; have hysl := congrArg List.length hysK; (try simp only [List.length_set, List.length_append, List.length_cons, List.length_nil, List.length_take, List.length_drop, List.length_replicate] at hysl); conv => whnf)
      | (refine And.intro (by first | exact True.intro | (with_reducible assumption) | omega | (simp only [Rng]; omega) | exact Nat.le_of_ble_eq_true rfl | exact True.intro | exact Nat.le_of_ble_eq_true rfl | (refine ⟨by (try simp only [List.length_cons, List.length_nil]); omega, Int.le_trans (Int.mul_le_mul_of_nonneg_left (show (TInfo.bytes _ : Int) ≤ 64 from Int.ofNat_le.2 (Nat.le_of_ble_eq_true rfl)) (by omega)) (by (try simp only [List.length_cons, List.length_nil]); omega)⟩)) ?_; conv => whnf)))
    all_goals first
      | exact leaf0 rfl rfl rfl
      | (simp at hc; done)
      | (exact absurd trivial hc)
end Go.Proofs.Ytlplngafncobkab.Fw
