/- Contracts: satellites. -/
import Derived.Test.YtlplngafncobkabQ3
namespace Go.Proofs.Ytlplngafncobkab.Fw
open Go Go.RowKit
set_option linter.unusedVariables false
set_option linter.unusedSimpArgs false
set_option maxRecDepth 100000
set_option maxHeartbeats 2000000

theorem orb_per {a : Ang} (h : IsA a) {N : Nat} (hN : 0 < N) (hp : perI a = N) : orbX a = (List.range N).map (itA a) := by
  have hS : perS a = N := by
    rcases per_eq h with ⟨h3, _⟩ | ⟨_, h4⟩
    · rw [h3, hp]
    · omega
  unfold perS at hS
  split at hS
  · rename_i hb
    unfold orbX at hS ⊢
    cases hl : lenA a with
    | none => rw [hl] at hS; simp at hS; omega
    | some n =>
      rw [hl] at hS
      simp at hS
      have : n = N := by omega
      rw [this]
  · omega
def satB (p : Lf) : Bool := (orbX p.1).any (eqA p.2)
def SatR (p : Lf) : Prop := IsL p ∧ 1 ≤ perI p.1
theorem sat_iff {p : Lf} (h : IsL p) {N : Nat} (hN : 0 < N) (hp : perI p.1 = N) : satB p = true ↔ ∃ j, 1 ≤ j ∧ j < N ∧ itA p.1 j = p.2 := by
  unfold satB
  rw [orb_per h.1 hN hp, List.any_eq_true]
  constructor
  · rintro ⟨x, hx, he⟩
    obtain ⟨j, hj, rfl⟩ := List.mem_map.1 hx
    have he : p.2 = itA p.1 j := of_decide_eq_true he
    have hj := List.mem_range.1 hj
    rcases Nat.eq_zero_or_pos j with rfl | h0
    · have he : p.2 = p.1 := he
      have := (lessA_v h.1.f h.2.1.f).1 h.2.2
      rw [he] at this
      exact absurd this (Rat.lt_irrefl)
    · exact ⟨j, h0, hj, he.symm⟩
  · rintro ⟨j, _, hj, he⟩
    exact ⟨_, List.mem_map.2 ⟨j, List.mem_range.2 hj, rfl⟩, decide_eq_true he.symm⟩
def satC : PCtr := fun _ _ _ vals k => match vals with
  | [.agg [.int .i64 n, .int .i64 d, .int .i64 m, .int .i64 e]] => SatR ((n, d), (m, e)) ∧ k [] (.bool (satB ((n, d), (m, e))))
  | _ => False
theorem sat_ok : PCtrOk Try.prog 76 satC where
  enter := enter_ok Try.func76 (by kernel_rfl) rfl
  calls := by
    intro hg rg lr vals k h
    unfold satC at h
    split at h
    case h_2 => exact h.elim
    rename_i n d m e
    obtain ⟨⟨hl, hp⟩, hk⟩ := h
    refine ⟨_, _, hk, fun A w _ _ => ?_⟩
    refine enter T_ok (GOk.cons orbit_ok (GOk.cons hasA_ok .nil)) Try.func76 rfl (K := (· < w.heap.size)) (fun _ h => h) (A := A) (n0 := 0) (b0 := 0) (rows := []) (hp := []) rfl (Nat.zero_le _) (fun k r h => by cases h) rfl (fun k r h => by cases h) rfl rfl (Nat.le_of_ble_eq_true rfl) ?_
    conv => whnf
    repeat (refine V_step T_ok (GOk.cons orbit_ok (GOk.cons hasA_ok .nil)) rfl ?_; conv => whnf)
    repeat (any_goals (first
      | (refine V_step T_ok (GOk.cons orbit_ok (GOk.cons hasA_ok .nil)) rfl ?_; conv => whnf)
      | (refine V_drawA T_ok (GOk.cons orbit_ok (GOk.cons hasA_ok .nil)) mixed (by kernel_rfl) ?_; conv => whnf)
      | (refine bcond_split (fun hc => ?_) (fun hc => ?_) <;> (try simp only [decide_eq_true_eq, decide_eq_false_iff_not, Bool.not_eq_true', Bool.not_eq_false', Bool.and_eq_true, Bool.or_eq_true, Bool.and_eq_false_imp, Bool.or_eq_false_iff, ne_eq, Decidable.not_not] at hc) <;> conv => whnf)
      | (intro ysK hysK; have hysl := congrArg List.length hysK; (try simp only [List.length_set, List.length_append, List.length_cons, List.length_nil, List.length_take, List.length_drop, List.length_replicate] at hysl); conv => whnf)
      | (refine And.intro (by first | (first | exact True.intro | exact hl.1) | exact True.intro | exact Nat.le_of_ble_eq_true rfl | (refine ⟨by (try simp only [List.length_cons, List.length_nil]); omega, Int.le_trans (Int.mul_le_mul_of_nonneg_left (show (TInfo.bytes _ : Int) ≤ 64 from Int.ofNat_le.2 (Nat.le_of_ble_eq_true rfl)) (by omega)) (by (try simp only [List.length_cons, List.length_nil]); omega)⟩)) ?_; conv => whnf)))
    all_goals exact leaf0 rfl rfl rfl

theorem sSat_ok : PCtrOk Try.prog 75 satC where
  enter := enter_ok Try.func75 (by kernel_rfl) rfl
  calls := by
    intro hg rg lr vals k h
    unfold satC at h
    split at h
    case h_2 => exact h.elim
    rename_i n d m e
    obtain ⟨⟨hl, hp⟩, hk⟩ := h
    refine ⟨_, _, hk, fun A w _ _ => ?_⟩
    refine enter T_ok (GOk.cons sDouble_ok .nil) Try.func75 rfl (K := (· < w.heap.size)) (fun _ h => h) (A := A) (n0 := 0) (b0 := 0) (rows := []) (hp := []) rfl (Nat.zero_le _) (fun k r h => by cases h) rfl (fun k r h => by cases h) rfl rfl (Nat.le_of_ble_eq_true rfl) ?_
    conv => whnf
    repeat (refine V_step T_ok (GOk.cons sDouble_ok .nil) rfl ?_; conv => whnf)
    obtain ⟨N, hN⟩ : ∃ N : Nat, perI (n, d) = N := ⟨(perI (n, d)).toNat, by have : 1 ≤ perI (n, d) := hp; omega⟩
    have hN0 : 0 < N := by have : 1 ≤ perI (n, d) := hp; omega
    obtain ⟨i1, i2⟩ := it_per hN0 hN
    have hs := sat_iff hl hN0 hN
    have hA : ∀ j, Bd (itA (n, d) j) := fun j => (hl.1.it j).sm.bd
    have hA0 : Bd (n, d) := hA 0
    repeat (any_goals (first
      | (refine V_step T_ok (GOk.cons sDouble_ok .nil) rfl ?_; conv => whnf)
      | (refine V_drawA T_ok (GOk.cons sDouble_ok .nil) mixed (by kernel_rfl) ?_; conv => whnf)
      | (refine bcond_split (fun hc => ?_) (fun hc => ?_) <;> (try simp only [decide_eq_true_eq, decide_eq_false_iff_not, Bool.not_eq_true', Bool.not_eq_false', Bool.and_eq_true, Bool.or_eq_true, Bool.and_eq_false_imp, Bool.or_eq_false_iff, ne_eq, Decidable.not_not] at hc) <;> conv => whnf)
      | (intro ysK hysK; have hysl := congrArg List.length hysK; (try simp only [List.length_set, List.length_append, List.length_cons, List.length_nil, List.length_take, List.length_drop, List.length_replicate] at hysl); conv => whnf)
      | (refine And.intro (by first | (first | exact True.intro | exact hA0) | exact True.intro | exact Nat.le_of_ble_eq_true rfl | (refine ⟨by (try simp only [List.length_cons, List.length_nil]); omega, Int.le_trans (Int.mul_le_mul_of_nonneg_left (show (TInfo.bytes _ : Int) ≤ 64 from Int.ofNat_le.2 (Nat.le_of_ble_eq_true rfl)) (by omega)) (by (try simp only [List.length_cons, List.length_nil]); omega)⟩)) ?_; conv => whnf)))
    refine V_loopH (γ := Nat) (fun j => (1 ≤ j ∧ j ≤ N) ∧ ∀ i, 1 ≤ i → i < j → itA (n, d) i ≠ (m, e)) (fun j => N - j)
      (fun j => [(3, .loc 1 0)]) (fun j => [(1, [.int .i64 (itA (n, d) j).1, .int .i64 (itA (n, d) j).2])]) (fun _ => []) 1 ⟨⟨Nat.le_refl _, hN0⟩, fun i h1 h2 => absurd h1 (by omega)⟩ ?_ ?_
    · conv => whnf
      refine ⟨?_, by (conv => whnf); repeat (first | exact True.intro | (refine And.intro rfl ?_; conv => whnf)), by (conv => whnf); repeat (first | exact True.intro | (refine And.intro (by first | rfl | (subst_vars; rfl)) ?_; conv => whnf)), rfl, rfl, rfl, rfl, rfl, rfl, rfl, Nat.le_of_ble_eq_true rfl, Nat.le_of_ble_eq_true rfl⟩
      conv => whnf
      repeat (first | exact True.intro | (refine And.intro (by first | rfl | ((conv => whnf); exact congrArg (AVal.int .i64) (by omega)) | ((conv => whnf); exact congrArg (AVal.int .i64) (by simp only [Int.natCast_add, Int.natCast_one]; omega))) ?_; conv => whnf))
    · rintro j ⟨h1, h2⟩
      conv => whnf
      refine vcCode_sound T_ok (GOk.cons sDouble_ok .nil) _ _ _ _ _ ?_
      conv => whnf
      repeat (refine V_step T_ok (GOk.cons sDouble_ok .nil) rfl ?_; conv => whnf)
      repeat (any_goals (first
        | (refine V_step T_ok (GOk.cons sDouble_ok .nil) rfl ?_; conv => whnf)
        | (refine V_drawA T_ok (GOk.cons sDouble_ok .nil) mixed (by kernel_rfl) ?_; conv => whnf)
        | (refine bcond_split (fun hc => ?_) (fun hc => ?_) <;> (try simp only [decide_eq_true_eq, decide_eq_false_iff_not, Bool.not_eq_true', Bool.not_eq_false', Bool.and_eq_true, Bool.or_eq_true, Bool.and_eq_false_imp, Bool.or_eq_false_iff, ne_eq, Decidable.not_not] at hc) <;> conv => whnf)
        | (intro ysK hysK; have hysl := congrArg List.length hysK; (try simp only [List.length_set, List.length_append, List.length_cons, List.length_nil, List.length_take, List.length_drop, List.length_replicate] at hysl); conv => whnf)
        | (refine And.intro (by first | (first | exact True.intro | exact hA j) | exact True.intro | exact Nat.le_of_ble_eq_true rfl | (refine ⟨by (try simp only [List.length_cons, List.length_nil]); omega, Int.le_trans (Int.mul_le_mul_of_nonneg_left (show (TInfo.bytes _ : Int) ≤ 64 from Int.ofNat_le.2 (Nat.le_of_ble_eq_true rfl)) (by omega)) (by (try simp only [List.length_cons, List.length_nil]); omega)⟩)) ?_; conv => whnf)))
      · rename_i hc0
        have he : itA (n, d) j = (m, e) := Prod.ext hc.1 hc.2
        have hj : j < N := by
          rcases Nat.lt_or_ge j N with h | h
          · exact h
          · have : j = N := by omega
            rw [this, i1] at hc0
            exact absurd rfl (hc0 rfl)
        exact leaf0 rfl (congrArg AVal.bool (hs.2 ⟨j, h1.1, hj, he⟩).symm) rfl
      · rename_i hc0
        have hj : j < N := by
          rcases Nat.lt_or_ge j N with h | h
          · exact h
          · have : j = N := by omega
            rw [this, i1] at hc0
            exact absurd rfl (hc0 rfl)
        refine ⟨j + 1, ⟨by omega, fun i q1 q2 => ?_⟩, by omega, ?_⟩
        · rcases Nat.lt_or_ge i j with h | h
          · exact h2 i q1 h
          · obtain rfl : i = j := by omega
            exact fun h => hc (congrArg Prod.fst h) (congrArg Prod.snd h)
        · conv => whnf
          refine ⟨?_, by (conv => whnf); repeat (first | exact True.intro | (refine And.intro rfl ?_; conv => whnf)), by (conv => whnf); repeat (first | exact True.intro | (refine And.intro (by first | rfl | (subst_vars; rfl)) ?_; conv => whnf)), rfl, rfl, rfl, rfl, rfl, rfl, rfl, Nat.le_of_ble_eq_true rfl, Nat.le_of_ble_eq_true rfl⟩
          conv => whnf
          repeat (first | exact True.intro | (refine And.intro (by first | rfl | ((conv => whnf); exact congrArg (AVal.int .i64) (by omega)) | ((conv => whnf); exact congrArg (AVal.int .i64) (by simp only [Int.natCast_add, Int.natCast_one]; omega))) ?_; conv => whnf))
      · have he : itA (n, d) j = (n, d) := Prod.ext hc.1 hc.2
        have hj : j = N := by
          rcases Nat.lt_or_ge j N with h | h
          · exact absurd he (i2 j (by omega) h)
          · omega
        refine leaf0 rfl (congrArg AVal.bool ?_) rfl
        cases hb : satB ((n, d), (m, e)) with
        | false => rfl
        | true =>
          obtain ⟨i, q1, q2, q3⟩ := hs.1 hb
          exact absurd q3 (h2 i q1 (by omega))

def isSatC : PCtr := fun _ _ _ vals k => match vals with
  | [.agg [.int .i64 n, .int .i64 d]] => True ∧ k [] (.tup [.bool (if prCode (n, d) = 0 then satB (prOf (n, d)) else false), .int .i64 (prCode (n, d))])
  | _ => False
theorem prOf_sat {x : Ang} (h : prCode x = 0) : SatR (prOf x) := by
  have hx := (prCode_ok x).1 h
  obtain ⟨h1, h2, _⟩ := prOf_isL hx
  have := hx.2
  exact ⟨h1, by omega⟩
theorem isSat_ok : PCtrOk Try.prog 40 isSatC where
  enter := enter_ok Try.func40 (by kernel_rfl) rfl
  calls := by
    intro hg rg lr vals k h
    unfold isSatC at h
    split at h
    case h_2 => exact h.elim
    rename_i n d
    obtain ⟨_, hk⟩ := h
    refine ⟨_, _, hk, fun A w _ _ => ?_⟩
    refine enter T_ok (GOk.cons pr_ok (GOk.cons sat_ok .nil)) Try.func40 rfl (K := (· < w.heap.size)) (fun _ h => h) (A := A) (n0 := 0) (b0 := 0) (rows := []) (hp := []) rfl (Nat.zero_le _) (fun k r h => by cases h) rfl (fun k r h => by cases h) rfl rfl (Nat.le_of_ble_eq_true rfl) ?_
    conv => whnf
    repeat (refine V_step T_ok (GOk.cons pr_ok (GOk.cons sat_ok .nil)) rfl ?_; conv => whnf)
    repeat (any_goals (first
      | (refine V_step T_ok (GOk.cons pr_ok (GOk.cons sat_ok .nil)) rfl ?_; conv => whnf)
      | (refine V_drawA T_ok (GOk.cons pr_ok (GOk.cons sat_ok .nil)) mixed (by kernel_rfl) ?_; conv => whnf)
      | (refine bcond_split (fun hc => ?_) (fun hc => ?_) <;> (try simp only [decide_eq_true_eq, decide_eq_false_iff_not, Bool.not_eq_true', Bool.not_eq_false', Bool.and_eq_true, Bool.or_eq_true, Bool.and_eq_false_imp, Bool.or_eq_false_iff, ne_eq, Decidable.not_not] at hc) <;> conv => whnf)
      | (intro ysK hysK; have hysl := congrArg List.length hysK; (try simp only [List.length_set, List.length_append, List.length_cons, List.length_nil, List.length_take, List.length_drop, List.length_replicate] at hysl); conv => whnf)
      | (refine And.intro (by first | (first | exact True.intro | exact prOf_sat (by assumption)) | exact True.intro | exact Nat.le_of_ble_eq_true rfl | (refine ⟨by (try simp only [List.length_cons, List.length_nil]); omega, Int.le_trans (Int.mul_le_mul_of_nonneg_left (show (TInfo.bytes _ : Int) ≤ 64 from Int.ofNat_le.2 (Nat.le_of_ble_eq_true rfl)) (by omega)) (by (try simp only [List.length_cons, List.length_nil]); omega)⟩)) ?_; conv => whnf)))
    · exact leaf0 rfl (by rw [if_neg hc]) rfl
    · exact leaf0 rfl (by rw [if_pos hc, hc] <;> rfl) rfl
theorem sIsSat_ok : PCtrOk Try.prog 39 isSatC where
  enter := enter_ok Try.func39 (by kernel_rfl) rfl
  calls := by
    intro hg rg lr vals k h
    unfold isSatC at h
    split at h
    case h_2 => exact h.elim
    rename_i n d
    obtain ⟨_, hk⟩ := h
    refine ⟨_, _, hk, fun A w _ _ => ?_⟩
    refine enter T_ok (GOk.cons sPr_ok (GOk.cons sSat_ok .nil)) Try.func39 rfl (K := (· < w.heap.size)) (fun _ h => h) (A := A) (n0 := 0) (b0 := 0) (rows := []) (hp := []) rfl (Nat.zero_le _) (fun k r h => by cases h) rfl (fun k r h => by cases h) rfl rfl (Nat.le_of_ble_eq_true rfl) ?_
    conv => whnf
    repeat (refine V_step T_ok (GOk.cons sPr_ok (GOk.cons sSat_ok .nil)) rfl ?_; conv => whnf)
    repeat (any_goals (first
      | (refine V_step T_ok (GOk.cons sPr_ok (GOk.cons sSat_ok .nil)) rfl ?_; conv => whnf)
      | (refine V_drawA T_ok (GOk.cons sPr_ok (GOk.cons sSat_ok .nil)) mixed (by kernel_rfl) ?_; conv => whnf)
      | (refine bcond_split (fun hc => ?_) (fun hc => ?_) <;> (try simp only [decide_eq_true_eq, decide_eq_false_iff_not, Bool.not_eq_true', Bool.not_eq_false', Bool.and_eq_true, Bool.or_eq_true, Bool.and_eq_false_imp, Bool.or_eq_false_iff, ne_eq, Decidable.not_not] at hc) <;> conv => whnf)
      | (intro ysK hysK; have hysl := congrArg List.length hysK; (try simp only [List.length_set, List.length_append, List.length_cons, List.length_nil, List.length_take, List.length_drop, List.length_replicate] at hysl); conv => whnf)
      | (refine And.intro (by first | (first | exact True.intro | exact prOf_sat (by assumption)) | exact True.intro | exact Nat.le_of_ble_eq_true rfl | (refine ⟨by (try simp only [List.length_cons, List.length_nil]); omega, Int.le_trans (Int.mul_le_mul_of_nonneg_left (show (TInfo.bytes _ : Int) ≤ 64 from Int.ofNat_le.2 (Nat.le_of_ble_eq_true rfl)) (by omega)) (by (try simp only [List.length_cons, List.length_nil]); omega)⟩)) ?_; conv => whnf)))
    · exact leaf0 rfl (by rw [if_neg hc]) rfl
    · exact leaf0 rfl (by rw [if_pos hc, hc] <;> rfl) rfl
theorem lawSat_ok : PCtrOk Try.prog 12 lawAC where
  enter := enter_ok Try.func12 (by kernel_rfl) rfl
  calls := by
    intro hg rg lr vals k h
    unfold lawAC at h
    split at h
    case h_2 => exact h.elim
    rename_i n d
    obtain ⟨_, hk⟩ := h
    refine ⟨_, _, hk, fun A w _ _ => ?_⟩
    refine enter T_ok (GOk.cons toAngle_ok (GOk.cons sIsSat_ok (GOk.cons isSat_ok .nil))) Try.func12 rfl (K := (· < w.heap.size)) (fun _ h => h) (A := A) (n0 := 0) (b0 := 0) (rows := []) (hp := []) rfl (Nat.zero_le _) (fun k r h => by cases h) rfl (fun k r h => by cases h) rfl rfl (Nat.le_of_ble_eq_true rfl) ?_
    conv => whnf
    repeat (refine V_step T_ok (GOk.cons toAngle_ok (GOk.cons sIsSat_ok (GOk.cons isSat_ok .nil))) rfl ?_; conv => whnf)
    repeat (any_goals (first
      | (refine V_step T_ok (GOk.cons toAngle_ok (GOk.cons sIsSat_ok (GOk.cons isSat_ok .nil))) rfl ?_; conv => whnf)
      | (refine V_drawA T_ok (GOk.cons toAngle_ok (GOk.cons sIsSat_ok (GOk.cons isSat_ok .nil))) mixed (by kernel_rfl) ?_; conv => whnf)
      | (refine bcond_split (fun hc => ?_) (fun hc => ?_) <;> (try simp only [decide_eq_true_eq, decide_eq_false_iff_not, Bool.not_eq_true', Bool.not_eq_false', Bool.and_eq_true, Bool.or_eq_true, Bool.and_eq_false_imp, Bool.or_eq_false_iff, ne_eq, Decidable.not_not] at hc) <;> conv => whnf)
      | (intro ysK hysK; have hysl := congrArg List.length hysK; (try simp only [List.length_set, List.length_append, List.length_cons, List.length_nil, List.length_take, List.length_drop, List.length_replicate] at hysl); conv => whnf)
      | (refine And.intro (by first | exact True.intro | (with_reducible assumption) | omega | (simp only [Rng]; omega) | exact Nat.le_of_ble_eq_true rfl | exact True.intro | exact Nat.le_of_ble_eq_true rfl | (refine ⟨by (try simp only [List.length_cons, List.length_nil]); omega, Int.le_trans (Int.mul_le_mul_of_nonneg_left (show (TInfo.bytes _ : Int) ≤ 64 from Int.ofNat_le.2 (Nat.le_of_ble_eq_true rfl)) (by omega)) (by (try simp only [List.length_cons, List.length_nil]); omega)⟩)) ?_; conv => whnf)))
    all_goals first
      | exact leaf0 rfl rfl rfl
      | (simp at hc; done)
      | (exact absurd trivial hc)
      | (exact absurd rfl hc)

/-! ### counts -/
def notSat (p : Lf) : Bool := !satB p
def csC : PCtr := fun hg rg _ vals k => match vals with
  | [.agg [.int .i64 n, .int .i64 d, .int .i64 m, .int .i64 e]] => ((True) ∧ SatR ((n, d), (m, e))) ∧ k [] (.bool (notSat ((n, d), (m, e))))
  | _ => False
theorem cs_ok : PCtrOk Try.prog 78 csC where
  enter := enter_ok Try.func78 (by kernel_rfl) rfl
  calls := by
    intro hg rg lr vals k h
    unfold csC at h
    split at h
    case h_2 => exact h.elim
    rename_i n d m e
    obtain ⟨⟨hE, hx⟩, hk⟩ := h
    refine ⟨_, _, hk, fun A w hB hR => ?_⟩
    refine enter T_ok (GOk.cons sat_ok .nil) Try.func78 rfl (K := (· < w.heap.size)) (fun _ h => h) (A := A.pick [] []) (vals := [.agg [.int .i64 n, .int .i64 d, .int .i64 m, .int .i64 e]]) (n0 := 0) (b0 := 0) (rows := []) (hp := []) rfl (Nat.zero_le _) no_box rfl no_row rfl rfl (Nat.le_of_ble_eq_true rfl) ?_
    conv => whnf
    repeat (refine V_step T_ok (GOk.cons sat_ok .nil) rfl ?_; conv => whnf)

    repeat (any_goals (first
      | (refine V_step T_ok (GOk.cons sat_ok .nil) rfl ?_; conv => whnf)
      | (refine V_drawA T_ok (GOk.cons sat_ok .nil) mixed (by kernel_rfl) ?_; conv => whnf)
      | (refine bcond_split (fun hc => ?_) (fun hc => ?_) <;> (try simp only [decide_eq_true_eq, decide_eq_false_iff_not, Bool.not_eq_true', Bool.not_eq_false', Bool.and_eq_true, Bool.or_eq_true, Bool.and_eq_false_imp, Bool.or_eq_false_iff, ne_eq, Decidable.not_not] at hc) <;> conv => whnf)
      | (intro ysK hysK; have hysl := congrArg List.length hysK; (try simp only [List.length_set, List.length_append, List.length_cons, List.length_nil, List.length_take, List.length_drop, List.length_replicate] at hysl); conv => whnf)
      | (refine And.intro (by first | (first | exact True.intro | exact hx) | exact True.intro | exact Nat.le_of_ble_eq_true rfl | (refine ⟨by (try simp only [List.length_cons, List.length_nil]); omega, Int.le_trans (Int.mul_le_mul_of_nonneg_left (show (TInfo.bytes _ : Int) ≤ 64 from Int.ofNat_le.2 (Nat.le_of_ble_eq_true rfl)) (by omega)) (by (try simp only [List.length_cons, List.length_nil]); omega)⟩)) ?_; conv => whnf)))
    all_goals exact leaf0 rfl rfl rfl

def csxC : PCtr := fun hg rg _ vals k => match vals with
  | [.row i, .fn f [] []] => isF f 78 (rowC lT (rg i) fun xs => ((True) ∧ ∀ x ∈ (xs : List Lf), SatR x) ∧ k [] (.int .i64 (idxP (α := Lf) (notSat) xs)))
  | _ => False
theorem csx_ok : PCtrOk Try.prog 68 csxC where
  enter := enter_ok Try.func68 (by kernel_rfl) rfl
  calls := by
    intro hg rg lr vals k h
    unfold csxC at h
    split at h
    case h_2 => exact h.elim
    rename_i i f
    obtain ⟨rfl, h⟩ := isF_inv h
    obtain ⟨e, own, xs, hi, h⟩ : ∃ e own, ∃ (xs : List Lf), _ := rowC_inv h
    obtain ⟨⟨hE, hx⟩, hk⟩ := h
    refine ⟨_, _, hk, fun A w hB hR => ?_⟩
    refine enter T_ok (GOk.cons cs_ok .nil) Try.func68 rfl (K := (· < w.heap.size)) (fun _ h => h) (A := A.pick [] [i]) (vals := [.row 0, .fn 78 [] []]) (n0 := 0) (b0 := 0) (rows := [some ⟨lT, e, false, xs⟩]) (hp := []) rfl (Nat.zero_le _) no_box rfl (fun i9 r h9 => by
      match i9, h9 with
      | 0, h9 => cases h9; exact ⟨rfl, RowsAt.ro (hR i _ hi)⟩
      | i9 + 1, h9 => simp [nthj] at h9) rfl rfl (Nat.le_of_ble_eq_true rfl) ?_
    conv => whnf
    repeat (refine V_step T_ok (GOk.cons cs_ok .nil) rfl ?_; conv => whnf)
    have hcap' : (@List.length (TyC.α lT) xs : Int) ≤ 9223372036854775807 := by
      have h1 := (hR i _ hi).len
      have h2 := (hR i _ hi).cap
      have h3 := (hR i _ hi).max
      simp only at h1
      have : maxLen = 9223372036854775807 := rfl
      omega
    have hcap : (xs.length : Int) ≤ 9223372036854775807 := hcap'
    have hx' : ∀ n : Nat, (n : Int) < (List.length (α := Lf) xs : Nat) → SatR (xs.getD n lT.dflt) := fun n hn => hx _ (getD_mem (by omega))
    refine V_loopH (γ := Nat) (fun n => n ≤ xs.length ∧ ∀ j, j < n → (notSat) (xs.getD j lT.dflt) = false) (fun n => xs.length - n)
      (fun n => [(8, .int .i64 n)]) (fun _ => []) (fun _ => []) 0 ⟨Nat.zero_le _, fun j h => absurd h (Nat.not_lt_zero _)⟩ ?_ ?_
    · conv => whnf
      refine ⟨?_, by (conv => whnf); repeat (first | exact True.intro | (refine And.intro rfl ?_; conv => whnf)), by (conv => whnf); repeat (first | exact True.intro | (refine And.intro (by first | rfl | (subst_vars; rfl)) ?_; conv => whnf)), rfl, rfl, rfl, rfl, rfl, rfl, rfl, Nat.le_of_ble_eq_true rfl, Nat.le_of_ble_eq_true rfl⟩
      conv => whnf
      repeat (first | exact True.intro | (refine And.intro (by first | rfl | ((conv => whnf); exact congrArg (AVal.int .i64) (by omega)) | ((conv => whnf); exact congrArg (AVal.int .i64) (by simp only [Int.natCast_add, Int.natCast_one]; omega))) ?_; conv => whnf))
    · rintro n ⟨h1, h2⟩
      conv => whnf
      refine vcCode_sound T_ok (GOk.cons cs_ok .nil) _ _ _ _ _ ?_
      conv => whnf
      repeat (refine V_step T_ok (GOk.cons cs_ok .nil) rfl ?_; conv => whnf)
      repeat (any_goals (first
        | (refine V_step T_ok (GOk.cons cs_ok .nil) rfl ?_; conv => whnf)
        | (refine V_drawA T_ok (GOk.cons cs_ok .nil) mixed (by kernel_rfl) ?_; conv => whnf)
        | (refine bcond_split (fun hc => ?_) (fun hc => ?_) <;> (try simp only [decide_eq_true_eq, decide_eq_false_iff_not, Bool.not_eq_true', Bool.not_eq_false', Bool.and_eq_true, Bool.or_eq_true, Bool.and_eq_false_imp, Bool.or_eq_false_iff, ne_eq, Decidable.not_not] at hc) <;> conv => whnf)
        | (intro ysK hysK; have hysl := congrArg List.length hysK; (try simp only [List.length_set, List.length_append, List.length_cons, List.length_nil, List.length_take, List.length_drop, List.length_replicate] at hysl); conv => whnf)
        | (refine And.intro (by first | (first | exact True.intro | omega | (simp only [Rng]; omega) | exact ⟨hE, hx' n (by assumption)⟩) | exact True.intro | exact Nat.le_of_ble_eq_true rfl | (refine ⟨by (try simp only [List.length_cons, List.length_nil]); omega, Int.le_trans (Int.mul_le_mul_of_nonneg_left (show (TInfo.bytes _ : Int) ≤ 64 from Int.ofNat_le.2 (Nat.le_of_ble_eq_true rfl)) (by omega)) (by (try simp only [List.length_cons, List.length_nil]); omega)⟩)) ?_; conv => whnf)))
      · rename_i hc0
        have hl : (n : Int) < (xs.length : Nat) := hc0
        exact leaf0 rfl (congrArg (AVal.int .i64) (idxP_found (notSat) xs n lT.dflt (by omega) h2 hc).symm) rfl
      · rename_i hc0
        have hl : (n : Int) < (xs.length : Nat) := hc0
        refine ⟨n + 1, ⟨by omega, fun j hj => ?_⟩, by omega, ?_⟩
        · rcases Nat.lt_or_ge j n with h | h
          · exact h2 j h
          · obtain rfl : j = n := by omega
            exact hc
        · conv => whnf
          refine ⟨?_, by (conv => whnf); repeat (first | exact True.intro | (refine And.intro rfl ?_; conv => whnf)), by (conv => whnf); repeat (first | exact True.intro | (refine And.intro (by first | rfl | (subst_vars; rfl)) ?_; conv => whnf)), rfl, rfl, rfl, rfl, rfl, rfl, rfl, Nat.le_of_ble_eq_true rfl, Nat.le_of_ble_eq_true rfl⟩
          conv => whnf
          repeat (first | exact True.intro | (refine And.intro (by first | rfl | ((conv => whnf); exact congrArg (AVal.int .i64) (by omega)) | ((conv => whnf); exact congrArg (AVal.int .i64) (by simp only [Int.natCast_add, Int.natCast_one]; omega))) ?_; conv => whnf))
      · have hl : ¬ (n : Int) < (xs.length : Nat) := hc
        exact leaf0 rfl (congrArg (AVal.int .i64) (idxP_none (notSat) xs lT.dflt (fun j hj => h2 j (by omega))).symm) rfl


def csdC : MCtr := fun hg rg lr vals k => match vals with
  | [.row i, .fn f [] []] => isF f 78 (rowO lT (rg i) fun e xs => ((True) ∧ ∀ x ∈ (xs : List Lf), SatR x) ∧ k [(i, none)] [⟨lT, e, true, (xs : List Lf).filter (fun x => !(notSat) x)⟩] (.row lr))
  | _ => False
theorem csd_ok : MCtrOk Try.prog 77 csdC where
  enter := enter_ok Try.func77 (by kernel_rfl) rfl
  calls := by
    intro hg rg lr vals k h
    unfold csdC at h
    split at h
    case h_2 => exact h.elim
    rename_i i f
    obtain ⟨rfl, h⟩ := isF_inv h
    obtain ⟨e, xs, hi, h⟩ : ∃ e, ∃ (xs : List Lf), _ := rowO_inv h

    obtain ⟨hH, hk⟩ := h

    obtain ⟨hE, hx⟩ := hH
    refine ⟨_, _, _, hk, (ups_one hi rfl (fun r' hr' => by cases hr')), fun A w hM => ?_⟩
    have hO : One rg [i] [some ⟨lT, e, true, xs⟩] i ⟨lT, e, true, xs⟩ := ⟨rfl, hi, rfl, rfl, fun q r hq ho => by
      match q, hq with
      | 0, hq => rfl
      | q + 1, hq => simp [nthj] at hq⟩
    refine enterM T_ok (GOk.cons csx_ok (GOk.cons cs_ok .nil)) Try.func77 rfl (w := w) (A := A.pick [] [i]) (vals := [.row 0, .fn 78 [] []]) (n0 := 1) (b0 := 0) (rows := [some ⟨lT, e, true, xs⟩]) (hp := []) rfl (Nat.le_add_left _ _) (hM.pick [] [i] [] [some ⟨lT, e, true, xs⟩] (fun i9 cs h9 => by
      match i9, h9 with
      | i9 + 0, h9 => simp [nthj] at h9) (fun i9 r h9 => by
      match i9, h9 with
      | 0, h9 => cases h9; exact ⟨_, hi, .inl rfl⟩
      | i9 + 1, h9 => simp [nthj] at h9) (fun i9 j9 r r' h9 h8 hij ho => by
      have h0 : i9 = 0 := hO.only i9 r h9 ho
      subst h0
      match j9, h8 with
      | 0, h8 => exact absurd rfl hij
      | j9 + 1, h8 => simp [nthj] at h8)) rfl rfl rfl (Nat.le_of_ble_eq_true rfl) ?_
    conv => whnf
    repeat (refine V_step T_ok (GOk.cons csx_ok (GOk.cons cs_ok .nil)) rfl ?_; conv => whnf)
    have hcap : (List.length (α := Lf) xs : Int) ≤ 9223372036854775807 := by
      have h1 := (hM.row i _ hi).1.len
      have h2 := (hM.row i _ hi).1.cap
      have h3 := (hM.row i _ hi).1.max
      simp only at h1
      have : maxLen = 9223372036854775807 := rfl
      omega
    have hx' : ∀ n : Nat, n < (List.length (α := Lf) xs : Nat) → SatR (xs.getD n lT.dflt) := fun n hn => hx _ (getD_mem hn)
    have hd := idxP_cases (notSat) lT.dflt xs
    have hd2 := idxP_ge (notSat) xs
    repeat (any_goals (first
      | (refine V_step T_ok (GOk.cons csx_ok (GOk.cons cs_ok .nil)) rfl ?_; conv => whnf)
      | (refine V_drawA T_ok (GOk.cons csx_ok (GOk.cons cs_ok .nil)) mixed (by kernel_rfl) ?_; conv => whnf)
      | (refine bcond_split (fun hc => ?_) (fun hc => ?_) <;> (try simp only [decide_eq_true_eq, decide_eq_false_iff_not, Bool.not_eq_true', Bool.not_eq_false', Bool.and_eq_true, Bool.or_eq_true, Bool.and_eq_false_imp, Bool.or_eq_false_iff, ne_eq, Decidable.not_not] at hc) <;> conv => whnf)
      | (intro ysK hysK; have hysl := congrArg List.length hysK; (try simp only [List.length_set, List.length_append, List.length_cons, List.length_nil, List.length_take, List.length_drop, List.length_replicate] at hysl); conv => whnf)
      | (refine And.intro (by first | (first | exact ⟨hE, hx⟩ | exact True.intro | (simp only [Rng]; omega) | omega) | exact True.intro | exact Nat.le_of_ble_eq_true rfl | (refine ⟨by (try simp only [List.length_cons, List.length_nil]); omega, Int.le_trans (Int.mul_le_mul_of_nonneg_left (show (TInfo.bytes _ : Int) ≤ 64 from Int.ofNat_le.2 (Nat.le_of_ble_eq_true rfl)) (by omega)) (by (try simp only [List.length_cons, List.length_nil]); omega)⟩)) ?_; conv => whnf)))
    · -- none
      have hall : ∀ x ∈ xs, (notSat) x = false := by
        rcases hd with ⟨_, h2⟩ | ⟨n, h1, _⟩
        · exact h2
        · have hc' : idxP (notSat) xs = -1 := hc
          omega
      refine leafM1 hO 0 rfl ?_ rfl (fun B C h => by simp [AVal.den, h])
      rw [List.filter_eq_self.2 fun x hx => by rw [hall x hx]; rfl]
    · have hc' : ¬ idxP (notSat) xs = -1 := hc
      obtain ⟨nD, hn1, hn2, hn3, hn4⟩ : ∃ n : Nat, idxP (notSat) xs = (n : Int) ∧ n < xs.length ∧ (notSat) (xs.getD n lT.dflt) = true ∧ ∀ x ∈ xs.take n, (notSat) x = false := by
        rcases hd with ⟨h1, _⟩ | h
        · exact absurd h1 hc'
        · exact h
      clear hd
      refine V_loopH (γ := (Nat × Nat) × List Lf) (fun g => (g.1.1 < g.1.2 ∧ g.1.2 ≤ xs.length) ∧ g.2.length = xs.length ∧ g.2.take g.1.1 = (xs.take g.1.2).filter (fun x => !(notSat) x) ∧ ∀ q, g.1.2 ≤ q → g.2.getD q lT.dflt = xs.getD q lT.dflt) (fun g => xs.length - g.1.2)
        (fun g => [(5, .int .i64 g.1.1), (6, .int .i64 g.1.2)]) (fun _ => []) (fun g => [(0, some ⟨lT, e, true, g.2⟩)]) ((nD, nD + 1), xs) ⟨⟨Nat.lt_succ_self _, hn2⟩, rfl, (del_first hn2 hn3 hn4).symm, fun _ _ => rfl⟩ ?_ ?_
      · conv => whnf
        refine ⟨?_, by (conv => whnf); repeat (first | exact True.intro | (refine And.intro rfl ?_; conv => whnf)), by (conv => whnf); repeat (first | exact True.intro | (refine And.intro (by first | rfl | (subst_vars; rfl)) ?_; conv => whnf)), rfl, rfl, rfl, rfl, rfl, rfl, rfl, Nat.le_of_ble_eq_true rfl, Nat.le_of_ble_eq_true rfl⟩
        conv => whnf
        repeat (first | exact True.intro | (refine And.intro (by first | rfl | ((conv => whnf); exact congrArg (AVal.int .i64) (by omega)) | ((conv => whnf); exact congrArg (AVal.int .i64) (by simp only [Int.natCast_add, Int.natCast_one]; omega))) ?_; conv => whnf))
      · rintro ⟨⟨iD, jD⟩, yD⟩ ⟨⟨h1, h2⟩, hlen, htk, hdr⟩
        simp only at h1 h2 hlen htk hdr
        have hy : ∀ q : Nat, (q : Int) < (List.length (α := Lf) yD : Nat) → jD ≤ q → SatR (yD.getD q lT.dflt) := fun q hq hle => by rw [hdr q hle]; exact hx' q (by omega)
        conv => whnf
        refine vcCode_sound T_ok (GOk.cons csx_ok (GOk.cons cs_ok .nil)) _ _ _ _ _ ?_
        conv => whnf
        repeat (refine V_step T_ok (GOk.cons csx_ok (GOk.cons cs_ok .nil)) rfl ?_; conv => whnf)
        repeat (any_goals (first
          | (refine V_step T_ok (GOk.cons csx_ok (GOk.cons cs_ok .nil)) rfl ?_; conv => whnf)
          | (refine V_drawA T_ok (GOk.cons csx_ok (GOk.cons cs_ok .nil)) mixed (by kernel_rfl) ?_; conv => whnf)
          | (refine bcond_split (fun hc => ?_) (fun hc => ?_) <;> (try simp only [decide_eq_true_eq, decide_eq_false_iff_not, Bool.not_eq_true', Bool.not_eq_false', Bool.and_eq_true, Bool.or_eq_true, Bool.and_eq_false_imp, Bool.or_eq_false_iff, ne_eq, Decidable.not_not] at hc) <;> conv => whnf)
          | (intro ysK hysK; have hysl := congrArg List.length hysK; (try simp only [List.length_set, List.length_append, List.length_cons, List.length_nil, List.length_take, List.length_drop, List.length_replicate] at hysl); conv => whnf)
          | (refine And.intro (by first | (first | exact True.intro | omega | (simp only [Rng]; omega) | exact ⟨hE, hy jD (by assumption) (Nat.le_refl _)⟩) | exact True.intro | exact Nat.le_of_ble_eq_true rfl | (refine ⟨by (try simp only [List.length_cons, List.length_nil]); omega, Int.le_trans (Int.mul_le_mul_of_nonneg_left (show (TInfo.bytes _ : Int) ≤ 64 from Int.ofNat_le.2 (Nat.le_of_ble_eq_true rfl)) (by omega)) (by (try simp only [List.length_cons, List.length_nil]); omega)⟩)) ?_; conv => whnf)))
        · -- it stays
          rename_i hjD
          have hjD : (jD : Int) < (List.length (α := Lf) yD : Nat) := hjD
          have hp : (notSat) (xs.getD jD lT.dflt) = false := by rw [← hdr jD (Nat.le_refl _)]; exact hc
          have hyK : ysK = yD.set iD (xs.getD jD lT.dflt) := by rw [← hdr jD (Nat.le_refl _)]; exact hysK
          refine ⟨((iD + 1, jD + 1), ysK), ⟨⟨by simp only; omega, by simp only; omega⟩, by rw [hyK]; simp only [List.length_set]; exact hlen, ?_, fun q hq => ?_⟩, by simp only; omega, ?_⟩
          · simp only
            rw [hyK, take_set (by omega), del_step (d := lT.dflt) (by omega), htk, hp]; rfl
          · simp only at hq ⊢
            rw [hyK, List.getD_eq_getElem?_getD, List.getElem?_set_ne (by omega), ← List.getD_eq_getElem?_getD]
            exact hdr q (by omega)
          · conv => whnf
            refine ⟨?_, by (conv => whnf); repeat (first | exact True.intro | (refine And.intro rfl ?_; conv => whnf)), by (conv => whnf); repeat (first | exact True.intro | (refine And.intro (by first | rfl | (subst_vars; rfl)) ?_; conv => whnf)), rfl, rfl, rfl, rfl, rfl, rfl, rfl, Nat.le_of_ble_eq_true rfl, Nat.le_of_ble_eq_true rfl⟩
            conv => whnf
            repeat (first | exact True.intro | (refine And.intro (by first | rfl | ((conv => whnf); exact congrArg (AVal.int .i64) (by omega)) | ((conv => whnf); exact congrArg (AVal.int .i64) (by simp only [Int.natCast_add, Int.natCast_one]; omega))) ?_; conv => whnf))
        · -- it goes
          rename_i hjD
          have hjD : (jD : Int) < (List.length (α := Lf) yD : Nat) := hjD
          have hp : (notSat) (xs.getD jD lT.dflt) = true := by rw [← hdr jD (Nat.le_refl _)]; exact hc
          refine ⟨((iD, jD + 1), yD), ⟨⟨by simp only; omega, by simp only; omega⟩, hlen, ?_, fun q hq => hdr q (by simp only at hq; omega)⟩, by simp only; omega, ?_⟩
          · simp only
            rw [del_step (d := lT.dflt) (by omega), htk, hp]; simp
          · conv => whnf
            refine ⟨?_, by (conv => whnf); repeat (first | exact True.intro | (refine And.intro rfl ?_; conv => whnf)), by (conv => whnf); repeat (first | exact True.intro | (refine And.intro (by first | rfl | (subst_vars; rfl)) ?_; conv => whnf)), rfl, rfl, rfl, rfl, rfl, rfl, rfl, Nat.le_of_ble_eq_true rfl, Nat.le_of_ble_eq_true rfl⟩
            conv => whnf
            repeat (first | exact True.intro | (refine And.intro (by first | rfl | ((conv => whnf); exact congrArg (AVal.int .i64) (by omega)) | ((conv => whnf); exact congrArg (AVal.int .i64) (by simp only [Int.natCast_add, Int.natCast_one]; omega))) ?_; conv => whnf))
        · have hge : ¬ (jD : Int) < (List.length (α := Lf) yD : Nat) := hc
          have hj : jD = xs.length := by omega
          have hlK : ysK.length = yD.length := by
            have hyK : ysK = yD.take iD ++ (List.replicate (yD.length - iD) lT.dflt ++ yD.drop (iD + (yD.length - iD))) := hysK
            rw [hyK]; simp; omega
          have hT : ysK.take iD = (xs : List Lf).filter (fun x => !(notSat) x) := by
            have hyK : ysK = yD.take iD ++ (List.replicate (yD.length - iD) lT.dflt ++ yD.drop (iD + (yD.length - iD))) := hysK
            rw [hyK, List.take_append_of_le_length (by simp; omega), List.take_take, Nat.min_self, htk, hj, List.take_length]
          refine leafMV (xs := ysK) hO 0 iD rfl rfl (by omega) hT (fun B C h => ?_)
          simp [AVal.den, h, TyC.sz] <;> rfl


def lenPC : PCtr := fun _ rg _ vals k => match vals with
  | [.row i] => rowC lT (rg i) fun xs => True ∧ k [] (.int .i64 (xs.length : Int))
  | _ => False
theorem lenP_ok : PCtrOk Try.prog 74 lenPC where
  enter := enter_ok Try.func74 (by kernel_rfl) rfl
  calls := by
    intro hg rg lr vals k h
    unfold lenPC at h
    split at h
    case h_2 => exact h.elim
    rename_i i
    obtain ⟨e, own, xs, hi, h⟩ : ∃ e own, ∃ (xs : List Lf), _ := rowC_inv h
    have hk := h.2
    refine ⟨_, _, hk, fun A w hB hR => ?_⟩
    refine enter T_ok .nil Try.func74 rfl (K := (· < w.heap.size)) (fun _ h => h) (A := A.pick [] [i]) (vals := [.row 0]) (n0 := 0) (b0 := 0) (rows := [some ⟨lT, e, false, xs⟩]) (hp := []) rfl (Nat.zero_le _) no_box rfl (one_row (hR i _ hi)) rfl rfl (Nat.le_of_ble_eq_true rfl) ?_
    conv => whnf
    repeat (refine V_step T_ok .nil rfl ?_; conv => whnf)
    have hcap' : (@List.length (TyC.α lT) xs : Int) ≤ 9223372036854775807 := by
      have h1 := (hR i _ hi).len
      have h2 := (hR i _ hi).cap
      have h3 := (hR i _ hi).max
      simp only at h1
      have : maxLen = 9223372036854775807 := rfl
      omega
    repeat (any_goals (first
      | (refine V_step T_ok .nil rfl ?_; conv => whnf)
      | (refine V_drawA T_ok .nil mixed (by kernel_rfl) ?_; conv => whnf)
      | (refine bcond_split (fun hc => ?_) (fun hc => ?_) <;> (try simp only [decide_eq_true_eq, decide_eq_false_iff_not, Bool.not_eq_true', Bool.not_eq_false', Bool.and_eq_true, Bool.or_eq_true, Bool.and_eq_false_imp, Bool.or_eq_false_iff, ne_eq, Decidable.not_not] at hc) <;> conv => whnf)
      | (intro ysK hysK; have hysl := congrArg List.length hysK; (try simp only [List.length_set, List.length_append, List.length_cons, List.length_nil, List.length_take, List.length_drop, List.length_replicate] at hysl); conv => whnf)
      | (refine And.intro (by first | exact True.intro | (with_reducible assumption) | omega | (simp only [Rng]; omega) | exact Nat.le_of_ble_eq_true rfl | exact True.intro | exact Nat.le_of_ble_eq_true rfl | (refine ⟨by (try simp only [List.length_cons, List.length_nil]); omega, Int.le_trans (Int.mul_le_mul_of_nonneg_left (show (TInfo.bytes _ : Int) ≤ 64 from Int.ofNat_le.2 (Nat.le_of_ble_eq_true rfl)) (by omega)) (by (try simp only [List.length_cons, List.length_nil]); omega)⟩)) ?_; conv => whnf)))
    all_goals exact leaf0 rfl rfl rfl
end Go.Proofs.Ytlplngafncobkab.Fw
