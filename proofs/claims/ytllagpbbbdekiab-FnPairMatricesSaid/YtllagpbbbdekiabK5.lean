/- Contracts: the program's pair matrix. -/
import Derived.Test.YtllagpbbbdekiabK4
namespace Go.Proofs.Ytllagpbbbdekiab.Fw
open Go Go.RowKit
set_option linter.unusedVariables false
set_option linter.unusedSimpArgs false
set_option maxRecDepth 100000
set_option maxHeartbeats 2000000
structure LeadOk (xs : List Ang) (row : List Int) (x y : Ang) : Prop where
  orb : Orb xs
  x : x ∈ xs
  y : y ∈ xs
  len : row.length = (prJ (xs.length : Int) xs.length).length
  bd : ∀ v ∈ row, 0 ≤ v ∧ v ≤ 100
theorem LeadOk.at {xs : List Ang} {row : List Int} {x y : Ang} (h : LeadOk xs row x y) (hne : x ≠ y) :
    ∃ n : Nat, idxP (isP (plA xs x) (plA xs y)) (prJ (xs.length : Int) xs.length) = (n : Int) ∧ n < row.length ∧ addP (prJ (xs.length : Int) xs.length) row (plA xs x) (plA xs y) = row.set n (row.getD n 0 + 1) := by
  obtain ⟨a1, a2, _⟩ := plA_rng xs x h.x
  obtain ⟨b1, b2, _⟩ := plA_rng xs y h.y
  obtain ⟨n, h1, h2, h3⟩ := place_pr (m := xs.length) (g := xs.length) a1 b1 (fun e => hne (plA_inj h.x h.y e)) a2 b2 a2 b2
  exact ⟨n, h1, by rw [h.len]; exact h2, h3 row h.len⟩
theorem prJ_two {m : Int} {g : Nat} : ∀ p ∈ prJ m g, 2 ≤ List.length (α := Int) p := fun p hp => by
  obtain ⟨i, k, rfl, _⟩ := mem_prJ.1 hp
  exact Nat.le_refl _
def leadC : MCtr := fun hg rg _ vals k => match vals with
  | [.agg [.int .i64 n, .int .i64 d], .agg [.int .i64 m, .int .i64 e], .loc b1 0, .loc b2 0] => boxR (hg b1) fun i => boxP (hg b2) fun j => boxRR (hg j) fun r s =>
      rowO iT (rg i) fun e1 row => rowC aT (rg r) fun xs => rowC rT (rg s) fun prs =>
      ((¬ i = r ∧ ¬ i = s) ∧ LeadOk xs row (n, d) (m, e) ∧ (prs : List (List Int)) = prJ (List.length (α := Ang) xs : Int) (List.length (α := Ang) xs)) ∧
      k [(i, some ⟨iT, e1, true, addP (prJ (List.length (α := Ang) xs : Int) (List.length (α := Ang) xs)) row (plA xs (n, d)) (plA xs (m, e))⟩)] [] (.tup [])
  | _ => False
theorem lead_ok : MCtrOk Try.prog 58 leadC where
  enter := enter_ok Try.func58 (by kernel_rfl) rfl
  calls := by
    intro hg rg lr vals k h
    unfold leadC at h
    split at h
    case h_2 => exact h.elim
    rename_i n d m e b1 b2
    obtain ⟨i, hb1, h⟩ := boxR_inv h
    obtain ⟨j, hb2, h⟩ := boxP_inv h
    obtain ⟨r, s, hj, h⟩ := boxRR_inv h
    obtain ⟨e1, row, hi, h⟩ : ∃ e, ∃ (xs : List Int), _ := rowO_inv h
    obtain ⟨e2, own2, xs, hr, h⟩ : ∃ e own, ∃ (xs : List Ang), _ := rowC_inv h
    obtain ⟨e3, own3, prs, hs, h⟩ : ∃ e own, ∃ (xs : List (List Int)), _ := rowC_inv h
    obtain ⟨⟨⟨hir, his⟩, hL, rfl⟩, hk⟩ := h
    refine ⟨_, _, _, hk, (ups_one hi rfl (fun r' hr' => by cases hr'; exact ⟨rfl, rfl, rfl⟩)), fun A w hM => ?_⟩
    have hO : One rg [i, r, s] [some ⟨iT, e1, true, row⟩, some ⟨aT, e2, false, xs⟩, some ⟨rT, e3, false, prJ (List.length (α := Ang) xs : Int) (List.length (α := Ang) xs)⟩] i ⟨iT, e1, true, row⟩ := ⟨rfl, hi, rfl, rfl, fun q r hq ho => by
      match q, hq with
      | 0, hq => rfl
      | 1, hq => cases hq; cases ho
      | 2, hq => cases hq; cases ho
      | q + 3, hq => simp [nthj] at hq⟩
    refine enterM T_ok (GOk.cons place_ok .nil) Try.func58 rfl (w := w) (A := A.pick [b1, b2, j] [i, r, s]) (vals := [.agg [.int .i64 n, .int .i64 d], .agg [.int .i64 m, .int .i64 e], .loc 0 0, .loc 1 0]) (n0 := 1) (b0 := 3) (rows := [some ⟨iT, e1, true, row⟩, some ⟨aT, e2, false, xs⟩, some ⟨rT, e3, false, prJ (List.length (α := Ang) xs : Int) (List.length (α := Ang) xs)⟩]) (hp := [some [.row 0], some [.loc 2 0], some [.row 1, .row 2]]) rfl (Nat.le_add_left _ _) (hM.pick [b1, b2, j] [i, r, s] _ _ (fun i9 cs h9 => by
      match i9, h9 with
      | 0, h9 => cases h9; exact ⟨_, hb1, rfl, rfl⟩
      | 1, h9 => cases h9; exact ⟨_, hb2, rfl, rfl⟩
      | 2, h9 => cases h9; exact ⟨_, hj, rfl, rfl⟩
      | i9 + 3, h9 => simp [nthj] at h9) (fun i9 r h9 => by
      match i9, h9 with
      | 0, h9 => cases h9; exact ⟨_, hi, .inl rfl⟩
      | 1, h9 => cases h9; exact ⟨_, hr, .inr rfl⟩
      | 2, h9 => cases h9; exact ⟨_, hs, .inr rfl⟩
      | i9 + 3, h9 => simp [nthj] at h9) (fun i9 j9 r r' h9 h8 hij ho => by
      have h0 : i9 = 0 := hO.only i9 r h9 ho
      subst h0
      match j9, h8 with
      | 0, h8 => exact absurd rfl hij
      | 1, h8 => exact hir
      | 2, h8 => exact his
      | j9 + 3, h8 => simp [nthj] at h8)) rfl rfl rfl (Nat.le_of_ble_eq_true rfl) ?_
    conv => whnf
    repeat (refine V_step T_ok (GOk.cons place_ok .nil) rfl ?_; conv => whnf)
    have hxl : List.length (α := Ang) xs ≤ 100 ∧ ∀ p ∈ prJ (List.length (α := Ang) xs : Int) (List.length (α := Ang) xs), 2 ≤ List.length (α := Int) p := ⟨by have := hL.orb.len; omega, prJ_two⟩
    by_cases hne : (n, d) = (m, e)
    · have hb : addP (prJ (List.length (α := Ang) xs : Int) (List.length (α := Ang) xs)) row (plA xs (n, d)) (plA xs (m, e)) = row := by rw [hne]; exact addP_same (by rw [hL.len]; exact Nat.le_refl _)
      rw [hb]
      repeat (any_goals (first
        | (refine V_step T_ok (GOk.cons place_ok .nil) rfl ?_; conv => whnf)
        | (refine V_drawA T_ok (GOk.cons place_ok .nil) mixed (by kernel_rfl) ?_; conv => whnf)
        | (refine bcond_split (fun hc => ?_) (fun hc => ?_) <;> (try simp only [decide_eq_true_eq, decide_eq_false_iff_not, Bool.not_eq_true', Bool.not_eq_false', Bool.and_eq_true, Bool.or_eq_true, Bool.and_eq_false_imp, Bool.or_eq_false_iff, ne_eq, Decidable.not_not] at hc) <;> conv => whnf)
        | (intro ysK hysK; have hysl := congrArg List.length hysK; (try simp only [List.length_set, List.length_append, List.length_cons, List.length_nil, List.length_take, List.length_drop, List.length_replicate] at hysl); conv => whnf)
        | (refine And.intro (by first | (first | exact True.intro | exact hxl | omega) | exact True.intro | exact ⟨rfl, True.intro, fun _ _ => rfl⟩ | exact Nat.le_of_ble_eq_true rfl | (refine ⟨by (try simp only [List.length_cons, List.length_nil]); omega, Int.le_trans (Int.mul_le_mul_of_nonneg_left (show (TInfo.bytes _ : Int) ≤ 64 from Int.ofNat_le.2 (Nat.le_of_ble_eq_true rfl)) (by omega)) (by (try simp only [List.length_cons, List.length_nil]); omega)⟩)) ?_; conv => whnf)))
      · exact absurd (congrArg Prod.snd hne) (hc (congrArg Prod.fst hne))
      · exact leafM0 hO Nat.zero_lt_one rfl rfl rfl rfl rfl
    · obtain ⟨q, hq1, hq2, hq3⟩ := hL.at hne
      rw [hq3]
      have hq1' : idxP (isP (plA xs (n, d)) (plA xs (m, e))) (prJ (List.length (α := Ang) xs : Int) (List.length (α := Ang) xs)) = (q : Int) := hq1
      have hqv : 0 ≤ row.getD q iT.dflt ∧ row.getD q iT.dflt ≤ 100 := hL.bd (row.getD q 0) (getD_mem hq2)
      repeat (any_goals (first
        | (refine V_step T_ok (GOk.cons place_ok .nil) rfl ?_; conv => whnf)
        | (refine V_drawA T_ok (GOk.cons place_ok .nil) mixed (by kernel_rfl) ?_; conv => whnf)
        | (refine bcond_split (fun hc => ?_) (fun hc => ?_) <;> (try simp only [decide_eq_true_eq, decide_eq_false_iff_not, Bool.not_eq_true', Bool.not_eq_false', Bool.and_eq_true, Bool.or_eq_true, Bool.and_eq_false_imp, Bool.or_eq_false_iff, ne_eq, Decidable.not_not] at hc) <;> conv => whnf)
        | (intro ysK hysK; have hysl := congrArg List.length hysK; (try simp only [List.length_set, List.length_append, List.length_cons, List.length_nil, List.length_take, List.length_drop, List.length_replicate] at hysl); conv => whnf)
        | (refine And.intro (by first | (first | exact True.intro | exact hxl | omega | (rw [hq1']; simp only [Rng, Int.toNat_natCast]; omega)) | exact True.intro | exact ⟨rfl, True.intro, fun _ _ => rfl⟩ | exact Nat.le_of_ble_eq_true rfl | (refine ⟨by (try simp only [List.length_cons, List.length_nil]); omega, Int.le_trans (Int.mul_le_mul_of_nonneg_left (show (TInfo.bytes _ : Int) ≤ 64 from Int.ofNat_le.2 (Nat.le_of_ble_eq_true rfl)) (by omega)) (by (try simp only [List.length_cons, List.length_nil]); omega)⟩)) ?_; conv => whnf)))
      · have hy : row.set q (row.getD q 0 + 1) = ysK := by
          rw [hysK, hq1']; rfl
        rw [hy]
        exact leafM0 hO Nat.zero_lt_one rfl rfl rfl rfl rfl
      · exact absurd (Prod.ext hc.1 hc.2) hne
end Go.Proofs.Ytllagpbbbdekiab.Fw
