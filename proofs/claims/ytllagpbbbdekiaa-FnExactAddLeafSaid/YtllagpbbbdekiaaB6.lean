/- Contracts: where a leaf belongs, by halving. -/
import Derived.Test.YtllagpbbbdekiaaB4
import Derived.Test.YtllagpbbbdekiaaB5
namespace Go.Proofs.Ytllagpbbbdekiaa.Fw
open Go Go.RowKit
set_option linter.unusedVariables false
set_option linter.unusedSimpArgs false
set_option maxRecDepth 100000
set_option maxHeartbeats 2000000

def thereB (xs : List Lf) (l : Lf) : Bool := decide (posL xs l < xs.length ∧ xs.getD (posL xs l) dL = l)
def bsC : PCtr := fun _ rg _ vals k => match vals with
  | [.row i, .agg [.int .i64 n, .int .i64 d, .int .i64 m, .int .i64 e], .fn f [] []] => isF f 63 (rowC lT (rg i) fun xs => (lamL xs = true ∧ IsL ((n, d), (m, e))) ∧ k [] (.tup [.int .i64 (posL xs ((n, d), (m, e))), .bool (thereB xs ((n, d), (m, e)))]))
  | _ => False
theorem bs_ok : PCtrOk Try.prog 68 bsC where
  enter := enter_ok Try.func68 (by kernel_rfl) rfl
  calls := by
    intro hg rg lr vals k h
    unfold bsC at h
    split at h
    case h_2 => exact h.elim
    rename_i i n d m e' f
    have hF := isF_inv h
    clear h
    obtain ⟨rfl, h⟩ := hF
    obtain ⟨e, own, xs, hi, h⟩ : ∃ e own, ∃ (xs : List Lf), _ := rowC_inv h
    obtain ⟨⟨hlam, hl⟩, hk⟩ := h
    refine ⟨_, _, hk, fun A w hB hR => ?_⟩
    refine enter T_ok (GOk.cons cmpL_ok .nil) Try.func68 rfl (K := (· < w.heap.size)) (fun _ h => h) (A := A.pick [] [i]) (vals := [.row 0, .agg [.int .i64 n, .int .i64 d, .int .i64 m, .int .i64 e'], .fn 63 [] []]) (n0 := 0) (b0 := 0) (rows := [some ⟨lT, e, false, xs⟩]) (hp := []) rfl (Nat.zero_le _) no_box rfl (one_row (hR i _ hi)) rfl rfl (Nat.le_of_ble_eq_true rfl) ?_
    conv => whnf
    repeat (refine V_step T_ok (GOk.cons cmpL_ok .nil) rfl ?_; conv => whnf)
    have hlam : lamL xs = true := hlam
    have hL : ∀ x ∈ xs, IsL x := lam_all hlam
    have hs := lam_sorted hlam
    have hlen : xs.length ≤ 200 := by
      have h0 := hlam
      unfold lamL at h0
      simp only [Bool.and_eq_true, decide_eq_true_eq] at h0
      exact h0.1
    have hg : ∀ j, j < xs.length → IsL (xs.getD j lT.dflt) := fun j hj => hL _ (getD_mem hj)
    have hpl := posL_le xs ((n, d), (m, e'))
    obtain ⟨p, hp⟩ : ∃ p, posL xs ((n, d), (m, e')) = p := ⟨_, rfl⟩
    have hmid : ∀ t, t < xs.length → (t < p ↔ cmpL (xs.getD t lT.dflt) ((n, d), (m, e')) < 0) := fun t ht => by
      rw [← hp, posL_mid hL hl hs ht]
      exact (cmpL_neg (hg t ht) hl).symm
    have hth : thereB xs ((n, d), (m, e')) = decide (p < xs.length ∧ xs.getD p dL = ((n, d), (m, e'))) := by rw [← hp]; rfl
    rw [hth, hp]
    rw [hp] at hpl
    clear hth hp
    refine V_loopH (γ := Nat × Nat) (fun g => g.1 ≤ p ∧ p ≤ g.2 ∧ g.2 ≤ xs.length) (fun g => g.2 - g.1)
      (fun g => [(9, .int .i64 g.1), (10, .int .i64 g.2)]) (fun _ => []) (fun _ => []) (0, xs.length) ⟨Nat.zero_le _, hpl, Nat.le_refl _⟩ ?_ ?_
    · clear hmid hs hg
      conv => whnf
      refine ⟨?_, by (conv => whnf); repeat (first | exact True.intro | (refine And.intro rfl ?_; conv => whnf)), by (conv => whnf); repeat (first | exact True.intro | (refine And.intro (by first | rfl | (subst_vars; rfl)) ?_; conv => whnf)), rfl, rfl, rfl, rfl, rfl, rfl, rfl, Nat.le_of_ble_eq_true rfl, Nat.le_of_ble_eq_true rfl⟩
      conv => whnf
      repeat (first | exact True.intro | (refine And.intro (by first | rfl | ((conv => whnf); exact congrArg (AVal.int .i64) (by omega)) | ((conv => whnf); exact congrArg (AVal.int .i64) (by simp only [Int.natCast_add, Int.natCast_one]; omega)) | ((conv => whnf); exact congrArg (AVal.irow _) (by first | omega | assumption | (simp only; omega)))) ?_; conv => whnf))
    · rintro ⟨a, b⟩ ⟨h1, h2, h3⟩
      simp only at h1 h2 h3
      obtain ⟨q, hq⟩ : ∃ q : Nat, q = (a + b) / 2 := ⟨_, rfl⟩
      have hfd : ((((a, b).fst : Nat) : Int) + (((a, b).snd : Nat) : Int)).fdiv (2 ^ Int.toNat 1) = (q : Int) := by
        show ((a : Int) + (b : Int)).fdiv 2 = _
        rw [Int.fdiv_eq_ediv_of_nonneg _ (by omega)]
        omega
      have hbl : BdL ((n, d), (m, e')) := hl.sm.bd
      have hgB : ∀ j, j < xs.length → BdL (xs.getD j lT.dflt) ∧ BdL ((n, d), (m, e')) := fun j hj => ⟨(hg j hj).sm.bd, hbl⟩
      have hrq : Rng .i64 (q : Int) := by simp only [Rng]; omega
      conv => whnf
      refine vcCode_sound T_ok (GOk.cons cmpL_ok .nil) _ _ _ _ _ ?_
      conv => whnf
      repeat (refine V_step T_ok (GOk.cons cmpL_ok .nil) rfl ?_; conv => whnf)
      repeat (any_goals (first
        | (refine V_step T_ok (GOk.cons cmpL_ok .nil) rfl ?_; conv => whnf)
        | (refine V_drawA T_ok (GOk.cons cmpL_ok .nil) mixed (by kernel_rfl) ?_; conv => whnf)
        | (refine bcond_split (fun hc => ?_) (fun hc => ?_) <;> (try simp only [decide_eq_true_eq, decide_eq_false_iff_not, Bool.not_eq_true', Bool.not_eq_false', Bool.and_eq_true, Bool.or_eq_true, Bool.and_eq_false_imp, Bool.or_eq_false_iff, ne_eq, Decidable.not_not] at hc) <;> conv => whnf)
        | (intro ysK hysK; have hysl := congrArg List.length hysK; (try simp only [List.length_set, List.length_append, List.length_cons, List.length_nil, List.length_take, List.length_drop, List.length_replicate] at hysl); conv => whnf)
        | (refine And.intro (by first | (first | exact True.intro | omega | exact hgB _ (by (have hl' : (a : Int) < (List.length (α := Lf) xs : Nat) := by assumption); show a < _; omega) | (simp only [Rng]; omega)) | exact True.intro | exact ⟨rfl, True.intro, fun _ _ => rfl⟩ | exact Nat.le_of_ble_eq_true rfl | (refine ⟨by (try simp only [List.length_cons, List.length_nil]); omega, Int.le_trans (Int.mul_le_mul_of_nonneg_left (show (TInfo.bytes _ : Int) ≤ 64 from Int.ofNat_le.2 (Nat.le_of_ble_eq_true rfl)) (by omega)) (by (try simp only [List.length_cons, List.length_nil]); omega)⟩)) ?_; conv => whnf)))
      · rw [hfd]
        refine ⟨hrq, ?_⟩
        conv => whnf
        have hq2 : (a : Int) < (b : Int) → (q : Int) < (b : Int) := fun h => by omega
        have hqb := hq2 hc
        repeat (any_goals (first
          | (refine V_step T_ok (GOk.cons cmpL_ok .nil) rfl ?_; conv => whnf)
          | (refine V_drawA T_ok (GOk.cons cmpL_ok .nil) mixed (by kernel_rfl) ?_; conv => whnf)
          | (refine bcond_split (fun hc => ?_) (fun hc => ?_) <;> (try simp only [decide_eq_true_eq, decide_eq_false_iff_not, Bool.not_eq_true', Bool.not_eq_false', Bool.and_eq_true, Bool.or_eq_true, Bool.and_eq_false_imp, Bool.or_eq_false_iff, ne_eq, Decidable.not_not] at hc) <;> conv => whnf)
          | (intro ysK hysK; have hysl := congrArg List.length hysK; (try simp only [List.length_set, List.length_append, List.length_cons, List.length_nil, List.length_take, List.length_drop, List.length_replicate] at hysl); conv => whnf)
          | (refine And.intro (by first | (first | exact True.intro | omega | exact hgB _ (by show q < _; omega) | (simp only [Rng]; omega)) | exact True.intro | exact ⟨rfl, True.intro, fun _ _ => rfl⟩ | exact Nat.le_of_ble_eq_true rfl | (refine ⟨by (try simp only [List.length_cons, List.length_nil]); omega, Int.le_trans (Int.mul_le_mul_of_nonneg_left (show (TInfo.bytes _ : Int) ≤ 64 from Int.ofNat_le.2 (Nat.le_of_ble_eq_true rfl)) (by omega)) (by (try simp only [List.length_cons, List.length_nil]); omega)⟩)) ?_; conv => whnf)))
        · have hc2 : cmpL (xs.getD q lT.dflt) ((n, d), (m, e')) < 0 := hc
          have hqp := (hmid q (by omega)).2 hc2
          have hs1 : (q : Int) + 1 = ((q + 1 : Nat) : Int) := rfl
          refine ⟨(q + 1, b), ⟨by simp only; omega, h2, h3⟩, by simp only; omega, ?_⟩
          clear hmid hs hg hgB
          conv => whnf
          refine ⟨?_, by (conv => whnf); repeat (first | exact True.intro | (refine And.intro rfl ?_; conv => whnf)), by (conv => whnf); repeat (first | exact True.intro | (refine And.intro (by first | rfl | (subst_vars; rfl)) ?_; conv => whnf)), rfl, rfl, rfl, rfl, rfl, rfl, rfl, Nat.le_of_ble_eq_true rfl, Nat.le_of_ble_eq_true rfl⟩
          conv => whnf
          repeat (first | exact True.intro | (refine And.intro (by first | rfl | ((conv => whnf); exact congrArg (AVal.int .i64) (by omega)) | ((conv => whnf); exact congrArg (AVal.int .i64) (by simp only [Int.natCast_add, Int.natCast_one]; omega)) | ((conv => whnf); exact congrArg (AVal.irow _) (by first | omega | assumption | (simp only; omega)))) ?_; conv => whnf))
        · have hc2 : ¬ cmpL (xs.getD q lT.dflt) ((n, d), (m, e')) < 0 := hc
          have hqp := mt (hmid q (by omega)).1 hc2
          refine ⟨(a, q), ⟨h1, by simp only; omega, by simp only; omega⟩, by simp only; omega, ?_⟩
          clear hmid hs hg hgB
          conv => whnf
          refine ⟨?_, by (conv => whnf); repeat (first | exact True.intro | (refine And.intro rfl ?_; conv => whnf)), by (conv => whnf); repeat (first | exact True.intro | (refine And.intro (by first | rfl | (subst_vars; rfl)) ?_; conv => whnf)), rfl, rfl, rfl, rfl, rfl, rfl, rfl, Nat.le_of_ble_eq_true rfl, Nat.le_of_ble_eq_true rfl⟩
          conv => whnf
          repeat (first | exact True.intro | (refine And.intro (by first | rfl | ((conv => whnf); exact congrArg (AVal.int .i64) (by omega)) | ((conv => whnf); exact congrArg (AVal.int .i64) (by simp only [Int.natCast_add, Int.natCast_one]; omega)) | ((conv => whnf); exact congrArg (AVal.irow _) (by first | omega | assumption | (simp only; omega)))) ?_; conv => whnf))
      · rename_i hc0
        have hc0 : ¬ (a : Int) < (b : Int) := hc0
        have hc1 : (a : Int) < (xs.length : Nat) := hc
        have hap : a = p := by omega
        subst hap
        refine leaf0 rfl ?_ rfl
        have hz : decide (cmpL (xs.getD a lT.dflt) ((n, d), (m, e')) = 0) = decide (a < xs.length ∧ xs.getD a dL = ((n, d), (m, e'))) := by
          rw [decide_eq_decide, cmpL_zero (hg a (by omega)) hl]
          exact ⟨fun h => ⟨by omega, h⟩, fun h => h.2⟩
        exact congrArg (fun z => AVal.tup [.int .i64 (a : Int), .bool z]) hz
      · rename_i hc0
        have hc0 : ¬ (a : Int) < (b : Int) := hc0
        have hc1 : ¬ (a : Int) < (xs.length : Nat) := hc
        have hap : a = p := by omega
        subst hap
        refine leaf0 rfl ?_ rfl
        rw [decide_eq_false (fun h => hc1 (by have := h.1; omega))]
end Go.Proofs.Ytllagpbbbdekiaa.Fw
