/- Contracts: the cycles of the classes, the reference; the law. -/
import Derived.Test.YtllagpbbbdekiacT14
namespace Go.Proofs.Ytllagpbbbdekiac.Fw
open Go Go.RowKit
set_option linter.unusedVariables false
set_option linter.unusedSimpArgs false
set_option maxRecDepth 100000
set_option maxHeartbeats 2000000
abbrev GScy := (GOk.cons sCi_ok .nil)
theorem sCy_ok : PCtrOk Try.prog 21 cyC where
  enter := enter_ok Try.func21 (by kernel_rfl) rfl
  calls := by
    intro hg rg lr vals k h
    unfold cyC at h
    split at h
    case h_2 => exact h.elim
    rename_i a b n
    obtain ⟨_, hk⟩ := h
    replace hk := hk _ rfl
    refine ⟨_, _, hk, fun A w _ _ => ?_⟩
    refine enter T_ok GScy Try.func21 rfl (K := (· < w.heap.size)) (fun _ h => h) (A := A) (n0 := 0) (b0 := 0) (rows := []) (hp := []) rfl (Nat.zero_le _) (fun k r h => by cases h) rfl (fun k r h => by cases h) rfl rfl (Nat.le_of_ble_eq_true rfl) ?_
    conv => whnf
    repeat (refine V_step T_ok GScy rfl ?_; conv => whnf)
    repeat (any_goals (first
      | (refine V_step T_ok GScy rfl ?_; conv => whnf)
      | (refine V_drawN T_ok GScy mixed (by kernel_rfl) ?_; conv => whnf)
      | (refine bcond_split (fun hc => ?_) (fun hc => ?_) <;> (try simp only [decide_eq_true_eq, decide_eq_false_iff_not, Bool.not_eq_true', Bool.not_eq_false', Bool.and_eq_true, Bool.or_eq_true, Bool.and_eq_false_imp, Bool.or_eq_false_iff, ne_eq, Decidable.not_not] at hc) <;> conv => whnf)
      | (intro ysK hysK; have hysl := congrArg List.length hysK; (try simp only [List.length_set, List.length_append, List.length_cons, List.length_nil, List.length_take, List.length_drop, List.length_replicate] at hysl); conv => whnf)
      | (intro bK hbK; have hbl := congrArg ByteArray.size hbK; conv => whnf)
      | (intro sK hsK; conv => whnf)
      | (refine And.intro (by first | (first | exact True.intro | (simp only [Rng]; omega)) | exact True.intro | exact ⟨rfl, True.intro, fun _ _ => rfl⟩ | exact Nat.le_of_ble_eq_true rfl | (refine ⟨by (try simp only [List.length_cons, List.length_nil]); omega, Int.le_trans (Int.mul_le_mul_of_nonneg_left (show (TInfo.bytes _ : Int) ≤ 64 from Int.ofNat_le.2 (Nat.le_of_ble_eq_true rfl)) (by omega)) (by (try simp only [List.length_cons, List.length_nil]); omega)⟩)) ?_; conv => whnf)))
    · have hq : sK = ciR (a, b) n := hsK
      rw [← hq, cyL_1 hc]
      exact leafN rfl rfl (fun B C h => by simp only [AVal.den, dens, h]; rfl)
    · have hq : sK = ciR (a, b) n := hsK
      have hN : Nums sK.1 := by rw [hq]; exact ciR_nums (by rw [← hq]; exact hc)
      have hres : cyL (ciR (a, b) n) = (cycG (nxF sK.1) sK.1.length, 0) := by rw [← hq]; exact cyL_0 hc
      obtain ⟨im, him⟩ : ∃ im : List Int, im = sK.1 := ⟨_, rfl⟩
      rw [← him] at hN hres
      obtain ⟨M, hM⟩ : ∃ M, List.length (α := Int) im = M := ⟨_, rfl⟩
      have hMl : (List.length (α := TyC.α iT1) sK.1 : Int) = M := by rw [← him, show List.length (α := TyC.α iT1) im = M from hM]
      have hM63 : M ≤ 63 := by rw [← hM]; exact hN.1
      have hlt : ∀ k, k < M → nxF im k < M := by rw [← hM]; exact hN.lt
      have hb8 : (ti2.bytes : Int) = 8 := rfl
      have hb24 : (ti41.bytes : Int) = 24 := rfl
      refine V_loopH (γ := Nat) (fun g => g ≤ M) (fun g => M - g) (fun g => [(9, .int .i64 g), (8, .row 1), (23, .junk), (10, .junk), (31, .junk)]) (fun _ => []) (fun g => [(1, some ⟨rT1, 41, true, cycG (nxF im) g⟩)]) 0 (Nat.zero_le _) ?_ ?_
      · conv => whnf
        refine ⟨?_, by (conv => whnf); repeat (first | exact True.intro | (refine And.intro rfl ?_; conv => whnf)), by (conv => whnf); repeat (first | exact True.intro | (refine And.intro (by first | rfl | (subst_vars; rfl)) ?_; conv => whnf)), rfl, rfl, rfl, rfl, rfl, rfl, rfl, Nat.le_of_ble_eq_true rfl, Nat.le_of_ble_eq_true rfl⟩
        conv => whnf
        repeat (first | exact True.intro | (refine And.intro (by first | rfl | ((conv => whnf); exact congrArg (AVal.int .i64) (by omega)) | ((conv => whnf); exact congrArg (AVal.int .i64) (by simp only [Int.natCast_add, Int.natCast_one]; omega)) | ((conv => whnf); exact congrArg (AVal.irow _) (by first | omega | assumption | (simp only; omega)))) ?_; conv => whnf))
      · rintro g hg
        have hgl := cycG_len (nxF im) g
        have hix0 : (g : Int) < (List.length (α := TyC.α iT1) sK.1 : Int) → (0 ≤ (g : Int) ∧ (g : Int) < (List.length (α := TyC.α iT1) sK.1 : Int)) := fun h => by omega
        conv => whnf
        refine vcCode_sound T_ok GScy _ _ _ _ _ ?_
        conv => whnf
        repeat (refine V_step T_ok GScy rfl ?_; conv => whnf)
        repeat (any_goals (first
          | (refine V_step T_ok GScy rfl ?_; conv => whnf)
          | (refine V_drawN T_ok GScy mixed (by kernel_rfl) ?_; conv => whnf)
          | (refine bcond_split (fun hc => ?_) (fun hc => ?_) <;> (try simp only [decide_eq_true_eq, decide_eq_false_iff_not, Bool.not_eq_true', Bool.not_eq_false', Bool.and_eq_true, Bool.or_eq_true, Bool.and_eq_false_imp, Bool.or_eq_false_iff, ne_eq, Decidable.not_not] at hc) <;> conv => whnf)
          | (intro ysK hysK; have hysl := congrArg List.length hysK; (try simp only [List.length_set, List.length_append, List.length_cons, List.length_nil, List.length_take, List.length_drop, List.length_replicate] at hysl); conv => whnf)
          | (intro bK hbK; have hbl := congrArg ByteArray.size hbK; conv => whnf)
          | (intro sK hsK; conv => whnf)
          | (refine And.intro (by first | (first | exact True.intro | with_reducible exact hix0 (by assumption) | omega | (simp only [Rng]; omega)) | exact True.intro | exact ⟨rfl, True.intro, fun _ _ => rfl⟩ | exact Nat.le_of_ble_eq_true rfl | (refine ⟨by (try simp only [List.length_cons, List.length_nil]); omega, Int.le_trans (Int.mul_le_mul_of_nonneg_left (show (TInfo.bytes _ : Int) ≤ 64 from Int.ofNat_le.2 (Nat.le_of_ble_eq_true rfl)) (by omega)) (by (try simp only [List.length_cons, List.length_nil]); omega)⟩)) ?_; conv => whnf)))
        · have hgM : g < M := by omega
          have hgM' : g < im.length := by rw [hM]; exact hgM
          have hitl : ∀ r, itN (nxF im) r g < M := itN_lt hlt hgM
          have hix : ∀ r, (0 ≤ (itN (nxF im) r g : Int) ∧ (itN (nxF im) r g : Int) < (List.length (α := TyC.α iT1) sK.1 : Int)) := fun r => by have := hitl r; omega
          have hix2 : ∀ r, (itN (nxF im) r g : Int).toNat < List.length (α := TyC.α iT1) sK.1 := fun r => by have := hitl r; omega
          have hnx : ∀ r, List.getD (α := TyC.α iT1) sK.1 (itN (nxF im) r g : Int).toNat (TyC.dflt iT1) = (itN (nxF im) (r + 1) g : Int) := fun r => by
            rw [← him]
            exact hN.step (i := g) (r := r) hgM'
          have hnx0 : List.getD (α := TyC.α iT1) sK.1 (g : Int).toNat (TyC.dflt iT1) = (itN (nxF im) 1 g : Int) := hnx 0
          rw [hnx0]
          refine V_loopH (γ := Nat) (fun r => (1 ≤ r ∧ r ≤ M + 1) ∧ ∀ q, 0 < q → q < r → itN (nxF im) q g ≠ g) (fun r => M + 1 - r) (fun r => [(11, .int .i64 (itN (nxF im) r g)), (10, .row 2), (31, .junk)]) (fun _ => []) (fun r => [(2, some ⟨iT1, 2, true, pthG (nxF im) g r⟩)]) 1 ⟨⟨Nat.le_refl _, by omega⟩, fun q h1 h2 => absurd h2 (by omega)⟩ ?_ ?_
          · conv => whnf
            refine ⟨?_, by (conv => whnf); repeat (first | exact True.intro | (refine And.intro rfl ?_; conv => whnf)), by (conv => whnf); repeat (first | exact True.intro | (refine And.intro (by first | rfl | (subst_vars; rfl)) ?_; conv => whnf)), rfl, rfl, rfl, rfl, rfl, rfl, rfl, Nat.le_of_ble_eq_true rfl, Nat.le_of_ble_eq_true rfl⟩
            conv => whnf
            repeat (first | exact True.intro | (refine And.intro (by first | rfl | ((conv => whnf); exact congrArg (AVal.int .i64) (by omega)) | ((conv => whnf); exact congrArg (AVal.int .i64) (by simp only [Int.natCast_add, Int.natCast_one]; omega)) | ((conv => whnf); exact congrArg (AVal.irow _) (by first | omega | assumption | (simp only; omega)))) ?_; conv => whnf))
          · rintro r ⟨⟨hr1, hr⟩, hne⟩
            have hpl := pthG_len (nxF im) g r
            have hpl2 : (List.length (α := TyC.α iT1) (pthG (nxF im) g r) : Int) = r := by rw [show List.length (α := TyC.α iT1) (pthG (nxF im) g r) = r from hpl]
            conv => whnf
            refine vcCode_sound T_ok GScy _ _ _ _ _ ?_
            conv => whnf
            repeat (refine V_step T_ok GScy rfl ?_; conv => whnf)
            repeat (any_goals (first
              | (refine V_step T_ok GScy rfl ?_; conv => whnf)
              | (refine V_drawN T_ok GScy mixed (by kernel_rfl) ?_; conv => whnf)
              | (refine bcond_split (fun hc => ?_) (fun hc => ?_) <;> (try simp only [decide_eq_true_eq, decide_eq_false_iff_not, Bool.not_eq_true', Bool.not_eq_false', Bool.and_eq_true, Bool.or_eq_true, Bool.and_eq_false_imp, Bool.or_eq_false_iff, ne_eq, Decidable.not_not] at hc) <;> conv => whnf)
              | (intro ysK hysK; have hysl := congrArg List.length hysK; (try simp only [List.length_set, List.length_append, List.length_cons, List.length_nil, List.length_take, List.length_drop, List.length_replicate] at hysl); conv => whnf)
              | (intro bK hbK; have hbl := congrArg ByteArray.size hbK; conv => whnf)
              | (intro sK hsK; conv => whnf)
              | (refine And.intro (by first | (first | exact True.intro | with_reducible exact hix _ | with_reducible exact hix2 _ | omega | exact hapI (by rw [hb8]; omega) (by rw [hb8]; omega) _ _ (Nat.le_trans (Nat.le_of_eq hpl) (by omega)) (by simp only [List.length_cons, List.length_nil]; omega) | (simp only [Rng]; omega)) | exact True.intro | exact ⟨rfl, True.intro, fun _ _ => rfl⟩ | exact Nat.le_of_ble_eq_true rfl | (refine ⟨by (try simp only [List.length_cons, List.length_nil]); omega, Int.le_trans (Int.mul_le_mul_of_nonneg_left (show (TInfo.bytes _ : Int) ≤ 64 from Int.ofNat_le.2 (Nat.le_of_ble_eq_true rfl)) (by omega)) (by (try simp only [List.length_cons, List.length_nil]); omega)⟩)) ?_; conv => whnf)))
            · have hq0 : ∀ q, 0 < q → q < r + 1 → itN (nxF im) q g ≠ g := fun q h1 h2 => by
                rcases Nat.lt_or_ge q r with h | h
                · exact hne q h1 h
                · obtain rfl : q = r := by omega
                  omega
              have hy : ysK = pthG (nxF im) g (r + 1) := by rw [pthG_next]; exact hysK
              clear hysK hysl
              subst hy
              rw [hnx r]
              refine ⟨r + 1, ⟨⟨by omega, by omega⟩, hq0⟩, by omega, ?_⟩
              conv => whnf
              refine ⟨?_, by (conv => whnf); repeat (first | exact True.intro | (refine And.intro rfl ?_; conv => whnf)), by (conv => whnf); repeat (first | exact True.intro | (refine And.intro (by first | rfl | (subst_vars; rfl)) ?_; conv => whnf)), rfl, rfl, rfl, rfl, rfl, rfl, rfl, Nat.le_of_ble_eq_true rfl, Nat.le_of_ble_eq_true rfl⟩
              conv => whnf
              repeat (first | exact True.intro | (refine And.intro (by first | rfl | ((conv => whnf); exact congrArg (AVal.int .i64) (by omega)) | ((conv => whnf); exact congrArg (AVal.int .i64) (by simp only [Int.natCast_add, Int.natCast_one]; omega)) | ((conv => whnf); exact congrArg (AVal.irow _) (by first | omega | assumption | (simp only; omega)))) ?_; conv => whnf))
            · have hnone := ref_none hlt hgM (r := r) (by omega) hne
              have hy : cycG (nxF im) g = cycG (nxF im) (g + 1) := by
                show cycG (nxF im) g = cycG (nxF im) g ++ cycO (nxF im) g
                rw [cycO_none hnone, List.append_nil]
              refine V_loopH (γ := Nat × Bool) (fun q => q.1 ≤ r ∧ q.2 = decide (∀ j, j < q.1 → g ≤ itN (nxF im) j g)) (fun q => r - q.1) (fun q => [(13, .int .i64 q.1), (12, .bool q.2)]) (fun _ => []) (fun _ => []) (0, true) ⟨Nat.zero_le _, (decide_eq_true (fun j hj => absurd hj (Nat.not_lt_zero _))).symm⟩ ?_ ?_
              · conv => whnf
                refine ⟨?_, by (conv => whnf); repeat (first | exact True.intro | (refine And.intro rfl ?_; conv => whnf)), by (conv => whnf); repeat (first | exact True.intro | (refine And.intro (by first | rfl | (subst_vars; rfl)) ?_; conv => whnf)), rfl, rfl, rfl, rfl, rfl, rfl, rfl, Nat.le_of_ble_eq_true rfl, Nat.le_of_ble_eq_true rfl⟩
                conv => whnf
                repeat (first | exact True.intro | (refine And.intro (by first | rfl | ((conv => whnf); exact congrArg (AVal.int .i64) (by omega)) | ((conv => whnf); exact congrArg (AVal.int .i64) (by simp only [Int.natCast_add, Int.natCast_one]; omega)) | ((conv => whnf); exact congrArg (AVal.irow _) (by first | omega | assumption | (simp only; omega)))) ?_; conv => whnf))
              · rintro ⟨k, b⟩ ⟨hk, hb⟩
                simp only at hk hb
                have hidx : (k : Int) < (List.length (α := TyC.α iT1) (pthG (nxF im) g r) : Int) → (0 ≤ (k : Int) ∧ (k : Int) < (List.length (α := TyC.α iT1) (pthG (nxF im) g r) : Int)) := fun h => by omega
                conv => whnf
                refine vcCode_sound T_ok GScy _ _ _ _ _ ?_
                conv => whnf
                repeat (refine V_step T_ok GScy rfl ?_; conv => whnf)
                repeat (any_goals (first
                  | (refine V_step T_ok GScy rfl ?_; conv => whnf)
                  | (refine V_drawN T_ok GScy mixed (by kernel_rfl) ?_; conv => whnf)
                  | (refine bcond_split (fun hc => ?_) (fun hc => ?_) <;> (try simp only [decide_eq_true_eq, decide_eq_false_iff_not, Bool.not_eq_true', Bool.not_eq_false', Bool.and_eq_true, Bool.or_eq_true, Bool.and_eq_false_imp, Bool.or_eq_false_iff, ne_eq, Decidable.not_not] at hc) <;> conv => whnf)
                  | (intro ysK hysK; have hysl := congrArg List.length hysK; (try simp only [List.length_set, List.length_append, List.length_cons, List.length_nil, List.length_take, List.length_drop, List.length_replicate] at hysl); conv => whnf)
                  | (intro bK hbK; have hbl := congrArg ByteArray.size hbK; conv => whnf)
                  | (intro sK hsK; conv => whnf)
                  | (refine And.intro (by first | (first | exact True.intro | with_reducible exact hidx (by assumption) | omega | exact hapI (by rw [hb24]; omega) (by rw [hb24]; omega) _ _ (Nat.le_trans hgl (by omega)) (by simp only [List.length_cons, List.length_nil]; omega) | (simp only [Rng]; omega)) | exact True.intro | exact ⟨rfl, True.intro, fun _ _ => rfl⟩ | exact Nat.le_of_ble_eq_true rfl | (refine ⟨by (try simp only [List.length_cons, List.length_nil]); omega, Int.le_trans (Int.mul_le_mul_of_nonneg_left (show (TInfo.bytes _ : Int) ≤ 64 from Int.ofNat_le.2 (Nat.le_of_ble_eq_true rfl)) (by omega)) (by (try simp only [List.length_cons, List.length_nil]); omega)⟩)) ?_; conv => whnf)))
                · have hkr : k < r := by omega
                  have e : List.getD (α := Int) (pthG (nxF im) g r) (k : Int).toNat 0 = (itN (nxF im) k g : Int) := pthG_at (nxF im) g hkr
                  have hall : ∀ j, j < k → g ≤ itN (nxF im) j g := of_decide_eq_true (hb.symm.trans hc)
                  refine ⟨(k + 1, decide (List.getD (α := Int) (pthG (nxF im) g r) (k : Int).toNat 0 ≥ (g : Int))), ⟨by simp only; omega, ?_⟩, by simp only; omega, ?_⟩
                  · refine decide_eq_decide.2 ⟨fun h j hj => ?_, fun h => ?_⟩
                    · rcases Nat.lt_or_ge j k with h1 | h1
                      · exact hall j h1
                      · obtain rfl : j = k := by omega
                        rw [e] at h; omega
                    · have := h k (Nat.lt_succ_self _)
                      rw [e]; omega
                  · conv => whnf
                    refine ⟨?_, by (conv => whnf); repeat (first | exact True.intro | (refine And.intro rfl ?_; conv => whnf)), by (conv => whnf); repeat (first | exact True.intro | (refine And.intro (by first | rfl | (subst_vars; rfl)) ?_; conv => whnf)), rfl, rfl, rfl, rfl, rfl, rfl, rfl, Nat.le_of_ble_eq_true rfl, Nat.le_of_ble_eq_true rfl⟩
                    conv => whnf
                    repeat (first | exact True.intro | (refine And.intro (by first | rfl | ((conv => whnf); exact congrArg (AVal.int .i64) (by omega)) | ((conv => whnf); exact congrArg (AVal.int .i64) (by simp only [Int.natCast_add, Int.natCast_one]; omega)) | ((conv => whnf); exact congrArg (AVal.irow _) (by first | omega | assumption | (simp only; omega)))) ?_; conv => whnf))
                · have hno : ¬ ∀ j, j < k → g ≤ itN (nxF im) j g := of_decide_eq_false (hb.symm.trans hc)
                  refine ⟨(k + 1, false), ⟨by simp only; omega, (decide_eq_false fun h => hno fun j hj => h j (Nat.lt_succ_of_lt hj)).symm⟩, by simp only; omega, ?_⟩
                  conv => whnf
                  refine ⟨?_, by (conv => whnf); repeat (first | exact True.intro | (refine And.intro rfl ?_; conv => whnf)), by (conv => whnf); repeat (first | exact True.intro | (refine And.intro (by first | rfl | (subst_vars; rfl)) ?_; conv => whnf)), rfl, rfl, rfl, rfl, rfl, rfl, rfl, Nat.le_of_ble_eq_true rfl, Nat.le_of_ble_eq_true rfl⟩
                  conv => whnf
                  repeat (first | exact True.intro | (refine And.intro (by first | rfl | ((conv => whnf); exact congrArg (AVal.int .i64) (by omega)) | ((conv => whnf); exact congrArg (AVal.int .i64) (by simp only [Int.natCast_add, Int.natCast_one]; omega)) | ((conv => whnf); exact congrArg (AVal.irow _) (by first | omega | assumption | (simp only; omega)))) ?_; conv => whnf))
                · exfalso; omega
                · exfalso; omega
                · refine ⟨g + 1, by omega, by omega, ?_⟩
                  rw [hy]
                  conv => whnf
                  refine ⟨?_, by (conv => whnf); repeat (first | exact True.intro | (refine And.intro rfl ?_; conv => whnf)), by (conv => whnf); repeat (first | exact True.intro | (refine And.intro (by first | rfl | (subst_vars; rfl)) ?_; conv => whnf)), rfl, rfl, rfl, rfl, rfl, rfl, rfl, Nat.le_of_ble_eq_true rfl, Nat.le_of_ble_eq_true rfl⟩
                  conv => whnf
                  repeat (first | exact True.intro | (refine And.intro (by first | rfl | ((conv => whnf); exact congrArg (AVal.int .i64) (by omega)) | ((conv => whnf); exact congrArg (AVal.int .i64) (by simp only [Int.natCast_add, Int.natCast_one]; omega)) | ((conv => whnf); exact congrArg (AVal.irow _) (by first | omega | assumption | (simp only; omega)))) ?_; conv => whnf))
            · have hback : itN (nxF im) r g = g := by omega
              have hper : IsPer (nxF im) g r := ⟨hr1, hback, hne⟩
              refine V_loopH (γ := Nat × Bool) (fun q => q.1 ≤ r ∧ q.2 = decide (∀ j, j < q.1 → g ≤ itN (nxF im) j g)) (fun q => r - q.1) (fun q => [(13, .int .i64 q.1), (12, .bool q.2)]) (fun _ => []) (fun _ => []) (0, true) ⟨Nat.zero_le _, (decide_eq_true (fun j hj => absurd hj (Nat.not_lt_zero _))).symm⟩ ?_ ?_
              · conv => whnf
                refine ⟨?_, by (conv => whnf); repeat (first | exact True.intro | (refine And.intro rfl ?_; conv => whnf)), by (conv => whnf); repeat (first | exact True.intro | (refine And.intro (by first | rfl | (subst_vars; rfl)) ?_; conv => whnf)), rfl, rfl, rfl, rfl, rfl, rfl, rfl, Nat.le_of_ble_eq_true rfl, Nat.le_of_ble_eq_true rfl⟩
                conv => whnf
                repeat (first | exact True.intro | (refine And.intro (by first | rfl | ((conv => whnf); exact congrArg (AVal.int .i64) (by omega)) | ((conv => whnf); exact congrArg (AVal.int .i64) (by simp only [Int.natCast_add, Int.natCast_one]; omega)) | ((conv => whnf); exact congrArg (AVal.irow _) (by first | omega | assumption | (simp only; omega)))) ?_; conv => whnf))
              · rintro ⟨k, b⟩ ⟨hk, hb⟩
                simp only at hk hb
                have hidx : (k : Int) < (List.length (α := TyC.α iT1) (pthG (nxF im) g r) : Int) → (0 ≤ (k : Int) ∧ (k : Int) < (List.length (α := TyC.α iT1) (pthG (nxF im) g r) : Int)) := fun h => by omega
                conv => whnf
                refine vcCode_sound T_ok GScy _ _ _ _ _ ?_
                conv => whnf
                repeat (refine V_step T_ok GScy rfl ?_; conv => whnf)
                repeat (any_goals (first
                  | (refine V_step T_ok GScy rfl ?_; conv => whnf)
                  | (refine V_drawN T_ok GScy mixed (by kernel_rfl) ?_; conv => whnf)
                  | (refine bcond_split (fun hc => ?_) (fun hc => ?_) <;> (try simp only [decide_eq_true_eq, decide_eq_false_iff_not, Bool.not_eq_true', Bool.not_eq_false', Bool.and_eq_true, Bool.or_eq_true, Bool.and_eq_false_imp, Bool.or_eq_false_iff, ne_eq, Decidable.not_not] at hc) <;> conv => whnf)
                  | (intro ysK hysK; have hysl := congrArg List.length hysK; (try simp only [List.length_set, List.length_append, List.length_cons, List.length_nil, List.length_take, List.length_drop, List.length_replicate] at hysl); conv => whnf)
                  | (intro bK hbK; have hbl := congrArg ByteArray.size hbK; conv => whnf)
                  | (intro sK hsK; conv => whnf)
                  | (refine And.intro (by first | (first | exact True.intro | with_reducible exact hidx (by assumption) | omega | exact hapI (by rw [hb24]; omega) (by rw [hb24]; omega) _ _ (Nat.le_trans hgl (by omega)) (by simp only [List.length_cons, List.length_nil]; omega) | (simp only [Rng]; omega)) | exact True.intro | exact ⟨rfl, True.intro, fun _ _ => rfl⟩ | exact Nat.le_of_ble_eq_true rfl | (refine ⟨by (try simp only [List.length_cons, List.length_nil]); omega, Int.le_trans (Int.mul_le_mul_of_nonneg_left (show (TInfo.bytes _ : Int) ≤ 64 from Int.ofNat_le.2 (Nat.le_of_ble_eq_true rfl)) (by omega)) (by (try simp only [List.length_cons, List.length_nil]); omega)⟩)) ?_; conv => whnf)))
                · have hkr : k < r := by omega
                  have e : List.getD (α := Int) (pthG (nxF im) g r) (k : Int).toNat 0 = (itN (nxF im) k g : Int) := pthG_at (nxF im) g hkr
                  have hall : ∀ j, j < k → g ≤ itN (nxF im) j g := of_decide_eq_true (hb.symm.trans hc)
                  refine ⟨(k + 1, decide (List.getD (α := Int) (pthG (nxF im) g r) (k : Int).toNat 0 ≥ (g : Int))), ⟨by simp only; omega, ?_⟩, by simp only; omega, ?_⟩
                  · refine decide_eq_decide.2 ⟨fun h j hj => ?_, fun h => ?_⟩
                    · rcases Nat.lt_or_ge j k with h1 | h1
                      · exact hall j h1
                      · obtain rfl : j = k := by omega
                        rw [e] at h; omega
                    · have := h k (Nat.lt_succ_self _)
                      rw [e]; omega
                  · conv => whnf
                    refine ⟨?_, by (conv => whnf); repeat (first | exact True.intro | (refine And.intro rfl ?_; conv => whnf)), by (conv => whnf); repeat (first | exact True.intro | (refine And.intro (by first | rfl | (subst_vars; rfl)) ?_; conv => whnf)), rfl, rfl, rfl, rfl, rfl, rfl, rfl, Nat.le_of_ble_eq_true rfl, Nat.le_of_ble_eq_true rfl⟩
                    conv => whnf
                    repeat (first | exact True.intro | (refine And.intro (by first | rfl | ((conv => whnf); exact congrArg (AVal.int .i64) (by omega)) | ((conv => whnf); exact congrArg (AVal.int .i64) (by simp only [Int.natCast_add, Int.natCast_one]; omega)) | ((conv => whnf); exact congrArg (AVal.irow _) (by first | omega | assumption | (simp only; omega)))) ?_; conv => whnf))
                · have hno : ¬ ∀ j, j < k → g ≤ itN (nxF im) j g := of_decide_eq_false (hb.symm.trans hc)
                  refine ⟨(k + 1, false), ⟨by simp only; omega, (decide_eq_false fun h => hno fun j hj => h j (Nat.lt_succ_of_lt hj)).symm⟩, by simp only; omega, ?_⟩
                  conv => whnf
                  refine ⟨?_, by (conv => whnf); repeat (first | exact True.intro | (refine And.intro rfl ?_; conv => whnf)), by (conv => whnf); repeat (first | exact True.intro | (refine And.intro (by first | rfl | (subst_vars; rfl)) ?_; conv => whnf)), rfl, rfl, rfl, rfl, rfl, rfl, rfl, Nat.le_of_ble_eq_true rfl, Nat.le_of_ble_eq_true rfl⟩
                  conv => whnf
                  repeat (first | exact True.intro | (refine And.intro (by first | rfl | ((conv => whnf); exact congrArg (AVal.int .i64) (by omega)) | ((conv => whnf); exact congrArg (AVal.int .i64) (by simp only [Int.natCast_add, Int.natCast_one]; omega)) | ((conv => whnf); exact congrArg (AVal.irow _) (by first | omega | assumption | (simp only; omega)))) ?_; conv => whnf))
                · have hall : ∀ j, j < k → g ≤ itN (nxF im) j g := of_decide_eq_true (hb.symm.trans hc)
                  obtain rfl : k = r := by omega
                  have hy : ysK = cycG (nxF im) (g + 1) := by
                    show ysK = cycG (nxF im) g ++ cycO (nxF im) g
                    rw [cycO_some hper hall]; exact hysK
                  clear hysK hysl
                  subst hy
                  refine ⟨g + 1, by omega, by omega, ?_⟩
                  conv => whnf
                  refine ⟨?_, by (conv => whnf); repeat (first | exact True.intro | (refine And.intro rfl ?_; conv => whnf)), by (conv => whnf); repeat (first | exact True.intro | (refine And.intro (by first | rfl | (subst_vars; rfl)) ?_; conv => whnf)), rfl, rfl, rfl, rfl, rfl, rfl, rfl, Nat.le_of_ble_eq_true rfl, Nat.le_of_ble_eq_true rfl⟩
                  conv => whnf
                  repeat (first | exact True.intro | (refine And.intro (by first | rfl | ((conv => whnf); exact congrArg (AVal.int .i64) (by omega)) | ((conv => whnf); exact congrArg (AVal.int .i64) (by simp only [Int.natCast_add, Int.natCast_one]; omega)) | ((conv => whnf); exact congrArg (AVal.irow _) (by first | omega | assumption | (simp only; omega)))) ?_; conv => whnf))
                · have hno : ¬ ∀ j, j < k → g ≤ itN (nxF im) j g := of_decide_eq_false (hb.symm.trans hc)
                  obtain rfl : k = r := by omega
                  have hy : cycG (nxF im) g = cycG (nxF im) (g + 1) := by
                    show cycG (nxF im) g = cycG (nxF im) g ++ cycO (nxF im) g
                    rw [cycO_low hper hno, List.append_nil]
                  refine ⟨g + 1, by omega, by omega, ?_⟩
                  rw [hy]
                  conv => whnf
                  refine ⟨?_, by (conv => whnf); repeat (first | exact True.intro | (refine And.intro rfl ?_; conv => whnf)), by (conv => whnf); repeat (first | exact True.intro | (refine And.intro (by first | rfl | (subst_vars; rfl)) ?_; conv => whnf)), rfl, rfl, rfl, rfl, rfl, rfl, rfl, Nat.le_of_ble_eq_true rfl, Nat.le_of_ble_eq_true rfl⟩
                  conv => whnf
                  repeat (first | exact True.intro | (refine And.intro (by first | rfl | ((conv => whnf); exact congrArg (AVal.int .i64) (by omega)) | ((conv => whnf); exact congrArg (AVal.int .i64) (by simp only [Int.natCast_add, Int.natCast_one]; omega)) | ((conv => whnf); exact congrArg (AVal.irow _) (by first | omega | assumption | (simp only; omega)))) ?_; conv => whnf))
                · exfalso; omega
        · have hgl : g = M := by omega
          rw [hres]
          subst hgl
          exact leaf1 1 rfl rfl (congrArg (fun ys => (⟨rT1, 41, true, ys⟩ : Row)) (by rw [hM])) rfl (fun B C h => by simp [AVal.den, dens, h])
end Go.Proofs.Ytllagpbbbdekiac.Fw
