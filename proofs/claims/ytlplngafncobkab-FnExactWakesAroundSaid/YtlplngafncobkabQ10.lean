/- Contracts: the reference's wakes about angles, in order. -/
import Derived.Test.YtlplngafncobkabQ9
namespace Go.Proofs.Ytlplngafncobkab.Fw
open Go Go.RowKit
set_option linter.unusedVariables false
set_option linter.unusedSimpArgs false
set_option maxRecDepth 100000
set_option maxHeartbeats 2000000

def srtC : PCtr := fun _ rg lr vals k => match vals with
  | [.agg [.int .i64 n, .int .i64 d], .row i] => rowC lT (rg i) fun xs => (IsA (n, d) ∧ (∀ p ∈ (xs : List Lf), IsL p) ∧ (List.length (α := Lf) xs) ≤ 2300) ∧ ∀ ys, ys = srtL (n, d) xs → k [⟨lT, 36, true, ys⟩] (.row lr)
  | _ => False
theorem insL_len (p : Lf) (out : List Lf) : (insL p out).length = out.length + 1 := (insL_perm p out).length_eq
theorem insL_isL {p : Lf} {out : List Lf} (hp : IsL p) (h : ∀ q ∈ out, IsL q) : ∀ q ∈ insL p out, IsL q := fun q hq => by
  rcases List.mem_cons.1 ((insL_perm p out).mem_iff.1 hq) with rfl | hq
  · exact hp
  · exact h q hq
abbrev GSr := GOk.cons sIns_ok (GOk.cons sLess_ok .nil)
theorem sSorted_ok : PCtrOk Try.prog 53 srtC where
  enter := enter_ok Try.func53 (by kernel_rfl) rfl
  calls := by
    intro hg rg lr vals k h
    unfold srtC at h
    split at h
    case h_2 => exact h.elim
    rename_i n d i
    obtain ⟨e, own, xs, hi, h⟩ : ∃ e own, ∃ (xs : List Lf), _ := rowC_inv h
    obtain ⟨⟨hA, hL, hlen⟩, hk⟩ := h
    replace hk := hk _ rfl
    refine ⟨_, _, hk, fun A w hB hR => ?_⟩
    refine enter T_ok GSr Try.func53 rfl (K := (· < w.heap.size)) (fun _ h => h) (A := A.pick [] [i]) (vals := [.agg [.int .i64 n, .int .i64 d], .row 0]) (n0 := 0) (b0 := 0) (rows := [some ⟨lT, e, false, xs⟩]) (hp := []) rfl (Nat.zero_le _) no_box rfl (one_row (hR i _ hi)) rfl rfl (Nat.le_of_ble_eq_true rfl) ?_
    conv => whnf
    repeat (refine V_step T_ok GSr rfl ?_; conv => whnf)
    have hl3 : (List.length (α := Lf) xs : Int) ≤ 2300 := by omega
    have hap : ∀ a b : Nat, a ≤ 2400 → b ≤ 2400 → ((a : Int) + (b : Int) ≤ 9223372036854775807 ∧ ((a : Int) + (b : Int)) * (ti36.bytes : Int) ≤ 140737488355328) := fun a b h1 h2 => by
      have hb : (ti36.bytes : Int) = 32 := rfl
      rw [hb]; omega
    repeat (any_goals (first
      | (refine V_step T_ok GSr rfl ?_; conv => whnf)
      | (refine V_drawA T_ok GSr mixed (by kernel_rfl) ?_; conv => whnf)
      | (refine bcond_split (fun hc => ?_) (fun hc => ?_) <;> (try simp only [decide_eq_true_eq, decide_eq_false_iff_not, Bool.not_eq_true', Bool.not_eq_false', Bool.and_eq_true, Bool.or_eq_true, Bool.and_eq_false_imp, Bool.or_eq_false_iff, ne_eq, Decidable.not_not] at hc) <;> conv => whnf)
      | (intro ysK hysK; have hysl := congrArg List.length hysK; (try simp only [List.length_set, List.length_append, List.length_cons, List.length_nil, List.length_take, List.length_drop, List.length_replicate] at hysl); conv => whnf)
      | (refine And.intro (by first | exact True.intro | (with_reducible assumption) | omega | (simp only [Rng]; omega) | exact Nat.le_of_ble_eq_true rfl | exact True.intro | exact Nat.le_of_ble_eq_true rfl | (refine ⟨by (try simp only [List.length_cons, List.length_nil]); omega, Int.le_trans (Int.mul_le_mul_of_nonneg_left (show (TInfo.bytes _ : Int) ≤ 64 from Int.ofNat_le.2 (Nat.le_of_ble_eq_true rfl)) (by omega)) (by (try simp only [List.length_cons, List.length_nil]); omega)⟩)) ?_; conv => whnf)))
    refine V_loopH (γ := Nat × List Lf) (fun g => g.1 ≤ xs.length ∧ g.2 = (xs.take g.1).foldl (srtF (n, d)) [] ∧ (∀ q ∈ g.2, IsL q) ∧ g.2.length ≤ g.1) (fun g => xs.length - g.1)
      (fun g => [(5, .row 1), (6, .int .i64 g.1), (9, .junk)]) (fun _ => []) (fun g => [(1, some ⟨lT, 36, true, g.2⟩)]) (0, []) ⟨Nat.zero_le _, rfl, fun q h => by simp at h, Nat.zero_le _⟩ ?_ ?_
    · conv => whnf
      refine ⟨?_, by (conv => whnf); repeat (first | exact True.intro | (refine And.intro rfl ?_; conv => whnf)), by (conv => whnf); repeat (first | exact True.intro | (refine And.intro (by first | rfl | (subst_vars; rfl)) ?_; conv => whnf)), rfl, rfl, rfl, rfl, rfl, rfl, rfl, Nat.le_of_ble_eq_true rfl, Nat.le_of_ble_eq_true rfl⟩
      conv => whnf
      repeat (first | exact True.intro | (refine And.intro (by first | rfl | ((conv => whnf); exact congrArg (AVal.int .i64) (by omega)) | ((conv => whnf); exact congrArg (AVal.int .i64) (by simp only [Int.natCast_add, Int.natCast_one]; omega))) ?_; conv => whnf))
    · rintro ⟨j, out⟩ ⟨h1, h2, h3, h4⟩
      simp only at h1 h2 h3 h4
      have hp : (j : Int) < (List.length (α := Lf) xs : Nat) → IsL (xs.getD j lT.dflt) := fun h => hL _ (getD_mem (by omega))
      have hst : ∀ b', (j : Int) < (List.length (α := Lf) xs : Nat) → b' = srtF (n, d) ((xs.take j).foldl (srtF (n, d)) []) (xs.getD j lT.dflt) → b' = (xs.take (j + 1)).foldl (srtF (n, d)) [] := fun b' h e => by rw [fold_step (d := lT.dflt) (by omega)]; exact e
      conv => whnf
      refine vcCode_sound T_ok GSr _ _ _ _ _ ?_
      conv => whnf
      repeat (refine V_step T_ok GSr rfl ?_; conv => whnf)
      repeat (any_goals (first
        | (refine V_step T_ok GSr rfl ?_; conv => whnf)
        | (refine V_drawA T_ok GSr mixed (by kernel_rfl) ?_; conv => whnf)
        | (refine bcond_split (fun hc => ?_) (fun hc => ?_) <;> (try simp only [decide_eq_true_eq, decide_eq_false_iff_not, Bool.not_eq_true', Bool.not_eq_false', Bool.and_eq_true, Bool.or_eq_true, Bool.and_eq_false_imp, Bool.or_eq_false_iff, ne_eq, Decidable.not_not] at hc) <;> conv => whnf)
        | (intro ysK hysK; have hysl := congrArg List.length hysK; (try simp only [List.length_set, List.length_append, List.length_cons, List.length_nil, List.length_take, List.length_drop, List.length_replicate] at hysl); conv => whnf)
        | (refine And.intro (by first | (first | exact True.intro | omega | (simp only [Rng]; omega) | exact ⟨hA.bd, (hp (by assumption)).1.bd, (hp (by assumption)).2.1.bd⟩) | exact True.intro | exact Nat.le_of_ble_eq_true rfl | (refine ⟨by (try simp only [List.length_cons, List.length_nil]); omega, Int.le_trans (Int.mul_le_mul_of_nonneg_left (show (TInfo.bytes _ : Int) ≤ 64 from Int.ofNat_le.2 (Nat.le_of_ble_eq_true rfl)) (by omega)) (by (try simp only [List.length_cons, List.length_nil]); omega)⟩)) ?_; conv => whnf)))
      · rename_i hc0
        have hw : inW (n, d) (xs.getD j lT.dflt) = false := by rw [← within_in (hp hc0)]; exact hc
        refine ⟨(j + 1, out), ⟨by have : (j : Int) < (xs.length : Nat) := hc0; omega, hst _ hc0 (by rw [← h2, srtF, if_neg (by rw [hw]; exact Bool.false_ne_true)]), h3, by simp only; omega⟩, by have : (j : Int) < (xs.length : Nat) := hc0; simp only; omega, ?_⟩
        conv => whnf
        refine ⟨?_, by (conv => whnf); repeat (first | exact True.intro | (refine And.intro rfl ?_; conv => whnf)), by (conv => whnf); repeat (first | exact True.intro | (refine And.intro (by first | rfl | (subst_vars; rfl)) ?_; conv => whnf)), rfl, rfl, rfl, rfl, rfl, rfl, rfl, Nat.le_of_ble_eq_true rfl, Nat.le_of_ble_eq_true rfl⟩
        conv => whnf
        repeat (first | exact True.intro | (refine And.intro (by first | rfl | ((conv => whnf); exact congrArg (AVal.int .i64) (by omega)) | ((conv => whnf); exact congrArg (AVal.int .i64) (by simp only [Int.natCast_add, Int.natCast_one]; omega))) ?_; conv => whnf))
      · rename_i hc0
        have hw : inW (n, d) (xs.getD j lT.dflt) = true := by rw [← within_in (hp hc0)]; exact hc
        have hpx := hp hc0
        have hl2 : (j : Int) < (List.length (α := Lf) xs : Nat) := hc0
        refine V_loopH (γ := Nat) (fun a => a ≤ out.length ∧ ∀ k, k < a → lessA (out.getD k lT.dflt).1 (xs.getD j lT.dflt).1) (fun a => out.length - a)
          (fun a => [(7, .int .i64 a)]) (fun _ => []) (fun _ => []) 0 ⟨Nat.zero_le _, fun k h => absurd h (Nat.not_lt_zero _)⟩ ?_ ?_
        · conv => whnf
          refine ⟨?_, by (conv => whnf); repeat (first | exact True.intro | (refine And.intro rfl ?_; conv => whnf)), by (conv => whnf); repeat (first | exact True.intro | (refine And.intro (by first | rfl | (subst_vars; rfl)) ?_; conv => whnf)), rfl, rfl, rfl, rfl, rfl, rfl, rfl, Nat.le_of_ble_eq_true rfl, Nat.le_of_ble_eq_true rfl⟩
          conv => whnf
          repeat (first | exact True.intro | (refine And.intro (by first | rfl | ((conv => whnf); exact congrArg (AVal.int .i64) (by omega)) | ((conv => whnf); exact congrArg (AVal.int .i64) (by simp only [Int.natCast_add, Int.natCast_one]; omega))) ?_; conv => whnf))
        · rintro a ⟨a1, a2⟩
          have hqo : (a : Int) < (List.length (α := Lf) out : Nat) → IsL (out.getD a lT.dflt) := fun h => h3 _ (getD_mem (by omega))
          have hl5 : (List.length (α := Lf) out : Int) ≤ 2300 := by omega
          conv => whnf
          refine vcCode_sound T_ok GSr _ _ _ _ _ ?_
          conv => whnf
          repeat (refine V_step T_ok GSr rfl ?_; conv => whnf)
          repeat (any_goals (first
            | (refine V_step T_ok GSr rfl ?_; conv => whnf)
            | (refine V_drawA T_ok GSr mixed (by kernel_rfl) ?_; conv => whnf)
            | (refine bcond_split (fun hc => ?_) (fun hc => ?_) <;> (try simp only [decide_eq_true_eq, decide_eq_false_iff_not, Bool.not_eq_true', Bool.not_eq_false', Bool.and_eq_true, Bool.or_eq_true, Bool.and_eq_false_imp, Bool.or_eq_false_iff, ne_eq, Decidable.not_not] at hc) <;> conv => whnf)
            | (intro ysK hysK; have hysl := congrArg List.length hysK; (try simp only [List.length_set, List.length_append, List.length_cons, List.length_nil, List.length_take, List.length_drop, List.length_replicate] at hysl); conv => whnf)
            | (refine And.intro (by first | (first | exact True.intro | omega | (simp only [Rng]; omega) | exact ⟨(hqo (by assumption)).1.bd, hpx.1.bd⟩ | exact hap _ _ (by simp only [List.length_cons, List.length_nil, List.length_take, List.length_drop, Int.toNat_natCast]; omega) (by simp only [List.length_cons, List.length_nil, List.length_take, List.length_drop, Int.toNat_natCast]; omega)) | exact True.intro | exact Nat.le_of_ble_eq_true rfl | (refine ⟨by (try simp only [List.length_cons, List.length_nil]); omega, Int.le_trans (Int.mul_le_mul_of_nonneg_left (show (TInfo.bytes _ : Int) ≤ 64 from Int.ofNat_le.2 (Nat.le_of_ble_eq_true rfl)) (by omega)) (by (try simp only [List.length_cons, List.length_nil]); omega)⟩)) ?_; conv => whnf)))
          · rename_i hc1
            refine ⟨a + 1, ⟨by have : (a : Int) < (out.length : Nat) := hc1; omega, fun k hk => ?_⟩, by have : (a : Int) < (out.length : Nat) := hc1; omega, ?_⟩
            · rcases Nat.lt_or_ge k a with h | h
              · exact a2 k h
              · obtain rfl : k = a := by omega
                exact hc
            · conv => whnf
              refine ⟨?_, by (conv => whnf); repeat (first | exact True.intro | (refine And.intro rfl ?_; conv => whnf)), by (conv => whnf); repeat (first | exact True.intro | (refine And.intro (by first | rfl | (subst_vars; rfl)) ?_; conv => whnf)), rfl, rfl, rfl, rfl, rfl, rfl, rfl, Nat.le_of_ble_eq_true rfl, Nat.le_of_ble_eq_true rfl⟩
              conv => whnf
              repeat (first | exact True.intro | (refine And.intro (by first | rfl | ((conv => whnf); exact congrArg (AVal.int .i64) (by omega)) | ((conv => whnf); exact congrArg (AVal.int .i64) (by simp only [Int.natCast_add, Int.natCast_one]; omega))) ?_; conv => whnf))
          · rename_i hcA y1 hy1 hz1 y2 hy2 hz2
            have hy : ysK = insL (xs.getD j lT.dflt) out := by
              rw [hysK, hy2, hy1, insL_at _ lT.dflt out a a1 a2 (.inr hc)]
              simp only [Int.toNat_natCast, Nat.sub_zero, List.drop_zero, List.nil_append]
              rw [List.take_of_length_le (l := out.drop a) (by simp)]
              rfl
            clear hysK hysl hy1 hy2 hz1 hz2
            subst hy
            have hlen2 := insL_len (xs.getD j lT.dflt) out
            refine ⟨(j + 1, insL (xs.getD j lT.dflt) out), ⟨by omega, hst _ hl2 (by rw [← h2, srtF, if_pos hw]), insL_isL hpx h3, by simp only; omega⟩, by simp only; omega, ?_⟩
            conv => whnf
            refine ⟨?_, by (conv => whnf); repeat (first | exact True.intro | (refine And.intro rfl ?_; conv => whnf)), by (conv => whnf); repeat (first | exact True.intro | (refine And.intro (by first | rfl | (subst_vars; rfl)) ?_; conv => whnf)), rfl, rfl, rfl, rfl, rfl, rfl, rfl, Nat.le_of_ble_eq_true rfl, Nat.le_of_ble_eq_true rfl⟩
            conv => whnf
            repeat (first | exact True.intro | (refine And.intro (by first | rfl | ((conv => whnf); exact congrArg (AVal.int .i64) (by omega)) | ((conv => whnf); exact congrArg (AVal.int .i64) (by simp only [Int.natCast_add, Int.natCast_one]; omega))) ?_; conv => whnf))
          · rename_i y1 hy1 hz1 y2 hy2 hz2
            have hy : ysK = insL (xs.getD j lT.dflt) out := by
              rw [hysK, hy2, hy1, insL_at _ lT.dflt out a a1 a2 (.inl (by omega))]
              simp only [Int.toNat_natCast, Nat.sub_zero, List.drop_zero, List.nil_append]
              rw [List.take_of_length_le (l := out.drop a) (by simp)]
              rfl
            clear hysK hysl hy1 hy2 hz1 hz2
            subst hy
            have hlen2 := insL_len (xs.getD j lT.dflt) out
            refine ⟨(j + 1, insL (xs.getD j lT.dflt) out), ⟨by omega, hst _ hl2 (by rw [← h2, srtF, if_pos hw]), insL_isL hpx h3, by simp only; omega⟩, by simp only; omega, ?_⟩
            conv => whnf
            refine ⟨?_, by (conv => whnf); repeat (first | exact True.intro | (refine And.intro rfl ?_; conv => whnf)), by (conv => whnf); repeat (first | exact True.intro | (refine And.intro (by first | rfl | (subst_vars; rfl)) ?_; conv => whnf)), rfl, rfl, rfl, rfl, rfl, rfl, rfl, Nat.le_of_ble_eq_true rfl, Nat.le_of_ble_eq_true rfl⟩
            conv => whnf
            repeat (first | exact True.intro | (refine And.intro (by first | rfl | ((conv => whnf); exact congrArg (AVal.int .i64) (by omega)) | ((conv => whnf); exact congrArg (AVal.int .i64) (by simp only [Int.natCast_add, Int.natCast_one]; omega))) ?_; conv => whnf))
      · have hl : ¬ (j : Int) < (xs.length : Nat) := hc
        rw [List.take_of_length_le (by omega)] at h2
        refine leaf1 1 rfl rfl ?_ rfl (fun B C h => by simp [AVal.den, h])
        show (⟨lT, 36, true, out⟩ : Row) = _
        rw [h2]; rfl
end Go.Proofs.Ytlplngafncobkab.Fw
