/- Contracts: sums of lengths, which pair is shorter. -/
import Derived.Test.YtllagpbbbdekiaaV2
namespace Go.Proofs.Ytllagpbbbdekiaa.Fw
open Go Go.RowKit
set_option linter.unusedVariables false
set_option linter.unusedSimpArgs false
set_option maxRecDepth 100000
set_option maxHeartbeats 2000000

theorem size_bd {l : Lf} (h : SmL l) : Bd (sizeL l) := by
  unfold sizeL distA
  split
  · exact Sm.minus h.1 h.2
  · exact Sm.minus h.2 h.1
/-- The sum of the lengths of two leaves. -/
@[irreducible] def sumP (xs : List Lf) : Int × Int := ((sizeL (xs.getD 0 lT.dflt)).1 * (sizeL (xs.getD 1 lT.dflt)).2 + (sizeL (xs.getD 1 lT.dflt)).1 * (sizeL (xs.getD 0 lT.dflt)).2, (sizeL (xs.getD 0 lT.dflt)).2 * (sizeL (xs.getD 1 lT.dflt)).2)
def sumC : PCtr := fun _ rg _ vals k => match vals with
  | [.row i] => rowC lT (rg i) fun xs => (List.length (α := Lf) xs = 2 ∧ ∀ x ∈ (xs : List Lf), SmL x) ∧ ∀ q : Int × Int, q = sumP xs → k [] (.tup [.int .i64 q.1, .int .i64 q.2])
  | _ => False
theorem sum_ok : PCtrOk Try.prog 89 sumC where
  enter := enter_ok Try.func89 (by kernel_rfl) rfl
  calls := by
    intro hg rg lr vals k h
    unfold sumC at h
    split at h
    case h_2 => exact h.elim
    rename_i i
    obtain ⟨e, own, xs, hi, h⟩ : ∃ e own, ∃ (xs : List Lf), _ := rowC_inv h
    obtain ⟨⟨hl, hs⟩, hk⟩ := h
    replace hk := hk _ rfl
    refine ⟨_, _, hk, fun A w hB hR => ?_⟩
    refine enter T_ok (GOk.cons size_ok .nil) Try.func89 rfl (K := (· < w.heap.size)) (fun _ h => h) (A := A.pick [] [i]) (vals := [.row 0]) (n0 := 0) (b0 := 0) (rows := [some ⟨lT, e, false, xs⟩]) (hp := []) rfl (Nat.zero_le _) no_box rfl (one_row (hR i _ hi)) rfl rfl (Nat.le_of_ble_eq_true rfl) ?_
    conv => whnf
    repeat (refine V_step T_ok (GOk.cons size_ok .nil) rfl ?_; conv => whnf)
    have hl : List.length (α := Lf) xs = 2 := hl
    have s0 : SmL (List.getD (α := Lf) xs (Int.toNat 0) lT.dflt) := hs _ (getD_mem (by rw [hl]; decide))
    have s1 : SmL (List.getD (α := Lf) xs (Int.toNat 1) lT.dflt) := hs _ (getD_mem (by rw [hl]; decide))
    have b0 := size_bd s0
    have b1 := size_bd s1
    have x0 : (0 : Int) ≤ 0 ∧ (0 : Int) < (List.length (α := Lf) xs : Int) := by omega
    have x1 : (0 : Int) ≤ 1 ∧ (1 : Int) < (List.length (α := Lf) xs : Int) := by omega
    have y0 : Int.toNat 0 < List.length (α := Lf) xs := by rw [hl]; decide
    have y1 : Int.toNat 1 < List.length (α := Lf) xs := by rw [hl]; decide
    repeat (any_goals (first
      | (refine V_step T_ok (GOk.cons size_ok .nil) rfl ?_; conv => whnf)
      | (refine V_drawN T_ok (GOk.cons size_ok .nil) mixed (by kernel_rfl) ?_; conv => whnf)
      | (refine bcond_split (fun hc => ?_) (fun hc => ?_) <;> (try simp only [decide_eq_true_eq, decide_eq_false_iff_not, Bool.not_eq_true', Bool.not_eq_false', Bool.and_eq_true, Bool.or_eq_true, Bool.and_eq_false_imp, Bool.or_eq_false_iff, ne_eq, Decidable.not_not] at hc) <;> conv => whnf)
      | (intro ysK hysK; have hysl := congrArg List.length hysK; (try simp only [List.length_set, List.length_append, List.length_cons, List.length_nil, List.length_take, List.length_drop, List.length_replicate] at hysl); conv => whnf)
      | (intro bK hbK; have hbl := congrArg ByteArray.size hbK; conv => whnf)
      | (intro sK hsK; conv => whnf)
      | (refine And.intro (by first | (first | exact True.intro | exact x0 | exact x1 | exact y0 | exact y1 | exact s0 | exact s1) | exact True.intro | exact ⟨rfl, True.intro, fun _ _ => rfl⟩ | exact Nat.le_of_ble_eq_true rfl | (refine ⟨by (try simp only [List.length_cons, List.length_nil]); omega, Int.le_trans (Int.mul_le_mul_of_nonneg_left (show (TInfo.bytes _ : Int) ≤ 64 from Int.ofNat_le.2 (Nat.le_of_ble_eq_true rfl)) (by omega)) (by (try simp only [List.length_cons, List.length_nil]); omega)⟩)) ?_; conv => whnf)))
    obtain ⟨p, hp⟩ : ∃ p : Ang, sizeL (List.getD (α := Lf) xs (Int.toNat 0) lT.dflt) = p := ⟨_, rfl⟩
    obtain ⟨q, hq⟩ : ∃ q : Ang, sizeL (List.getD (α := Lf) xs (Int.toNat 1) lT.dflt) = q := ⟨_, rfl⟩
    have hval : sumP xs = (p.1 * q.2 + q.1 * p.2, p.2 * q.2) := by unfold sumP; rw [← hp, ← hq]; rfl
    rw [hp] at b0
    rw [hq] at b1
    have hp' : sizeL (((List.getD (α := Lf) xs (Int.toNat 0) lT.dflt).1.1, (List.getD (α := Lf) xs (Int.toNat 0) lT.dflt).1.2), (List.getD (α := Lf) xs (Int.toNat 0) lT.dflt).2.1, (List.getD (α := Lf) xs (Int.toNat 0) lT.dflt).2.2) = p := hp
    have hq' : sizeL (((List.getD (α := Lf) xs (Int.toNat 1) lT.dflt).1.1, (List.getD (α := Lf) xs (Int.toNat 1) lT.dflt).1.2), (List.getD (α := Lf) xs (Int.toNat 1) lT.dflt).2.1, (List.getD (α := Lf) xs (Int.toNat 1) lT.dflt).2.2) = q := hq
    rw [hp', hq']
    unfold Bd at b0 b1
    have m1 : 0 ≤ p.1 * q.2 ∧ p.1 * q.2 ≤ 1073741824 * 1073741824 := ⟨Int.mul_nonneg (by omega) (by omega), Int.mul_le_mul (by omega) (by omega) (by omega) (by decide)⟩
    have m2 : 0 ≤ q.1 * p.2 ∧ q.1 * p.2 ≤ 1073741824 * 1073741824 := ⟨Int.mul_nonneg (by omega) (by omega), Int.mul_le_mul (by omega) (by omega) (by omega) (by decide)⟩
    have m3 : 0 ≤ p.2 * q.2 ∧ p.2 * q.2 ≤ 1073741824 * 1073741824 := ⟨Int.mul_nonneg (by omega) (by omega), Int.mul_le_mul (by omega) (by omega) (by omega) (by decide)⟩
    have g1 : Rng .i64 (p.1 * q.2) := by simp only [Rng]; omega
    have g2 : Rng .i64 (q.1 * p.2) := by simp only [Rng]; omega
    have g3 : Rng .i64 (p.2 * q.2) := by simp only [Rng]; omega
    have g4 : Rng .i64 (p.1 * q.2 + q.1 * p.2) := by simp only [Rng]; omega
    repeat (any_goals (first
      | (refine V_step T_ok (GOk.cons size_ok .nil) rfl ?_; conv => whnf)
      | (refine V_drawN T_ok (GOk.cons size_ok .nil) mixed (by kernel_rfl) ?_; conv => whnf)
      | (refine bcond_split (fun hc => ?_) (fun hc => ?_) <;> (try simp only [decide_eq_true_eq, decide_eq_false_iff_not, Bool.not_eq_true', Bool.not_eq_false', Bool.and_eq_true, Bool.or_eq_true, Bool.and_eq_false_imp, Bool.or_eq_false_iff, ne_eq, Decidable.not_not] at hc) <;> conv => whnf)
      | (intro ysK hysK; have hysl := congrArg List.length hysK; (try simp only [List.length_set, List.length_append, List.length_cons, List.length_nil, List.length_take, List.length_drop, List.length_replicate] at hysl); conv => whnf)
      | (intro bK hbK; have hbl := congrArg ByteArray.size hbK; conv => whnf)
      | (intro sK hsK; conv => whnf)
      | (refine And.intro (by first | (first | exact True.intro | exact g1 | exact g2 | exact g3 | exact g4) | exact True.intro | exact ⟨rfl, True.intro, fun _ _ => rfl⟩ | exact Nat.le_of_ble_eq_true rfl | (refine ⟨by (try simp only [List.length_cons, List.length_nil]); omega, Int.le_trans (Int.mul_le_mul_of_nonneg_left (show (TInfo.bytes _ : Int) ≤ 64 from Int.ofNat_le.2 (Nat.le_of_ble_eq_true rfl)) (by omega)) (by (try simp only [List.length_cons, List.length_nil]); omega)⟩)) ?_; conv => whnf)))
    exact leaf0 rfl (by rw [hval]) rfl
theorem sumP_bd {xs : List Lf} (hl : xs.length = 2) (hs : ∀ x ∈ xs, SmL x) : (0 ≤ (sumP xs).1 ∧ (sumP xs).1 ≤ 2305843009213693952) ∧ 1 ≤ (sumP xs).2 ∧ (sumP xs).2 ≤ 1152921504606846976 := by
  have b0 := size_bd (hs _ (getD_mem (i := 0) (d := lT.dflt) (by omega)))
  have b1 := size_bd (hs _ (getD_mem (i := 1) (d := lT.dflt) (by omega)))
  unfold sumP
  simp only
  generalize sizeL (xs.getD 0 lT.dflt) = p at *
  generalize sizeL (xs.getD 1 lT.dflt) = q at *
  unfold Bd at b0 b1
  have m1 : 0 ≤ p.1 * q.2 ∧ p.1 * q.2 ≤ 1073741824 * 1073741824 := ⟨Int.mul_nonneg (by omega) (by omega), Int.mul_le_mul (by omega) (by omega) (by omega) (by decide)⟩
  have m2 : 0 ≤ q.1 * p.2 ∧ q.1 * p.2 ≤ 1073741824 * 1073741824 := ⟨Int.mul_nonneg (by omega) (by omega), Int.mul_le_mul (by omega) (by omega) (by omega) (by decide)⟩
  have m3 : 1 ≤ p.2 * q.2 ∧ p.2 * q.2 ≤ 1073741824 * 1073741824 := ⟨mulPos (by omega) (by omega), Int.mul_le_mul (by omega) (by omega) (by omega) (by decide)⟩
  omega
def ltS (xs ys : List Lf) : Bool := decide ((sumP xs).1 * (sumP ys).2 < (sumP ys).1 * (sumP xs).2)
def lsLC : PCtr := fun _ rg _ vals k => match vals with
  | [.row i, .row j] => rowC lT (rg i) fun xs => rowC lT (rg j) fun ys => ((List.length (α := Lf) xs = 2 ∧ ∀ x ∈ (xs : List Lf), SmL x) ∧ List.length (α := Lf) ys = 2 ∧ ∀ x ∈ (ys : List Lf), SmL x) ∧ k [] (.bool (ltS xs ys))
  | _ => False
abbrev GIl := GOk.cons sum_ok (GOk.cons mul_ok .nil)
theorem il_ok : PCtrOk Try.prog 59 lsLC where
  enter := enter_ok Try.func59 (by kernel_rfl) rfl
  calls := by
    intro hg rg lr vals k h
    unfold lsLC at h
    split at h
    case h_2 => exact h.elim
    rename_i i j
    obtain ⟨e, own, xs, hi, h⟩ : ∃ e own, ∃ (xs : List Lf), _ := rowC_inv h
    obtain ⟨e2, own2, ys, hj, h⟩ : ∃ e own, ∃ (xs : List Lf), _ := rowC_inv h
    obtain ⟨⟨hx, hy⟩, hk⟩ := h
    refine ⟨_, _, hk, fun A w hB hR => ?_⟩
    refine enter T_ok GIl Try.func59 rfl (K := (· < w.heap.size)) (fun _ h => h) (A := A.pick [] [i, j]) (vals := [.row 0, .row 1]) (n0 := 0) (b0 := 0) (rows := [some ⟨lT, e, false, xs⟩, some ⟨lT, e2, false, ys⟩]) (hp := []) rfl (Nat.zero_le _) no_box rfl (two_rows (hR i _ hi) (hR j _ hj)) rfl rfl (Nat.le_of_ble_eq_true rfl) ?_
    conv => whnf
    repeat (refine V_step T_ok GIl rfl ?_; conv => whnf)
    have c1 := sumP_bd hx.1 hx.2
    have c2 := sumP_bd hy.1 hy.2
    repeat (any_goals (first
      | (refine V_step T_ok GIl rfl ?_; conv => whnf)
      | (refine V_drawN T_ok GIl mixed (by kernel_rfl) ?_; conv => whnf)
      | (refine bcond_split (fun hc => ?_) (fun hc => ?_) <;> (try simp only [decide_eq_true_eq, decide_eq_false_iff_not, Bool.not_eq_true', Bool.not_eq_false', Bool.and_eq_true, Bool.or_eq_true, Bool.and_eq_false_imp, Bool.or_eq_false_iff, ne_eq, Decidable.not_not] at hc) <;> conv => whnf)
      | (intro ysK hysK; have hysl := congrArg List.length hysK; (try simp only [List.length_set, List.length_append, List.length_cons, List.length_nil, List.length_take, List.length_drop, List.length_replicate] at hysl); conv => whnf)
      | (intro bK hbK; have hbl := congrArg ByteArray.size hbK; conv => whnf)
      | (intro sK hsK; conv => whnf)
      | (refine And.intro (by first | (first | exact True.intro | exact hx | exact hy) | exact True.intro | exact ⟨rfl, True.intro, fun _ _ => rfl⟩ | exact Nat.le_of_ble_eq_true rfl | (refine ⟨by (try simp only [List.length_cons, List.length_nil]); omega, Int.le_trans (Int.mul_le_mul_of_nonneg_left (show (TInfo.bytes _ : Int) ≤ 64 from Int.ofNat_le.2 (Nat.le_of_ble_eq_true rfl)) (by omega)) (by (try simp only [List.length_cons, List.length_nil]); omega)⟩)) ?_; conv => whnf)))
    rename_i p hp
    obtain ⟨q, hq⟩ : ∃ q, sK = q := ⟨_, rfl⟩
    rw [hq] at hsK
    subst hq
    have hv : ltS xs ys = decide (p.1 * sK.2 < sK.1 * p.2) := by unfold ltS; rw [← hp, ← hsK]
    rw [← hp] at c1
    rw [← hsK] at c2
    have r1 : Rng .u64 p.1 := by simp only [Rng]; omega
    have r2 : Rng .u64 p.2 := by simp only [Rng]; omega
    have r3 : Rng .u64 sK.1 := by simp only [Rng]; omega
    have r4 : Rng .u64 sK.2 := by simp only [Rng]; omega
    have d1 : (0 ≤ p.1 ∧ p.1 < 18446744073709551616) ∧ 0 ≤ sK.2 ∧ sK.2 < 18446744073709551616 := by omega
    have d2 : (0 ≤ sK.1 ∧ sK.1 < 18446744073709551616) ∧ 0 ≤ p.2 ∧ p.2 < 18446744073709551616 := by omega
    repeat (any_goals (first
      | (refine V_step T_ok GIl rfl ?_; conv => whnf)
      | (refine V_drawN T_ok GIl mixed (by kernel_rfl) ?_; conv => whnf)
      | (refine bcond_split (fun hc => ?_) (fun hc => ?_) <;> (try simp only [decide_eq_true_eq, decide_eq_false_iff_not, Bool.not_eq_true', Bool.not_eq_false', Bool.and_eq_true, Bool.or_eq_true, Bool.and_eq_false_imp, Bool.or_eq_false_iff, ne_eq, Decidable.not_not] at hc) <;> conv => whnf)
      | (intro ysK hysK; have hysl := congrArg List.length hysK; (try simp only [List.length_set, List.length_append, List.length_cons, List.length_nil, List.length_take, List.length_drop, List.length_replicate] at hysl); conv => whnf)
      | (intro bK hbK; have hbl := congrArg ByteArray.size hbK; conv => whnf)
      | (intro sK hsK; conv => whnf)
      | (refine And.intro (by first | (first | exact True.intro | exact r1 | exact r2 | exact r3 | exact r4 | exact d1 | exact d2) | exact True.intro | exact ⟨rfl, True.intro, fun _ _ => rfl⟩ | exact Nat.le_of_ble_eq_true rfl | (refine ⟨by (try simp only [List.length_cons, List.length_nil]); omega, Int.le_trans (Int.mul_le_mul_of_nonneg_left (show (TInfo.bytes _ : Int) ≤ 64 from Int.ofNat_le.2 (Nat.le_of_ble_eq_true rfl)) (by omega)) (by (try simp only [List.length_cons, List.length_nil]); omega)⟩)) ?_; conv => whnf)))
    · rename_i u v hu
      subst hu hsK
      refine leaf0 rfl (congrArg AVal.bool ?_) rfl
      rw [hv]
      simp only at hc
      exact (decide_eq_true (by omega)).symm
    · rename_i u v hu _
      subst hu hsK
      refine leaf0 rfl (congrArg AVal.bool ?_) rfl
      rw [hv]
      simp only at hc ⊢
      rw [decide_eq_decide]
      omega
    · rename_i u v hu h1
      subst hu hsK
      refine leaf0 rfl (congrArg AVal.bool ?_) rfl
      rw [hv]
      simp only at hc h1
      exact (decide_eq_false (by omega)).symm
end Go.Proofs.Ytllagpbbbdekiaa.Fw
-- %intro
