/- Contracts: what is drawn from a code for angles. -/
import Derived.Test.YtadlnnjgocknhabU2
namespace Go.Proofs.Ytadlnnjgocknhab.Fw
open Go Go.RowKit
set_option linter.unusedVariables false
set_option linter.unusedSimpArgs false
set_option maxRecDepth 100000
set_option maxHeartbeats 2000000

abbrev GUw := (GOk.xcons next_ok (GOk.xcons pick_ok (GOk.xcons bad_ok (GOk.xcons spoil_ok (GOk.cons sOf_ok .nil)))))
theorem wide_ok : XCtrOk Try.prog 63 spoilC where
  enter := enter_ok Try.func63 (by kernel_rfl) rfl
  calls := by
    intro hg rg vals k h
    unfold spoilC at h
    split at h
    case h_2 => exact h.elim
    rename_i j
    obtain ⟨r, a, h0, e, own, code, hi, hr, ⟨ha, hb⟩, _, hk⟩ := srcX_inv h
    have hw : ∃ cs v, k j cs v := ⟨_, _, hk ((0, 1), a, 0) ha⟩
    refine ⟨_, _, hw, hi, fun A w hX => ?_⟩
    refine enterX T_ok GUw Try.func63 rfl (w := w) (A := A.pick [j] [r]) (vals := [.loc 0 0]) (n0 := 1) (b0 := 1) (rows := [some ⟨bT, e, false, code⟩]) (hp := [some [.row 0, .int .i64 a, .int .u64 h0]]) rfl (Nat.le_of_ble_eq_true rfl) (hX.one hi hr rfl rfl) rfl one_ro rfl rfl (Nat.le_of_ble_eq_true rfl) ?_
    conv => whnf
    repeat (refine V_step T_ok GUw rfl ?_; conv => whnf)
    repeat (any_goals (first
      | (refine V_step T_ok GUw rfl ?_; conv => whnf)
      | (refine V_drawA T_ok GUw mixed (by kernel_rfl) ?_; conv => whnf)
      | (refine bcond_split (fun hc => ?_) (fun hc => ?_) <;> (try simp only [decide_eq_true_eq, decide_eq_false_iff_not, Bool.not_eq_true', Bool.not_eq_false', Bool.and_eq_true, Bool.or_eq_true, Bool.and_eq_false_imp, Bool.or_eq_false_iff, ne_eq, Decidable.not_not] at hc) <;> conv => whnf)
      | (intro ysK hysK; have hysl := congrArg List.length hysK; (try simp only [List.length_set, List.length_append, List.length_cons, List.length_nil, List.length_take, List.length_drop, List.length_replicate] at hysl); conv => whnf)
      | (intro bK hbK; have hbl := congrArg ByteArray.size hbK; conv => whnf)
      | (intro sK hsK; conv => whnf)
      | (refine And.intro (by first | (first | exact True.intro | exact ⟨ha, hb⟩ | exact ⟨hsK.2, hb⟩ | exact ⟨hsK, hb⟩ | omega | (simp only [List.length_cons, List.length_nil]; omega) | (simp only [Rng]; omega)) | exact True.intro | exact ⟨rfl, True.intro, fun _ _ => rfl⟩ | exact Nat.le_of_ble_eq_true rfl | (refine ⟨by (try simp only [List.length_cons, List.length_nil]); omega, Int.le_trans (Int.mul_le_mul_of_nonneg_left (show (TInfo.bytes _ : Int) ≤ 64 from Int.ofNat_le.2 (Nat.le_of_ble_eq_true rfl)) (by omega)) (by (try simp only [List.length_cons, List.length_nil]); omega)⟩)) ?_; conv => whnf)))
    · exact leafXr (hk ((_, _), _, _) hsK) (leafX rfl (Nat.le_refl _) rfl rfl (fun B h => by simp only [dens, AVal.den, h 0 (Nat.le_refl _), nthN]) rfl rfl)
    · rename_i z1 hz1 z2 hz2
      have b1 : 1 ≤ z2.1 ∧ z2.1 ≤ 8191 := by
        have h1 := hz2.1
        simp only [List.mem_cons, List.not_mem_nil, or_false] at h1
        omega
      repeat (any_goals (first
        | (refine V_step T_ok GUw rfl ?_; conv => whnf)
        | (refine V_drawA T_ok GUw mixed (by kernel_rfl) ?_; conv => whnf)
        | (refine bcond_split (fun hc => ?_) (fun hc => ?_) <;> (try simp only [decide_eq_true_eq, decide_eq_false_iff_not, Bool.not_eq_true', Bool.not_eq_false', Bool.and_eq_true, Bool.or_eq_true, Bool.and_eq_false_imp, Bool.or_eq_false_iff, ne_eq, Decidable.not_not] at hc) <;> conv => whnf)
        | (intro ysK hysK; have hysl := congrArg List.length hysK; (try simp only [List.length_set, List.length_append, List.length_cons, List.length_nil, List.length_take, List.length_drop, List.length_replicate] at hysl); conv => whnf)
        | (intro bK hbK; have hbl := congrArg ByteArray.size hbK; conv => whnf)
        | (intro sK hsK; conv => whnf)
        | (refine And.intro (by first | (first | exact True.intro | exact SmA.of (by omega) (by omega) | exact ⟨ha, hb⟩ | exact ⟨hsK.2, hb⟩ | exact ⟨hsK, hb⟩ | omega) | exact True.intro | exact ⟨rfl, True.intro, fun _ _ => rfl⟩ | exact Nat.le_of_ble_eq_true rfl | (refine ⟨by (try simp only [List.length_cons, List.length_nil]); omega, Int.le_trans (Int.mul_le_mul_of_nonneg_left (show (TInfo.bytes _ : Int) ≤ 64 from Int.ofNat_le.2 (Nat.le_of_ble_eq_true rfl)) (by omega)) (by (try simp only [List.length_cons, List.length_nil]); omega)⟩)) ?_; conv => whnf)))
      all_goals first
        | exact leafXr (hk ((_, _), _, _) hsK) (leafX rfl (Nat.le_refl _) rfl rfl (fun B h => by simp only [dens, AVal.den, h 0 (Nat.le_refl _), nthN]) rfl rfl)
        | exact leafXr (hk ((_, _), _, _) hsK.2) (leafX rfl (Nat.le_refl _) rfl rfl (fun B h => by simp only [dens, AVal.den, h 0 (Nat.le_refl _), nthN]) rfl rfl)
/-- An angle, from a code. -/
def dAnC : BCtr := fun hg rg lb lr vals k => match vals with
  | [.row i] => rowC bT (rg i) fun code => Bts code ∧ ∀ x : Ang, True → k none [] (.agg [.int .i64 x.1, .int .i64 x.2])
  | _ => False
abbrev GUwd := (GOk.rcons from_ok (GOk.xcons wide_ok .nil))
theorem dHv_ok : RCtrOk Try.prog 19 dAnC where
  enter := enter_ok Try.func19 (by kernel_rfl) rfl
  calls := by
    intro hg rg lb lr vals k h
    unfold dAnC at h
    split at h
    case h_2 => exact h.elim
    rename_i i
    obtain ⟨e, own, code, hi, h⟩ : ∃ e own, ∃ (xs : List Int), _ := rowC_inv h
    obtain ⟨hb, hk⟩ := h
    intro A w hB hR
    refine enter T_ok GUwd Try.func19 rfl (K := (· < w.heap.size)) (fun _ h => h) (A := A.pick [] [i]) (vals := [.row 0]) (n0 := 1) (b0 := 0) (rows := [some ⟨bT, e, false, code⟩]) (hp := []) rfl (Nat.le_of_ble_eq_true rfl) no_box rfl (one_row (hR i _ hi)) rfl rfl (Nat.le_of_ble_eq_true rfl) ?_
    conv => whnf
    repeat (refine V_step T_ok GUwd rfl ?_; conv => whnf)
    repeat (any_goals (first
      | (refine V_step T_ok GUwd rfl ?_; conv => whnf)
      | (refine V_drawN T_ok GUwd mixed (by kernel_rfl) ?_; conv => whnf)
      | (refine bcond_split (fun hc => ?_) (fun hc => ?_) <;> (try simp only [decide_eq_true_eq, decide_eq_false_iff_not, Bool.not_eq_true', Bool.not_eq_false', Bool.and_eq_true, Bool.or_eq_true, Bool.and_eq_false_imp, Bool.or_eq_false_iff, ne_eq, Decidable.not_not] at hc) <;> conv => whnf)
      | (intro ysK hysK; have hysl := congrArg List.length hysK; (try simp only [List.length_set, List.length_append, List.length_cons, List.length_nil, List.length_take, List.length_drop, List.length_replicate] at hysl); conv => whnf)
      | (intro bK hbK; have hbl := congrArg ByteArray.size hbK; conv => whnf)
      | (intro sK hsK; conv => whnf)
      | (refine And.intro (by first | (first | exact True.intro | exact hb | exact ⟨Int.le_refl _, hb⟩ | exact ⟨hsK, hb⟩) | exact True.intro | exact ⟨rfl, True.intro, fun _ _ => rfl⟩ | exact Nat.le_of_ble_eq_true rfl | (refine ⟨by (try simp only [List.length_cons, List.length_nil]); omega, Int.le_trans (Int.mul_le_mul_of_nonneg_left (show (TInfo.bytes _ : Int) ≤ 64 from Int.ofNat_le.2 (Nat.le_of_ble_eq_true rfl)) (by omega)) (by (try simp only [List.length_cons, List.length_nil]); omega)⟩)) ?_; conv => whnf)))
    exact leafRc (hk sK.1 True.intro) (leaf0 rfl rfl rfl)
theorem dOb_ok : RCtrOk Try.prog 26 dAnC where
  enter := enter_ok Try.func26 (by kernel_rfl) rfl
  calls := by
    intro hg rg lb lr vals k h
    unfold dAnC at h
    split at h
    case h_2 => exact h.elim
    rename_i i
    obtain ⟨e, own, code, hi, h⟩ : ∃ e own, ∃ (xs : List Int), _ := rowC_inv h
    obtain ⟨hb, hk⟩ := h
    intro A w hB hR
    refine enter T_ok GUwd Try.func26 rfl (K := (· < w.heap.size)) (fun _ h => h) (A := A.pick [] [i]) (vals := [.row 0]) (n0 := 1) (b0 := 0) (rows := [some ⟨bT, e, false, code⟩]) (hp := []) rfl (Nat.le_of_ble_eq_true rfl) no_box rfl (one_row (hR i _ hi)) rfl rfl (Nat.le_of_ble_eq_true rfl) ?_
    conv => whnf
    repeat (refine V_step T_ok GUwd rfl ?_; conv => whnf)
    repeat (any_goals (first
      | (refine V_step T_ok GUwd rfl ?_; conv => whnf)
      | (refine V_drawN T_ok GUwd mixed (by kernel_rfl) ?_; conv => whnf)
      | (refine bcond_split (fun hc => ?_) (fun hc => ?_) <;> (try simp only [decide_eq_true_eq, decide_eq_false_iff_not, Bool.not_eq_true', Bool.not_eq_false', Bool.and_eq_true, Bool.or_eq_true, Bool.and_eq_false_imp, Bool.or_eq_false_iff, ne_eq, Decidable.not_not] at hc) <;> conv => whnf)
      | (intro ysK hysK; have hysl := congrArg List.length hysK; (try simp only [List.length_set, List.length_append, List.length_cons, List.length_nil, List.length_take, List.length_drop, List.length_replicate] at hysl); conv => whnf)
      | (intro bK hbK; have hbl := congrArg ByteArray.size hbK; conv => whnf)
      | (intro sK hsK; conv => whnf)
      | (refine And.intro (by first | (first | exact True.intro | exact hb | exact ⟨Int.le_refl _, hb⟩ | exact ⟨hsK, hb⟩) | exact True.intro | exact ⟨rfl, True.intro, fun _ _ => rfl⟩ | exact Nat.le_of_ble_eq_true rfl | (refine ⟨by (try simp only [List.length_cons, List.length_nil]); omega, Int.le_trans (Int.mul_le_mul_of_nonneg_left (show (TInfo.bytes _ : Int) ≤ 64 from Int.ofNat_le.2 (Nat.le_of_ble_eq_true rfl)) (by omega)) (by (try simp only [List.length_cons, List.length_nil]); omega)⟩)) ?_; conv => whnf)))
    exact leafRc (hk sK.1 True.intro) (leaf0 rfl rfl rfl)
/-- Two angles, from a code. -/
def dA2C : BCtr := fun hg rg lb lr vals k => match vals with
  | [.row i] => rowC bT (rg i) fun code => Bts code ∧ ∀ x : Ang × Ang, True → k none [] (.tup [.agg [.int .i64 x.1.1, .int .i64 x.1.2], .agg [.int .i64 x.2.1, .int .i64 x.2.2]])
  | _ => False
theorem dAd_ok : RCtrOk Try.prog 32 dA2C where
  enter := enter_ok Try.func32 (by kernel_rfl) rfl
  calls := by
    intro hg rg lb lr vals k h
    unfold dA2C at h
    split at h
    case h_2 => exact h.elim
    rename_i i
    obtain ⟨e, own, code, hi, h⟩ : ∃ e own, ∃ (xs : List Int), _ := rowC_inv h
    obtain ⟨hb, hk⟩ := h
    intro A w hB hR
    refine enter T_ok GUwd Try.func32 rfl (K := (· < w.heap.size)) (fun _ h => h) (A := A.pick [] [i]) (vals := [.row 0]) (n0 := 1) (b0 := 0) (rows := [some ⟨bT, e, false, code⟩]) (hp := []) rfl (Nat.le_of_ble_eq_true rfl) no_box rfl (one_row (hR i _ hi)) rfl rfl (Nat.le_of_ble_eq_true rfl) ?_
    conv => whnf
    repeat (refine V_step T_ok GUwd rfl ?_; conv => whnf)
    repeat (any_goals (first
      | (refine V_step T_ok GUwd rfl ?_; conv => whnf)
      | (refine V_drawN T_ok GUwd mixed (by kernel_rfl) ?_; conv => whnf)
      | (refine bcond_split (fun hc => ?_) (fun hc => ?_) <;> (try simp only [decide_eq_true_eq, decide_eq_false_iff_not, Bool.not_eq_true', Bool.not_eq_false', Bool.and_eq_true, Bool.or_eq_true, Bool.and_eq_false_imp, Bool.or_eq_false_iff, ne_eq, Decidable.not_not] at hc) <;> conv => whnf)
      | (intro ysK hysK; have hysl := congrArg List.length hysK; (try simp only [List.length_set, List.length_append, List.length_cons, List.length_nil, List.length_take, List.length_drop, List.length_replicate] at hysl); conv => whnf)
      | (intro bK hbK; have hbl := congrArg ByteArray.size hbK; conv => whnf)
      | (intro sK hsK; conv => whnf)
      | (refine And.intro (by first | (first | exact True.intro | exact hb | exact ⟨Int.le_refl _, hb⟩ | exact ⟨hsK, hb⟩) | exact True.intro | exact ⟨rfl, True.intro, fun _ _ => rfl⟩ | exact Nat.le_of_ble_eq_true rfl | (refine ⟨by (try simp only [List.length_cons, List.length_nil]); omega, Int.le_trans (Int.mul_le_mul_of_nonneg_left (show (TInfo.bytes _ : Int) ≤ 64 from Int.ofNat_le.2 (Nat.le_of_ble_eq_true rfl)) (by omega)) (by (try simp only [List.length_cons, List.length_nil]); omega)⟩)) ?_; conv => whnf)))
    rename_i z hz
    exact leafRc (hk (z.1, sK.1) True.intro) (leaf0 rfl rfl rfl)
theorem dDi_ok : RCtrOk Try.prog 34 dA2C where
  enter := enter_ok Try.func34 (by kernel_rfl) rfl
  calls := by
    intro hg rg lb lr vals k h
    unfold dA2C at h
    split at h
    case h_2 => exact h.elim
    rename_i i
    obtain ⟨e, own, code, hi, h⟩ : ∃ e own, ∃ (xs : List Int), _ := rowC_inv h
    obtain ⟨hb, hk⟩ := h
    intro A w hB hR
    refine enter T_ok GUwd Try.func34 rfl (K := (· < w.heap.size)) (fun _ h => h) (A := A.pick [] [i]) (vals := [.row 0]) (n0 := 1) (b0 := 0) (rows := [some ⟨bT, e, false, code⟩]) (hp := []) rfl (Nat.le_of_ble_eq_true rfl) no_box rfl (one_row (hR i _ hi)) rfl rfl (Nat.le_of_ble_eq_true rfl) ?_
    conv => whnf
    repeat (refine V_step T_ok GUwd rfl ?_; conv => whnf)
    repeat (any_goals (first
      | (refine V_step T_ok GUwd rfl ?_; conv => whnf)
      | (refine V_drawN T_ok GUwd mixed (by kernel_rfl) ?_; conv => whnf)
      | (refine bcond_split (fun hc => ?_) (fun hc => ?_) <;> (try simp only [decide_eq_true_eq, decide_eq_false_iff_not, Bool.not_eq_true', Bool.not_eq_false', Bool.and_eq_true, Bool.or_eq_true, Bool.and_eq_false_imp, Bool.or_eq_false_iff, ne_eq, Decidable.not_not] at hc) <;> conv => whnf)
      | (intro ysK hysK; have hysl := congrArg List.length hysK; (try simp only [List.length_set, List.length_append, List.length_cons, List.length_nil, List.length_take, List.length_drop, List.length_replicate] at hysl); conv => whnf)
      | (intro bK hbK; have hbl := congrArg ByteArray.size hbK; conv => whnf)
      | (intro sK hsK; conv => whnf)
      | (refine And.intro (by first | (first | exact True.intro | exact hb | exact ⟨Int.le_refl _, hb⟩ | exact ⟨hsK, hb⟩) | exact True.intro | exact ⟨rfl, True.intro, fun _ _ => rfl⟩ | exact Nat.le_of_ble_eq_true rfl | (refine ⟨by (try simp only [List.length_cons, List.length_nil]); omega, Int.le_trans (Int.mul_le_mul_of_nonneg_left (show (TInfo.bytes _ : Int) ≤ 64 from Int.ofNat_le.2 (Nat.le_of_ble_eq_true rfl)) (by omega)) (by (try simp only [List.length_cons, List.length_nil]); omega)⟩)) ?_; conv => whnf)))
    rename_i z hz
    exact leafRc (hk (z.1, sK.1) True.intro) (leaf0 rfl rfl rfl)
/-- Two numbers, from a code. -/
def dIIC : BCtr := fun hg rg lb lr vals k => match vals with
  | [.row i] => rowC bT (rg i) fun code => Bts code ∧ ∀ x : Int × Int, True → k none [] (.tup [.int .i64 x.1, .int .i64 x.2])
  | _ => False
abbrev GUao := (GOk.rcons from_ok (GOk.xcons next_ok (GOk.xcons pick_ok .nil)))
theorem dAo_ok : RCtrOk Try.prog 37 dIIC where
  enter := enter_ok Try.func37 (by kernel_rfl) rfl
  calls := by
    intro hg rg lb lr vals k h
    unfold dIIC at h
    split at h
    case h_2 => exact h.elim
    rename_i i
    obtain ⟨e, own, code, hi, h⟩ : ∃ e own, ∃ (xs : List Int), _ := rowC_inv h
    obtain ⟨hb, hk⟩ := h
    intro A w hB hR
    refine enter T_ok GUao Try.func37 rfl (K := (· < w.heap.size)) (fun _ h => h) (A := A.pick [] [i]) (vals := [.row 0]) (n0 := 1) (b0 := 0) (rows := [some ⟨bT, e, false, code⟩]) (hp := []) rfl (Nat.le_of_ble_eq_true rfl) no_box rfl (one_row (hR i _ hi)) rfl rfl (Nat.le_of_ble_eq_true rfl) ?_
    conv => whnf
    repeat (refine V_step T_ok GUao rfl ?_; conv => whnf)
    repeat (any_goals (first
      | (refine V_step T_ok GUao rfl ?_; conv => whnf)
      | (refine V_drawN T_ok GUao mixed (by kernel_rfl) ?_; conv => whnf)
      | (refine bcond_split (fun hc => ?_) (fun hc => ?_) <;> (try simp only [decide_eq_true_eq, decide_eq_false_iff_not, Bool.not_eq_true', Bool.not_eq_false', Bool.and_eq_true, Bool.or_eq_true, Bool.and_eq_false_imp, Bool.or_eq_false_iff, ne_eq, Decidable.not_not] at hc) <;> conv => whnf)
      | (intro ysK hysK; have hysl := congrArg List.length hysK; (try simp only [List.length_set, List.length_append, List.length_cons, List.length_nil, List.length_take, List.length_drop, List.length_replicate] at hysl); conv => whnf)
      | (intro bK hbK; have hbl := congrArg ByteArray.size hbK; conv => whnf)
      | (intro sK hsK; conv => whnf)
      | (refine And.intro (by first | (first | exact True.intro | exact hb | exact ⟨Int.le_refl _, hb⟩ | exact ⟨hsK, hb⟩ | exact ⟨hsK.2, hb⟩ | (simp only [List.length_cons, List.length_nil]; omega) | omega | (simp only [Rng]; omega)) | exact True.intro | exact ⟨rfl, True.intro, fun _ _ => rfl⟩ | exact Nat.le_of_ble_eq_true rfl | (refine ⟨by (try simp only [List.length_cons, List.length_nil]); omega, Int.le_trans (Int.mul_le_mul_of_nonneg_left (show (TInfo.bytes _ : Int) ≤ 64 from Int.ofNat_le.2 (Nat.le_of_ble_eq_true rfl)) (by omega)) (by (try simp only [List.length_cons, List.length_nil]); omega)⟩)) ?_; conv => whnf)))
    exact leafRc (hk (_, _) True.intro) (leaf0 rfl rfl rfl)
end Go.Proofs.Ytadlnnjgocknhab.Fw
-- %intro
