/- Contracts: leaves drawn. -/
import Derived.Test.YtadlnnjgocknhacJ2
import Derived.Test.YtadlnnjgocknhacU2
namespace Go.Proofs.Ytadlnnjgocknhac.Fw
open Go Go.RowKit
set_option linter.unusedVariables false
set_option linter.unusedSimpArgs false
set_option maxRecDepth 100000
set_option maxHeartbeats 2000000

/-- Small angles. -/
def SmD (x : Ang) : Prop := (0 ≤ x.1 ∧ x.1 ≤ 600) ∧ 1 ≤ x.2 ∧ x.2 ≤ 600
theorem SmD.of {n d : Int} (h1 : 1 ≤ d) (h2 : d ≤ 600) : SmD (ofQ n d) := by
  have := ofQ_bd n d h1
  unfold SmD; omega
theorem SmD.sm {x : Ang} (h : SmD x) : Sm x := by unfold SmD at h; unfold Sm; omega
theorem Sm.a {x : Ang} (h : Sm x) : SmA x := by unfold Sm at h; unfold SmA; omega
def drwC : XCtr := fun hg rg vals k => match vals with
  | [.loc j 0] => srcX hg rg j fun r => True ∧ ∀ x : Ang × Int × Int, (SmD x.1 ∧ 0 ≤ x.2.1) → k j [.row r, .int .i64 x.2.1, .int .u64 x.2.2] (.agg [.int .i64 x.1.1, .int .i64 x.1.2])
  | _ => False
theorem drw_ok : XCtrOk Try.prog 51 drwC where
  enter := enter_ok Try.func51 (by kernel_rfl) rfl
  calls := by
    intro hg rg vals k h
    unfold drwC at h
    split at h
    case h_2 => exact h.elim
    rename_i j
    obtain ⟨r, a, h0, e, own, code, hi, hr, ⟨ha, hb⟩, _, hk⟩ := srcX_inv h
    have hw : ∃ cs v, k j cs v := ⟨_, _, hk ((0, 1), a, 0) ⟨by unfold SmD; simp only; omega, ha⟩⟩
    refine ⟨_, _, hw, hi, fun A w hX => ?_⟩
    refine enterX T_ok GDr Try.func51 rfl (w := w) (A := A.pick [j] [r]) (vals := [.loc 0 0]) (n0 := 1) (b0 := 1) (rows := [some ⟨bT, e, false, code⟩]) (hp := [some [.row 0, .int .i64 a, .int .u64 h0]]) rfl (Nat.le_of_ble_eq_true rfl) (hX.one hi hr rfl rfl) rfl one_ro rfl rfl (Nat.le_of_ble_eq_true rfl) ?_
    conv => whnf
    repeat (refine V_step T_ok GDr rfl ?_; conv => whnf)
    repeat (any_goals (first
      | (refine V_step T_ok GDr rfl ?_; conv => whnf)
      | (refine V_drawA T_ok GDr mixed (by kernel_rfl) ?_; conv => whnf)
      | (refine bcond_split (fun hc => ?_) (fun hc => ?_) <;> (try simp only [decide_eq_true_eq, decide_eq_false_iff_not, Bool.not_eq_true', Bool.not_eq_false', Bool.and_eq_true, Bool.or_eq_true, Bool.and_eq_false_imp, Bool.or_eq_false_iff, ne_eq, Decidable.not_not] at hc) <;> conv => whnf)
      | (intro ysK hysK; have hysl := congrArg List.length hysK; (try simp only [List.length_set, List.length_append, List.length_cons, List.length_nil, List.length_take, List.length_drop, List.length_replicate] at hysl); conv => whnf)
      | (intro bK hbK; have hbl := congrArg ByteArray.size hbK; conv => whnf)
      | (intro sK hsK; conv => whnf)
      | (refine And.intro (by first | (first | exact True.intro | exact ⟨ha, hb⟩ | exact ⟨hsK.2, hb⟩ | (simp only [List.length_cons, List.length_nil]; omega)) | exact True.intro | exact ⟨rfl, True.intro, fun _ _ => rfl⟩ | exact Nat.le_of_ble_eq_true rfl | (refine ⟨by (try simp only [List.length_cons, List.length_nil]); omega, Int.le_trans (Int.mul_le_mul_of_nonneg_left (show (TInfo.bytes _ : Int) ≤ 64 from Int.ofNat_le.2 (Nat.le_of_ble_eq_true rfl)) (by omega)) (by (try simp only [List.length_cons, List.length_nil]); omega)⟩)) ?_; conv => whnf)))
    · rename_i d1 hd1 _ _
      have b1 := mem_bd (lo := 1) (hi := 63) hd1.1
      have b2 := mem_bd (lo := 2) (hi := 8) hsK.1
      have b3 : 1 ≤ d1.1 * sK.1 := Int.mul_pos (by omega) (by omega)
      have b4 : d1.1 * sK.1 ≤ 63 * 8 := Int.mul_le_mul b1.2 b2.2 (by omega) (by omega)
      have hr1 : Rng .i64 (d1.1 * sK.1) := by simp only [Rng]; omega
      repeat (any_goals (first
        | (refine V_step T_ok GDr rfl ?_; conv => whnf)
        | (refine V_drawA T_ok GDr mixed (by kernel_rfl) ?_; conv => whnf)
        | (refine bcond_split (fun hc => ?_) (fun hc => ?_) <;> (try simp only [decide_eq_true_eq, decide_eq_false_iff_not, Bool.not_eq_true', Bool.not_eq_false', Bool.and_eq_true, Bool.or_eq_true, Bool.and_eq_false_imp, Bool.or_eq_false_iff, ne_eq, Decidable.not_not] at hc) <;> conv => whnf)
        | (intro ysK hysK; have hysl := congrArg List.length hysK; (try simp only [List.length_set, List.length_append, List.length_cons, List.length_nil, List.length_take, List.length_drop, List.length_replicate] at hysl); conv => whnf)
        | (intro bK hbK; have hbl := congrArg ByteArray.size hbK; conv => whnf)
        | (intro sK hsK; conv => whnf)
        | (refine And.intro (by first | (first | exact True.intro | exact ⟨ha, hb⟩ | exact ⟨hsK.2, hb⟩ | with_reducible exact hr1 | (simp only [List.length_cons, List.length_nil]; omega) | omega) | exact True.intro | exact ⟨rfl, True.intro, fun _ _ => rfl⟩ | exact Nat.le_of_ble_eq_true rfl | (refine ⟨by (try simp only [List.length_cons, List.length_nil]); omega, Int.le_trans (Int.mul_le_mul_of_nonneg_left (show (TInfo.bytes _ : Int) ≤ 64 from Int.ofNat_le.2 (Nat.le_of_ble_eq_true rfl)) (by omega)) (by (try simp only [List.length_cons, List.length_nil]); omega)⟩)) ?_; conv => whnf)))
      exact leafXr (hk (_, _, _) ⟨SmD.of (by omega) (by omega), hsK.2⟩) (leafX rfl (Nat.le_refl _) rfl rfl (fun B h => by simp only [dens, AVal.den, h 0 (Nat.le_refl _), nthN]) rfl rfl)
    · rename_i d1 hd1 _
      have b1 := mem_bd (lo := 1) (hi := 63) hd1.1
      have hr1 : Rng .i64 (d1.1 * 2) := by simp only [Rng]; omega
      repeat (any_goals (first
        | (refine V_step T_ok GDr rfl ?_; conv => whnf)
        | (refine V_drawA T_ok GDr mixed (by kernel_rfl) ?_; conv => whnf)
        | (refine bcond_split (fun hc => ?_) (fun hc => ?_) <;> (try simp only [decide_eq_true_eq, decide_eq_false_iff_not, Bool.not_eq_true', Bool.not_eq_false', Bool.and_eq_true, Bool.or_eq_true, Bool.and_eq_false_imp, Bool.or_eq_false_iff, ne_eq, Decidable.not_not] at hc) <;> conv => whnf)
        | (intro ysK hysK; have hysl := congrArg List.length hysK; (try simp only [List.length_set, List.length_append, List.length_cons, List.length_nil, List.length_take, List.length_drop, List.length_replicate] at hysl); conv => whnf)
        | (intro bK hbK; have hbl := congrArg ByteArray.size hbK; conv => whnf)
        | (intro sK hsK; conv => whnf)
        | (refine And.intro (by first | (first | exact True.intro | exact ⟨ha, hb⟩ | exact ⟨hsK.2, hb⟩ | with_reducible exact hr1 | (simp only [List.length_cons, List.length_nil]; omega) | omega) | exact True.intro | exact ⟨rfl, True.intro, fun _ _ => rfl⟩ | exact Nat.le_of_ble_eq_true rfl | (refine ⟨by (try simp only [List.length_cons, List.length_nil]); omega, Int.le_trans (Int.mul_le_mul_of_nonneg_left (show (TInfo.bytes _ : Int) ≤ 64 from Int.ofNat_le.2 (Nat.le_of_ble_eq_true rfl)) (by omega)) (by (try simp only [List.length_cons, List.length_nil]); omega)⟩)) ?_; conv => whnf)))
      exact leafXr (hk (_, _, _) ⟨SmD.of (by omega) (by omega), hsK.2⟩) (leafX rfl (Nat.le_refl _) rfl rfl (fun B h => by simp only [dens, AVal.den, h 0 (Nat.le_refl _), nthN]) rfl rfl)
    · rename_i d1 hd1 _ _ _
      have b1 := mem_bd (lo := 1) (hi := 63) hd1.1
      have hr1 := b1
      repeat (any_goals (first
        | (refine V_step T_ok GDr rfl ?_; conv => whnf)
        | (refine V_drawA T_ok GDr mixed (by kernel_rfl) ?_; conv => whnf)
        | (refine bcond_split (fun hc => ?_) (fun hc => ?_) <;> (try simp only [decide_eq_true_eq, decide_eq_false_iff_not, Bool.not_eq_true', Bool.not_eq_false', Bool.and_eq_true, Bool.or_eq_true, Bool.and_eq_false_imp, Bool.or_eq_false_iff, ne_eq, Decidable.not_not] at hc) <;> conv => whnf)
        | (intro ysK hysK; have hysl := congrArg List.length hysK; (try simp only [List.length_set, List.length_append, List.length_cons, List.length_nil, List.length_take, List.length_drop, List.length_replicate] at hysl); conv => whnf)
        | (intro bK hbK; have hbl := congrArg ByteArray.size hbK; conv => whnf)
        | (intro sK hsK; conv => whnf)
        | (refine And.intro (by first | (first | exact True.intro | exact ⟨ha, hb⟩ | exact ⟨hsK.2, hb⟩ | with_reducible exact hr1 | (simp only [List.length_cons, List.length_nil]; omega) | omega) | exact True.intro | exact ⟨rfl, True.intro, fun _ _ => rfl⟩ | exact Nat.le_of_ble_eq_true rfl | (refine ⟨by (try simp only [List.length_cons, List.length_nil]); omega, Int.le_trans (Int.mul_le_mul_of_nonneg_left (show (TInfo.bytes _ : Int) ≤ 64 from Int.ofNat_le.2 (Nat.le_of_ble_eq_true rfl)) (by omega)) (by (try simp only [List.length_cons, List.length_nil]); omega)⟩)) ?_; conv => whnf)))
      exact leafXr (hk (_, _, _) ⟨SmD.of (by omega) (by omega), hsK.2⟩) (leafX rfl (Nat.le_refl _) rfl rfl (fun B h => by simp only [dens, AVal.den, h 0 (Nat.le_refl _), nthN]) rfl rfl)
theorem lf13 : SmL (((1, 3), (2, 3)) : Lf) := by unfold SmL Sm; decide
def lf3C : XCtr := fun hg rg vals k => match vals with
  | [.loc j 0] => srcX hg rg j fun r => True ∧ ∀ x : Lf × Int × Int, (SmL x.1 ∧ 0 ≤ x.2.1) → k j [.row r, .int .i64 x.2.1, .int .u64 x.2.2] (lV x.1)
  | _ => False
abbrev GL3 := (GOk.xcons next_ok (GOk.xcons drw_ok (GOk.cons sOf_ok (GOk.cons sLeafOf_ok .nil))))
theorem lf3_ok : XCtrOk Try.prog 85 lf3C where
  enter := enter_ok Try.func85 (by kernel_rfl) rfl
  calls := by
    intro hg rg vals k h
    unfold lf3C at h
    split at h
    case h_2 => exact h.elim
    rename_i j
    obtain ⟨r, a, h0, e, own, code, hi, hr, ⟨ha, hb⟩, _, hk⟩ := srcX_inv h
    have hw : ∃ cs v, k j cs v := ⟨_, _, hk (((1, 3), (2, 3)), a, 0) ⟨lf13, ha⟩⟩
    refine ⟨_, _, hw, hi, fun A w hX => ?_⟩
    refine enterX T_ok GL3 Try.func85 rfl (w := w) (A := A.pick [j] [r]) (vals := [.loc 0 0]) (n0 := 1) (b0 := 1) (rows := [some ⟨bT, e, false, code⟩]) (hp := [some [.row 0, .int .i64 a, .int .u64 h0]]) rfl (Nat.le_of_ble_eq_true rfl) (hX.one hi hr rfl rfl) rfl one_ro rfl rfl (Nat.le_of_ble_eq_true rfl) ?_
    conv => whnf
    repeat (refine V_step T_ok GL3 rfl ?_; conv => whnf)
    refine V_loopH (γ := Nat × Int × Int) (fun g => g.1 ≤ 6 ∧ 0 ≤ g.2.1) (fun g => 6 - g.1)
      (fun g => [(3, .int .i64 g.1)]) (fun g => [(0, [.row 0, .int .i64 g.2.1, .int .u64 g.2.2])]) (fun _ => []) (0, a, h0) ⟨Nat.zero_le _, ha⟩ ?_ ?_
    · conv => whnf
      refine ⟨?_, by (conv => whnf); repeat (first | exact True.intro | (refine And.intro rfl ?_; conv => whnf)), by (conv => whnf); repeat (first | exact True.intro | (refine And.intro (by first | rfl | (subst_vars; rfl)) ?_; conv => whnf)), rfl, rfl, rfl, rfl, rfl, rfl, rfl, Nat.le_of_ble_eq_true rfl, Nat.le_of_ble_eq_true rfl⟩
      conv => whnf
      repeat (first | exact True.intro | (refine And.intro (by first | rfl | ((conv => whnf); exact congrArg (AVal.int .i64) (by omega)) | ((conv => whnf); exact congrArg (AVal.int .i64) (by simp only [Int.natCast_add, Int.natCast_one]; omega)) | ((conv => whnf); exact congrArg (AVal.irow _) (by first | omega | assumption | (simp only; omega)))) ?_; conv => whnf))
    · rintro ⟨n, a1, h1⟩ ⟨n1, n2⟩
      simp only at n1 n2
      conv => whnf
      refine vcCode_sound T_ok GL3 _ _ _ _ _ ?_
      conv => whnf
      repeat (refine V_step T_ok GL3 rfl ?_; conv => whnf)
      repeat (any_goals (first
        | (refine V_step T_ok GL3 rfl ?_; conv => whnf)
        | (refine V_drawA T_ok GL3 mixed (by kernel_rfl) ?_; conv => whnf)
        | (refine bcond_split (fun hc => ?_) (fun hc => ?_) <;> (try simp only [decide_eq_true_eq, decide_eq_false_iff_not, Bool.not_eq_true', Bool.not_eq_false', Bool.and_eq_true, Bool.or_eq_true, Bool.and_eq_false_imp, Bool.or_eq_false_iff, ne_eq, Decidable.not_not] at hc) <;> conv => whnf)
        | (intro ysK hysK; have hysl := congrArg List.length hysK; (try simp only [List.length_set, List.length_append, List.length_cons, List.length_nil, List.length_take, List.length_drop, List.length_replicate] at hysl); conv => whnf)
        | (intro bK hbK; have hbl := congrArg ByteArray.size hbK; conv => whnf)
        | (intro sK hsK; conv => whnf)
        | (refine And.intro (by first | (first | exact True.intro | exact ⟨n2, hb⟩ | exact ⟨hsK.2, hb⟩ | omega | (simp only [Rng]; omega)) | exact True.intro | exact ⟨rfl, True.intro, fun _ _ => rfl⟩ | exact Nat.le_of_ble_eq_true rfl | (refine ⟨by (try simp only [List.length_cons, List.length_nil]); omega, Int.le_trans (Int.mul_le_mul_of_nonneg_left (show (TInfo.bytes _ : Int) ≤ 64 from Int.ofNat_le.2 (Nat.le_of_ble_eq_true rfl)) (by omega)) (by (try simp only [List.length_cons, List.length_nil]); omega)⟩)) ?_; conv => whnf)))
      · rename_i x hx y hy
        have hd := hx.1
        have hxs := hx.1.sm
        have hf1 : 0 ≤ sK.2.1 := hsK.2
        unfold SmD at hd
        have g1 := ofQ_bd (2 * x.1.1 + x.1.2) (2 * x.1.2) (by omega)
        have hs : Sm (ofQ (2 * x.1.1 + x.1.2) (2 * x.1.2)) := by unfold Sm; omega
        have r1 : Rng .i64 (2 * x.1.1) := by simp only [Rng]; omega
        have r2 : Rng .i64 (2 * x.1.1 + x.1.2) := by simp only [Rng]; omega
        have r3 : Rng .i64 (2 * x.1.2) := by simp only [Rng]; omega
        repeat (any_goals (first
          | (refine V_step T_ok GL3 rfl ?_; conv => whnf)
          | (refine V_drawA T_ok GL3 mixed (by kernel_rfl) ?_; conv => whnf)
          | (refine bcond_split (fun hc => ?_) (fun hc => ?_) <;> (try simp only [decide_eq_true_eq, decide_eq_false_iff_not, Bool.not_eq_true', Bool.not_eq_false', Bool.and_eq_true, Bool.or_eq_true, Bool.and_eq_false_imp, Bool.or_eq_false_iff, ne_eq, Decidable.not_not] at hc) <;> conv => whnf)
          | (intro ysK hysK; have hysl := congrArg List.length hysK; (try simp only [List.length_set, List.length_append, List.length_cons, List.length_nil, List.length_take, List.length_drop, List.length_replicate] at hysl); conv => whnf)
          | (intro bK hbK; have hbl := congrArg ByteArray.size hbK; conv => whnf)
          | (intro sK hsK; conv => whnf)
          | (refine And.intro (by first | (first | exact True.intro | exact r1 | exact r2 | exact r3 | exact ⟨hxs.bd, hs.bd⟩ | omega | (simp only [Rng]; omega)) | exact True.intro | exact ⟨rfl, True.intro, fun _ _ => rfl⟩ | exact Nat.le_of_ble_eq_true rfl | (refine ⟨by (try simp only [List.length_cons, List.length_nil]); omega, Int.le_trans (Int.mul_le_mul_of_nonneg_left (show (TInfo.bytes _ : Int) ≤ 64 from Int.ofNat_le.2 (Nat.le_of_ble_eq_true rfl)) (by omega)) (by (try simp only [List.length_cons, List.length_nil]); omega)⟩)) ?_; conv => whnf)))
        · exact leafXr (hk (leafOf x.1 (ofQ (2 * x.1.1 + x.1.2) (2 * x.1.2)), _, _) ⟨leafOf_sm hxs hs, hf1⟩) (leafX rfl (Nat.le_refl _) rfl rfl (fun B h => by simp only [dens, AVal.den, h 0 (Nat.le_refl _), nthN]) rfl rfl)
        · refine ⟨(n + 1, sK.2.1, sK.2.2), ⟨by simp only; omega, hf1⟩, by simp only; omega, ?_⟩
          conv => whnf
          refine ⟨?_, by (conv => whnf); repeat (first | exact True.intro | (refine And.intro rfl ?_; conv => whnf)), by (conv => whnf); repeat (first | exact True.intro | (refine And.intro (by first | rfl | (subst_vars; rfl)) ?_; conv => whnf)), rfl, rfl, rfl, rfl, rfl, rfl, rfl, Nat.le_of_ble_eq_true rfl, Nat.le_of_ble_eq_true rfl⟩
          conv => whnf
          repeat (first | exact True.intro | (refine And.intro (by first | rfl | ((conv => whnf); exact congrArg (AVal.int .i64) (by omega)) | ((conv => whnf); exact congrArg (AVal.int .i64) (by simp only [Int.natCast_add, Int.natCast_one]; omega)) | ((conv => whnf); exact congrArg (AVal.irow _) (by first | omega | assumption | (simp only; omega)))) ?_; conv => whnf))
      · rename_i x hx y hy _
        have hf1 : 0 ≤ sK.2.1 := hsK.2
        have hxs := hx.1.sm
        have hys := hy.1.sm
        repeat (any_goals (first
          | (refine V_step T_ok GL3 rfl ?_; conv => whnf)
          | (refine V_drawA T_ok GL3 mixed (by kernel_rfl) ?_; conv => whnf)
          | (refine bcond_split (fun hc => ?_) (fun hc => ?_) <;> (try simp only [decide_eq_true_eq, decide_eq_false_iff_not, Bool.not_eq_true', Bool.not_eq_false', Bool.and_eq_true, Bool.or_eq_true, Bool.and_eq_false_imp, Bool.or_eq_false_iff, ne_eq, Decidable.not_not] at hc) <;> conv => whnf)
          | (intro ysK hysK; have hysl := congrArg List.length hysK; (try simp only [List.length_set, List.length_append, List.length_cons, List.length_nil, List.length_take, List.length_drop, List.length_replicate] at hysl); conv => whnf)
          | (intro bK hbK; have hbl := congrArg ByteArray.size hbK; conv => whnf)
          | (intro sK hsK; conv => whnf)
          | (refine And.intro (by first | (first | exact True.intro | exact ⟨hxs.bd, hys.bd⟩) | exact True.intro | exact ⟨rfl, True.intro, fun _ _ => rfl⟩ | exact Nat.le_of_ble_eq_true rfl | (refine ⟨by (try simp only [List.length_cons, List.length_nil]); omega, Int.le_trans (Int.mul_le_mul_of_nonneg_left (show (TInfo.bytes _ : Int) ≤ 64 from Int.ofNat_le.2 (Nat.le_of_ble_eq_true rfl)) (by omega)) (by (try simp only [List.length_cons, List.length_nil]); omega)⟩)) ?_; conv => whnf)))
        exact leafXr (hk (leafOf x.1 y.1, _, _) ⟨leafOf_sm hxs hys, hf1⟩) (leafX rfl (Nat.le_refl _) rfl rfl (fun B h => by simp only [dens, AVal.den, h 0 (Nat.le_refl _), nthN]) rfl rfl)
      · refine ⟨(n + 1, sK.2.1, sK.2.2), ⟨by simp only; omega, hsK.2⟩, by simp only; omega, ?_⟩
        conv => whnf
        refine ⟨?_, by (conv => whnf); repeat (first | exact True.intro | (refine And.intro rfl ?_; conv => whnf)), by (conv => whnf); repeat (first | exact True.intro | (refine And.intro (by first | rfl | (subst_vars; rfl)) ?_; conv => whnf)), rfl, rfl, rfl, rfl, rfl, rfl, rfl, Nat.le_of_ble_eq_true rfl, Nat.le_of_ble_eq_true rfl⟩
        conv => whnf
        repeat (first | exact True.intro | (refine And.intro (by first | rfl | ((conv => whnf); exact congrArg (AVal.int .i64) (by omega)) | ((conv => whnf); exact congrArg (AVal.int .i64) (by simp only [Int.natCast_add, Int.natCast_one]; omega)) | ((conv => whnf); exact congrArg (AVal.irow _) (by first | omega | assumption | (simp only; omega)))) ?_; conv => whnf))
      · exact leafXr (hk (((1, 3), (2, 3)), a1, h1) ⟨lf13, n2⟩) (leafX rfl (Nat.le_refl _) rfl rfl (fun B h => by simp only [dens, AVal.den, h 0 (Nat.le_refl _), nthN]) rfl rfl)
def lspC : XCtr := fun hg rg vals k => match vals with
  | [.loc j 0] => srcX hg rg j fun r => True ∧ ∀ x : Lf × Int × Int, 0 ≤ x.2.1 → k j [.row r, .int .i64 x.2.1, .int .u64 x.2.2] (lV x.1)
  | _ => False
abbrev GLs := (GOk.xcons next_ok (GOk.xcons lf3_ok (GOk.xcons bad_ok .nil)))
theorem lsp_ok : XCtrOk Try.prog 47 lspC where
  enter := enter_ok Try.func47 (by kernel_rfl) rfl
  calls := by
    intro hg rg vals k h
    unfold lspC at h
    split at h
    case h_2 => exact h.elim
    rename_i j
    obtain ⟨r, a, h0, e, own, code, hi, hr, ⟨ha, hb⟩, _, hk⟩ := srcX_inv h
    have hw : ∃ cs v, k j cs v := ⟨_, _, hk (((1, 3), (2, 3)), a, 0) ha⟩
    refine ⟨_, _, hw, hi, fun A w hX => ?_⟩
    refine enterX T_ok GLs Try.func47 rfl (w := w) (A := A.pick [j] [r]) (vals := [.loc 0 0]) (n0 := 1) (b0 := 1) (rows := [some ⟨bT, e, false, code⟩]) (hp := [some [.row 0, .int .i64 a, .int .u64 h0]]) rfl (Nat.le_of_ble_eq_true rfl) (hX.one hi hr rfl rfl) rfl one_ro rfl rfl (Nat.le_of_ble_eq_true rfl) ?_
    conv => whnf
    repeat (refine V_step T_ok GLs rfl ?_; conv => whnf)
    repeat (any_goals (first
      | (refine V_step T_ok GLs rfl ?_; conv => whnf)
      | (refine V_drawA T_ok GLs mixed (by kernel_rfl) ?_; conv => whnf)
      | (refine bcond_split (fun hc => ?_) (fun hc => ?_) <;> (try simp only [decide_eq_true_eq, decide_eq_false_iff_not, Bool.not_eq_true', Bool.not_eq_false', Bool.and_eq_true, Bool.or_eq_true, Bool.and_eq_false_imp, Bool.or_eq_false_iff, ne_eq, Decidable.not_not] at hc) <;> conv => whnf)
      | (intro ysK hysK; have hysl := congrArg List.length hysK; (try simp only [List.length_set, List.length_append, List.length_cons, List.length_nil, List.length_take, List.length_drop, List.length_replicate] at hysl); conv => whnf)
      | (intro bK hbK; have hbl := congrArg ByteArray.size hbK; conv => whnf)
      | (intro sK hsK; conv => whnf)
      | (refine And.intro (by first | (first | exact True.intro | exact ⟨ha, hb⟩ | exact ⟨hsK.2, hb⟩) | exact True.intro | exact ⟨rfl, True.intro, fun _ _ => rfl⟩ | exact Nat.le_of_ble_eq_true rfl | (refine ⟨by (try simp only [List.length_cons, List.length_nil]); omega, Int.le_trans (Int.mul_le_mul_of_nonneg_left (show (TInfo.bytes _ : Int) ≤ 64 from Int.ofNat_le.2 (Nat.le_of_ble_eq_true rfl)) (by omega)) (by (try simp only [List.length_cons, List.length_nil]); omega)⟩)) ?_; conv => whnf)))
    · rename_i x hx
      exact leafXr (hk ((x.1.1, x.1.1), _, _) hsK.2) (leafX rfl (Nat.le_refl _) rfl rfl (fun B h => by simp only [dens, AVal.den, h 0 (Nat.le_refl _), nthN]) rfl rfl)
    · rename_i x hx _
      exact leafXr (hk ((x.1.2, x.1.1), _, _) hsK.2) (leafX rfl (Nat.le_refl _) rfl rfl (fun B h => by simp only [dens, AVal.den, h 0 (Nat.le_refl _), nthN]) rfl rfl)
    · rename_i x hx _ _
      have hsa : SmA x.1.1 := hx.1.1.a
      repeat (any_goals (first
        | (refine V_step T_ok GLs rfl ?_; conv => whnf)
        | (refine V_drawA T_ok GLs mixed (by kernel_rfl) ?_; conv => whnf)
        | (refine bcond_split (fun hc => ?_) (fun hc => ?_) <;> (try simp only [decide_eq_true_eq, decide_eq_false_iff_not, Bool.not_eq_true', Bool.not_eq_false', Bool.and_eq_true, Bool.or_eq_true, Bool.and_eq_false_imp, Bool.or_eq_false_iff, ne_eq, Decidable.not_not] at hc) <;> conv => whnf)
        | (intro ysK hysK; have hysl := congrArg List.length hysK; (try simp only [List.length_set, List.length_append, List.length_cons, List.length_nil, List.length_take, List.length_drop, List.length_replicate] at hysl); conv => whnf)
        | (intro bK hbK; have hbl := congrArg ByteArray.size hbK; conv => whnf)
        | (intro sK hsK; conv => whnf)
        | (refine And.intro (by first | (first | exact True.intro | exact hsa) | exact True.intro | exact ⟨rfl, True.intro, fun _ _ => rfl⟩ | exact Nat.le_of_ble_eq_true rfl | (refine ⟨by (try simp only [List.length_cons, List.length_nil]); omega, Int.le_trans (Int.mul_le_mul_of_nonneg_left (show (TInfo.bytes _ : Int) ≤ 64 from Int.ofNat_le.2 (Nat.le_of_ble_eq_true rfl)) (by omega)) (by (try simp only [List.length_cons, List.length_nil]); omega)⟩)) ?_; conv => whnf)))
      exact leafXr (hk ((sK.1, x.1.2), _, _) hsK) (leafX rfl (Nat.le_refl _) rfl rfl (fun B h => by simp only [dens, AVal.den, h 0 (Nat.le_refl _), nthN]) rfl rfl)
    · rename_i x hx _ _
      exact leafXr (hk (x.1, _, _) hsK.2) (leafX rfl (Nat.le_refl _) rfl rfl (fun B h => by simp only [dens, AVal.den, h 0 (Nat.le_refl _), nthN]) rfl rfl)
/-- One leaf, from a code. -/
def dLfC : BCtr := fun hg rg lb lr vals k => match vals with
  | [.row i] => rowC bT (rg i) fun code => Bts code ∧ ∀ x : Lf, True → k none [] (lV x)
  | _ => False
abbrev GDl := (GOk.rcons from_ok (GOk.xcons lsp_ok .nil))
theorem dIm_ok : RCtrOk Try.prog 24 dLfC where
  enter := enter_ok Try.func24 (by kernel_rfl) rfl
  calls := by
    intro hg rg lb lr vals k h
    unfold dLfC at h
    split at h
    case h_2 => exact h.elim
    rename_i i
    obtain ⟨e, own, code, hi, h⟩ : ∃ e own, ∃ (xs : List Int), _ := rowC_inv h
    obtain ⟨hb, hk⟩ := h
    intro A w hB hR
    refine enter T_ok GDl Try.func24 rfl (K := (· < w.heap.size)) (fun _ h => h) (A := A.pick [] [i]) (vals := [.row 0]) (n0 := 1) (b0 := 0) (rows := [some ⟨bT, e, false, code⟩]) (hp := []) rfl (Nat.le_of_ble_eq_true rfl) no_box rfl (one_row (hR i _ hi)) rfl rfl (Nat.le_of_ble_eq_true rfl) ?_
    conv => whnf
    repeat (refine V_step T_ok GDl rfl ?_; conv => whnf)
    repeat (any_goals (first
      | (refine V_step T_ok GDl rfl ?_; conv => whnf)
      | (refine V_drawN T_ok GDl mixed (by kernel_rfl) ?_; conv => whnf)
      | (refine bcond_split (fun hc => ?_) (fun hc => ?_) <;> (try simp only [decide_eq_true_eq, decide_eq_false_iff_not, Bool.not_eq_true', Bool.not_eq_false', Bool.and_eq_true, Bool.or_eq_true, Bool.and_eq_false_imp, Bool.or_eq_false_iff, ne_eq, Decidable.not_not] at hc) <;> conv => whnf)
      | (intro ysK hysK; have hysl := congrArg List.length hysK; (try simp only [List.length_set, List.length_append, List.length_cons, List.length_nil, List.length_take, List.length_drop, List.length_replicate] at hysl); conv => whnf)
      | (intro bK hbK; have hbl := congrArg ByteArray.size hbK; conv => whnf)
      | (intro sK hsK; conv => whnf)
      | (refine And.intro (by first | (first | exact True.intro | exact hb | exact ⟨Int.le_refl _, hb⟩ | exact ⟨hsK, hb⟩) | exact True.intro | exact ⟨rfl, True.intro, fun _ _ => rfl⟩ | exact Nat.le_of_ble_eq_true rfl | (refine ⟨by (try simp only [List.length_cons, List.length_nil]); omega, Int.le_trans (Int.mul_le_mul_of_nonneg_left (show (TInfo.bytes _ : Int) ≤ 64 from Int.ofNat_le.2 (Nat.le_of_ble_eq_true rfl)) (by omega)) (by (try simp only [List.length_cons, List.length_nil]); omega)⟩)) ?_; conv => whnf)))
    exact leafRc (hk sK.1 True.intro) (leaf0 rfl rfl rfl)
theorem dLe_ok : RCtrOk Try.prog 26 dLfC where
  enter := enter_ok Try.func26 (by kernel_rfl) rfl
  calls := by
    intro hg rg lb lr vals k h
    unfold dLfC at h
    split at h
    case h_2 => exact h.elim
    rename_i i
    obtain ⟨e, own, code, hi, h⟩ : ∃ e own, ∃ (xs : List Int), _ := rowC_inv h
    obtain ⟨hb, hk⟩ := h
    intro A w hB hR
    refine enter T_ok GDl Try.func26 rfl (K := (· < w.heap.size)) (fun _ h => h) (A := A.pick [] [i]) (vals := [.row 0]) (n0 := 1) (b0 := 0) (rows := [some ⟨bT, e, false, code⟩]) (hp := []) rfl (Nat.le_of_ble_eq_true rfl) no_box rfl (one_row (hR i _ hi)) rfl rfl (Nat.le_of_ble_eq_true rfl) ?_
    conv => whnf
    repeat (refine V_step T_ok GDl rfl ?_; conv => whnf)
    repeat (any_goals (first
      | (refine V_step T_ok GDl rfl ?_; conv => whnf)
      | (refine V_drawN T_ok GDl mixed (by kernel_rfl) ?_; conv => whnf)
      | (refine bcond_split (fun hc => ?_) (fun hc => ?_) <;> (try simp only [decide_eq_true_eq, decide_eq_false_iff_not, Bool.not_eq_true', Bool.not_eq_false', Bool.and_eq_true, Bool.or_eq_true, Bool.and_eq_false_imp, Bool.or_eq_false_iff, ne_eq, Decidable.not_not] at hc) <;> conv => whnf)
      | (intro ysK hysK; have hysl := congrArg List.length hysK; (try simp only [List.length_set, List.length_append, List.length_cons, List.length_nil, List.length_take, List.length_drop, List.length_replicate] at hysl); conv => whnf)
      | (intro bK hbK; have hbl := congrArg ByteArray.size hbK; conv => whnf)
      | (intro sK hsK; conv => whnf)
      | (refine And.intro (by first | (first | exact True.intro | exact hb | exact ⟨Int.le_refl _, hb⟩ | exact ⟨hsK, hb⟩) | exact True.intro | exact ⟨rfl, True.intro, fun _ _ => rfl⟩ | exact Nat.le_of_ble_eq_true rfl | (refine ⟨by (try simp only [List.length_cons, List.length_nil]); omega, Int.le_trans (Int.mul_le_mul_of_nonneg_left (show (TInfo.bytes _ : Int) ≤ 64 from Int.ofNat_le.2 (Nat.le_of_ble_eq_true rfl)) (by omega)) (by (try simp only [List.length_cons, List.length_nil]); omega)⟩)) ?_; conv => whnf)))
    exact leafRc (hk sK.1 True.intro) (leaf0 rfl rfl rfl)
theorem dIs_ok : RCtrOk Try.prog 32 dLfC where
  enter := enter_ok Try.func32 (by kernel_rfl) rfl
  calls := by
    intro hg rg lb lr vals k h
    unfold dLfC at h
    split at h
    case h_2 => exact h.elim
    rename_i i
    obtain ⟨e, own, code, hi, h⟩ : ∃ e own, ∃ (xs : List Int), _ := rowC_inv h
    obtain ⟨hb, hk⟩ := h
    intro A w hB hR
    refine enter T_ok GDl Try.func32 rfl (K := (· < w.heap.size)) (fun _ h => h) (A := A.pick [] [i]) (vals := [.row 0]) (n0 := 1) (b0 := 0) (rows := [some ⟨bT, e, false, code⟩]) (hp := []) rfl (Nat.le_of_ble_eq_true rfl) no_box rfl (one_row (hR i _ hi)) rfl rfl (Nat.le_of_ble_eq_true rfl) ?_
    conv => whnf
    repeat (refine V_step T_ok GDl rfl ?_; conv => whnf)
    repeat (any_goals (first
      | (refine V_step T_ok GDl rfl ?_; conv => whnf)
      | (refine V_drawN T_ok GDl mixed (by kernel_rfl) ?_; conv => whnf)
      | (refine bcond_split (fun hc => ?_) (fun hc => ?_) <;> (try simp only [decide_eq_true_eq, decide_eq_false_iff_not, Bool.not_eq_true', Bool.not_eq_false', Bool.and_eq_true, Bool.or_eq_true, Bool.and_eq_false_imp, Bool.or_eq_false_iff, ne_eq, Decidable.not_not] at hc) <;> conv => whnf)
      | (intro ysK hysK; have hysl := congrArg List.length hysK; (try simp only [List.length_set, List.length_append, List.length_cons, List.length_nil, List.length_take, List.length_drop, List.length_replicate] at hysl); conv => whnf)
      | (intro bK hbK; have hbl := congrArg ByteArray.size hbK; conv => whnf)
      | (intro sK hsK; conv => whnf)
      | (refine And.intro (by first | (first | exact True.intro | exact hb | exact ⟨Int.le_refl _, hb⟩ | exact ⟨hsK, hb⟩) | exact True.intro | exact ⟨rfl, True.intro, fun _ _ => rfl⟩ | exact Nat.le_of_ble_eq_true rfl | (refine ⟨by (try simp only [List.length_cons, List.length_nil]); omega, Int.le_trans (Int.mul_le_mul_of_nonneg_left (show (TInfo.bytes _ : Int) ≤ 64 from Int.ofNat_le.2 (Nat.le_of_ble_eq_true rfl)) (by omega)) (by (try simp only [List.length_cons, List.length_nil]); omega)⟩)) ?_; conv => whnf)))
    exact leafRc (hk sK.1 True.intro) (leaf0 rfl rfl rfl)
/-- Two leaves, from a code. -/
def dL2C : BCtr := fun hg rg lb lr vals k => match vals with
  | [.row i] => rowC bT (rg i) fun code => Bts code ∧ ∀ x : Lf × Lf, True → k none [] (.tup [lV x.1, lV x.2])
  | _ => False
theorem dCr_ok : RCtrOk Try.prog 14 dL2C where
  enter := enter_ok Try.func14 (by kernel_rfl) rfl
  calls := by
    intro hg rg lb lr vals k h
    unfold dL2C at h
    split at h
    case h_2 => exact h.elim
    rename_i i
    obtain ⟨e, own, code, hi, h⟩ : ∃ e own, ∃ (xs : List Int), _ := rowC_inv h
    obtain ⟨hb, hk⟩ := h
    intro A w hB hR
    refine enter T_ok GDl Try.func14 rfl (K := (· < w.heap.size)) (fun _ h => h) (A := A.pick [] [i]) (vals := [.row 0]) (n0 := 1) (b0 := 0) (rows := [some ⟨bT, e, false, code⟩]) (hp := []) rfl (Nat.le_of_ble_eq_true rfl) no_box rfl (one_row (hR i _ hi)) rfl rfl (Nat.le_of_ble_eq_true rfl) ?_
    conv => whnf
    repeat (refine V_step T_ok GDl rfl ?_; conv => whnf)
    repeat (any_goals (first
      | (refine V_step T_ok GDl rfl ?_; conv => whnf)
      | (refine V_drawN T_ok GDl mixed (by kernel_rfl) ?_; conv => whnf)
      | (refine bcond_split (fun hc => ?_) (fun hc => ?_) <;> (try simp only [decide_eq_true_eq, decide_eq_false_iff_not, Bool.not_eq_true', Bool.not_eq_false', Bool.and_eq_true, Bool.or_eq_true, Bool.and_eq_false_imp, Bool.or_eq_false_iff, ne_eq, Decidable.not_not] at hc) <;> conv => whnf)
      | (intro ysK hysK; have hysl := congrArg List.length hysK; (try simp only [List.length_set, List.length_append, List.length_cons, List.length_nil, List.length_take, List.length_drop, List.length_replicate] at hysl); conv => whnf)
      | (intro bK hbK; have hbl := congrArg ByteArray.size hbK; conv => whnf)
      | (intro sK hsK; conv => whnf)
      | (refine And.intro (by first | (first | exact True.intro | exact hb | exact ⟨Int.le_refl _, hb⟩ | exact ⟨hsK, hb⟩) | exact True.intro | exact ⟨rfl, True.intro, fun _ _ => rfl⟩ | exact Nat.le_of_ble_eq_true rfl | (refine ⟨by (try simp only [List.length_cons, List.length_nil]); omega, Int.le_trans (Int.mul_le_mul_of_nonneg_left (show (TInfo.bytes _ : Int) ≤ 64 from Int.ofNat_le.2 (Nat.le_of_ble_eq_true rfl)) (by omega)) (by (try simp only [List.length_cons, List.length_nil]); omega)⟩)) ?_; conv => whnf)))
    rename_i z hz
    exact leafRc (hk (z.1, sK.1) True.intro) (leaf0 rfl rfl rfl)
/-- Two angles, from a code. -/
def dA2C3 : BCtr := fun hg rg lb lr vals k => match vals with
  | [.row i] => rowC bT (rg i) fun code => Bts code ∧ ∀ x : Ang × Ang, True → k none [] (.tup [.agg [.int .i64 x.1.1, .int .i64 x.1.2], .agg [.int .i64 x.2.1, .int .i64 x.2.2]])
  | _ => False
abbrev GDa := (GOk.rcons from_ok (GOk.xcons next_ok (GOk.xcons spoil_ok .nil)))
theorem dLo_ok : RCtrOk Try.prog 29 dA2C3 where
  enter := enter_ok Try.func29 (by kernel_rfl) rfl
  calls := by
    intro hg rg lb lr vals k h
    unfold dA2C3 at h
    split at h
    case h_2 => exact h.elim
    rename_i i
    obtain ⟨e, own, code, hi, h⟩ : ∃ e own, ∃ (xs : List Int), _ := rowC_inv h
    obtain ⟨hb, hk⟩ := h
    intro A w hB hR
    refine enter T_ok GDa Try.func29 rfl (K := (· < w.heap.size)) (fun _ h => h) (A := A.pick [] [i]) (vals := [.row 0]) (n0 := 1) (b0 := 0) (rows := [some ⟨bT, e, false, code⟩]) (hp := []) rfl (Nat.le_of_ble_eq_true rfl) no_box rfl (one_row (hR i _ hi)) rfl rfl (Nat.le_of_ble_eq_true rfl) ?_
    conv => whnf
    repeat (refine V_step T_ok GDa rfl ?_; conv => whnf)
    repeat (any_goals (first
      | (refine V_step T_ok GDa rfl ?_; conv => whnf)
      | (refine V_drawN T_ok GDa mixed (by kernel_rfl) ?_; conv => whnf)
      | (refine bcond_split (fun hc => ?_) (fun hc => ?_) <;> (try simp only [decide_eq_true_eq, decide_eq_false_iff_not, Bool.not_eq_true', Bool.not_eq_false', Bool.and_eq_true, Bool.or_eq_true, Bool.and_eq_false_imp, Bool.or_eq_false_iff, ne_eq, Decidable.not_not] at hc) <;> conv => whnf)
      | (intro ysK hysK; have hysl := congrArg List.length hysK; (try simp only [List.length_set, List.length_append, List.length_cons, List.length_nil, List.length_take, List.length_drop, List.length_replicate] at hysl); conv => whnf)
      | (intro bK hbK; have hbl := congrArg ByteArray.size hbK; conv => whnf)
      | (intro sK hsK; conv => whnf)
      | (refine And.intro (by first | (first | exact True.intro | exact hb | exact ⟨Int.le_refl _, hb⟩ | exact ⟨hsK, hb⟩ | exact ⟨hsK.2, hb⟩) | exact True.intro | exact ⟨rfl, True.intro, fun _ _ => rfl⟩ | exact Nat.le_of_ble_eq_true rfl | (refine ⟨by (try simp only [List.length_cons, List.length_nil]); omega, Int.le_trans (Int.mul_le_mul_of_nonneg_left (show (TInfo.bytes _ : Int) ≤ 64 from Int.ofNat_le.2 (Nat.le_of_ble_eq_true rfl)) (by omega)) (by (try simp only [List.length_cons, List.length_nil]); omega)⟩)) ?_; conv => whnf)))
    · rename_i t ht u hu
      exact leafRc (hk (t.1, t.1) True.intro) (leaf0 rfl rfl rfl)
    · rename_i t ht u hu
      exact leafRc (hk (t.1, u.1) True.intro) (leaf0 rfl rfl rfl)
abbrev GPb := (GOk.rcons from_ok (GOk.xcons next_ok (GOk.xcons lsp_ok (GOk.xcons drw_ok (GOk.cons sOf_ok (GOk.cons sLeafOf_ok (GOk.cons sIsL_ok (GOk.cons sIs_ok (GOk.cons sDouble_ok .nil)))))))))
theorem dPb_ok : RCtrOk Try.prog 19 dL2C where
  enter := enter_ok Try.func19 (by kernel_rfl) rfl
  calls := by
    intro hg rg lb lr vals k h
    unfold dL2C at h
    split at h
    case h_2 => exact h.elim
    rename_i i
    obtain ⟨e, own, code, hi, h⟩ : ∃ e own, ∃ (xs : List Int), _ := rowC_inv h
    obtain ⟨hb, hk⟩ := h
    intro A w hB hR
    refine enter T_ok GPb Try.func19 rfl (K := (· < w.heap.size)) (fun _ h => h) (A := A.pick [] [i]) (vals := [.row 0]) (n0 := 1) (b0 := 0) (rows := [some ⟨bT, e, false, code⟩]) (hp := []) rfl (Nat.le_of_ble_eq_true rfl) no_box rfl (one_row (hR i _ hi)) rfl rfl (Nat.le_of_ble_eq_true rfl) ?_
    conv => whnf
    repeat (refine V_step T_ok GPb rfl ?_; conv => whnf)
    repeat (any_goals (first
      | (refine V_step T_ok GPb rfl ?_; conv => whnf)
      | (refine V_drawN T_ok GPb mixed (by kernel_rfl) ?_; conv => whnf)
      | (refine bcond_split (fun hc => ?_) (fun hc => ?_) <;> (try simp only [decide_eq_true_eq, decide_eq_false_iff_not, Bool.not_eq_true', Bool.not_eq_false', Bool.and_eq_true, Bool.or_eq_true, Bool.and_eq_false_imp, Bool.or_eq_false_iff, ne_eq, Decidable.not_not] at hc) <;> conv => whnf)
      | (intro ysK hysK; have hysl := congrArg List.length hysK; (try simp only [List.length_set, List.length_append, List.length_cons, List.length_nil, List.length_take, List.length_drop, List.length_replicate] at hysl); conv => whnf)
      | (intro bK hbK; have hbl := congrArg ByteArray.size hbK; conv => whnf)
      | (intro sK hsK; conv => whnf)
      | (refine And.intro (by first | (first | exact True.intro | exact hb | exact ⟨Int.le_refl _, hb⟩ | exact ⟨hsK, hb⟩ | exact ⟨hsK.2, hb⟩) | exact True.intro | exact ⟨rfl, True.intro, fun _ _ => rfl⟩ | exact Nat.le_of_ble_eq_true rfl | (refine ⟨by (try simp only [List.length_cons, List.length_nil]); omega, Int.le_trans (Int.mul_le_mul_of_nonneg_left (show (TInfo.bytes _ : Int) ≤ 64 from Int.ofNat_le.2 (Nat.le_of_ble_eq_true rfl)) (by omega)) (by (try simp only [List.length_cons, List.length_nil]); omega)⟩)) ?_; conv => whnf)))
    have hd := hsK.1
    have hxs := hsK.1.sm
    unfold SmD at hd
    have g1 := ofQ_bd (2 * sK.1.1 + sK.1.2) (2 * sK.1.2) (by omega)
    have hs : Sm (ofQ (2 * sK.1.1 + sK.1.2) (2 * sK.1.2)) := by unfold Sm; omega
    have r1 : Rng .i64 (2 * sK.1.1) := by simp only [Rng]; omega
    have r2 : Rng .i64 (2 * sK.1.1 + sK.1.2) := by simp only [Rng]; omega
    have r3 : Rng .i64 (2 * sK.1.2) := by simp only [Rng]; omega
    have r4 : (0 < 2 * sK.1.2 ∧ 2 * sK.1.2 ≤ 4611686018427387904) ∧ -4611686018427387904 ≤ 2 * sK.1.1 + sK.1.2 ∧ 2 * sK.1.1 + sK.1.2 ≤ 4611686018427387904 := by omega
    have hab : Bd (sK.1.1, sK.1.2) ∧ Bd (ofQ (2 * sK.1.1 + sK.1.2) (2 * sK.1.2)) := ⟨hxs.bd, hs.bd⟩
    have hs0 : 0 ≤ sK.2.1 := hsK.2
    repeat (any_goals (first
      | (refine V_step T_ok GPb rfl ?_; conv => whnf)
      | (refine V_drawN T_ok GPb mixed (by kernel_rfl) ?_; conv => whnf)
      | (refine bcond_split (fun hc => ?_) (fun hc => ?_) <;> (try simp only [decide_eq_true_eq, decide_eq_false_iff_not, Bool.not_eq_true', Bool.not_eq_false', Bool.and_eq_true, Bool.or_eq_true, Bool.and_eq_false_imp, Bool.or_eq_false_iff, ne_eq, Decidable.not_not] at hc) <;> conv => whnf)
      | (intro ysK hysK; have hysl := congrArg List.length hysK; (try simp only [List.length_set, List.length_append, List.length_cons, List.length_nil, List.length_take, List.length_drop, List.length_replicate] at hysl); conv => whnf)
      | (intro bK hbK; have hbl := congrArg ByteArray.size hbK; conv => whnf)
      | (intro sK hsK; conv => whnf)
      | (refine And.intro (by first | (first | exact True.intro | exact r1 | exact r2 | exact r3 | exact r4 | exact hab | exact ⟨hs0, hb⟩ | exact ⟨hsK.2, hb⟩ | exact ⟨hsK, hb⟩ | exact (IsL.sm (by assumption)).1.bd | exact ⟨(IsL.sm (by assumption)).1.double.bd, (IsA.sm (by assumption)).bd⟩) | exact True.intro | exact ⟨rfl, True.intro, fun _ _ => rfl⟩ | exact Nat.le_of_ble_eq_true rfl | (refine ⟨by (try simp only [List.length_cons, List.length_nil]); omega, Int.le_trans (Int.mul_le_mul_of_nonneg_left (show (TInfo.bytes _ : Int) ≤ 64 from Int.ofNat_le.2 (Nat.le_of_ble_eq_true rfl)) (by omega)) (by (try simp only [List.length_cons, List.length_nil]); omega)⟩)) ?_; conv => whnf)))
    all_goals exact leafRc (hk (((_, _), (_, _)), ((_, _), (_, _))) True.intro) (leaf0 rfl rfl rfl)
end Go.Proofs.Ytadlnnjgocknhac.Fw
-- %intro
