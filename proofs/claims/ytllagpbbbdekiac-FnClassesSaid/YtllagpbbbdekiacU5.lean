/- Contracts: what is drawn from a code for classes. -/
import Derived.Test.YtllagpbbbdekiacU2
namespace Go.Proofs.Ytllagpbbbdekiac.Fw
open Go Go.RowKit
set_option linter.unusedVariables false
set_option linter.unusedSimpArgs false
set_option maxRecDepth 100000
set_option maxHeartbeats 2000000
def draw10C : XCtr := fun hg rg vals k => match vals with
  | [.loc j 0] => srcX hg rg j fun r => True ∧ ∀ x : (Ang × Int) × Int × Int, ((-4611686018427387904 ≤ x.1.2 ∧ x.1.2 ≤ 4611686018427387905) ∧ 0 ≤ x.2.1) → k j [.row r, .int .i64 x.2.1, .int .u64 x.2.2] (.tup [.agg [.int .i64 x.1.1.1, .int .i64 x.1.1.2], .int .i64 x.1.2])
  | _ => False
abbrev GU10 := (GOk.xcons near_ok (GOk.xcons pick_ok (GOk.xcons spoil_ok .nil)))
theorem draw10_ok : XCtrOk Try.prog 24 draw10C where
  enter := enter_ok Try.func24 (by kernel_rfl) rfl
  calls := by
    intro hg rg vals k h
    unfold draw10C at h
    split at h
    case h_2 => exact h.elim
    rename_i j
    obtain ⟨r, a, h0, e, own, code, hi, hr, ⟨ha, hb⟩, _, hk⟩ := srcX_inv h
    have hw : ∃ cs v, k j cs v := ⟨_, _, hk (((0, 1), 0), a, 0) ⟨⟨by show (-4611686018427387904 : Int) ≤ 0; decide, by show (0 : Int) ≤ 4611686018427387905; decide⟩, ha⟩⟩
    refine ⟨_, _, hw, hi, fun A w hX => ?_⟩
    refine enterX T_ok GU10 Try.func24 rfl (w := w) (A := A.pick [j] [r]) (vals := [.loc 0 0]) (n0 := 1) (b0 := 1) (rows := [some ⟨bT, e, false, code⟩]) (hp := [some [.row 0, .int .i64 a, .int .u64 h0]]) rfl (Nat.le_of_ble_eq_true rfl) (hX.one hi hr rfl rfl) rfl one_ro rfl rfl (Nat.le_of_ble_eq_true rfl) ?_
    conv => whnf
    repeat (refine V_step T_ok GU10 rfl ?_; conv => whnf)
    repeat (any_goals (first
      | (refine V_step T_ok GU10 rfl ?_; conv => whnf)
      | (refine V_drawA T_ok GU10 mixed (by kernel_rfl) ?_; conv => whnf)
      | (refine bcond_split (fun hc => ?_) (fun hc => ?_) <;> (try simp only [decide_eq_true_eq, decide_eq_false_iff_not, Bool.not_eq_true', Bool.not_eq_false', Bool.and_eq_true, Bool.or_eq_true, Bool.and_eq_false_imp, Bool.or_eq_false_iff, ne_eq, Decidable.not_not] at hc) <;> conv => whnf)
      | (intro ysK hysK; have hysl := congrArg List.length hysK; (try simp only [List.length_set, List.length_append, List.length_cons, List.length_nil, List.length_take, List.length_drop, List.length_replicate] at hysl); conv => whnf)
      | (intro bK hbK; have hbl := congrArg ByteArray.size hbK; conv => whnf)
      | (intro sK hsK; conv => whnf)
      | (refine And.intro (by first | (first | exact True.intro | exact ⟨ha, hb⟩ | exact ⟨hsK.2, hb⟩ | exact ⟨hsK, hb⟩ | (simp only [List.length_cons, List.length_nil]; omega) | omega) | exact True.intro | exact ⟨rfl, True.intro, fun _ _ => rfl⟩ | exact Nat.le_of_ble_eq_true rfl | (refine ⟨by (try simp only [List.length_cons, List.length_nil]); omega, Int.le_trans (Int.mul_le_mul_of_nonneg_left (show (TInfo.bytes _ : Int) ≤ 64 from Int.ofNat_le.2 (Nat.le_of_ble_eq_true rfl)) (by omega)) (by (try simp only [List.length_cons, List.length_nil]); omega)⟩)) ?_; conv => whnf)))
    have hm : -4611686018427387904 ≤ sK.1 ∧ sK.1 ≤ 4611686018427387905 := by
      have h1 := hsK.1
      simp only [List.mem_cons, List.not_mem_nil, or_false] at h1
      omega
    exact leafXr (hk (((_, _), _), _, _) ⟨hm, hsK.2⟩) (leafX rfl (Nat.le_refl _) rfl rfl (fun B h => by simp only [dens, AVal.den, h 0 (Nat.le_refl _), nthN]) rfl rfl)
def dClsC : BCtr := fun hg rg lb lr vals k => match vals with
  | [.row i] => rowC bT (rg i) fun code => Bts code ∧ ∀ x : Ang × Int, True → k none [] (.tup [.agg [.int .i64 x.1.1, .int .i64 x.1.2], .int .i64 x.2])
  | _ => False
abbrev GUc := (GOk.rcons from_ok (GOk.xcons draw10_ok .nil))
theorem dCls_ok : RCtrOk Try.prog 5 dClsC where
  enter := enter_ok Try.func5 (by kernel_rfl) rfl
  calls := by
    intro hg rg lb lr vals k h
    unfold dClsC at h
    split at h
    case h_2 => exact h.elim
    rename_i i
    obtain ⟨e, own, code, hi, h⟩ : ∃ e own, ∃ (xs : List Int), _ := rowC_inv h
    obtain ⟨hb, hk⟩ := h
    intro A w hB hR
    refine enter T_ok GUc Try.func5 rfl (K := (· < w.heap.size)) (fun _ h => h) (A := A.pick [] [i]) (vals := [.row 0]) (n0 := 1) (b0 := 0) (rows := [some ⟨bT, e, false, code⟩]) (hp := []) rfl (Nat.le_of_ble_eq_true rfl) no_box rfl (one_row (hR i _ hi)) rfl rfl (Nat.le_of_ble_eq_true rfl) ?_
    conv => whnf
    repeat (refine V_step T_ok GUc rfl ?_; conv => whnf)
    repeat (any_goals (first
      | (refine V_step T_ok GUc rfl ?_; conv => whnf)
      | (refine V_drawN T_ok GUc mixed (by kernel_rfl) ?_; conv => whnf)
      | (refine bcond_split (fun hc => ?_) (fun hc => ?_) <;> (try simp only [decide_eq_true_eq, decide_eq_false_iff_not, Bool.not_eq_true', Bool.not_eq_false', Bool.and_eq_true, Bool.or_eq_true, Bool.and_eq_false_imp, Bool.or_eq_false_iff, ne_eq, Decidable.not_not] at hc) <;> conv => whnf)
      | (intro ysK hysK; have hysl := congrArg List.length hysK; (try simp only [List.length_set, List.length_append, List.length_cons, List.length_nil, List.length_take, List.length_drop, List.length_replicate] at hysl); conv => whnf)
      | (intro bK hbK; have hbl := congrArg ByteArray.size hbK; conv => whnf)
      | (intro sK hsK; conv => whnf)
      | (refine And.intro (by first | (first | exact True.intro | exact hb | exact ⟨Int.le_refl _, hb⟩ | exact ⟨hsK, hb⟩) | exact True.intro | exact ⟨rfl, True.intro, fun _ _ => rfl⟩ | exact Nat.le_of_ble_eq_true rfl | (refine ⟨by (try simp only [List.length_cons, List.length_nil]); omega, Int.le_trans (Int.mul_le_mul_of_nonneg_left (show (TInfo.bytes _ : Int) ≤ 64 from Int.ofNat_le.2 (Nat.le_of_ble_eq_true rfl)) (by omega)) (by (try simp only [List.length_cons, List.length_nil]); omega)⟩)) ?_; conv => whnf)))
    exact leafRc (hk ((_, _), _) True.intro) (leaf0 rfl rfl rfl)
def oppC : PCtr := fun _ _ _ vals k => match vals with
  | [.agg [.int .i64 n, .int .i64 d]] => IsA (n, d) ∧ k [] (.agg [.int .i64 (ofQ (-n) d).1, .int .i64 (ofQ (-n) d).2])
  | _ => False
theorem opp_ok : PCtrOk Try.prog 35 oppC where
  enter := enter_ok Try.func35 (by kernel_rfl) rfl
  calls := by
    intro hg rg lr vals k h
    unfold oppC at h
    split at h
    case h_2 => exact h.elim
    rename_i n d
    obtain ⟨hs, hk⟩ := h
    refine ⟨_, _, hk, fun A w _ _ => ?_⟩
    refine enter T_ok (GOk.cons sOf_ok .nil) Try.func35 rfl (K := (· < w.heap.size)) (fun _ h => h) (A := A) (n0 := 0) (b0 := 0) (rows := []) (hp := []) rfl (Nat.zero_le _) (fun k r h => by cases h) rfl (fun k r h => by cases h) rfl rfl (Nat.le_of_ble_eq_true rfl) ?_
    conv => whnf
    repeat (refine V_step T_ok (GOk.cons sOf_ok .nil) rfl ?_; conv => whnf)
    have h1 := hs.1
    have h2 := hs.2.1
    repeat (any_goals (first
      | (refine V_step T_ok (GOk.cons sOf_ok .nil) rfl ?_; conv => whnf)
      | (refine V_drawA T_ok (GOk.cons sOf_ok .nil) mixed (by kernel_rfl) ?_; conv => whnf)
      | (refine bcond_split (fun hc => ?_) (fun hc => ?_) <;> (try simp only [decide_eq_true_eq, decide_eq_false_iff_not, Bool.not_eq_true', Bool.not_eq_false', Bool.and_eq_true, Bool.or_eq_true, Bool.and_eq_false_imp, Bool.or_eq_false_iff, ne_eq, Decidable.not_not] at hc) <;> conv => whnf)
      | (intro ysK hysK; have hysl := congrArg List.length hysK; (try simp only [List.length_set, List.length_append, List.length_cons, List.length_nil, List.length_take, List.length_drop, List.length_replicate] at hysl); conv => whnf)
      | (intro bK hbK; have hbl := congrArg ByteArray.size hbK; conv => whnf)
      | (intro sK hsK; conv => whnf)
      | (refine And.intro (by first | (first | exact True.intro | (simp only [Rng]; omega) | omega) | exact True.intro | exact ⟨rfl, True.intro, fun _ _ => rfl⟩ | exact Nat.le_of_ble_eq_true rfl | (refine ⟨by (try simp only [List.length_cons, List.length_nil]); omega, Int.le_trans (Int.mul_le_mul_of_nonneg_left (show (TInfo.bytes _ : Int) ≤ 64 from Int.ofNat_le.2 (Nat.le_of_ble_eq_true rfl)) (by omega)) (by (try simp only [List.length_cons, List.length_nil]); omega)⟩)) ?_; conv => whnf)))
    all_goals exact leaf0 rfl rfl rfl
def dJocC : BCtr := fun hg rg lb lr vals k => match vals with
  | [.row i] => rowC bT (rg i) fun code => Bts code ∧ ∀ x : Ang × Ang × Int, (-4611686018427387904 ≤ x.2.2 ∧ x.2.2 ≤ 4611686018427387905) → k none [] (.tup [.agg [.int .i64 x.1.1, .int .i64 x.1.2], .agg [.int .i64 x.2.1.1, .int .i64 x.2.1.2], .int .i64 x.2.2])
  | _ => False
abbrev GUj := (GOk.rcons from_ok (GOk.xcons draw10_ok (GOk.xcons spoil_ok (GOk.xcons next_ok (GOk.cons sIs_ok (GOk.cons opp_ok .nil))))))
theorem dJoc_ok : RCtrOk Try.prog 9 dJocC where
  enter := enter_ok Try.func9 (by kernel_rfl) rfl
  calls := by
    intro hg rg lb lr vals k h
    unfold dJocC at h
    split at h
    case h_2 => exact h.elim
    rename_i i
    obtain ⟨e, own, code, hi, h⟩ : ∃ e own, ∃ (xs : List Int), _ := rowC_inv h
    obtain ⟨hb, hk⟩ := h
    intro A w hB hR
    refine enter T_ok GUj Try.func9 rfl (K := (· < w.heap.size)) (fun _ h => h) (A := A.pick [] [i]) (vals := [.row 0]) (n0 := 1) (b0 := 0) (rows := [some ⟨bT, e, false, code⟩]) (hp := []) rfl (Nat.le_of_ble_eq_true rfl) no_box rfl (one_row (hR i _ hi)) rfl rfl (Nat.le_of_ble_eq_true rfl) ?_
    conv => whnf
    repeat (refine V_step T_ok GUj rfl ?_; conv => whnf)
    repeat (any_goals (first
      | (refine V_step T_ok GUj rfl ?_; conv => whnf)
      | (refine V_drawN T_ok GUj mixed (by kernel_rfl) ?_; conv => whnf)
      | (refine bcond_split (fun hc => ?_) (fun hc => ?_) <;> (try simp only [decide_eq_true_eq, decide_eq_false_iff_not, Bool.not_eq_true', Bool.not_eq_false', Bool.and_eq_true, Bool.or_eq_true, Bool.and_eq_false_imp, Bool.or_eq_false_iff, ne_eq, Decidable.not_not] at hc) <;> conv => whnf)
      | (intro ysK hysK; have hysl := congrArg List.length hysK; (try simp only [List.length_set, List.length_append, List.length_cons, List.length_nil, List.length_take, List.length_drop, List.length_replicate] at hysl); conv => whnf)
      | (intro bK hbK; have hbl := congrArg ByteArray.size hbK; conv => whnf)
      | (intro sK hsK; conv => whnf)
      | (refine And.intro (by first | (first | exact True.intro | exact hb | exact ⟨Int.le_refl _, hb⟩ | exact ⟨hsK, hb⟩ | exact ⟨hsK.2, hb⟩ | (with_reducible assumption)) | exact True.intro | exact ⟨rfl, True.intro, fun _ _ => rfl⟩ | exact Nat.le_of_ble_eq_true rfl | (refine ⟨by (try simp only [List.length_cons, List.length_nil]); omega, Int.le_trans (Int.mul_le_mul_of_nonneg_left (show (TInfo.bytes _ : Int) ≤ 64 from Int.ofNat_le.2 (Nat.le_of_ble_eq_true rfl)) (by omega)) (by (try simp only [List.length_cons, List.length_nil]); omega)⟩)) ?_; conv => whnf)))
    · rename_i _ _ q hq _ _ _
      exact leafRc (hk (q.1.1, ofQ (-q.1.1.1) q.1.1.2, q.1.2) hq.1) (leaf0 rfl rfl rfl)
    · rename_i _ _ q hq u hu _
      exact leafRc (hk (q.1.1, u.1, q.1.2) hq.1) (leaf0 rfl rfl rfl)
    · rename_i _ _ q hq u hu
      exact leafRc (hk (q.1.1, u.1, q.1.2) hq.1) (leaf0 rfl rfl rfl)
end Go.Proofs.Ytllagpbbbdekiac.Fw
