/- Contracts: lists of leaves compared; plain facts of leaves. -/
import Derived.Test.YtadlnnjgocknhacJ3
namespace Go.Proofs.Ytadlnnjgocknhac.Fw
open Go Go.RowKit
set_option linter.unusedVariables false
set_option linter.unusedSimpArgs false
set_option maxRecDepth 100000
set_option maxHeartbeats 4000000

theorem list_eqA {α : Type} {l m : List α} (d : α) (h : l.length = m.length) (he : ∀ i, i < l.length → l.getD i d = m.getD i d) : l = m := by
  refine List.ext_getElem h fun i h1 h2 => ?_
  have := he i h1
  rwa [List.getD_eq_getElem?_getD, List.getD_eq_getElem?_getD, List.getElem?_eq_getElem h1, List.getElem?_eq_getElem h2] at this
def bigC : PCtr := fun _ rg _ vals k => match vals with
  | [.row i] => rowC bT (rg i) fun xs => True ∧ k [] (.bool (decide (4096 < (List.length (α := Int) xs : Int))))
  | _ => False
theorem big_ok : PCtrOk Try.prog 13 bigC where
  enter := enter_ok Try.func13 (by kernel_rfl) rfl
  calls := by
    intro hg rg lr vals k h
    unfold bigC at h
    split at h
    case h_2 => exact h.elim
    rename_i i
    obtain ⟨e, own, xs, hi, h⟩ : ∃ e own, ∃ (xs : List Int), _ := rowC_inv h
    have hk := h.2
    refine ⟨_, _, hk, fun A w hB hR => ?_⟩
    refine enter T_ok .nil Try.func13 rfl (K := (· < w.heap.size)) (fun _ h => h) (A := A.pick [] [i]) (vals := [.row 0]) (n0 := 0) (b0 := 0) (rows := [some ⟨bT, e, false, xs⟩]) (hp := []) rfl (Nat.zero_le _) no_box rfl (one_row (hR i _ hi)) rfl rfl (Nat.le_of_ble_eq_true rfl) ?_
    conv => whnf
    repeat (refine V_step T_ok .nil rfl ?_; conv => whnf)
    repeat (any_goals (first
      | (refine V_step T_ok .nil rfl ?_; conv => whnf)
      | (refine V_drawA T_ok .nil mixed (by kernel_rfl) ?_; conv => whnf)
      | (refine bcond_split (fun hc => ?_) (fun hc => ?_) <;> (try simp only [decide_eq_true_eq, decide_eq_false_iff_not, Bool.not_eq_true', Bool.not_eq_false', Bool.and_eq_true, Bool.or_eq_true, Bool.and_eq_false_imp, Bool.or_eq_false_iff, ne_eq, Decidable.not_not] at hc) <;> conv => whnf)
      | (intro ysK hysK; have hysl := congrArg List.length hysK; (try simp only [List.length_set, List.length_append, List.length_cons, List.length_nil, List.length_take, List.length_drop, List.length_replicate] at hysl); conv => whnf)
      | (intro bK hbK; have hbl := congrArg ByteArray.size hbK; conv => whnf)
      | (intro sK hsK; conv => whnf)
      | (refine And.intro (by first | exact True.intro | (with_reducible assumption) | omega | (simp only [Rng]; omega) | exact Nat.le_of_ble_eq_true rfl | exact True.intro | exact ⟨rfl, True.intro, fun _ _ => rfl⟩ | exact Nat.le_of_ble_eq_true rfl | (refine ⟨by (try simp only [List.length_cons, List.length_nil]); omega, Int.le_trans (Int.mul_le_mul_of_nonneg_left (show (TInfo.bytes _ : Int) ≤ 64 from Int.ofNat_le.2 (Nat.le_of_ble_eq_true rfl)) (by omega)) (by (try simp only [List.length_cons, List.length_nil]); omega)⟩)) ?_; conv => whnf)))
    all_goals exact leaf0 rfl rfl rfl
theorem sIsLf_ok : PCtrOk Try.prog 18 isLeafC where
  enter := enter_ok Try.func18 (by kernel_rfl) rfl
  calls := by
    intro hg rg lr vals k h
    unfold isLeafC at h
    split at h
    case h_2 => exact h.elim
    rename_i n d m e
    obtain ⟨_, hk⟩ := h
    refine ⟨_, _, hk, fun A w _ _ => ?_⟩
    refine enter T_ok (GOk.cons sIsL_ok .nil) Try.func18 rfl (K := (· < w.heap.size)) (fun _ h => h) (A := A) (n0 := 0) (b0 := 0) (rows := []) (hp := []) rfl (Nat.zero_le _) (fun k r h => by cases h) rfl (fun k r h => by cases h) rfl rfl (Nat.le_of_ble_eq_true rfl) ?_
    conv => whnf
    repeat (refine V_step T_ok (GOk.cons sIsL_ok .nil) rfl ?_; conv => whnf)
    repeat (any_goals (first
      | (refine V_step T_ok (GOk.cons sIsL_ok .nil) rfl ?_; conv => whnf)
      | (refine V_drawA T_ok (GOk.cons sIsL_ok .nil) mixed (by kernel_rfl) ?_; conv => whnf)
      | (refine bcond_split (fun hc => ?_) (fun hc => ?_) <;> (try simp only [decide_eq_true_eq, decide_eq_false_iff_not, Bool.not_eq_true', Bool.not_eq_false', Bool.and_eq_true, Bool.or_eq_true, Bool.and_eq_false_imp, Bool.or_eq_false_iff, ne_eq, Decidable.not_not] at hc) <;> conv => whnf)
      | (intro ysK hysK; have hysl := congrArg List.length hysK; (try simp only [List.length_set, List.length_append, List.length_cons, List.length_nil, List.length_take, List.length_drop, List.length_replicate] at hysl); conv => whnf)
      | (intro bK hbK; have hbl := congrArg ByteArray.size hbK; conv => whnf)
      | (intro sK hsK; conv => whnf)
      | (refine And.intro (by first | exact True.intro | (with_reducible assumption) | omega | (simp only [Rng]; omega) | exact Nat.le_of_ble_eq_true rfl | exact True.intro | exact ⟨rfl, True.intro, fun _ _ => rfl⟩ | exact Nat.le_of_ble_eq_true rfl | (refine ⟨by (try simp only [List.length_cons, List.length_nil]); omega, Int.le_trans (Int.mul_le_mul_of_nonneg_left (show (TInfo.bytes _ : Int) ≤ 64 from Int.ofNat_le.2 (Nat.le_of_ble_eq_true rfl)) (by omega)) (by (try simp only [List.length_cons, List.length_nil]); omega)⟩)) ?_; conv => whnf)))
    all_goals exact leaf0 rfl rfl rfl
def eqL5 (xs ys : List Lf) : Bool := decide (xs = ys)
def eqLC5 : PCtr := fun _ rg _ vals k => match vals with
  | [.row i, .row j] => rowC lT (rg i) fun xs => rowC lT (rg j) fun ys => (List.length (α := Lf) xs ≤ 100000 ∧ List.length (α := Lf) ys ≤ 100000) ∧ k [] (.bool (eqL5 xs ys))
  | _ => False
theorem lvs5_ok : PCtrOk Try.prog 22 eqLC5 where
  enter := enter_ok Try.func22 (by kernel_rfl) rfl
  calls := by
    intro hg rg lr vals k h
    unfold eqLC5 at h
    split at h
    case h_2 => exact h.elim
    rename_i i j
    obtain ⟨e, own, xs, hi, h⟩ : ∃ e own, ∃ (xs : List Lf), _ := rowC_inv h
    obtain ⟨e2, own2, ys, hj, h⟩ : ∃ e own, ∃ (xs : List Lf), _ := rowC_inv h
    obtain ⟨⟨hx, hy⟩, hk⟩ := h
    refine ⟨_, _, hk, fun A w hB hR => ?_⟩
    refine enter T_ok .nil Try.func22 rfl (K := (· < w.heap.size)) (fun _ h => h) (A := A.pick [] [i, j]) (vals := [.row 0, .row 1]) (n0 := 0) (b0 := 0) (rows := [some ⟨lT, e, false, xs⟩, some ⟨lT, e2, false, ys⟩]) (hp := []) rfl (Nat.zero_le _) no_box rfl (two_rows (hR i _ hi) (hR j _ hj)) rfl rfl (Nat.le_of_ble_eq_true rfl) ?_
    conv => whnf
    repeat (refine V_step T_ok .nil rfl ?_; conv => whnf)
    have hx : List.length (α := (Int × Int) × Int × Int) xs ≤ 100000 := hx
    have hy : List.length (α := (Int × Int) × Int × Int) ys ≤ 100000 := hy
    repeat (any_goals (first
      | (refine V_step T_ok .nil rfl ?_; conv => whnf)
      | (refine V_drawA T_ok .nil mixed (by kernel_rfl) ?_; conv => whnf)
      | (refine bcond_split (fun hc => ?_) (fun hc => ?_) <;> (try simp only [decide_eq_true_eq, decide_eq_false_iff_not, Bool.not_eq_true', Bool.not_eq_false', Bool.and_eq_true, Bool.or_eq_true, Bool.and_eq_false_imp, Bool.or_eq_false_iff, ne_eq, Decidable.not_not] at hc) <;> conv => whnf)
      | (intro ysK hysK; have hysl := congrArg List.length hysK; (try simp only [List.length_set, List.length_append, List.length_cons, List.length_nil, List.length_take, List.length_drop, List.length_replicate] at hysl); conv => whnf)
      | (intro bK hbK; have hbl := congrArg ByteArray.size hbK; conv => whnf)
      | (intro sK hsK; conv => whnf)
      | (refine And.intro (by first | (first | exact True.intro | omega | (simp only [Rng]; omega)) | exact True.intro | exact ⟨rfl, True.intro, fun _ _ => rfl⟩ | exact Nat.le_of_ble_eq_true rfl | (refine ⟨by (try simp only [List.length_cons, List.length_nil]); omega, Int.le_trans (Int.mul_le_mul_of_nonneg_left (show (TInfo.bytes _ : Int) ≤ 64 from Int.ofNat_le.2 (Nat.le_of_ble_eq_true rfl)) (by omega)) (by (try simp only [List.length_cons, List.length_nil]); omega)⟩)) ?_; conv => whnf)))
    · refine leaf0 rfl (congrArg AVal.bool ?_) rfl
      have hc : ¬ (List.length (α := (Int × Int) × Int × Int) xs : Int) = (List.length (α := (Int × Int) × Int × Int) ys : Int) := hc
      exact (decide_eq_false (fun e => hc (by rw [e]))).symm
    · have hc : (List.length (α := (Int × Int) × Int × Int) xs : Int) = (List.length (α := (Int × Int) × Int × Int) ys : Int) := hc
      refine V_loopH (γ := Nat) (fun n => n ≤ List.length (α := (Int × Int) × Int × Int) xs ∧ ∀ j, j < n → xs.getD j zL = ys.getD j zL) (fun n => List.length (α := (Int × Int) × Int × Int) xs - n)
        (fun n => [(5, .int .i64 n)]) (fun _ => []) (fun _ => []) 0 ⟨Nat.zero_le _, fun j h => absurd h (Nat.not_lt_zero _)⟩ ?_ ?_
      · conv => whnf
        refine ⟨?_, by (conv => whnf); repeat (first | exact True.intro | (refine And.intro rfl ?_; conv => whnf)), by (conv => whnf); repeat (first | exact True.intro | (refine And.intro (by first | rfl | (subst_vars; rfl)) ?_; conv => whnf)), rfl, rfl, rfl, rfl, rfl, rfl, rfl, Nat.le_of_ble_eq_true rfl, Nat.le_of_ble_eq_true rfl⟩
        conv => whnf
        repeat (first | exact True.intro | (refine And.intro (by first | rfl | ((conv => whnf); exact congrArg (AVal.int .i64) (by omega)) | ((conv => whnf); exact congrArg (AVal.int .i64) (by simp only [Int.natCast_add, Int.natCast_one]; omega)) | ((conv => whnf); exact congrArg (AVal.irow _) (by first | omega | assumption | (simp only; omega)))) ?_; conv => whnf))
      · rintro n ⟨h1, h2⟩
        conv => whnf
        refine vcCode_sound T_ok .nil _ _ _ _ _ ?_
        conv => whnf
        repeat (refine V_step T_ok .nil rfl ?_; conv => whnf)
        repeat (any_goals (first
          | (refine V_step T_ok .nil rfl ?_; conv => whnf)
          | (refine V_drawA T_ok .nil mixed (by kernel_rfl) ?_; conv => whnf)
          | (refine bcond_split (fun hc => ?_) (fun hc => ?_) <;> (try simp only [decide_eq_true_eq, decide_eq_false_iff_not, Bool.not_eq_true', Bool.not_eq_false', Bool.and_eq_true, Bool.or_eq_true, Bool.and_eq_false_imp, Bool.or_eq_false_iff, ne_eq, Decidable.not_not] at hc) <;> conv => whnf)
          | (intro ysK hysK; have hysl := congrArg List.length hysK; (try simp only [List.length_set, List.length_append, List.length_cons, List.length_nil, List.length_take, List.length_drop, List.length_replicate] at hysl); conv => whnf)
          | (intro bK hbK; have hbl := congrArg ByteArray.size hbK; conv => whnf)
          | (intro sK hsK; conv => whnf)
          | (refine And.intro (by first | (first | exact True.intro | omega | (simp only [Rng]; omega)) | exact True.intro | exact ⟨rfl, True.intro, fun _ _ => rfl⟩ | exact Nat.le_of_ble_eq_true rfl | (refine ⟨by (try simp only [List.length_cons, List.length_nil]); omega, Int.le_trans (Int.mul_le_mul_of_nonneg_left (show (TInfo.bytes _ : Int) ≤ 64 from Int.ofNat_le.2 (Nat.le_of_ble_eq_true rfl)) (by omega)) (by (try simp only [List.length_cons, List.length_nil]); omega)⟩)) ?_; conv => whnf)))
        · rename_i hlt
          have hq : ¬ xs.getD n zL = ys.getD n zL := fun h => hc ⟨congrArg (fun z => z.1.1) h, congrArg (fun z => z.1.2) h⟩ (congrArg (fun z => z.2.1) h) (congrArg (fun z => z.2.2) h)
          exact leaf0 rfl (congrArg AVal.bool (decide_eq_false (fun e => hq (by rw [e]))).symm) rfl
        · rename_i hlt
          have hlt : (n : Int) < (List.length (α := (Int × Int) × Int × Int) xs : Int) := hlt
          have hq : xs.getD n zL = ys.getD n zL := Prod.ext (Prod.ext hc.1.1 hc.1.2) (Prod.ext hc.2.1 hc.2.2)
          refine ⟨n + 1, ⟨by omega, fun j hj => ?_⟩, by omega, ?_⟩
          · rcases Nat.lt_or_ge j n with h | h
            · exact h2 j h
            · obtain rfl : j = n := by omega
              exact hq
          · conv => whnf
            refine ⟨?_, by (conv => whnf); repeat (first | exact True.intro | (refine And.intro rfl ?_; conv => whnf)), by (conv => whnf); repeat (first | exact True.intro | (refine And.intro (by first | rfl | (subst_vars; rfl)) ?_; conv => whnf)), rfl, rfl, rfl, rfl, rfl, rfl, rfl, Nat.le_of_ble_eq_true rfl, Nat.le_of_ble_eq_true rfl⟩
            conv => whnf
            repeat (first | exact True.intro | (refine And.intro (by first | rfl | ((conv => whnf); exact congrArg (AVal.int .i64) (by omega)) | ((conv => whnf); exact congrArg (AVal.int .i64) (by simp only [Int.natCast_add, Int.natCast_one]; omega)) | ((conv => whnf); exact congrArg (AVal.irow _) (by first | omega | assumption | (simp only; omega)))) ?_; conv => whnf))
        · have hlt : ¬ (n : Int) < (List.length (α := (Int × Int) × Int × Int) xs : Int) := hc
          exact leaf0 rfl (congrArg AVal.bool (decide_eq_true (list_eqA zL (by omega) fun j hj => h2 j (by omega))).symm) rfl

theorem crsO_symm (l m : Lf) : crsO m l = crsO l m := by
  by_cases h : IsL l ∧ IsL m
  · rw [crsO_t h, crsO_t h.symm, sCross_symm h.1 h.2]
  · rw [crsO_f h, crsO_f fun h' => h h'.symm]
/-- A leaf is not longer than half a turn. -/
theorem len_half {l : Lf} (h : (lenO l).2 = 0) : 2 * (lenO l).1.1 ≤ (lenO l).1.2 := by
  by_cases hl : IsL l
  · rw [lenO_t hl] at h ⊢
    by_cases ht : 8191 < (sizeL l).2
    · rw [tolA_t ht] at h; exact absurd h (by decide)
    · rw [tolA_f ht]
      have f1 := minus_f hl.1.f hl.2.1.f
      have f2 := minus_f hl.2.1.f hl.1.f
      have fd := dist_f hl.1.f hl.2.1.f
      have v := v_dist hl.1.f hl.2.1.f
      have e1 := v_minus hl.1.f hl.2.1.f
      have e2 := v_minus hl.2.1.f hl.1.f
      have r1 := v_rng hl.1.f
      have r2 := v_rng hl.2.1.f
      have lt := (lessA_v hl.1.f hl.2.1.f).1 hl.2.2
      have hv : ¬ 1 / 2 < vA (sizeL l) := by
        show ¬ 1 / 2 < vA (distA l.1 l.2)
        rw [v, e1, e2]
        grind
      rw [v_lt_half (show IsF (sizeL l) from fd)] at hv
      show 2 * (sizeL l).1 ≤ (sizeL l).2
      omega
  · rw [lenO_f hl] at h; exact absurd h (by decide)
end Go.Proofs.Ytadlnnjgocknhac.Fw
-- %intro
