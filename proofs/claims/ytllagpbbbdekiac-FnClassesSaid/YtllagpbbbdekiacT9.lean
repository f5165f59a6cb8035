/- Contracts: which classes hold a number. -/
import Derived.Test.YtllagpbbbdekiacT8
import Derived.Test.YtllagpbbbdekiacTA
namespace Go.Proofs.Ytllagpbbbdekiac.Fw
open Go Go.RowKit
set_option linter.unusedVariables false
set_option linter.unusedSimpArgs false
set_option maxRecDepth 100000
set_option maxHeartbeats 2000000
def idxIC : PCtr := fun _ rg _ vals k => match vals with
  | [.row i, .int .i64 x] => rowC iT1 (rg i) fun xs => List.length (α := Int) xs ≤ 100000 ∧ k [] (.int .i64 (idxP (eqN x) xs))
  | _ => False
theorem idxI_ok : PCtrOk Try.prog 61 idxIC where
  enter := enter_ok Try.func61 (by kernel_rfl) rfl
  calls := by
    intro hg rg lr vals k h
    unfold idxIC at h
    split at h
    case h_2 => exact h.elim
    rename_i i x
    obtain ⟨e, own, xs, hi, h⟩ : ∃ e own, ∃ (xs : List Int), _ := rowC_inv h
    obtain ⟨hl, hk⟩ := h
    refine ⟨_, _, hk, fun A w hB hR => ?_⟩
    refine enter T_ok .nil Try.func61 rfl (K := (· < w.heap.size)) (fun _ h => h) (A := A.pick [] [i]) (vals := [.row 0, .int .i64 x]) (n0 := 0) (b0 := 0) (rows := [some ⟨iT1, e, false, xs⟩]) (hp := []) rfl (Nat.zero_le _) no_box rfl (one_row (hR i _ hi)) rfl rfl (Nat.le_of_ble_eq_true rfl) ?_
    conv => whnf
    repeat (refine V_step T_ok .nil rfl ?_; conv => whnf)
    refine V_loopH (γ := Nat) (fun n => n ≤ xs.length ∧ ∀ j, j < n → eqN x (xs.getD j iT1.dflt) = false) (fun n => xs.length - n)
      (fun n => [(8, .int .i64 n)]) (fun _ => []) (fun _ => []) 0 ⟨Nat.zero_le _, fun j h => absurd h (Nat.not_lt_zero _)⟩ ?_ ?_
    · conv => whnf
      refine ⟨?_, by (conv => whnf); repeat (first | exact True.intro | (refine And.intro rfl ?_; conv => whnf)), by (conv => whnf); repeat (first | exact True.intro | (refine And.intro (by first | rfl | (subst_vars; rfl)) ?_; conv => whnf)), rfl, rfl, rfl, rfl, rfl, rfl, rfl, Nat.le_of_ble_eq_true rfl, Nat.le_of_ble_eq_true rfl⟩
      conv => whnf
      repeat (first | exact True.intro | (refine And.intro (by first | rfl | ((conv => whnf); exact congrArg (AVal.int .i64) (by omega)) | ((conv => whnf); exact congrArg (AVal.int .i64) (by simp only [Int.natCast_add, Int.natCast_one]; omega)) | ((conv => whnf); exact congrArg (AVal.irow _) (by first | omega | assumption | (simp only; omega)))) ?_; conv => whnf))
    · rintro n ⟨h1, h2⟩
      have hl' : (List.length (α := TyC.α iT1) xs : Int) ≤ 100000 := by have : List.length (α := TyC.α iT1) xs ≤ 100000 := hl; omega
      conv => whnf
      refine vcCode_sound T_ok .nil _ _ _ _ _ ?_
      conv => whnf
      repeat (refine V_step T_ok .nil rfl ?_; conv => whnf)
      repeat (any_goals (first
        | (refine V_step T_ok .nil rfl ?_; conv => whnf)
        | (refine V_drawA T_ok .nil mixed (by kernel_rfl) ?_; conv => whnf)
        | (refine bcond_split (fun hc => ?_) (fun hc => ?_) <;> (try simp only [decide_eq_true_eq, decide_eq_false_iff_not, Bool.not_eq_true', Bool.not_eq_false', Bool.and_eq_true, Bool.or_eq_true, Bool.and_eq_false_imp, Bool.or_eq_false_iff, ne_eq, Decidable.not_not] at hc) <;> conv => whnf)
        | (intro ysK hysK; have hysl := congrArg List.length hysK; (try simp only [List.length_set, List.length_append, List.length_cons, List.length_nil, List.length_take, List.length_drop, List.length_replicate] at hysl); conv => whnf)
        | (intro bK hbK; have hbl := congrArg ByteArray.size hbK; conv => whnf)
        | (intro sK hsK; conv => whnf)
        | (refine And.intro (by first | (first | exact True.intro | omega | (simp only [Rng]; omega)) | exact True.intro | exact ⟨rfl, True.intro, fun _ _ => rfl⟩ | exact Nat.le_of_ble_eq_true rfl | (refine ⟨by (try simp only [List.length_cons, List.length_nil]); omega, Int.le_trans (Int.mul_le_mul_of_nonneg_left (show (TInfo.bytes _ : Int) ≤ 64 from Int.ofNat_le.2 (Nat.le_of_ble_eq_true rfl)) (by omega)) (by (try simp only [List.length_cons, List.length_nil]); omega)⟩)) ?_; conv => whnf)))
      · rename_i hc0
        have hl : (n : Int) < (xs.length : Nat) := hc0
        exact leaf0 rfl (congrArg (AVal.int .i64) (idxP_found (eqN x) xs n iT1.dflt (by omega) h2 (decide_eq_true hc)).symm) rfl
      · rename_i hc0
        have hl : (n : Int) < (xs.length : Nat) := hc0
        refine ⟨n + 1, ⟨by omega, fun j hj => ?_⟩, by omega, ?_⟩
        · rcases Nat.lt_or_ge j n with h | h
          · exact h2 j h
          · obtain rfl : j = n := by omega
            exact decide_eq_false hc
        · conv => whnf
          refine ⟨?_, by (conv => whnf); repeat (first | exact True.intro | (refine And.intro rfl ?_; conv => whnf)), by (conv => whnf); repeat (first | exact True.intro | (refine And.intro (by first | rfl | (subst_vars; rfl)) ?_; conv => whnf)), rfl, rfl, rfl, rfl, rfl, rfl, rfl, Nat.le_of_ble_eq_true rfl, Nat.le_of_ble_eq_true rfl⟩
          conv => whnf
          repeat (first | exact True.intro | (refine And.intro (by first | rfl | ((conv => whnf); exact congrArg (AVal.int .i64) (by omega)) | ((conv => whnf); exact congrArg (AVal.int .i64) (by simp only [Int.natCast_add, Int.natCast_one]; omega)) | ((conv => whnf); exact congrArg (AVal.irow _) (by first | omega | assumption | (simp only; omega)))) ?_; conv => whnf))
      · have hl : ¬ (n : Int) < (xs.length : Nat) := hc
        exact leaf0 rfl (congrArg (AVal.int .i64) (idxP_none (eqN x) xs iT1.dflt (fun j hj => h2 j (by omega))).symm) rfl
def hasIC : PCtr := fun _ rg _ vals k => match vals with
  | [.row i, .int .i64 x] => rowC iT1 (rg i) fun xs => List.length (α := Int) xs ≤ 100000 ∧ k [] (.bool (hasN x xs))
  | _ => False
theorem hasI_ok : PCtrOk Try.prog 40 hasIC where
  enter := enter_ok Try.func40 (by kernel_rfl) rfl
  calls := by
    intro hg rg lr vals k h
    unfold hasIC at h
    split at h
    case h_2 => exact h.elim
    rename_i i x
    obtain ⟨e, own, xs, hi, h⟩ : ∃ e own, ∃ (xs : List Int), _ := rowC_inv h
    obtain ⟨hl, hk⟩ := h
    refine ⟨_, _, hk, fun A w hB hR => ?_⟩
    refine enter T_ok (GOk.cons idxI_ok .nil) Try.func40 rfl (K := (· < w.heap.size)) (fun _ h => h) (A := A.pick [] [i]) (vals := [.row 0, .int .i64 x]) (n0 := 0) (b0 := 0) (rows := [some ⟨iT1, e, false, xs⟩]) (hp := []) rfl (Nat.zero_le _) no_box rfl (one_row (hR i _ hi)) rfl rfl (Nat.le_of_ble_eq_true rfl) ?_
    conv => whnf
    repeat (refine V_step T_ok (GOk.cons idxI_ok .nil) rfl ?_; conv => whnf)
    have hl : List.length (α := Int) xs ≤ 100000 := hl
    repeat (any_goals (first
      | (refine V_step T_ok (GOk.cons idxI_ok .nil) rfl ?_; conv => whnf)
      | (refine V_drawA T_ok (GOk.cons idxI_ok .nil) mixed (by kernel_rfl) ?_; conv => whnf)
      | (refine bcond_split (fun hc => ?_) (fun hc => ?_) <;> (try simp only [decide_eq_true_eq, decide_eq_false_iff_not, Bool.not_eq_true', Bool.not_eq_false', Bool.and_eq_true, Bool.or_eq_true, Bool.and_eq_false_imp, Bool.or_eq_false_iff, ne_eq, Decidable.not_not] at hc) <;> conv => whnf)
      | (intro ysK hysK; have hysl := congrArg List.length hysK; (try simp only [List.length_set, List.length_append, List.length_cons, List.length_nil, List.length_take, List.length_drop, List.length_replicate] at hysl); conv => whnf)
      | (intro bK hbK; have hbl := congrArg ByteArray.size hbK; conv => whnf)
      | (intro sK hsK; conv => whnf)
      | (refine And.intro (by first | (first | exact hl | exact True.intro | omega) | exact True.intro | exact ⟨rfl, True.intro, fun _ _ => rfl⟩ | exact Nat.le_of_ble_eq_true rfl | (refine ⟨by (try simp only [List.length_cons, List.length_nil]); omega, Int.le_trans (Int.mul_le_mul_of_nonneg_left (show (TInfo.bytes _ : Int) ≤ 64 from Int.ofNat_le.2 (Nat.le_of_ble_eq_true rfl)) (by omega)) (by (try simp only [List.length_cons, List.length_nil]); omega)⟩)) ?_; conv => whnf)))
    all_goals exact leaf0 rfl (congrArg AVal.bool (idxP_any (eqN x) xs)) rfl
def bothC : PCtr := fun hg rg _ vals k => match vals with
  | [.row i, .loc j 0, .loc l 0] => boxI (hg j) fun x => boxI (hg l) fun y => rowC iT1 (rg i) fun xs => List.length (α := Int) xs ≤ 100000 ∧ k [] (.bool (bothN x y xs))
  | _ => False
theorem both_ok : PCtrOk Try.prog 39 bothC where
  enter := enter_ok Try.func39 (by kernel_rfl) rfl
  calls := by
    intro hg rg lr vals k h
    unfold bothC at h
    split at h
    case h_2 => exact h.elim
    rename_i i j l
    obtain ⟨x, hj, h⟩ := boxI_inv h
    obtain ⟨y, hjl, h⟩ := boxI_inv h
    obtain ⟨e, own, xs, hi, h⟩ : ∃ e own, ∃ (xs : List Int), _ := rowC_inv h
    obtain ⟨hl, hk⟩ := h
    refine ⟨_, _, hk, fun A w hB hR => ?_⟩
    refine enter T_ok (GOk.cons hasI_ok .nil) Try.func39 rfl (K := (· < w.heap.size)) (fun _ h => h) (A := A.pick [j, l] [i]) (vals := [.row 0, .loc 0 0, .loc 1 0]) (n0 := 0) (b0 := 2) (rows := [some ⟨iT1, e, false, xs⟩]) (hp := [some [.int .i64 x], some [.int .i64 y]]) rfl (Nat.zero_le _) (two_boxes (hB j _ hj) (hB l _ hjl)) rfl (one_row (hR i _ hi)) rfl rfl (Nat.le_of_ble_eq_true rfl) ?_
    conv => whnf
    repeat (refine V_step T_ok (GOk.cons hasI_ok .nil) rfl ?_; conv => whnf)
    have hl : List.length (α := Int) xs ≤ 100000 := hl
    repeat (any_goals (first
      | (refine V_step T_ok (GOk.cons hasI_ok .nil) rfl ?_; conv => whnf)
      | (refine V_drawA T_ok (GOk.cons hasI_ok .nil) mixed (by kernel_rfl) ?_; conv => whnf)
      | (refine bcond_split (fun hc => ?_) (fun hc => ?_) <;> (try simp only [decide_eq_true_eq, decide_eq_false_iff_not, Bool.not_eq_true', Bool.not_eq_false', Bool.and_eq_true, Bool.or_eq_true, Bool.and_eq_false_imp, Bool.or_eq_false_iff, ne_eq, Decidable.not_not] at hc) <;> conv => whnf)
      | (intro ysK hysK; have hysl := congrArg List.length hysK; (try simp only [List.length_set, List.length_append, List.length_cons, List.length_nil, List.length_take, List.length_drop, List.length_replicate] at hysl); conv => whnf)
      | (intro bK hbK; have hbl := congrArg ByteArray.size hbK; conv => whnf)
      | (intro sK hsK; conv => whnf)
      | (refine And.intro (by first | (first | exact hl | exact True.intro | omega) | exact True.intro | exact ⟨rfl, True.intro, fun _ _ => rfl⟩ | exact Nat.le_of_ble_eq_true rfl | (refine ⟨by (try simp only [List.length_cons, List.length_nil]); omega, Int.le_trans (Int.mul_le_mul_of_nonneg_left (show (TInfo.bytes _ : Int) ≤ 64 from Int.ofNat_le.2 (Nat.le_of_ble_eq_true rfl)) (by omega)) (by (try simp only [List.length_cons, List.length_nil]); omega)⟩)) ?_; conv => whnf)))
    all_goals first
      | exact leaf0 rfl (congrArg AVal.bool (by unfold bothN; rw [hc]; rfl)) rfl
      | exact leaf0 rfl rfl rfl
      | skip
def Sml (x : List (List Int)) : Prop := List.length (α := List Int) x ≤ 100000 ∧ ∀ r ∈ x, List.length (α := Int) r ≤ 100000
theorem SmallL.sml {x : List (List Int)} (h : SmallL x) : Sml x := ⟨by have := h.1; omega, fun r hr => by have := h.2 r hr; omega⟩
theorem Sml.at {x : List (List Int)} (h : Sml x) {n : Nat} (hn : n < List.length (α := List Int) x) : List.length (α := Int) (List.getD (α := List Int) x n []) ≤ 100000 := h.2 _ (getD_mem hn)
def bixC : PCtr := fun hg rg _ vals k => match vals with
  | [.row i, .fn f [] [.loc j 0, .loc l 0]] => isF f 39 (boxI (hg j) fun x => boxI (hg l) fun y => rowC rT1 (rg i) fun xs => Sml xs ∧ k [] (.int .i64 (idxP (bothN x y) xs)))
  | _ => False
theorem bix_ok : PCtrOk Try.prog 60 bixC where
  enter := enter_ok Try.func60 (by kernel_rfl) rfl
  calls := by
    intro hg rg lr vals k h
    unfold bixC at h
    split at h
    case h_2 => exact h.elim
    rename_i i f j l
    obtain ⟨rfl, h⟩ := isF_inv h
    obtain ⟨x, hj, h⟩ := boxI_inv h
    obtain ⟨y, hjl, h⟩ := boxI_inv h
    obtain ⟨e, own, xs, hi, h⟩ : ∃ e own, ∃ (xs : List (List Int)), _ := rowC_inv h
    obtain ⟨hl, hk⟩ := h
    refine ⟨_, _, hk, fun A w hB hR => ?_⟩
    refine enter T_ok (GOk.cons both_ok .nil) Try.func60 rfl (K := (· < w.heap.size)) (fun _ h => h) (A := A.pick [j, l] [i]) (vals := [.row 0, .fn 39 [] [.loc 0 0, .loc 1 0]]) (n0 := 0) (b0 := 2) (rows := [some ⟨rT1, e, false, xs⟩]) (hp := [some [.int .i64 x], some [.int .i64 y]]) rfl (Nat.zero_le _) (two_boxes (hB j _ hj) (hB l _ hjl)) rfl (one_row (hR i _ hi)) rfl rfl (Nat.le_of_ble_eq_true rfl) ?_
    conv => whnf
    repeat (refine V_step T_ok (GOk.cons both_ok .nil) rfl ?_; conv => whnf)
    refine V_loopH (γ := Nat) (fun n => n ≤ xs.length ∧ ∀ j, j < n → bothN x y (xs.getD j rT1.dflt) = false) (fun n => xs.length - n)
      (fun n => [(8, .int .i64 n)]) (fun _ => []) (fun _ => []) 0 ⟨Nat.zero_le _, fun j h => absurd h (Nat.not_lt_zero _)⟩ ?_ ?_
    · conv => whnf
      refine ⟨?_, by (conv => whnf); repeat (first | exact True.intro | (refine And.intro rfl ?_; conv => whnf)), by (conv => whnf); repeat (first | exact True.intro | (refine And.intro (by first | rfl | (subst_vars; rfl)) ?_; conv => whnf)), rfl, rfl, rfl, rfl, rfl, rfl, rfl, Nat.le_of_ble_eq_true rfl, Nat.le_of_ble_eq_true rfl⟩
      conv => whnf
      repeat (first | exact True.intro | (refine And.intro (by first | rfl | ((conv => whnf); exact congrArg (AVal.int .i64) (by omega)) | ((conv => whnf); exact congrArg (AVal.int .i64) (by simp only [Int.natCast_add, Int.natCast_one]; omega)) | ((conv => whnf); exact congrArg (AVal.irow _) (by first | omega | assumption | (simp only; omega)))) ?_; conv => whnf))
    · rintro n ⟨h1, h2⟩
      have hl' : (List.length (α := TyC.α rT1) xs : Int) ≤ 100000 := by have : List.length (α := TyC.α rT1) xs ≤ 100000 := hl.1; omega
      have hat : (n : Int) < (List.length (α := TyC.α rT1) xs : Int) → List.length (α := Int) (List.getD (α := List Int) xs n []) ≤ 100000 := fun h => hl.at (by
        have : n < List.length (α := TyC.α rT1) xs := by omega
        exact this)
      conv => whnf
      refine vcCode_sound T_ok (GOk.cons both_ok .nil) _ _ _ _ _ ?_
      conv => whnf
      repeat (refine V_step T_ok (GOk.cons both_ok .nil) rfl ?_; conv => whnf)
      repeat (any_goals (first
        | (refine V_step T_ok (GOk.cons both_ok .nil) rfl ?_; conv => whnf)
        | (refine V_drawA T_ok (GOk.cons both_ok .nil) mixed (by kernel_rfl) ?_; conv => whnf)
        | (refine bcond_split (fun hc => ?_) (fun hc => ?_) <;> (try simp only [decide_eq_true_eq, decide_eq_false_iff_not, Bool.not_eq_true', Bool.not_eq_false', Bool.and_eq_true, Bool.or_eq_true, Bool.and_eq_false_imp, Bool.or_eq_false_iff, ne_eq, Decidable.not_not] at hc) <;> conv => whnf)
        | (intro ysK hysK; have hysl := congrArg List.length hysK; (try simp only [List.length_set, List.length_append, List.length_cons, List.length_nil, List.length_take, List.length_drop, List.length_replicate] at hysl); conv => whnf)
        | (intro bK hbK; have hbl := congrArg ByteArray.size hbK; conv => whnf)
        | (intro sK hsK; conv => whnf)
        | (refine And.intro (by first | (first | exact True.intro | exact hat (by assumption) | omega | (simp only [Rng]; omega)) | exact True.intro | exact ⟨rfl, True.intro, fun _ _ => rfl⟩ | exact Nat.le_of_ble_eq_true rfl | (refine ⟨by (try simp only [List.length_cons, List.length_nil]); omega, Int.le_trans (Int.mul_le_mul_of_nonneg_left (show (TInfo.bytes _ : Int) ≤ 64 from Int.ofNat_le.2 (Nat.le_of_ble_eq_true rfl)) (by omega)) (by (try simp only [List.length_cons, List.length_nil]); omega)⟩)) ?_; conv => whnf)))
      · rename_i hc0
        have hl : (n : Int) < (xs.length : Nat) := hc0
        exact leaf0 rfl (congrArg (AVal.int .i64) (idxP_found (bothN x y) xs n rT1.dflt (by omega) h2 hc).symm) rfl
      · rename_i hc0
        have hl : (n : Int) < (xs.length : Nat) := hc0
        refine ⟨n + 1, ⟨by omega, fun j hj => ?_⟩, by omega, ?_⟩
        · rcases Nat.lt_or_ge j n with h | h
          · exact h2 j h
          · obtain rfl : j = n := by omega
            exact hc
        · conv => whnf
          refine ⟨?_, by (conv => whnf); repeat (first | exact True.intro | (refine And.intro rfl ?_; conv => whnf)), by (conv => whnf); repeat (first | exact True.intro | (refine And.intro (by first | rfl | (subst_vars; rfl)) ?_; conv => whnf)), rfl, rfl, rfl, rfl, rfl, rfl, rfl, Nat.le_of_ble_eq_true rfl, Nat.le_of_ble_eq_true rfl⟩
          conv => whnf
          repeat (first | exact True.intro | (refine And.intro (by first | rfl | ((conv => whnf); exact congrArg (AVal.int .i64) (by omega)) | ((conv => whnf); exact congrArg (AVal.int .i64) (by simp only [Int.natCast_add, Int.natCast_one]; omega)) | ((conv => whnf); exact congrArg (AVal.irow _) (by first | omega | assumption | (simp only; omega)))) ?_; conv => whnf))
      · have hl : ¬ (n : Int) < (xs.length : Nat) := hc
        exact leaf0 rfl (congrArg (AVal.int .i64) (idxP_none (bothN x y) xs rT1.dflt (fun j hj => h2 j (by omega))).symm) rfl
def bcoC : PCtr := fun hg rg _ vals k => match vals with
  | [.row i, .fn f [] [.loc j 0, .loc l 0]] => isF f 39 (boxI (hg j) fun x => boxI (hg l) fun y => rowC rT1 (rg i) fun xs => Sml xs ∧ k [] (.bool ((xs : List (List Int)).any (bothN x y))))
  | _ => False
theorem bco_ok : PCtrOk Try.prog 38 bcoC where
  enter := enter_ok Try.func38 (by kernel_rfl) rfl
  calls := by
    intro hg rg lr vals k h
    unfold bcoC at h
    split at h
    case h_2 => exact h.elim
    rename_i i f j l
    obtain ⟨rfl, h⟩ := isF_inv h
    obtain ⟨x, hj, h⟩ := boxI_inv h
    obtain ⟨y, hjl, h⟩ := boxI_inv h
    obtain ⟨e, own, xs, hi, h⟩ : ∃ e own, ∃ (xs : List (List Int)), _ := rowC_inv h
    obtain ⟨hl, hk⟩ := h
    refine ⟨_, _, hk, fun A w hB hR => ?_⟩
    refine enter T_ok (GOk.cons bix_ok .nil) Try.func38 rfl (K := (· < w.heap.size)) (fun _ h => h) (A := A.pick [j, l] [i]) (vals := [.row 0, .fn 39 [] [.loc 0 0, .loc 1 0]]) (n0 := 0) (b0 := 2) (rows := [some ⟨rT1, e, false, xs⟩]) (hp := [some [.int .i64 x], some [.int .i64 y]]) rfl (Nat.zero_le _) (two_boxes (hB j _ hj) (hB l _ hjl)) rfl (one_row (hR i _ hi)) rfl rfl (Nat.le_of_ble_eq_true rfl) ?_
    conv => whnf
    repeat (refine V_step T_ok (GOk.cons bix_ok .nil) rfl ?_; conv => whnf)
    repeat (any_goals (first
      | (refine V_step T_ok (GOk.cons bix_ok .nil) rfl ?_; conv => whnf)
      | (refine V_drawA T_ok (GOk.cons bix_ok .nil) mixed (by kernel_rfl) ?_; conv => whnf)
      | (refine bcond_split (fun hc => ?_) (fun hc => ?_) <;> (try simp only [decide_eq_true_eq, decide_eq_false_iff_not, Bool.not_eq_true', Bool.not_eq_false', Bool.and_eq_true, Bool.or_eq_true, Bool.and_eq_false_imp, Bool.or_eq_false_iff, ne_eq, Decidable.not_not] at hc) <;> conv => whnf)
      | (intro ysK hysK; have hysl := congrArg List.length hysK; (try simp only [List.length_set, List.length_append, List.length_cons, List.length_nil, List.length_take, List.length_drop, List.length_replicate] at hysl); conv => whnf)
      | (intro bK hbK; have hbl := congrArg ByteArray.size hbK; conv => whnf)
      | (intro sK hsK; conv => whnf)
      | (refine And.intro (by first | (first | exact hl | exact True.intro | omega) | exact True.intro | exact ⟨rfl, True.intro, fun _ _ => rfl⟩ | exact Nat.le_of_ble_eq_true rfl | (refine ⟨by (try simp only [List.length_cons, List.length_nil]); omega, Int.le_trans (Int.mul_le_mul_of_nonneg_left (show (TInfo.bytes _ : Int) ≤ 64 from Int.ofNat_le.2 (Nat.le_of_ble_eq_true rfl)) (by omega)) (by (try simp only [List.length_cons, List.length_nil]); omega)⟩)) ?_; conv => whnf)))
    all_goals exact leaf0 rfl (congrArg AVal.bool (idxP_any (bothN x y) xs)) rfl
theorem cls2_small (t u : Ang) {n : Int} (h : OkN n) : SmallL (cls2 t u n) := by
  unfold cls2
  exact clsL_small _ (by have := h.2; omega)
theorem cls1_small (t : Ang) {n : Int} (h : OkN n) : SmallL (cls1 t n) := by
  unfold cls1
  exact clsL_small _ (by have := h.2; omega)
theorem ldr_len {ts : List Ang} {n : Int} {g : Nat} {c : List Int} (hn : OkN n) (h : c = ldrG ts n.toNat g) : (List.length (α := Int) c : Int) = n := by
  have hC := ldrG_can ts n.toNat g
  rw [← h] at hC
  rw [hC.len]
  have := hn.1
  omega
end Go.Proofs.Ytllagpbbbdekiac.Fw
