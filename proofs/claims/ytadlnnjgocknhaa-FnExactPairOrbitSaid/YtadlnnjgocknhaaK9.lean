/- Contracts: how the laws compare and mark lists of lists of whole numbers. -/
import Derived.Test.YtadlnnjgocknhaaL4
import Derived.Test.YtadlnnjgocknhaaHA
namespace Go.Proofs.Ytadlnnjgocknhaa.Fw
open Go Go.RowKit
set_option linter.unusedVariables false
set_option linter.unusedSimpArgs false
set_option maxRecDepth 100000
set_option maxHeartbeats 2000000

theorem list_eq9 {α : Type} {l m : List α} (d : α) (h : l.length = m.length) (he : ∀ i, i < l.length → l.getD i d = m.getD i d) : l = m := by
  refine List.ext_getElem h fun i h1 h2 => ?_
  have := he i h1
  rwa [List.getD_eq_getElem?_getD, List.getD_eq_getElem?_getD, List.getElem?_eq_getElem h1, List.getElem?_eq_getElem h2] at this
/-- What the law marks a result with. -/
def mkIF (q : Int) (i : Nat) : Int := q + 1 * i
def mkIMC : MCtr := fun hg rg _ vals k => match vals with
  | [.row i, .int .i64 q] => rowO iT (rg i) fun e xs => ((0 ≤ q ∧ q ≤ 1000000) ∧ (@List.length Int xs : Int) ≤ 1000000) ∧ k [(i, some ⟨iT, e, true, (List.range (@List.length Int xs)).map (mkIF q)⟩)] [] (.int .i64 (q + 1 * (@List.length Int xs : Int)))
  | _ => False
theorem mkIM_ok : MCtrOk Try.prog 16 mkIMC where
  enter := enter_ok Try.func16 (by kernel_rfl) rfl
  calls := by
    intro hg rg lr vals k h
    unfold mkIMC at h
    split at h
    case h_2 => exact h.elim
    rename_i i q
    obtain ⟨e, xs, hi, h⟩ : ∃ e, ∃ (xs : List Int), _ := rowO_inv h
    obtain ⟨⟨hq, hl⟩, hk⟩ := h
    refine ⟨_, _, _, hk, (ups_one hi rfl (fun r' hr' => by cases hr'; exact ⟨rfl, rfl, rfl⟩)), fun A w hM => ?_⟩
    have hO := One.of hi rfl
    refine enterM T_ok .nil Try.func16 rfl (w := w) (A := A.pick [] [i]) (vals := [.row 0, .int .i64 q]) (n0 := 1) (b0 := 0) (rows := [some ⟨iT, e, true, xs⟩]) (hp := []) rfl (Nat.le_refl _) (hM.one hi) rfl rfl rfl (Nat.le_of_ble_eq_true rfl) ?_
    conv => whnf
    repeat (refine V_step T_ok .nil rfl ?_; conv => whnf)
    refine V_loopH (γ := Nat × List Int) (fun g => g.1 ≤ xs.length ∧ g.2.length = xs.length ∧ ∀ j, j < g.1 → g.2.getD j iT.dflt = mkIF q j) (fun g => xs.length - g.1)
      (fun g => [(1, .int .i64 (q + 1 * g.1)), (5, .int .i64 g.1)]) (fun _ => []) (fun g => [(0, some ⟨iT, e, true, g.2⟩)]) (0, xs) ⟨Nat.zero_le _, rfl, fun j h => absurd h (Nat.not_lt_zero _)⟩ ?_ ?_
    · conv => whnf
      refine ⟨?_, by (conv => whnf); repeat (first | exact True.intro | (refine And.intro rfl ?_; conv => whnf)), by (conv => whnf); repeat (first | exact True.intro | (refine And.intro (by first | rfl | (subst_vars; rfl)) ?_; conv => whnf)), rfl, rfl, rfl, rfl, rfl, rfl, rfl, Nat.le_of_ble_eq_true rfl, Nat.le_of_ble_eq_true rfl⟩
      conv => whnf
      repeat (first | exact True.intro | (refine And.intro (by first | rfl | ((conv => whnf); exact congrArg (AVal.int .i64) (by omega)) | ((conv => whnf); exact congrArg (AVal.int .i64) (by simp only [Int.natCast_add, Int.natCast_one]; omega))) ?_; conv => whnf))
    · rintro ⟨n, L⟩ ⟨h1, hlen, h2⟩
      simp only at h1 hlen h2
      conv => whnf
      refine vcCode_sound T_ok .nil _ _ _ _ _ ?_
      conv => whnf
      repeat (refine V_step T_ok .nil rfl ?_; conv => whnf)
      repeat (any_goals (first
        | (refine V_step T_ok .nil rfl ?_; conv => whnf)
        | (refine V_drawA T_ok .nil mixed (by kernel_rfl) ?_; conv => whnf)
        | (refine bcond_split (fun hc => ?_) (fun hc => ?_) <;> (try simp only [decide_eq_true_eq, decide_eq_false_iff_not, Bool.not_eq_true', Bool.not_eq_false', Bool.and_eq_true, Bool.or_eq_true, Bool.and_eq_false_imp, Bool.or_eq_false_iff, ne_eq, Decidable.not_not] at hc) <;> conv => whnf)
        | (intro ysK hysK; have hysl := congrArg List.length hysK; (try simp only [List.length_set, List.length_append, List.length_cons, List.length_nil, List.length_take, List.length_drop, List.length_replicate] at hysl); conv => whnf)
        | (refine And.intro (by first | exact True.intro | (with_reducible assumption) | omega | (simp only [Rng]; omega) | exact Nat.le_of_ble_eq_true rfl | exact True.intro | exact ⟨rfl, True.intro, fun _ _ => rfl⟩ | exact Nat.le_of_ble_eq_true rfl | (refine ⟨by (try simp only [List.length_cons, List.length_nil]); omega, Int.le_trans (Int.mul_le_mul_of_nonneg_left (show (TInfo.bytes _ : Int) ≤ 64 from Int.ofNat_le.2 (Nat.le_of_ble_eq_true rfl)) (by omega)) (by (try simp only [List.length_cons, List.length_nil]); omega)⟩)) ?_; conv => whnf)))
      · have hl : (n : Int) < (L.length : Nat) := by assumption
        simp only [Int.toNat_natCast] at hysK
        have g1 : ysK.getD n iT.dflt = _ := (congrArg (fun z => List.getD z n iT.dflt) hysK).trans (getD_set (by omega))
        refine ⟨(n + 1, ysK), ⟨by simp only; omega, by simp only; omega, fun j hj => ?_⟩, by simp only; omega, ?_⟩
        · simp only at hj ⊢
          rcases Nat.lt_or_ge j n with h | h
          · rw [← h2 j h, List.getD_eq_getElem?_getD, List.getD_eq_getElem?_getD, hysK, List.getElem?_set_ne (by omega)]
          · obtain rfl : j = n := by omega
            rw [g1]
            first | (simp only [mkIF, Int.add_assoc]; done) | (simp only [mkIF, Int.add_assoc]; rfl)
        · conv => whnf
          refine ⟨?_, by (conv => whnf); repeat (first | exact True.intro | (refine And.intro rfl ?_; conv => whnf)), by (conv => whnf); repeat (first | exact True.intro | (refine And.intro (by first | rfl | (subst_vars; rfl)) ?_; conv => whnf)), rfl, rfl, rfl, rfl, rfl, rfl, rfl, Nat.le_of_ble_eq_true rfl, Nat.le_of_ble_eq_true rfl⟩
          conv => whnf
          repeat (first | exact True.intro | (refine And.intro (by first | rfl | ((conv => whnf); exact congrArg (AVal.int .i64) (by omega)) | ((conv => whnf); exact congrArg (AVal.int .i64) (by simp only [Int.natCast_add, Int.natCast_one]; omega))) ?_; conv => whnf))
      · have hge : ¬ (n : Int) < (L.length : Nat) := hc
        obtain rfl : n = L.length := by omega
        have hL : (List.range xs.length).map (mkIF q) = L := by
          refine List.ext_getElem (by simp [hlen]) fun j h3 h4 => ?_
          have := h2 j (by omega)
          rw [List.getD_eq_getElem?_getD, List.getElem?_eq_getElem h4] at this
          simp only [List.getElem_map, List.getElem_range]
          exact this.symm
        rw [hL, ← hlen]
        exact leafM0 hO Nat.zero_lt_one rfl rfl rfl rfl rfl

def mkIHC : PCtr := fun hg rg _ vals k => match vals with
  | [.row i, .int .i64 q] => rowC iT (rg i) fun xs => ((0 ≤ q ∧ q ≤ 1000000) ∧ (@List.length Int xs : Int) ≤ 1000000 ∧ (xs : List Int) = (List.range (@List.length Int xs)).map (mkIF q)) ∧ k [] (.int .i64 (q + 1 * (@List.length Int xs : Int)))
  | _ => False
theorem mkIH_ok : PCtrOk Try.prog 17 mkIHC where
  enter := enter_ok Try.func17 (by kernel_rfl) rfl
  calls := by
    intro hg rg lr vals k h
    unfold mkIHC at h
    split at h
    case h_2 => exact h.elim
    rename_i i q
    obtain ⟨e, own, xs, hi, h⟩ : ∃ e own, ∃ (xs : List Int), _ := rowC_inv h
    obtain ⟨⟨hq, hl, hx⟩, hk⟩ := h
    refine ⟨_, _, hk, fun A w hB hR => ?_⟩
    refine enter T_ok .nil Try.func17 rfl (K := (· < w.heap.size)) (fun _ h => h) (A := A.pick [] [i]) (vals := [.row 0, .int .i64 q]) (n0 := 0) (b0 := 0) (rows := [some ⟨iT, e, false, xs⟩]) (hp := []) rfl (Nat.zero_le _) no_box rfl (one_row (hR i _ hi)) rfl rfl (Nat.le_of_ble_eq_true rfl) ?_
    conv => whnf
    repeat (refine V_step T_ok .nil rfl ?_; conv => whnf)
    have hget : ∀ n, n < xs.length → xs.getD n iT.dflt = mkIF q n := fun n hn => by
      rw [hx, List.getD_eq_getElem?_getD, List.getElem?_map, List.getElem?_range (by simpa using hn)]; rfl
    clear hx
    refine V_loopH (γ := Nat) (fun n => n ≤ xs.length) (fun n => xs.length - n)
      (fun n => [(1, .int .i64 (q + 1 * n)), (5, .int .i64 n)]) (fun _ => []) (fun _ => []) 0 (Nat.zero_le _) ?_ ?_
    · conv => whnf
      refine ⟨?_, by (conv => whnf); repeat (first | exact True.intro | (refine And.intro rfl ?_; conv => whnf)), by (conv => whnf); repeat (first | exact True.intro | (refine And.intro (by first | rfl | (subst_vars; rfl)) ?_; conv => whnf)), rfl, rfl, rfl, rfl, rfl, rfl, rfl, Nat.le_of_ble_eq_true rfl, Nat.le_of_ble_eq_true rfl⟩
      conv => whnf
      repeat (first | exact True.intro | (refine And.intro (by first | rfl | ((conv => whnf); exact congrArg (AVal.int .i64) (by omega)) | ((conv => whnf); exact congrArg (AVal.int .i64) (by simp only [Int.natCast_add, Int.natCast_one]; omega))) ?_; conv => whnf))
    · rintro n h1
      conv => whnf
      refine vcCode_sound T_ok .nil _ _ _ _ _ ?_
      conv => whnf
      repeat (refine V_step T_ok .nil rfl ?_; conv => whnf)
      repeat (any_goals (first
        | (refine V_step T_ok .nil rfl ?_; conv => whnf)
        | (refine V_drawA T_ok .nil mixed (by kernel_rfl) ?_; conv => whnf)
        | (refine bcond_split (fun hc => ?_) (fun hc => ?_) <;> (try simp only [decide_eq_true_eq, decide_eq_false_iff_not, Bool.not_eq_true', Bool.not_eq_false', Bool.and_eq_true, Bool.or_eq_true, Bool.and_eq_false_imp, Bool.or_eq_false_iff, ne_eq, Decidable.not_not] at hc) <;> conv => whnf)
        | (intro ysK hysK; have hysl := congrArg List.length hysK; (try simp only [List.length_set, List.length_append, List.length_cons, List.length_nil, List.length_take, List.length_drop, List.length_replicate] at hysl); conv => whnf)
        | (refine And.intro (by first | exact True.intro | (with_reducible assumption) | omega | (simp only [Rng]; omega) | exact Nat.le_of_ble_eq_true rfl | exact True.intro | exact ⟨rfl, True.intro, fun _ _ => rfl⟩ | exact Nat.le_of_ble_eq_true rfl | (refine ⟨by (try simp only [List.length_cons, List.length_nil]); omega, Int.le_trans (Int.mul_le_mul_of_nonneg_left (show (TInfo.bytes _ : Int) ≤ 64 from Int.ofNat_le.2 (Nat.le_of_ble_eq_true rfl)) (by omega)) (by (try simp only [List.length_cons, List.length_nil]); omega)⟩)) ?_; conv => whnf)))
      all_goals first
        | (have hge : ¬ (n : Int) < (xs.length : Nat) := hc
           obtain rfl : n = xs.length := by omega
           exact leaf0 rfl rfl rfl)
        | (have hl' : (n : Int) < (xs.length : Nat) := by assumption
           have hg := hget n (by omega)
           exact absurd (by (simp only [Int.toNat_natCast, hg, mkIF]) <;> omega) hc)
        | skip
      all_goals (have hl' : (n : Int) < (xs.length : Nat) := by assumption
                 have hg := hget n (by omega)
                 refine ⟨n + 1, by omega, by omega, ?_⟩)
      · conv => whnf
        refine ⟨?_, by (conv => whnf); repeat (first | exact True.intro | (refine And.intro rfl ?_; conv => whnf)), by (conv => whnf); repeat (first | exact True.intro | (refine And.intro (by first | rfl | (subst_vars; rfl)) ?_; conv => whnf)), rfl, rfl, rfl, rfl, rfl, rfl, rfl, Nat.le_of_ble_eq_true rfl, Nat.le_of_ble_eq_true rfl⟩
        conv => whnf
        repeat (first | exact True.intro | (refine And.intro (by first | rfl | ((conv => whnf); exact congrArg (AVal.int .i64) (by omega)) | ((conv => whnf); exact congrArg (AVal.int .i64) (by simp only [Int.natCast_add, Int.natCast_one]; omega))) ?_; conv => whnf))


def eqLI (xs ys : List Int) : Bool := decide (xs = ys)
def eqLL (xs ys : List (List Int)) : Bool := decide (xs = ys)
def eqIC : PCtr := fun _ rg _ vals k => match vals with
  | [.row i, .row j] => rowC iT (rg i) fun xs => rowC iT (rg j) fun ys => (List.length (α := Int) xs ≤ 100000 ∧ List.length (α := Int) ys ≤ 100000) ∧ k [] (.bool (eqLI xs ys))
  | _ => False
theorem eqI_ok : PCtrOk Try.prog 15 eqIC where
  enter := enter_ok Try.func15 (by kernel_rfl) rfl
  calls := by
    intro hg rg lr vals k h
    unfold eqIC at h
    split at h
    case h_2 => exact h.elim
    rename_i i j
    obtain ⟨e, own, xs, hi, h⟩ : ∃ e own, ∃ (xs : List Int), _ := rowC_inv h
    obtain ⟨e2, own2, ys, hj, h⟩ : ∃ e own, ∃ (xs : List Int), _ := rowC_inv h
    obtain ⟨⟨hx, hy⟩, hk⟩ := h
    refine ⟨_, _, hk, fun A w hB hR => ?_⟩
    refine enter T_ok .nil Try.func15 rfl (K := (· < w.heap.size)) (fun _ h => h) (A := A.pick [] [i, j]) (vals := [.row 0, .row 1]) (n0 := 0) (b0 := 0) (rows := [some ⟨iT, e, false, xs⟩, some ⟨iT, e2, false, ys⟩]) (hp := []) rfl (Nat.zero_le _) no_box rfl (two_rows (hR i _ hi) (hR j _ hj)) rfl rfl (Nat.le_of_ble_eq_true rfl) ?_
    conv => whnf
    repeat (refine V_step T_ok .nil rfl ?_; conv => whnf)
    have hx : List.length (α := Int) xs ≤ 100000 := hx
    have hy : List.length (α := Int) ys ≤ 100000 := hy
    repeat (any_goals (first
      | (refine V_step T_ok .nil rfl ?_; conv => whnf)
      | (refine V_drawA T_ok .nil mixed (by kernel_rfl) ?_; conv => whnf)
      | (refine bcond_split (fun hc => ?_) (fun hc => ?_) <;> (try simp only [decide_eq_true_eq, decide_eq_false_iff_not, Bool.not_eq_true', Bool.not_eq_false', Bool.and_eq_true, Bool.or_eq_true, Bool.and_eq_false_imp, Bool.or_eq_false_iff, ne_eq, Decidable.not_not] at hc) <;> conv => whnf)
      | (intro ysK hysK; have hysl := congrArg List.length hysK; (try simp only [List.length_set, List.length_append, List.length_cons, List.length_nil, List.length_take, List.length_drop, List.length_replicate] at hysl); conv => whnf)
      | (refine And.intro (by first | (first | exact True.intro | omega | (simp only [Rng]; omega)) | exact True.intro | exact ⟨rfl, True.intro, fun _ _ => rfl⟩ | exact Nat.le_of_ble_eq_true rfl | (refine ⟨by (try simp only [List.length_cons, List.length_nil]); omega, Int.le_trans (Int.mul_le_mul_of_nonneg_left (show (TInfo.bytes _ : Int) ≤ 64 from Int.ofNat_le.2 (Nat.le_of_ble_eq_true rfl)) (by omega)) (by (try simp only [List.length_cons, List.length_nil]); omega)⟩)) ?_; conv => whnf)))
    · refine leaf0 rfl (congrArg AVal.bool ?_) rfl
      have hc : ¬ (List.length (α := Int) xs : Int) = (List.length (α := Int) ys : Int) := hc
      exact (decide_eq_false (fun e => hc (by rw [e]))).symm
    · have hc : (List.length (α := Int) xs : Int) = (List.length (α := Int) ys : Int) := hc
      refine V_loopH (γ := Nat) (fun n => n ≤ List.length (α := Int) xs ∧ ∀ j, j < n → xs.getD j 0 = ys.getD j 0) (fun n => List.length (α := Int) xs - n)
        (fun n => [(5, .int .i64 n)]) (fun _ => []) (fun _ => []) 0 ⟨Nat.zero_le _, fun j h => absurd h (Nat.not_lt_zero _)⟩ ?_ ?_
      · conv => whnf
        refine ⟨?_, by (conv => whnf); repeat (first | exact True.intro | (refine And.intro rfl ?_; conv => whnf)), by (conv => whnf); repeat (first | exact True.intro | (refine And.intro (by first | rfl | (subst_vars; rfl)) ?_; conv => whnf)), rfl, rfl, rfl, rfl, rfl, rfl, rfl, Nat.le_of_ble_eq_true rfl, Nat.le_of_ble_eq_true rfl⟩
        conv => whnf
        repeat (first | exact True.intro | (refine And.intro (by first | rfl | ((conv => whnf); exact congrArg (AVal.int .i64) (by omega)) | ((conv => whnf); exact congrArg (AVal.int .i64) (by simp only [Int.natCast_add, Int.natCast_one]; omega))) ?_; conv => whnf))
      · rintro n ⟨h1, h2⟩
        conv => whnf
        refine vcCode_sound T_ok .nil _ _ _ _ _ ?_
        conv => whnf
        repeat (refine V_step T_ok .nil rfl ?_; conv => whnf)
        repeat (any_goals (first
          | (refine V_step T_ok .nil rfl ?_; conv => whnf)
          | (refine V_drawA T_ok .nil mixed (by kernel_rfl) ?_; conv => whnf)
          | (refine bcond_split (fun hc => ?_) (fun hc => ?_) <;> (try simp only [decide_eq_true_eq, decide_eq_false_iff_not, Bool.not_eq_true', Bool.not_eq_false', Bool.and_eq_true, Bool.or_eq_true, Bool.and_eq_false_imp, Bool.or_eq_false_iff, ne_eq, Decidable.not_not] at hc) <;> conv => whnf)
          | (intro ysK hysK; have hysl := congrArg List.length hysK; (try simp only [List.length_set, List.length_append, List.length_cons, List.length_nil, List.length_take, List.length_drop, List.length_replicate] at hysl); conv => whnf)
          | (refine And.intro (by first | (first | exact True.intro | omega | (simp only [Rng]; omega)) | exact True.intro | exact ⟨rfl, True.intro, fun _ _ => rfl⟩ | exact Nat.le_of_ble_eq_true rfl | (refine ⟨by (try simp only [List.length_cons, List.length_nil]); omega, Int.le_trans (Int.mul_le_mul_of_nonneg_left (show (TInfo.bytes _ : Int) ≤ 64 from Int.ofNat_le.2 (Nat.le_of_ble_eq_true rfl)) (by omega)) (by (try simp only [List.length_cons, List.length_nil]); omega)⟩)) ?_; conv => whnf)))
        · rename_i hlt
          have hq : ¬ xs.getD n 0 = ys.getD n 0 := hc
          exact leaf0 rfl (congrArg AVal.bool (decide_eq_false (fun e => hq (by rw [e]))).symm) rfl
        · rename_i hlt
          have hlt : (n : Int) < (List.length (α := Int) xs : Int) := hlt
          have hq : xs.getD n 0 = ys.getD n 0 := hc
          refine ⟨n + 1, ⟨by omega, fun j hj => ?_⟩, by omega, ?_⟩
          · rcases Nat.lt_or_ge j n with h | h
            · exact h2 j h
            · obtain rfl : j = n := by omega
              exact hq
          · conv => whnf
            refine ⟨?_, by (conv => whnf); repeat (first | exact True.intro | (refine And.intro rfl ?_; conv => whnf)), by (conv => whnf); repeat (first | exact True.intro | (refine And.intro (by first | rfl | (subst_vars; rfl)) ?_; conv => whnf)), rfl, rfl, rfl, rfl, rfl, rfl, rfl, Nat.le_of_ble_eq_true rfl, Nat.le_of_ble_eq_true rfl⟩
            conv => whnf
            repeat (first | exact True.intro | (refine And.intro (by first | rfl | ((conv => whnf); exact congrArg (AVal.int .i64) (by omega)) | ((conv => whnf); exact congrArg (AVal.int .i64) (by simp only [Int.natCast_add, Int.natCast_one]; omega))) ?_; conv => whnf))
        · rename_i hlen
          have hlt : ¬ (n : Int) < (List.length (α := Int) xs : Int) := hc
          exact leaf0 rfl (congrArg AVal.bool (decide_eq_true (list_eq9 0 (by omega) fun j hj => h2 j (by omega))).symm) rfl
def eqSSC : PCtr := fun _ rg _ vals k => match vals with
  | [.row i, .row j] => rowC rT (rg i) fun xs => rowC rT (rg j) fun ys => ((List.length (α := List Int) xs ≤ 100000 ∧ List.length (α := List Int) ys ≤ 100000) ∧ (∀ r ∈ (xs : List (List Int)), List.length (α := Int) r ≤ 100000) ∧ (∀ r ∈ (ys : List (List Int)), List.length (α := Int) r ≤ 100000)) ∧ k [] (.bool (eqLL xs ys))
  | _ => False
theorem eqSS_ok : PCtrOk Try.prog 10 eqSSC where
  enter := enter_ok Try.func10 (by kernel_rfl) rfl
  calls := by
    intro hg rg lr vals k h
    unfold eqSSC at h
    split at h
    case h_2 => exact h.elim
    rename_i i j
    obtain ⟨e, own, xs, hi, h⟩ : ∃ e own, ∃ (xs : List (List Int)), _ := rowC_inv h
    obtain ⟨e2, own2, ys, hj, h⟩ : ∃ e own, ∃ (xs : List (List Int)), _ := rowC_inv h
    obtain ⟨⟨⟨hx, hy⟩, hxr, hyr⟩, hk⟩ := h
    refine ⟨_, _, hk, fun A w hB hR => ?_⟩
    refine enter T_ok (GOk.cons eqI_ok .nil) Try.func10 rfl (K := (· < w.heap.size)) (fun _ h => h) (A := A.pick [] [i, j]) (vals := [.row 0, .row 1]) (n0 := 0) (b0 := 0) (rows := [some ⟨rT, e, false, xs⟩, some ⟨rT, e2, false, ys⟩]) (hp := []) rfl (Nat.zero_le _) no_box rfl (two_rows (hR i _ hi) (hR j _ hj)) rfl rfl (Nat.le_of_ble_eq_true rfl) ?_
    conv => whnf
    repeat (refine V_step T_ok (GOk.cons eqI_ok .nil) rfl ?_; conv => whnf)
    have hx : List.length (α := List Int) xs ≤ 100000 := hx
    have hy : List.length (α := List Int) ys ≤ 100000 := hy
    repeat (any_goals (first
      | (refine V_step T_ok (GOk.cons eqI_ok .nil) rfl ?_; conv => whnf)
      | (refine V_drawA T_ok (GOk.cons eqI_ok .nil) mixed (by kernel_rfl) ?_; conv => whnf)
      | (refine bcond_split (fun hc => ?_) (fun hc => ?_) <;> (try simp only [decide_eq_true_eq, decide_eq_false_iff_not, Bool.not_eq_true', Bool.not_eq_false', Bool.and_eq_true, Bool.or_eq_true, Bool.and_eq_false_imp, Bool.or_eq_false_iff, ne_eq, Decidable.not_not] at hc) <;> conv => whnf)
      | (intro ysK hysK; have hysl := congrArg List.length hysK; (try simp only [List.length_set, List.length_append, List.length_cons, List.length_nil, List.length_take, List.length_drop, List.length_replicate] at hysl); conv => whnf)
      | (refine And.intro (by first | (first | exact True.intro | omega | (simp only [Rng]; omega)) | exact True.intro | exact ⟨rfl, True.intro, fun _ _ => rfl⟩ | exact Nat.le_of_ble_eq_true rfl | (refine ⟨by (try simp only [List.length_cons, List.length_nil]); omega, Int.le_trans (Int.mul_le_mul_of_nonneg_left (show (TInfo.bytes _ : Int) ≤ 64 from Int.ofNat_le.2 (Nat.le_of_ble_eq_true rfl)) (by omega)) (by (try simp only [List.length_cons, List.length_nil]); omega)⟩)) ?_; conv => whnf)))
    · refine leaf0 rfl (congrArg AVal.bool ?_) rfl
      have hc : ¬ (List.length (α := List Int) xs : Int) = (List.length (α := List Int) ys : Int) := hc
      exact (decide_eq_false (fun e => hc (by rw [e]))).symm
    · have hc : (List.length (α := List Int) xs : Int) = (List.length (α := List Int) ys : Int) := hc
      refine V_loopH (γ := Nat) (fun n => n ≤ List.length (α := List Int) xs ∧ ∀ j, j < n → xs.getD j [] = ys.getD j []) (fun n => List.length (α := List Int) xs - n)
        (fun n => [(5, .int .i64 n)]) (fun _ => []) (fun _ => []) 0 ⟨Nat.zero_le _, fun j h => absurd h (Nat.not_lt_zero _)⟩ ?_ ?_
      · conv => whnf
        refine ⟨?_, by (conv => whnf); repeat (first | exact True.intro | (refine And.intro rfl ?_; conv => whnf)), by (conv => whnf); repeat (first | exact True.intro | (refine And.intro (by first | rfl | (subst_vars; rfl)) ?_; conv => whnf)), rfl, rfl, rfl, rfl, rfl, rfl, rfl, Nat.le_of_ble_eq_true rfl, Nat.le_of_ble_eq_true rfl⟩
        conv => whnf
        repeat (first | exact True.intro | (refine And.intro (by first | rfl | ((conv => whnf); exact congrArg (AVal.int .i64) (by omega)) | ((conv => whnf); exact congrArg (AVal.int .i64) (by simp only [Int.natCast_add, Int.natCast_one]; omega))) ?_; conv => whnf))
      · rintro n ⟨h1, h2⟩
        have hbb : (n : Int) < (List.length (α := List Int) xs : Int) → List.length (α := Int) (@List.getD (List Int) xs n []) ≤ 100000 ∧ List.length (α := Int) (@List.getD (List Int) ys n []) ≤ 100000 := fun h => ⟨hxr _ (getD_mem (by omega)), hyr _ (getD_mem (by omega))⟩
        conv => whnf
        refine vcCode_sound T_ok (GOk.cons eqI_ok .nil) _ _ _ _ _ ?_
        conv => whnf
        repeat (refine V_step T_ok (GOk.cons eqI_ok .nil) rfl ?_; conv => whnf)
        repeat (any_goals (first
          | (refine V_step T_ok (GOk.cons eqI_ok .nil) rfl ?_; conv => whnf)
          | (refine V_drawA T_ok (GOk.cons eqI_ok .nil) mixed (by kernel_rfl) ?_; conv => whnf)
          | (refine bcond_split (fun hc => ?_) (fun hc => ?_) <;> (try simp only [decide_eq_true_eq, decide_eq_false_iff_not, Bool.not_eq_true', Bool.not_eq_false', Bool.and_eq_true, Bool.or_eq_true, Bool.and_eq_false_imp, Bool.or_eq_false_iff, ne_eq, Decidable.not_not] at hc) <;> conv => whnf)
          | (intro ysK hysK; have hysl := congrArg List.length hysK; (try simp only [List.length_set, List.length_append, List.length_cons, List.length_nil, List.length_take, List.length_drop, List.length_replicate] at hysl); conv => whnf)
          | (refine And.intro (by first | (first | exact True.intro | exact hbb (by assumption) | omega | (simp only [Rng]; omega)) | exact True.intro | exact ⟨rfl, True.intro, fun _ _ => rfl⟩ | exact Nat.le_of_ble_eq_true rfl | (refine ⟨by (try simp only [List.length_cons, List.length_nil]); omega, Int.le_trans (Int.mul_le_mul_of_nonneg_left (show (TInfo.bytes _ : Int) ≤ 64 from Int.ofNat_le.2 (Nat.le_of_ble_eq_true rfl)) (by omega)) (by (try simp only [List.length_cons, List.length_nil]); omega)⟩)) ?_; conv => whnf)))
        · rename_i hlt
          have hq : ¬ xs.getD n [] = ys.getD n [] := of_decide_eq_false hc
          exact leaf0 rfl (congrArg AVal.bool (decide_eq_false (fun e => hq (by rw [e]))).symm) rfl
        · rename_i hlt
          have hlt : (n : Int) < (List.length (α := List Int) xs : Int) := hlt
          have hq : xs.getD n [] = ys.getD n [] := of_decide_eq_true hc
          refine ⟨n + 1, ⟨by omega, fun j hj => ?_⟩, by omega, ?_⟩
          · rcases Nat.lt_or_ge j n with h | h
            · exact h2 j h
            · obtain rfl : j = n := by omega
              exact hq
          · conv => whnf
            refine ⟨?_, by (conv => whnf); repeat (first | exact True.intro | (refine And.intro rfl ?_; conv => whnf)), by (conv => whnf); repeat (first | exact True.intro | (refine And.intro (by first | rfl | (subst_vars; rfl)) ?_; conv => whnf)), rfl, rfl, rfl, rfl, rfl, rfl, rfl, Nat.le_of_ble_eq_true rfl, Nat.le_of_ble_eq_true rfl⟩
            conv => whnf
            repeat (first | exact True.intro | (refine And.intro (by first | rfl | ((conv => whnf); exact congrArg (AVal.int .i64) (by omega)) | ((conv => whnf); exact congrArg (AVal.int .i64) (by simp only [Int.natCast_add, Int.natCast_one]; omega))) ?_; conv => whnf))
        · rename_i hlen
          have hlt : ¬ (n : Int) < (List.length (α := List Int) xs : Int) := hc
          exact leaf0 rfl (congrArg AVal.bool (decide_eq_true (list_eq9 [] (by omega) fun j hj => h2 j (by omega))).symm) rfl

/-! ### marks of lists of lists -/
def totL : List (List Int) → Int
  | [] => 0
  | r :: l => (r.length : Int) + totL l
theorem totL_nn : ∀ l, 0 ≤ totL l
  | [] => Int.le_refl _
  | r :: l => by have := totL_nn l; simp only [totL]; omega
theorem totL_append : ∀ l m, totL (l ++ m) = totL l + totL m
  | [], m => by simp [totL]
  | r :: l, m => by simp only [List.cons_append, totL, totL_append l m]; omega
theorem totL_take (l : List (List Int)) (n : Nat) (h : n < l.length) : totL (l.take (n + 1)) = totL (l.take n) + ((l.getD n []).length : Int) := by
  rw [List.take_add_one, totL_append, List.getElem?_eq_getElem h, List.getD_eq_getElem?_getD, List.getElem?_eq_getElem h]
  simp [totL]
theorem totL_le (l : List (List Int)) (n : Nat) : totL (l.take n) ≤ totL l := by
  have e : totL l = totL (l.take n) + totL (l.drop n) := by rw [← totL_append, List.take_append_drop]
  have := totL_nn (l.drop n)
  omega
theorem row_tot (l : List (List Int)) (n : Nat) (h : n < l.length) : totL (l.take n) + ((l.getD n []).length : Int) ≤ totL l := by
  rw [← totL_take l n h]; exact totL_le l _
def mkRow (q : Int) (l : List (List Int)) (i : Nat) : List Int := (List.range (l.getD i []).length).map (mkIF (q + totL (l.take i)))
def mkSS (q : Int) (l : List (List Int)) : List (List Int) := (List.range l.length).map (mkRow q l)
theorem mkSS_len (q : Int) (l : List (List Int)) : (mkSS q l).length = l.length := by simp [mkSS]
theorem mkSS_row {q : Int} {l : List (List Int)} {i : Nat} (h : i < l.length) : (mkSS q l).getD i [] = mkRow q l i := by
  unfold mkSS; rw [List.getD_eq_getElem?_getD, List.getElem?_map, List.getElem?_range h]; rfl
theorem mkRow_len (q : Int) (l : List (List Int)) (i : Nat) : (mkRow q l i).length = (l.getD i []).length := by simp [mkRow]
theorem totL_congr : ∀ {l m : List (List Int)}, l.length = m.length → (∀ i, i < l.length → (l.getD i []).length = (m.getD i []).length) → totL l = totL m
  | [], [], _, _ => rfl
  | [], _ :: _, h, _ => by simp at h
  | _ :: _, [], h, _ => by simp at h
  | r :: l, s :: m, h, he => by
    have h0 := he 0 (by simp)
    simp only [List.getD_cons_zero] at h0
    have := totL_congr (l := l) (m := m) (by simpa using h) (fun i hi => by have := he (i + 1) (by simpa using hi); simpa only [List.getD_cons_succ] using this)
    simp only [totL, this, h0]
theorem mkSS_tot (q : Int) (l : List (List Int)) (n : Nat) : totL ((mkSS q l).take n) = totL (l.take n) := by
  refine totL_congr (by simp [mkSS_len]) fun i hi => ?_
  rw [List.length_take, mkSS_len] at hi
  have e : ∀ l : List (List Int), (l.take n).getD i [] = l.getD i [] := fun l => by
    rw [List.getD_eq_getElem?_getD, List.getElem?_take, if_pos (by omega), ← List.getD_eq_getElem?_getD]
  rw [e, e, mkSS_row (by omega), mkRow_len]
theorem mkSS_tot_all (q : Int) (l : List (List Int)) : totL (mkSS q l) = totL l := by
  have := mkSS_tot q l l.length
  rwa [List.take_length, List.take_of_length_le (by rw [mkSS_len]; omega)] at this

def mkSSC : LCtr := fun hg rg vals k => match vals with
  | [.row i, .int .i64 q] => rowO rT (rg i) fun e xs => ((0 ≤ q ∧ q ≤ 1000) ∧ List.length (α := List Int) xs ≤ 1000 ∧ totL xs ≤ 900000) ∧ k i ⟨rT, e, true, mkSS q xs⟩ (.int .i64 (q + totL xs))
  | _ => False
theorem mkSS_ok : LCtrOk Try.prog 11 mkSSC where
  enter := enter_ok Try.func11 (by kernel_rfl) rfl
  calls := by
    intro hg rg vals k h
    unfold mkSSC at h
    split at h
    case h_2 => exact h.elim
    rename_i i q
    obtain ⟨e, xs, hi, h⟩ : ∃ e, ∃ (xs : List (List Int)), _ := rowO_inv h
    obtain ⟨⟨hq, hl, ht⟩, hk⟩ := h
    refine ⟨_, _, _, _, hk, hi, rfl, rfl, fun A w hM => ?_⟩
    have hO := One.of hi rfl
    refine enterM T_ok (GOk.mcons mkIM_ok .nil) Try.func11 rfl (w := w) (A := A.pick [] [i]) (vals := [.row 0, .int .i64 q]) (n0 := 1) (b0 := 0) (rows := [some ⟨rT, e, true, xs⟩]) (hp := []) rfl (Nat.le_refl _) (hM.one hi) rfl rfl rfl (Nat.le_of_ble_eq_true rfl) ?_
    conv => whnf
    repeat (refine V_step T_ok (GOk.mcons mkIM_ok .nil) rfl ?_; conv => whnf)
    have hl : List.length (α := List Int) xs ≤ 1000 := hl
    refine V_loopH (γ := (Nat × Int) × List (List Int)) (fun g => g.1.1 ≤ List.length (α := List Int) xs ∧ g.1.2 = q + totL (xs.take g.1.1) ∧ g.2 = (List.range g.1.1).map (mkRow q xs) ++ xs.drop g.1.1) (fun g => List.length (α := List Int) xs - g.1.1)
      (fun g => [(1, .int .i64 g.1.2), (5, .int .i64 g.1.1)]) (fun _ => []) (fun g => [(0, some ⟨rT, e, true, g.2⟩)]) ((0, q), xs) ⟨Nat.zero_le _, by simp [totL], rfl⟩ ?_ ?_
    · conv => whnf
      refine ⟨?_, by (conv => whnf); repeat (first | exact True.intro | (refine And.intro rfl ?_; conv => whnf)), by (conv => whnf); repeat (first | exact True.intro | (refine And.intro (by first | rfl | (subst_vars; rfl)) ?_; conv => whnf)), rfl, rfl, rfl, rfl, rfl, rfl, rfl, Nat.le_of_ble_eq_true rfl, Nat.le_of_ble_eq_true rfl⟩
      conv => whnf
      repeat (first | exact True.intro | (refine And.intro (by first | rfl | ((conv => whnf); exact congrArg (AVal.int .i64) (by omega)) | ((conv => whnf); exact congrArg (AVal.int .i64) (by simp only [Int.natCast_add, Int.natCast_one]; omega))) ?_; conv => whnf))
    · rintro ⟨⟨n, m⟩, L⟩ ⟨h1, h3, h2⟩
      simp only at h1 h2 h3
      have hL : List.length (α := List Int) L = List.length (α := List Int) xs := by rw [h2]; exact mark_len _ _ _ h1
      have hg : n < List.length (α := List Int) xs → L.getD n [] = xs.getD n [] := fun h => by
        rw [h2, List.getD_eq_getElem?_getD, List.getElem?_append_right (by simp), List.length_map, List.length_range, List.getElem?_drop, Nat.sub_self, Nat.add_zero, ← List.getD_eq_getElem?_getD]
      have hside : (n : Int) < (List.length (α := List Int) L : Int) → (0 ≤ m ∧ m ≤ 1000000) ∧ (List.length (α := Int) (@List.getD (List Int) L n []) : Int) ≤ 1000000 := fun h => by
        have hn : n < List.length (α := List Int) xs := by omega
        have t1 := row_tot xs n hn
        have t2 := totL_nn (xs.take n)
        rw [hg hn]
        omega
      conv => whnf
      refine vcCode_sound T_ok (GOk.mcons mkIM_ok .nil) _ _ _ _ _ ?_
      conv => whnf
      repeat (refine V_step T_ok (GOk.mcons mkIM_ok .nil) rfl ?_; conv => whnf)
      repeat (any_goals (first
        | (refine V_step T_ok (GOk.mcons mkIM_ok .nil) rfl ?_; conv => whnf)
        | (refine V_drawA T_ok (GOk.mcons mkIM_ok .nil) mixed (by kernel_rfl) ?_; conv => whnf)
        | (refine bcond_split (fun hc => ?_) (fun hc => ?_) <;> (try simp only [decide_eq_true_eq, decide_eq_false_iff_not, Bool.not_eq_true', Bool.not_eq_false', Bool.and_eq_true, Bool.or_eq_true, Bool.and_eq_false_imp, Bool.or_eq_false_iff, ne_eq, Decidable.not_not] at hc) <;> conv => whnf)
        | (intro ysK hysK; have hysl := congrArg List.length hysK; (try simp only [List.length_set, List.length_append, List.length_cons, List.length_nil, List.length_take, List.length_drop, List.length_replicate] at hysl); conv => whnf)
        | (refine And.intro (by first | (first | exact True.intro | exact hside (by assumption) | omega | (simp only [Rng]; omega)) | exact True.intro | exact ⟨rfl, True.intro, fun _ _ => rfl⟩ | exact Nat.le_of_ble_eq_true rfl | (refine ⟨by (try simp only [List.length_cons, List.length_nil]); omega, Int.le_trans (Int.mul_le_mul_of_nonneg_left (show (TInfo.bytes _ : Int) ≤ 64 from Int.ofNat_le.2 (Nat.le_of_ble_eq_true rfl)) (by omega)) (by (try simp only [List.length_cons, List.length_nil]); omega)⟩)) ?_; conv => whnf)))
      · have hn : n < List.length (α := List Int) xs := by
          have hc : (n : Int) < (List.length (α := List Int) L : Int) := by assumption
          omega
        have hy : ysK = (List.range (n + 1)).map (mkRow q xs) ++ xs.drop (n + 1) := by
          rw [← mark_step (mkRow q xs) xs n hn, ← h2]
          have hr : mkRow q xs n = (List.range (L.getD n []).length).map (mkIF m) := by rw [hg hn, h3]; rfl
          rw [hr]
          exact hysK
        have hm : m + 1 * ((L.getD n []).length : Int) = q + totL (xs.take (n + 1)) := by rw [totL_take xs n hn, hg hn, h3]; omega
        clear hysK hysl
        refine ⟨((n + 1, m + 1 * ((L.getD n []).length : Int)), ysK), ⟨by simp only; omega, hm, hy⟩, by simp only; omega, ?_⟩
        conv => whnf
        refine ⟨?_, by (conv => whnf); repeat (first | exact True.intro | (refine And.intro rfl ?_; conv => whnf)), by (conv => whnf); repeat (first | exact True.intro | (refine And.intro (by first | rfl | (subst_vars; rfl)) ?_; conv => whnf)), rfl, rfl, rfl, rfl, rfl, rfl, rfl, Nat.le_of_ble_eq_true rfl, Nat.le_of_ble_eq_true rfl⟩
        conv => whnf
        repeat (first | exact True.intro | (refine And.intro (by first | rfl | ((conv => whnf); exact congrArg (AVal.int .i64) (by omega)) | ((conv => whnf); exact congrArg (AVal.int .i64) (by simp only [Int.natCast_add, Int.natCast_one]; omega))) ?_; conv => whnf))
      · have hn : n = List.length (α := List Int) xs := by
          have hc : ¬ (n : Int) < (List.length (α := List Int) L : Int) := hc
          omega
        have hy : mkSS q xs = L := by rw [h2, hn, List.drop_length, List.append_nil]; rfl
        have hm : m = q + totL xs := by rw [h3, hn, List.take_length]
        rw [hy, ← hm]
        exact leafL hO Nat.zero_lt_one rfl rfl rfl rfl

def hdSSC : PCtr := fun hg rg _ vals k => match vals with
  | [.row i, .int .i64 q] => rowC rT (rg i) fun xs => ((0 ≤ q ∧ q ≤ 1000) ∧ List.length (α := List Int) xs ≤ 1000 ∧ totL xs ≤ 900000 ∧ ∃ ys : List (List Int), (xs : List (List Int)) = mkSS q ys) ∧ k [] (.int .i64 (q + totL xs))
  | _ => False
theorem hdSS_ok : PCtrOk Try.prog 12 hdSSC where
  enter := enter_ok Try.func12 (by kernel_rfl) rfl
  calls := by
    intro hg rg lr vals k h
    unfold hdSSC at h
    split at h
    case h_2 => exact h.elim
    rename_i i q
    obtain ⟨e, own, xs, hi, h⟩ : ∃ e own, ∃ (xs : List (List Int)), _ := rowC_inv h
    obtain ⟨⟨hq, hl, ht, ys, hys⟩, hk⟩ := h
    refine ⟨_, _, hk, fun A w hB hR => ?_⟩
    refine enter T_ok (GOk.cons mkIH_ok .nil) Try.func12 rfl (K := (· < w.heap.size)) (fun _ h => h) (A := A.pick [] [i]) (vals := [.row 0, .int .i64 q]) (n0 := 0) (b0 := 0) (rows := [some ⟨rT, e, false, xs⟩]) (hp := []) rfl (Nat.zero_le _) no_box rfl (one_row (hR i _ hi)) rfl rfl (Nat.le_of_ble_eq_true rfl) ?_
    conv => whnf
    repeat (refine V_step T_ok (GOk.cons mkIH_ok .nil) rfl ?_; conv => whnf)
    have hl : List.length (α := List Int) xs ≤ 1000 := hl
    have hys : xs = mkSS q ys := hys
    refine V_loopH (γ := Nat × Int) (fun g => g.1 ≤ List.length (α := List Int) xs ∧ g.2 = q + totL (xs.take g.1)) (fun g => List.length (α := List Int) xs - g.1)
      (fun g => [(1, .int .i64 g.2), (5, .int .i64 g.1)]) (fun _ => []) (fun _ => []) (0, q) ⟨Nat.zero_le _, by simp [totL]⟩ ?_ ?_
    · conv => whnf
      refine ⟨?_, by (conv => whnf); repeat (first | exact True.intro | (refine And.intro rfl ?_; conv => whnf)), by (conv => whnf); repeat (first | exact True.intro | (refine And.intro (by first | rfl | (subst_vars; rfl)) ?_; conv => whnf)), rfl, rfl, rfl, rfl, rfl, rfl, rfl, Nat.le_of_ble_eq_true rfl, Nat.le_of_ble_eq_true rfl⟩
      conv => whnf
      repeat (first | exact True.intro | (refine And.intro (by first | rfl | ((conv => whnf); exact congrArg (AVal.int .i64) (by omega)) | ((conv => whnf); exact congrArg (AVal.int .i64) (by simp only [Int.natCast_add, Int.natCast_one]; omega))) ?_; conv => whnf))
    · rintro ⟨n, m⟩ ⟨h1, h3⟩
      simp only at h1 h3
      have hside : (n : Int) < (List.length (α := List Int) xs : Int) → ((0 ≤ m ∧ m ≤ 1000000) ∧ (List.length (α := Int) (@List.getD (List Int) xs n []) : Int) ≤ 1000000 ∧ (@List.getD (List Int) xs n []) = (List.range (List.length (α := Int) (@List.getD (List Int) xs n []))).map (mkIF m)) ∧ 0 ≤ m + 1 * (List.length (α := Int) (@List.getD (List Int) xs n []) : Int) := fun h => by
        have hn : n < List.length (α := List Int) xs := by omega
        have t1 := row_tot xs n hn
        have t2 := totL_nn (xs.take n)
        have hn2 : n < List.length (α := List Int) ys := by rw [hys, mkSS_len] at hn; exact hn
        refine ⟨⟨by omega, by omega, ?_⟩, by omega⟩
        have e1 : xs.getD n [] = mkRow q ys n := by rw [hys, mkSS_row hn2]
        have e2 : m = q + totL (ys.take n) := by rw [h3, hys, mkSS_tot]
        rw [e1, mkRow_len, e2]; rfl
      conv => whnf
      refine vcCode_sound T_ok (GOk.cons mkIH_ok .nil) _ _ _ _ _ ?_
      conv => whnf
      repeat (refine V_step T_ok (GOk.cons mkIH_ok .nil) rfl ?_; conv => whnf)
      repeat (any_goals (first
        | (refine V_step T_ok (GOk.cons mkIH_ok .nil) rfl ?_; conv => whnf)
        | (refine V_drawA T_ok (GOk.cons mkIH_ok .nil) mixed (by kernel_rfl) ?_; conv => whnf)
        | (refine bcond_split (fun hc => ?_) (fun hc => ?_) <;> (try simp only [decide_eq_true_eq, decide_eq_false_iff_not, Bool.not_eq_true', Bool.not_eq_false', Bool.and_eq_true, Bool.or_eq_true, Bool.and_eq_false_imp, Bool.or_eq_false_iff, ne_eq, Decidable.not_not] at hc) <;> conv => whnf)
        | (intro ysK hysK; have hysl := congrArg List.length hysK; (try simp only [List.length_set, List.length_append, List.length_cons, List.length_nil, List.length_take, List.length_drop, List.length_replicate] at hysl); conv => whnf)
        | (refine And.intro (by first | (first | exact True.intro | exact (hside (by assumption)).1 | omega | (simp only [Rng]; omega)) | exact True.intro | exact ⟨rfl, True.intro, fun _ _ => rfl⟩ | exact Nat.le_of_ble_eq_true rfl | (refine ⟨by (try simp only [List.length_cons, List.length_nil]); omega, Int.le_trans (Int.mul_le_mul_of_nonneg_left (show (TInfo.bytes _ : Int) ≤ 64 from Int.ofNat_le.2 (Nat.le_of_ble_eq_true rfl)) (by omega)) (by (try simp only [List.length_cons, List.length_nil]); omega)⟩)) ?_; conv => whnf)))
      · rename_i hlt
        exact absurd (hside hlt).2 (by have hc : m + 1 * (List.length (α := Int) (@List.getD (List Int) xs n []) : Int) < 0 := hc; omega)
      · rename_i hlt
        have hlt : (n : Int) < (List.length (α := List Int) xs : Int) := hlt
        have hn : n < List.length (α := List Int) xs := by omega
        have hm : m + 1 * ((xs.getD n []).length : Int) = q + totL (xs.take (n + 1)) := by rw [totL_take xs n hn, h3]; omega
        refine ⟨(n + 1, m + 1 * ((xs.getD n []).length : Int)), ⟨by simp only; omega, hm⟩, by simp only; omega, ?_⟩
        conv => whnf
        refine ⟨?_, by (conv => whnf); repeat (first | exact True.intro | (refine And.intro rfl ?_; conv => whnf)), by (conv => whnf); repeat (first | exact True.intro | (refine And.intro (by first | rfl | (subst_vars; rfl)) ?_; conv => whnf)), rfl, rfl, rfl, rfl, rfl, rfl, rfl, Nat.le_of_ble_eq_true rfl, Nat.le_of_ble_eq_true rfl⟩
        conv => whnf
        repeat (first | exact True.intro | (refine And.intro (by first | rfl | ((conv => whnf); exact congrArg (AVal.int .i64) (by omega)) | ((conv => whnf); exact congrArg (AVal.int .i64) (by simp only [Int.natCast_add, Int.natCast_one]; omega))) ?_; conv => whnf))
      · have hn : n = List.length (α := List Int) xs := by
          have hc : ¬ (n : Int) < (List.length (α := List Int) xs : Int) := hc
          omega
        have hm : m = q + totL xs := by rw [h3, hn, List.take_length]
        rw [← hm]
        exact leaf0 rfl rfl rfl
end Go.Proofs.Ytadlnnjgocknhaa.Fw
