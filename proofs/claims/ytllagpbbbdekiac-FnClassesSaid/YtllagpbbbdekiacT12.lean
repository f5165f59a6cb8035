/- Contracts: the images of the classes. -/
import Derived.Test.YtllagpbbbdekiacT9
namespace Go.Proofs.Ytllagpbbbdekiac.Fw
open Go Go.RowKit
set_option linter.unusedVariables false
set_option linter.unusedSimpArgs false
set_option maxRecDepth 100000
set_option maxHeartbeats 2000000
def holdC : PCtr := fun hg rg _ vals k => match vals with
  | [.row i, .loc j 0] => boxI (hg j) fun x => rowC iT1 (rg i) fun xs => List.length (α := Int) xs ≤ 100000 ∧ k [] (.bool (hasN x xs))
  | _ => False
theorem hold_ok : PCtrOk Try.prog 62 holdC where
  enter := enter_ok Try.func62 (by kernel_rfl) rfl
  calls := by
    intro hg rg lr vals k h
    unfold holdC at h
    split at h
    case h_2 => exact h.elim
    rename_i i j
    obtain ⟨x, hj, h⟩ := boxI_inv h
    obtain ⟨e, own, xs, hi, h⟩ : ∃ e own, ∃ (xs : List Int), _ := rowC_inv h
    obtain ⟨hl, hk⟩ := h
    refine ⟨_, _, hk, fun A w hB hR => ?_⟩
    refine enter T_ok (GOk.cons hasI_ok .nil) Try.func62 rfl (K := (· < w.heap.size)) (fun _ h => h) (A := A.pick [j] [i]) (vals := [.row 0, .loc 0 0]) (n0 := 0) (b0 := 1) (rows := [some ⟨iT1, e, false, xs⟩]) (hp := [some [.int .i64 x]]) rfl (Nat.zero_le _) (one_box (hB j _ hj)) rfl (one_row (hR i _ hi)) rfl rfl (Nat.le_of_ble_eq_true rfl) ?_
    conv => whnf
    repeat (refine V_step T_ok (GOk.cons hasI_ok .nil) rfl ?_; conv => whnf)
    have hl : List.length (α := Int) xs ≤ 100000 := hl
    repeat (any_goals (first
      | (refine V_step T_ok (GOk.cons hasI_ok .nil) rfl ?_; conv => whnf)
      | (refine V_drawA T_ok (GOk.cons hasI_ok .nil) mixed (by kernel_rfl) ?_; conv => whnf)
      | (refine bcond_split (fun hc => ?_) (fun hc => ?_) <;> (try simp only [decide_eq_true_eq, decide_eq_false_iff_not, Bool.not_eq_true', Bool.not_eq_false', Bool.and_eq_true, Bool.or_eq_true, Bool.and_eq_false_imp, Bool.or_eq_false_iff, ne_eq, Decidable.not_not] at hc) <;> conv => whnf)
      | (intro ysK hysK; have hysl := congrArg List.length hysK; (try simp only [List.length_set, List.length_append, List.length_cons, List.length_nil, List.length_take, List.length_drop, List.length_replicate] at hysl); conv => whnf)
      | (intro bK hbK; have hbl := congrArg ByteArray.size hbK; conv => whnf)
      | (intro sK hsK; conv => whnf)
      | (refine And.intro (by first | (first | exact hl | exact True.intro | omega) | exact True.intro | exact ⟨rfl, True.intro, fun _ _ => rfl⟩ | exact Nat.le_of_ble_eq_true rfl | (refine ⟨by (try simp only [List.length_cons, List.length_nil]); omega, Int.le_trans (Int.mul_le_mul_of_nonneg_left (show (TInfo.bytes _ : Int) ≤ 64 from Int.ofNat_le.2 (Nat.le_of_ble_eq_true rfl)) (by omega)) (by (try simp only [List.length_cons, List.length_nil]); omega)⟩)) ?_; conv => whnf)))
    all_goals exact leaf0 rfl rfl rfl
def hixC : PCtr := fun hg rg _ vals k => match vals with
  | [.row i, .fn f [] [.loc j 0]] => isF f 62 (boxI (hg j) fun x => rowC rT1 (rg i) fun xs => Sml xs ∧ k [] (.int .i64 (idxP (hasN x) xs)))
  | _ => False
theorem hix_ok : PCtrOk Try.prog 60 hixC where
  enter := enter_ok Try.func60 (by kernel_rfl) rfl
  calls := by
    intro hg rg lr vals k h
    unfold hixC at h
    split at h
    case h_2 => exact h.elim
    rename_i i f j
    obtain ⟨rfl, h⟩ := isF_inv h
    obtain ⟨x, hj, h⟩ := boxI_inv h
    obtain ⟨e, own, xs, hi, h⟩ : ∃ e own, ∃ (xs : List (List Int)), _ := rowC_inv h
    obtain ⟨hl, hk⟩ := h
    refine ⟨_, _, hk, fun A w hB hR => ?_⟩
    refine enter T_ok (GOk.cons hold_ok .nil) Try.func60 rfl (K := (· < w.heap.size)) (fun _ h => h) (A := A.pick [j] [i]) (vals := [.row 0, .fn 62 [] [.loc 0 0]]) (n0 := 0) (b0 := 1) (rows := [some ⟨rT1, e, false, xs⟩]) (hp := [some [.int .i64 x]]) rfl (Nat.zero_le _) (one_box (hB j _ hj)) rfl (one_row (hR i _ hi)) rfl rfl (Nat.le_of_ble_eq_true rfl) ?_
    conv => whnf
    repeat (refine V_step T_ok (GOk.cons hold_ok .nil) rfl ?_; conv => whnf)
    refine V_loopH (γ := Nat) (fun n => n ≤ xs.length ∧ ∀ j, j < n → hasN x (xs.getD j rT1.dflt) = false) (fun n => xs.length - n)
      (fun n => [(8, .int .i64 n)]) (fun _ => []) (fun _ => []) 0 ⟨Nat.zero_le _, fun j h => absurd h (Nat.not_lt_zero _)⟩ ?_ ?_
    · conv => whnf
      refine ⟨?_, by (conv => whnf); repeat (first | exact True.intro | (refine And.intro rfl ?_; conv => whnf)), by (conv => whnf); repeat (first | exact True.intro | (refine And.intro (by first | rfl | (subst_vars; rfl)) ?_; conv => whnf)), rfl, rfl, rfl, rfl, rfl, rfl, rfl, Nat.le_of_ble_eq_true rfl, Nat.le_of_ble_eq_true rfl⟩
      conv => whnf
      repeat (first | exact True.intro | (refine And.intro (by first | rfl | ((conv => whnf); exact congrArg (AVal.int .i64) (by omega)) | ((conv => whnf); exact congrArg (AVal.int .i64) (by simp only [Int.natCast_add, Int.natCast_one]; omega)) | ((conv => whnf); exact congrArg (AVal.irow _) (by first | omega | assumption | (simp only; omega)))) ?_; conv => whnf))
    · rintro n ⟨h1, h2⟩
      have hl' : (List.length (α := TyC.α rT1) xs : Int) ≤ 100000 := by have : List.length (α := TyC.α rT1) xs ≤ 100000 := hl.1; omega
      have hat : (n : Int) < (List.length (α := TyC.α rT1) xs : Int) → List.length (α := Int) (List.getD (α := List Int) xs n []) ≤ 100000 := fun h => hl.at (by
        have : n < List.length (α := TyC.α rT1) xs := by omega
        exact this)
      conv => whnf
      refine vcCode_sound T_ok (GOk.cons hold_ok .nil) _ _ _ _ _ ?_
      conv => whnf
      repeat (refine V_step T_ok (GOk.cons hold_ok .nil) rfl ?_; conv => whnf)
      repeat (any_goals (first
        | (refine V_step T_ok (GOk.cons hold_ok .nil) rfl ?_; conv => whnf)
        | (refine V_drawA T_ok (GOk.cons hold_ok .nil) mixed (by kernel_rfl) ?_; conv => whnf)
        | (refine bcond_split (fun hc => ?_) (fun hc => ?_) <;> (try simp only [decide_eq_true_eq, decide_eq_false_iff_not, Bool.not_eq_true', Bool.not_eq_false', Bool.and_eq_true, Bool.or_eq_true, Bool.and_eq_false_imp, Bool.or_eq_false_iff, ne_eq, Decidable.not_not] at hc) <;> conv => whnf)
        | (intro ysK hysK; have hysl := congrArg List.length hysK; (try simp only [List.length_set, List.length_append, List.length_cons, List.length_nil, List.length_take, List.length_drop, List.length_replicate] at hysl); conv => whnf)
        | (intro bK hbK; have hbl := congrArg ByteArray.size hbK; conv => whnf)
        | (intro sK hsK; conv => whnf)
        | (refine And.intro (by first | (first | exact True.intro | exact hat (by assumption) | omega | (simp only [Rng]; omega)) | exact True.intro | exact ⟨rfl, True.intro, fun _ _ => rfl⟩ | exact Nat.le_of_ble_eq_true rfl | (refine ⟨by (try simp only [List.length_cons, List.length_nil]); omega, Int.le_trans (Int.mul_le_mul_of_nonneg_left (show (TInfo.bytes _ : Int) ≤ 64 from Int.ofNat_le.2 (Nat.le_of_ble_eq_true rfl)) (by omega)) (by (try simp only [List.length_cons, List.length_nil]); omega)⟩)) ?_; conv => whnf)))
      · rename_i hc0
        have hl : (n : Int) < (xs.length : Nat) := hc0
        exact leaf0 rfl (congrArg (AVal.int .i64) (idxP_found (hasN x) xs n rT1.dflt (by omega) h2 hc).symm) rfl
      · rename_i hc0
        have hl : (n : Int) < (xs.length : Nat) := hc0
        refine ⟨n + 1, ⟨by omega, fun j hj => ?_⟩, by omega, ?_⟩
        · rcases Nat.lt_or_ge j n with h | h
          · exact h2 j h
          · obtain rfl : j = n := by omega
            exact hc
        · conv => whnf
          refine ⟨?_, by (conv => whnf); repeat (first | exact True.intro | (refine And.intro rfl ?_; conv => whnf)), by (conv => whnf); repeat (first | exact True.intro | (refine And.intro (by first | rfl | (subst_vars; rfl)) ?_; conv => whnf)), rfl, rfl, rfl, rfl, rfl, rfl, rfl, Nat.le_of_ble_eq_true rfl, Nat.le_of_ble_eq_true rfl⟩
          conv => whnf
          repeat (first | exact True.intro | (refine And.intro (by first | rfl | ((conv => whnf); exact congrArg (AVal.int .i64) (by omega)) | ((conv => whnf); exact congrArg (AVal.int .i64) (by simp only [Int.natCast_add, Int.natCast_one]; omega)) | ((conv => whnf); exact congrArg (AVal.irow _) (by first | omega | assumption | (simp only; omega)))) ?_; conv => whnf))
      · have hl : ¬ (n : Int) < (xs.length : Nat) := hc
        exact leaf0 rfl (congrArg (AVal.int .i64) (idxP_none (hasN x) xs rT1.dflt (fun j hj => h2 j (by omega))).symm) rfl
def HdL (L : List (List Int)) : Prop := SmallL L ∧ ∀ g, g < List.length (α := List Int) L → List.length (α := Int) (List.getD (α := List Int) L g []) ≠ 0 ∧ 0 ≤ List.getD (α := Int) (List.getD (α := List Int) L g []) 0 0 ∧ List.getD (α := Int) (List.getD (α := List Int) L g []) 0 0 ≤ 63
theorem clsL_hd {n : Nat} {c : List Int} (h : Can n c) (hn : n ≤ 63) : HdL (clsL n c) :=
  ⟨clsL_small c hn, fun g hg => by
    obtain ⟨k, h1, h2, h3⟩ := cls_head h hg
    exact ⟨h3, by rw [h2]; omega, by rw [h2]; omega⟩⟩
def imgsC : PCtr := fun _ rg lr vals k => match vals with
  | [.row i, .int .i64 n] => rowC rT1 (rg i) fun L => (HdL L ∧ OkN n) ∧ ∀ ys : List Int, ys = imgG L n (List.length (α := List Int) L) → k [⟨iT1, 2, true, ys⟩] (.row lr)
  | _ => False
abbrev GIm := (GOk.cons hix_ok .nil)
theorem imgs_ok : PCtrOk Try.prog 43 imgsC where
  enter := enter_ok Try.func43 (by kernel_rfl) rfl
  calls := by
    intro hg rg lr vals k h
    unfold imgsC at h
    split at h
    case h_2 => exact h.elim
    rename_i i n
    obtain ⟨e, own, L, hi, h⟩ : ∃ e own, ∃ (xs : List (List Int)), _ := rowC_inv h
    obtain ⟨⟨hL, hn⟩, hk⟩ := h
    replace hk := hk _ rfl
    refine ⟨_, _, hk, fun A w hB hR => ?_⟩
    refine enter T_ok GIm Try.func43 rfl (K := (· < w.heap.size)) (fun _ h => h) (A := A.pick [] [i]) (vals := [.row 0, .int .i64 n]) (n0 := 0) (b0 := 0) (rows := [some ⟨rT1, e, false, L⟩]) (hp := []) rfl (Nat.zero_le _) no_box rfl (one_row (hR i _ hi)) rfl rfl (Nat.le_of_ble_eq_true rfl) ?_
    conv => whnf
    repeat (refine V_step T_ok GIm rfl ?_; conv => whnf)
    have hl63 : List.length (α := TyC.α rT1) L ≤ 63 := hL.1.1
    have hb8 : (ti2.bytes : Int) = 8 := rfl
    have hsm : Sml L := hL.1.sml
    repeat (any_goals (first
      | (refine V_step T_ok GIm rfl ?_; conv => whnf)
      | (refine V_drawA T_ok GIm mixed (by kernel_rfl) ?_; conv => whnf)
      | (refine bcond_split (fun hc => ?_) (fun hc => ?_) <;> (try simp only [decide_eq_true_eq, decide_eq_false_iff_not, Bool.not_eq_true', Bool.not_eq_false', Bool.and_eq_true, Bool.or_eq_true, Bool.and_eq_false_imp, Bool.or_eq_false_iff, ne_eq, Decidable.not_not] at hc) <;> conv => whnf)
      | (intro ysK hysK; have hysl := congrArg List.length hysK; (try simp only [List.length_set, List.length_append, List.length_cons, List.length_nil, List.length_take, List.length_drop, List.length_replicate] at hysl); conv => whnf)
      | (intro bK hbK; have hbl := congrArg ByteArray.size hbK; conv => whnf)
      | (intro sK hsK; conv => whnf)
      | (refine And.intro (by first | (first | exact True.intro | omega) | exact True.intro | exact ⟨rfl, True.intro, fun _ _ => rfl⟩ | exact Nat.le_of_ble_eq_true rfl | (refine ⟨by (try simp only [List.length_cons, List.length_nil]); omega, Int.le_trans (Int.mul_le_mul_of_nonneg_left (show (TInfo.bytes _ : Int) ≤ 64 from Int.ofNat_le.2 (Nat.le_of_ble_eq_true rfl)) (by omega)) (by (try simp only [List.length_cons, List.length_nil]); omega)⟩)) ?_; conv => whnf)))
    refine V_loopP (γ := Nat) (fun g => g ≤ List.length (α := TyC.α rT1) L) (fun g => List.length (α := TyC.α rT1) L - g) (fun g => [(11, .int .i64 g), (5, .row 1), (8, .junk)]) (fun _ => []) (fun _ => []) (fun g => [some ⟨iT1, 2, true, imgG L n g⟩]) 0 (Nat.zero_le _) ?_ ?_
    · conv => whnf
      refine ⟨?_, by (conv => whnf); repeat (first | exact True.intro | (refine And.intro rfl ?_; conv => whnf)), by (conv => whnf); repeat (first | exact True.intro | (refine And.intro (by first | rfl | (subst_vars; rfl)) ?_; conv => whnf)), rfl, rfl, rfl, rfl, rfl, rfl, rfl, Nat.le_of_ble_eq_true rfl, Nat.le_of_ble_eq_true rfl⟩
      conv => whnf
      repeat (first | exact True.intro | (refine And.intro (by first | rfl | ((conv => whnf); exact congrArg (AVal.int .i64) (by omega)) | ((conv => whnf); exact congrArg (AVal.int .i64) (by simp only [Int.natCast_add, Int.natCast_one]; omega)) | ((conv => whnf); exact congrArg (AVal.irow _) (by first | omega | assumption | (simp only; omega)))) ?_; conv => whnf))
    · rintro g hg
      have hgl := imgG_len L n g
      have hhd : (g : Int) < (List.length (α := TyC.α rT1) L : Int) → List.length (α := Int) (List.getD (α := List Int) L g []) ≠ 0 ∧ 0 ≤ List.getD (α := Int) (List.getD (α := List Int) L g []) 0 0 ∧ List.getD (α := Int) (List.getD (α := List Int) L g []) 0 0 ≤ 63 := fun h => hL.2 g (by
        have : g < List.length (α := TyC.α rT1) L := by omega
        exact this)
      have hix0 : (g : Int) < (List.length (α := TyC.α rT1) L : Int) → ((0 : Int) ≤ 0 ∧ (0 : Int) < (List.length (α := Int) (List.getD (α := List Int) L (g : Int).toNat []) : Int) ∧ (g : Int).toNat < List.length (α := List Int) L) := fun h => by
        have h1 := (hhd h).1
        have h2 : g < List.length (α := TyC.α rT1) L := by omega
        simp only [Int.toNat_natCast]
        exact ⟨Int.le_refl _, by omega, h2⟩
      have hrn : (g : Int) < (List.length (α := TyC.α rT1) L : Int) → Rng .i64 (2 * List.getD (α := Int) (List.getD (α := List Int) L (g : Int).toNat []) (Int.toNat 0) (TyC.int .i64).dflt) := fun h => by
        show Rng .i64 (2 * List.getD (α := Int) (List.getD (α := List Int) L g []) 0 0)
        have := hhd h
        simp only [Rng]; omega
      have hn0 : n ≠ 0 := by have := hn.1; omega
      conv => whnf
      refine vcCode_sound T_ok GIm _ _ _ _ _ ?_
      conv => whnf
      repeat (refine V_step T_ok GIm rfl ?_; conv => whnf)
      repeat (any_goals (first
        | (refine V_step T_ok GIm rfl ?_; conv => whnf)
        | (refine V_drawA T_ok GIm mixed (by kernel_rfl) ?_; conv => whnf)
        | (refine bcond_split (fun hc => ?_) (fun hc => ?_) <;> (try simp only [decide_eq_true_eq, decide_eq_false_iff_not, Bool.not_eq_true', Bool.not_eq_false', Bool.and_eq_true, Bool.or_eq_true, Bool.and_eq_false_imp, Bool.or_eq_false_iff, ne_eq, Decidable.not_not] at hc) <;> conv => whnf)
        | (intro ysK hysK; have hysl := congrArg List.length hysK; (try simp only [List.length_set, List.length_append, List.length_cons, List.length_nil, List.length_take, List.length_drop, List.length_replicate] at hysl); conv => whnf)
        | (intro bK hbK; have hbl := congrArg ByteArray.size hbK; conv => whnf)
        | (intro sK hsK; conv => whnf)
        | (refine And.intro (by first | (first | exact True.intro | with_reducible exact hsm | with_reducible exact hn0 | with_reducible exact hix0 (by assumption) | with_reducible exact hrn (by assumption) | omega | exact hapI (by rw [hb8]; omega) (by rw [hb8]; omega) _ _ (Nat.le_trans hgl (by omega)) (by simp only [List.length_cons, List.length_nil]; omega) | (simp only [Rng]; omega)) | exact True.intro | exact ⟨rfl, True.intro, fun _ _ => rfl⟩ | exact Nat.le_of_ble_eq_true rfl | (refine ⟨by (try simp only [List.length_cons, List.length_nil]); omega, Int.le_trans (Int.mul_le_mul_of_nonneg_left (show (TInfo.bytes _ : Int) ≤ 64 from Int.ofNat_le.2 (Nat.le_of_ble_eq_true rfl)) (by omega)) (by (try simp only [List.length_cons, List.length_nil]); omega)⟩)) ?_; conv => whnf)))
      · have hlt : g < List.length (α := List Int) L := by
          have : g < List.length (α := TyC.α rT1) L := by omega
          exact this
        have hy : ysK = imgG L n (g + 1) := by rw [imgG_next L n hlt]; exact hysK
        clear hysK hysl
        subst hy
        refine ⟨g + 1, by omega, by omega, ?_⟩
        conv => whnf
        refine ⟨?_, by (conv => whnf); repeat (first | exact True.intro | (refine And.intro rfl ?_; conv => whnf)), by (conv => whnf); repeat (first | exact True.intro | (refine And.intro (by first | rfl | (subst_vars; rfl)) ?_; conv => whnf)), rfl, rfl, rfl, rfl, rfl, rfl, rfl, Nat.le_of_ble_eq_true rfl, Nat.le_of_ble_eq_true rfl⟩
        conv => whnf
        repeat (first | exact True.intro | (refine And.intro (by first | rfl | ((conv => whnf); exact congrArg (AVal.int .i64) (by omega)) | ((conv => whnf); exact congrArg (AVal.int .i64) (by simp only [Int.natCast_add, Int.natCast_one]; omega)) | ((conv => whnf); exact congrArg (AVal.irow _) (by first | omega | assumption | (simp only; omega)))) ?_; conv => whnf))
      · have hgl : g = List.length (α := TyC.α rT1) L := by omega
        exact leaf1 1 rfl rfl (congrArg (fun ys => (⟨iT1, 2, true, ys⟩ : Row)) (by rw [hgl])) rfl (fun B C h => by simp [AVal.den, h])
def imgsSC : PCtr := fun _ rg lr vals k => match vals with
  | [.row i] => rowC iT1 (rg i) fun c => ((Can (List.length (α := Int) c) c ∧ List.length (α := Int) c ≤ 63) ∧ List.length (α := Int) c ≠ 0) ∧ ∀ ys : List Int, ys = imgG (clsL (List.length (α := Int) c) c) (List.length (α := Int) c) (clsL (List.length (α := Int) c) c).length → k [⟨iT1, 2, true, ys⟩] (.row lr)
  | _ => False
abbrev GIms := (GOk.cons lists_ok .nil)
theorem imgsS_ok : PCtrOk Try.prog 44 imgsSC where
  enter := enter_ok Try.func44 (by kernel_rfl) rfl
  calls := by
    intro hg rg lr vals k h
    unfold imgsSC at h
    split at h
    case h_2 => exact h.elim
    rename_i i
    obtain ⟨e, own, c, hi, h⟩ : ∃ e own, ∃ (xs : List Int), _ := rowC_inv h
    obtain ⟨⟨⟨hC, h63⟩, hne⟩, hk⟩ := h
    replace hk := hk _ rfl
    refine ⟨_, _, hk, fun A w hB hR => ?_⟩
    refine enter T_ok GIms Try.func44 rfl (K := (· < w.heap.size)) (fun _ h => h) (A := A.pick [] [i]) (vals := [.row 0]) (n0 := 0) (b0 := 0) (rows := [some ⟨iT1, e, false, c⟩]) (hp := []) rfl (Nat.zero_le _) no_box rfl (one_row (hR i _ hi)) rfl rfl (Nat.le_of_ble_eq_true rfl) ?_
    conv => whnf
    repeat (refine V_step T_ok GIms rfl ?_; conv => whnf)
    have hC0 := hC
    obtain ⟨N, hN⟩ : ∃ N, List.length (α := Int) c = N := ⟨_, rfl⟩
    have hNl : (List.length (α := TyC.α iT1) c : Int) = N := by rw [show List.length (α := TyC.α iT1) c = N from hN]
    have hb8 : (ti2.bytes : Int) = 8 := rfl
    repeat (any_goals (first
      | (refine V_step T_ok GIms rfl ?_; conv => whnf)
      | (refine V_drawA T_ok GIms mixed (by kernel_rfl) ?_; conv => whnf)
      | (refine bcond_split (fun hc => ?_) (fun hc => ?_) <;> (try simp only [decide_eq_true_eq, decide_eq_false_iff_not, Bool.not_eq_true', Bool.not_eq_false', Bool.and_eq_true, Bool.or_eq_true, Bool.and_eq_false_imp, Bool.or_eq_false_iff, ne_eq, Decidable.not_not] at hc) <;> conv => whnf)
      | (intro ysK hysK; have hysl := congrArg List.length hysK; (try simp only [List.length_set, List.length_append, List.length_cons, List.length_nil, List.length_take, List.length_drop, List.length_replicate] at hysl); conv => whnf)
      | (intro bK hbK; have hbl := congrArg ByteArray.size hbK; conv => whnf)
      | (intro sK hsK; conv => whnf)
      | (refine And.intro (by first | (first | exact True.intro | exact ⟨hC0, h63⟩ | omega) | exact True.intro | exact ⟨rfl, True.intro, fun _ _ => rfl⟩ | exact Nat.le_of_ble_eq_true rfl | (refine ⟨by (try simp only [List.length_cons, List.length_nil]); omega, Int.le_trans (Int.mul_le_mul_of_nonneg_left (show (TInfo.bytes _ : Int) ≤ 64 from Int.ofNat_le.2 (Nat.le_of_ble_eq_true rfl)) (by omega)) (by (try simp only [List.length_cons, List.length_nil]); omega)⟩)) ?_; conv => whnf)))
    rw [hN] at hC h63 hne
    rename List (List Int) => L0
    have hL : L0 = clsL N c := by rw [← hN]; exact hysK
    have hd : HdL L0 := by rw [hL]; exact clsL_hd hC h63
    have hl63 : List.length (α := TyC.α rT1) L0 ≤ 63 := hd.1.1
    clear hysl
    refine V_loopH (γ := Nat) (fun g => g ≤ List.length (α := TyC.α rT1) L0) (fun g => List.length (α := TyC.α rT1) L0 - g) (fun g => [(6, .int .i64 g), (4, .row 2), (11, .junk)]) (fun _ => []) (fun g => [(2, some ⟨iT1, 2, true, imgG L0 N g⟩)]) 0 (Nat.zero_le _) ?_ ?_
    · conv => whnf
      refine ⟨?_, by (conv => whnf); repeat (first | exact True.intro | (refine And.intro rfl ?_; conv => whnf)), by (conv => whnf); repeat (first | exact True.intro | (refine And.intro (by first | rfl | (subst_vars; rfl)) ?_; conv => whnf)), rfl, rfl, rfl, rfl, rfl, rfl, rfl, Nat.le_of_ble_eq_true rfl, Nat.le_of_ble_eq_true rfl⟩
      conv => whnf
      repeat (first | exact True.intro | (refine And.intro (by first | rfl | ((conv => whnf); exact congrArg (AVal.int .i64) (by omega)) | ((conv => whnf); exact congrArg (AVal.int .i64) (by simp only [Int.natCast_add, Int.natCast_one]; omega)) | ((conv => whnf); exact congrArg (AVal.irow _) (by first | omega | assumption | (simp only; omega)))) ?_; conv => whnf))
    · rintro g hg
      have hgl := imgG_len L0 N g
      have hhd : (g : Int) < (List.length (α := TyC.α rT1) L0 : Int) → List.length (α := Int) (List.getD (α := List Int) L0 g []) ≠ 0 ∧ 0 ≤ List.getD (α := Int) (List.getD (α := List Int) L0 g []) 0 0 ∧ List.getD (α := Int) (List.getD (α := List Int) L0 g []) 0 0 ≤ 63 := fun h => hd.2 g (by
        have : g < List.length (α := TyC.α rT1) L0 := by omega
        exact this)
      have hix0 : (g : Int) < (List.length (α := TyC.α rT1) L0 : Int) → ((0 : Int) ≤ 0 ∧ (0 : Int) < (List.length (α := Int) (List.getD (α := List Int) L0 (g : Int).toNat []) : Int) ∧ (g : Int).toNat < List.length (α := List Int) L0) := fun h => by
        have h1 := (hhd h).1
        have h2 : g < List.length (α := TyC.α rT1) L0 := by omega
        simp only [Int.toNat_natCast]
        exact ⟨Int.le_refl _, by omega, h2⟩
      have hrn : (g : Int) < (List.length (α := TyC.α rT1) L0 : Int) → Rng .i64 (2 * List.getD (α := Int) (List.getD (α := List Int) L0 (g : Int).toNat []) (Int.toNat 0) (TyC.int .i64).dflt) := fun h => by
        show Rng .i64 (2 * List.getD (α := Int) (List.getD (α := List Int) L0 g []) 0 0)
        have := hhd h
        simp only [Rng]; omega
      have hn0 : (List.length (α := TyC.α iT1) c : Int) ≠ 0 := by omega
      have hdb : (g : Int) < (List.length (α := TyC.α rT1) L0 : Int) → 0 ≤ dblN N (List.getD (α := List Int) L0 g []) ∧ dblN N (List.getD (α := List Int) L0 g []) < N := fun h => by
        have h2 : g < List.length (α := TyC.α rT1) L0 := by omega
        have h3 : g < (clsL N c).length := by rw [← hL]; exact h2
        rw [hL]
        exact dblN_in hC h3
      have hdb2 : (g : Int) < (List.length (α := TyC.α rT1) L0 : Int) → 0 ≤ Int.tmod (2 * List.getD (α := Int) (List.getD (α := List Int) L0 (g : Int).toNat []) (Int.toNat 0) (TyC.int .i64).dflt) (List.length (α := TyC.α iT1) c : Int) ∧ Int.tmod (2 * List.getD (α := Int) (List.getD (α := List Int) L0 (g : Int).toNat []) (Int.toNat 0) (TyC.int .i64).dflt) (List.length (α := TyC.α iT1) c : Int) < (List.length (α := TyC.α iT1) c : Int) := fun h => by
        have := hdb h
        rw [hNl]
        exact this
      conv => whnf
      refine vcCode_sound T_ok GIms _ _ _ _ _ ?_
      conv => whnf
      repeat (refine V_step T_ok GIms rfl ?_; conv => whnf)
      repeat (any_goals (first
        | (refine V_step T_ok GIms rfl ?_; conv => whnf)
        | (refine V_drawA T_ok GIms mixed (by kernel_rfl) ?_; conv => whnf)
        | (refine bcond_split (fun hc => ?_) (fun hc => ?_) <;> (try simp only [decide_eq_true_eq, decide_eq_false_iff_not, Bool.not_eq_true', Bool.not_eq_false', Bool.and_eq_true, Bool.or_eq_true, Bool.and_eq_false_imp, Bool.or_eq_false_iff, ne_eq, Decidable.not_not] at hc) <;> conv => whnf)
        | (intro ysK hysK; have hysl := congrArg List.length hysK; (try simp only [List.length_set, List.length_append, List.length_cons, List.length_nil, List.length_take, List.length_drop, List.length_replicate] at hysl); conv => whnf)
        | (intro bK hbK; have hbl := congrArg ByteArray.size hbK; conv => whnf)
        | (intro sK hsK; conv => whnf)
        | (refine And.intro (by first | (first | exact True.intro | with_reducible exact hn0 | with_reducible exact hix0 (by assumption) | with_reducible exact hrn (by assumption) | with_reducible exact hdb2 (by assumption) | omega | (simp only [Rng]; omega)) | exact True.intro | exact ⟨rfl, True.intro, fun _ _ => rfl⟩ | exact Nat.le_of_ble_eq_true rfl | (refine ⟨by (try simp only [List.length_cons, List.length_nil]); omega, Int.le_trans (Int.mul_le_mul_of_nonneg_left (show (TInfo.bytes _ : Int) ≤ 64 from Int.ofNat_le.2 (Nat.le_of_ble_eq_true rfl)) (by omega)) (by (try simp only [List.length_cons, List.length_nil]); omega)⟩)) ?_; conv => whnf)))
      · have hlt : g < List.length (α := List Int) L0 := by
          have : g < List.length (α := TyC.α rT1) L0 := by omega
          exact this
        obtain ⟨r, hr⟩ : ∃ r, r = lab c (dblN N (List.getD (α := List Int) L0 g [])).toNat := ⟨_, rfl⟩
        have hocc : imgG L0 N g ++ occG L0 r (List.length (α := TyC.α rT1) L0) = imgG L0 N (g + 1) := by
          rw [imgG_next _ _ hlt]
          refine congrArg (fun z => imgG L0 N g ++ z) ?_
          have h3 : g < (clsL N c).length := by rw [← hL]; exact hlt
          have := occ_all hC (dblN_in hC h3)
          rw [hr, hL]
          exact this
        refine V_loopH (γ := Nat) (fun j => j ≤ List.length (α := TyC.α rT1) L0) (fun j => List.length (α := TyC.α rT1) L0 - j) (fun j => [(8, .int .i64 j), (4, .row 2), (7, .int .i64 r)]) (fun _ => []) (fun j => [(2, some ⟨iT1, 2, true, imgG L0 N g ++ occG L0 r j⟩)]) 0 (Nat.zero_le _) ?_ ?_
        · have e0 : imgG L0 N g ++ occG L0 r 0 = imgG L0 N g := List.append_nil _
          rw [e0, hr, hNl]
          conv => whnf
          refine ⟨?_, by (conv => whnf); repeat (first | exact True.intro | (refine And.intro rfl ?_; conv => whnf)), by (conv => whnf); repeat (first | exact True.intro | (refine And.intro (by first | rfl | (subst_vars; rfl)) ?_; conv => whnf)), rfl, rfl, rfl, rfl, rfl, rfl, rfl, Nat.le_of_ble_eq_true rfl, Nat.le_of_ble_eq_true rfl⟩
          conv => whnf
          repeat (first | exact True.intro | (refine And.intro (by first | rfl | ((conv => whnf); exact congrArg (AVal.int .i64) (by omega)) | ((conv => whnf); exact congrArg (AVal.int .i64) (by simp only [Int.natCast_add, Int.natCast_one]; omega)) | ((conv => whnf); exact congrArg (AVal.irow _) (by first | omega | assumption | (simp only; omega)))) ?_; conv => whnf))
        · rintro j hj
          have hol := occG_len L0 r j
          have hal : (imgG L0 N g ++ occG L0 r j).length ≤ 200 := by rw [List.length_append]; omega
          have hjd : (j : Int) < (List.length (α := TyC.α rT1) L0 : Int) → ((0 : Int) ≤ 0 ∧ (0 : Int) < (List.length (α := Int) (List.getD (α := List Int) L0 (j : Int).toNat []) : Int) ∧ (j : Int).toNat < List.length (α := List Int) L0) := fun h => by
            have h2 : j < List.length (α := TyC.α rT1) L0 := by omega
            have h1 := (hd.2 j h2).1
            simp only [Int.toNat_natCast]
            exact ⟨Int.le_refl _, by omega, h2⟩
          conv => whnf
          refine vcCode_sound T_ok GIms _ _ _ _ _ ?_
          conv => whnf
          repeat (refine V_step T_ok GIms rfl ?_; conv => whnf)
          repeat (any_goals (first
            | (refine V_step T_ok GIms rfl ?_; conv => whnf)
            | (refine V_drawA T_ok GIms mixed (by kernel_rfl) ?_; conv => whnf)
            | (refine bcond_split (fun hc => ?_) (fun hc => ?_) <;> (try simp only [decide_eq_true_eq, decide_eq_false_iff_not, Bool.not_eq_true', Bool.not_eq_false', Bool.and_eq_true, Bool.or_eq_true, Bool.and_eq_false_imp, Bool.or_eq_false_iff, ne_eq, Decidable.not_not] at hc) <;> conv => whnf)
            | (intro ysK hysK; have hysl := congrArg List.length hysK; (try simp only [List.length_set, List.length_append, List.length_cons, List.length_nil, List.length_take, List.length_drop, List.length_replicate] at hysl); conv => whnf)
            | (intro bK hbK; have hbl := congrArg ByteArray.size hbK; conv => whnf)
            | (intro sK hsK; conv => whnf)
            | (refine And.intro (by first | (first | exact True.intro | with_reducible exact hjd (by assumption) | omega | exact hapI (by rw [hb8]; omega) (by rw [hb8]; omega) _ _ (Nat.le_trans hal (by omega)) (by simp only [List.length_cons, List.length_nil]; omega) | (simp only [Rng]; omega)) | exact True.intro | exact ⟨rfl, True.intro, fun _ _ => rfl⟩ | exact Nat.le_of_ble_eq_true rfl | (refine ⟨by (try simp only [List.length_cons, List.length_nil]); omega, Int.le_trans (Int.mul_le_mul_of_nonneg_left (show (TInfo.bytes _ : Int) ≤ 64 from Int.ofNat_le.2 (Nat.le_of_ble_eq_true rfl)) (by omega)) (by (try simp only [List.length_cons, List.length_nil]); omega)⟩)) ?_; conv => whnf)))
          · have hlj : j < List.length (α := TyC.α rT1) L0 := by omega
            have hc : (L0.getD j []).getD 0 0 = r := hc
            have hy : ysK = imgG L0 N g ++ occG L0 r (j + 1) := by
              rw [occG_next, if_pos hc, ← List.append_assoc]; exact hysK
            clear hysK hysl
            subst hy
            refine ⟨j + 1, by omega, by omega, ?_⟩
            conv => whnf
            refine ⟨?_, by (conv => whnf); repeat (first | exact True.intro | (refine And.intro rfl ?_; conv => whnf)), by (conv => whnf); repeat (first | exact True.intro | (refine And.intro (by first | rfl | (subst_vars; rfl)) ?_; conv => whnf)), rfl, rfl, rfl, rfl, rfl, rfl, rfl, Nat.le_of_ble_eq_true rfl, Nat.le_of_ble_eq_true rfl⟩
            conv => whnf
            repeat (first | exact True.intro | (refine And.intro (by first | rfl | ((conv => whnf); exact congrArg (AVal.int .i64) (by omega)) | ((conv => whnf); exact congrArg (AVal.int .i64) (by simp only [Int.natCast_add, Int.natCast_one]; omega)) | ((conv => whnf); exact congrArg (AVal.irow _) (by first | omega | assumption | (simp only; omega)))) ?_; conv => whnf))
          · have hlj : j < List.length (α := TyC.α rT1) L0 := by omega
            have hc : ¬ (L0.getD j []).getD 0 0 = r := hc
            have hy : occG L0 r j = occG L0 r (j + 1) := by rw [occG_next, if_neg hc]
            refine ⟨j + 1, by omega, by omega, ?_⟩
            rw [hy]
            conv => whnf
            refine ⟨?_, by (conv => whnf); repeat (first | exact True.intro | (refine And.intro rfl ?_; conv => whnf)), by (conv => whnf); repeat (first | exact True.intro | (refine And.intro (by first | rfl | (subst_vars; rfl)) ?_; conv => whnf)), rfl, rfl, rfl, rfl, rfl, rfl, rfl, Nat.le_of_ble_eq_true rfl, Nat.le_of_ble_eq_true rfl⟩
            conv => whnf
            repeat (first | exact True.intro | (refine And.intro (by first | rfl | ((conv => whnf); exact congrArg (AVal.int .i64) (by omega)) | ((conv => whnf); exact congrArg (AVal.int .i64) (by simp only [Int.natCast_add, Int.natCast_one]; omega)) | ((conv => whnf); exact congrArg (AVal.irow _) (by first | omega | assumption | (simp only; omega)))) ?_; conv => whnf))
          · have hjl : j = List.length (α := TyC.α rT1) L0 := by omega
            subst hjl
            rw [hocc]
            refine ⟨g + 1, by omega, by omega, ?_⟩
            conv => whnf
            refine ⟨?_, by (conv => whnf); repeat (first | exact True.intro | (refine And.intro rfl ?_; conv => whnf)), by (conv => whnf); repeat (first | exact True.intro | (refine And.intro (by first | rfl | (subst_vars; rfl)) ?_; conv => whnf)), rfl, rfl, rfl, rfl, rfl, rfl, rfl, Nat.le_of_ble_eq_true rfl, Nat.le_of_ble_eq_true rfl⟩
            conv => whnf
            repeat (first | exact True.intro | (refine And.intro (by first | rfl | ((conv => whnf); exact congrArg (AVal.int .i64) (by omega)) | ((conv => whnf); exact congrArg (AVal.int .i64) (by simp only [Int.natCast_add, Int.natCast_one]; omega)) | ((conv => whnf); exact congrArg (AVal.irow _) (by first | omega | assumption | (simp only; omega)))) ?_; conv => whnf))
      · have hgl : g = List.length (α := TyC.α rT1) L0 := by omega
        exact leaf1 2 rfl rfl (congrArg (fun ys => (⟨iT1, 2, true, ys⟩ : Row)) (by rw [hN, ← hL, hgl])) rfl (fun B C h => by simp [AVal.den, h])
end Go.Proofs.Ytllagpbbbdekiac.Fw
