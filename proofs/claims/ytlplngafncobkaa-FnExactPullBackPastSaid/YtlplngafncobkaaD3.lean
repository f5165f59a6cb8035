/- The law of the images of a leaf, walked. -/
import Derived.Test.YtlplngafncobkaaD2
namespace Go.Proofs.Ytlplngafncobkaa.Fw
open Go Go.RowKit
set_option linter.unusedVariables false
set_option linter.unusedSimpArgs false
set_option maxRecDepth 100000
set_option maxHeartbeats 2000000

/-! ### plain laws -/
theorem ofQ_isA (n d : Int) (hd : 1 ≤ d) (h : d ≤ 8191) : IsA (ofQ n d) := by
  have h1 := ofQ_bd n d hd
  exact ⟨⟨h1.2.1, by omega⟩, h1.1, by rw [ofQ_gcd n d hd]; rfl⟩
theorem IsA.double {a : Ang} (h : IsA a) : IsA (doubleA a) := ofQ_isA _ _ h.1.1 h.1.2
theorem leafOf_isL {a b : Ang} (ha : IsA a) (hb : IsA b) (h : a ≠ b) : IsL (leafOf a b) := by
  unfold leafOf
  split
  · rename_i hc
    exact ⟨hb, ha, (cmpA_more _ _).1 hc⟩
  · rename_i hc
    have hc : ¬ lessA b a := fun h => hc ((cmpA_more _ _).2 h)
    refine ⟨ha, hb, ?_⟩
    unfold lessA at hc ⊢
    rcases Int.lt_trichotomy (a.1 * b.2) (b.1 * a.2) with h1 | h1 | h1
    · exact h1
    · exact absurd (frac_eq ha.1.1 hb.1.1 (by have := ha.2.2; omega) (by have := hb.2.2; omega) h1) h
    · exact absurd h1 hc
theorem imgs_eq : ∀ (n : Nat) (xs : List Lf) (l : Lf), IsL l → imgs isDiaL n xs l = imgs sDiaL n xs l
  | 0, _, _, _ => rfl
  | n + 1, xs, l, hl => by
    unfold imgs
    rw [dia_eq hl]
    split
    · rfl
    · split
      · rfl
      · split
        · rfl
        · rename_i hd
          refine imgs_eq n _ _ (leafOf_isL hl.1.double hl.2.1.double fun h => hd ?_)
          unfold sDiaL
          rw [decide_eq_true_iff]; exact h
theorem imgs_len (dia : Lf → Bool) : ∀ (n : Nat) (xs : List Lf) (l : Lf) (ys : List Lf), xs.length ≤ 64 → imgs dia n xs l = some ys → ys.length ≤ 64
  | 0, _, _, _, _, h => by cases h
  | n + 1, xs, l, ys, hx, h => by
    unfold imgs at h
    split at h
    · cases h; exact hx
    · split at h
      · cases h
      · split at h
        · cases h; simp; omega
        · exact imgs_len dia n _ _ _ (by simp; omega) h

def imgO (l : Lf) : List Lf := if IsL l then imgL isDiaL l else []
def imgC (l : Lf) : Int := if IsL l then (if imgB isDiaL l = true then 0 else 3) else 1
theorem imgO_len (l : Lf) : ((imgO l).length : Int) ≤ 64 := by
  unfold imgO
  split
  · unfold imgL
    cases h : imgs isDiaL 65 [] l with
    | none => simp
    | some ys => have := imgs_len isDiaL 65 [] l ys (by simp) h; simp; omega
  · simp

/-! ### contracts -/
def isLsC : PCtr := fun hg rg _ vals k => match vals with
  | [.row i] => rowC lT (rg i) fun xs => True ∧ k [] (.int .i64 (if (xs : List Lf).all allLY = true then 0 else 1))
  | _ => False
theorem leavesCode_ok : PCtrOk Try.prog 92 isLsC where
  enter := enter_ok Try.func92 (by kernel_rfl) rfl
  calls := by
    intro hg rg lr vals k h
    unfold isLsC at h
    split at h
    case h_2 => exact h.elim
    rename_i i
    obtain ⟨e, own, xs, hi, h⟩ : ∃ e own, ∃ (xs : List Lf), _ := rowC_inv h
    have hk := h.2
    refine ⟨_, _, hk, fun A w hB hR => ?_⟩
    refine enter T_ok (GOk.cons allL_ok .nil) Try.func92 rfl (K := (· < w.heap.size)) (fun _ h => h) (A := A.pick [] [i]) (vals := [.row 0]) (n0 := 0) (b0 := 0) (rows := [some ⟨lT, e, false, xs⟩]) (hp := []) rfl (Nat.zero_le _) no_box rfl (one_row (hR i _ hi)) rfl rfl (Nat.le_of_ble_eq_true rfl) ?_
    conv => whnf
    repeat (refine V_step T_ok (GOk.cons allL_ok .nil) rfl ?_; conv => whnf)
    repeat (any_goals (first
      | (refine V_step T_ok (GOk.cons allL_ok .nil) rfl ?_; conv => whnf)
      | (refine V_drawA T_ok (GOk.cons allL_ok .nil) mixed (by kernel_rfl) ?_; conv => whnf)
      | (refine bcond_split (fun hc => ?_) (fun hc => ?_) <;> (try simp only [decide_eq_true_eq, decide_eq_false_iff_not, Bool.not_eq_true', Bool.not_eq_false', Bool.and_eq_true, Bool.or_eq_true, Bool.and_eq_false_imp, Bool.or_eq_false_iff, ne_eq, Decidable.not_not] at hc) <;> conv => whnf)
      | (intro ysK hysK; have hysl := congrArg List.length hysK; (try simp only [List.length_set, List.length_append, List.length_cons, List.length_nil] at hysl); conv => whnf)
      | (refine And.intro (by first | exact True.intro | (with_reducible assumption) | omega | (simp only [Rng]; omega) | exact Nat.le_of_ble_eq_true rfl | exact True.intro | exact Nat.le_of_ble_eq_true rfl | (refine ⟨by (try simp only [List.length_cons, List.length_nil]); omega, Int.le_trans (Int.mul_le_mul_of_nonneg_left (show (TInfo.bytes _ : Int) ≤ 64 from Int.ofNat_le.2 (Nat.le_of_ble_eq_true rfl)) (by omega)) (by (try simp only [List.length_cons, List.length_nil]); omega)⟩)) ?_; conv => whnf)))
    · have hc : (xs : List Lf).all allLY = false := hc
      exact leaf0 rfl (by rw [hc]; rfl) rfl
    · have hc : (xs : List Lf).all allLY = true := hc
      exact leaf0 rfl (by rw [hc]; rfl) rfl

theorem one_isL (l : Lf) : (if [l].all allLY = true then (0 : Int) else 1) = 0 ↔ IsL l := by
  simp [allLY]
theorem one_isL' (l : Lf) (h : ¬ IsL l) : allLY l = false := by simp [allLY, h]

def imagesOfC : PCtr := fun _ _ lr vals k => match vals with
  | [.agg [.int .i64 n, .int .i64 d, .int .i64 m, .int .i64 e]] => True ∧ k [⟨lT, 27, true, imgO ((n, d), (m, e))⟩] (.tup [.row lr, .int .i64 (imgC ((n, d), (m, e)))])
  | _ => False
abbrev GIO := GOk.cons leavesCode_ok (GOk.cons images_ok .nil)
theorem imagesOf_ok : PCtrOk Try.prog 22 imagesOfC where
  enter := enter_ok Try.func22 (by kernel_rfl) rfl
  calls := by
    intro hg rg lr vals k h
    unfold imagesOfC at h
    split at h
    case h_2 => exact h.elim
    rename_i n d m e
    obtain ⟨_, hk⟩ := h
    refine ⟨_, _, hk, fun A w _ _ => ?_⟩
    refine enter T_ok GIO Try.func22 rfl (K := (· < w.heap.size)) (fun _ h => h) (A := A) (n0 := 0) (b0 := 0) (rows := []) (hp := []) rfl (Nat.zero_le _) (fun k r h => by cases h) rfl (fun k r h => by cases h) rfl rfl (Nat.le_of_ble_eq_true rfl) ?_
    conv => whnf
    repeat (refine V_step T_ok GIO rfl ?_; conv => whnf)
    repeat (any_goals (first
      | (refine V_step T_ok GIO rfl ?_; conv => whnf)
      | (refine V_drawA T_ok GIO mixed (by kernel_rfl) ?_; conv => whnf)
      | (refine bcond_split (fun hc => ?_) (fun hc => ?_) <;> (try simp only [decide_eq_true_eq, decide_eq_false_iff_not, Bool.not_eq_true', Bool.not_eq_false', Bool.and_eq_true, Bool.or_eq_true, Bool.and_eq_false_imp, Bool.or_eq_false_iff, ne_eq, Decidable.not_not] at hc) <;> conv => whnf)
      | (intro ysK hysK; have hysl := congrArg List.length hysK; (try simp only [List.length_set, List.length_append, List.length_cons, List.length_nil] at hysl); conv => whnf)
      | (refine And.intro (by first | (first | exact True.intro | exact ((one_isL _).1 hc).sm) | exact True.intro | exact Nat.le_of_ble_eq_true rfl | (refine ⟨by (try simp only [List.length_cons, List.length_nil]); omega, Int.le_trans (Int.mul_le_mul_of_nonneg_left (show (TInfo.bytes _ : Int) ≤ 64 from Int.ofNat_le.2 (Nat.le_of_ble_eq_true rfl)) (by omega)) (by (try simp only [List.length_cons, List.length_nil]); omega)⟩)) ?_; conv => whnf)))
    · have hc : ¬ IsL ((n, d), (m, e)) := fun h => hc ((one_isL _).2 h)
      refine leafN rfl (by rw [imgO, if_neg hc]) (fun B C h => ?_)
      simp [AVal.den, dens, h, imgC, hc, Hdr.val, one_isL']
    · rename_i hc1
      have hl : IsL ((n, d), (m, e)) := (one_isL _).1 hc1
      have hc : imgB isDiaL ((n, d), (m, e)) = false := hc
      have he : imgL isDiaL ((n, d), (m, e)) = [] := by
        unfold imgL
        unfold imgB at hc
        rw [Option.isSome_eq_false_iff, Option.isNone_iff_eq_none] at hc
        rw [hc]; rfl
      refine leafN rfl (by rw [imgO, if_pos hl, he]) (fun B C h => ?_)
      simp [AVal.den, dens, h, imgC, hl, hc, Hdr.val]
    · rename_i hc1
      have hl : IsL ((n, d), (m, e)) := (one_isL _).1 hc1
      have hc : imgB isDiaL ((n, d), (m, e)) = true := hc
      refine leaf1 1 rfl rfl (by rw [imgO, if_pos hl]) rfl (fun B C h => ?_)
      simp [AVal.den, dens, h, imgC, hl, hc]

theorem imgL_eq {l : Lf} (hl : IsL l) : imgL sDiaL l = imgL isDiaL l ∧ imgB sDiaL l = imgB isDiaL l := by
  unfold imgL imgB
  rw [imgs_eq 65 [] l hl]
  exact ⟨rfl, rfl⟩
abbrev GSO := GOk.cons sIsL_ok (GOk.cons sImages_ok .nil)
theorem sImagesOf_ok : PCtrOk Try.prog 20 imagesOfC where
  enter := enter_ok Try.func20 (by kernel_rfl) rfl
  calls := by
    intro hg rg lr vals k h
    unfold imagesOfC at h
    split at h
    case h_2 => exact h.elim
    rename_i n d m e
    obtain ⟨_, hk⟩ := h
    refine ⟨_, _, hk, fun A w _ _ => ?_⟩
    refine enter T_ok GSO Try.func20 rfl (K := (· < w.heap.size)) (fun _ h => h) (A := A) (n0 := 0) (b0 := 0) (rows := []) (hp := []) rfl (Nat.zero_le _) (fun k r h => by cases h) rfl (fun k r h => by cases h) rfl rfl (Nat.le_of_ble_eq_true rfl) ?_
    conv => whnf
    repeat (refine V_step T_ok GSO rfl ?_; conv => whnf)
    repeat (any_goals (first
      | (refine V_step T_ok GSO rfl ?_; conv => whnf)
      | (refine V_drawA T_ok GSO mixed (by kernel_rfl) ?_; conv => whnf)
      | (refine bcond_split (fun hc => ?_) (fun hc => ?_) <;> (try simp only [decide_eq_true_eq, decide_eq_false_iff_not, Bool.not_eq_true', Bool.not_eq_false', Bool.and_eq_true, Bool.or_eq_true, Bool.and_eq_false_imp, Bool.or_eq_false_iff, ne_eq, Decidable.not_not] at hc) <;> conv => whnf)
      | (intro ysK hysK; have hysl := congrArg List.length hysK; (try simp only [List.length_set, List.length_append, List.length_cons, List.length_nil] at hysl); conv => whnf)
      | (refine And.intro (by first | (exact IsL.sm hc) | exact True.intro | exact Nat.le_of_ble_eq_true rfl | (refine ⟨by (try simp only [List.length_cons, List.length_nil]); omega, Int.le_trans (Int.mul_le_mul_of_nonneg_left (show (TInfo.bytes _ : Int) ≤ 64 from Int.ofNat_le.2 (Nat.le_of_ble_eq_true rfl)) (by omega)) (by (try simp only [List.length_cons, List.length_nil]); omega)⟩)) ?_; conv => whnf)))
    · refine leafN rfl (by rw [imgO, if_neg hc]) (fun B C h => ?_)
      simp [AVal.den, dens, h, imgC, hc, Hdr.val]
    · rename_i hl
      have hc : imgB sDiaL ((n, d), (m, e)) = false := hc
      rw [(imgL_eq hl).2] at hc
      have he : imgL isDiaL ((n, d), (m, e)) = [] := by
        unfold imgL
        unfold imgB at hc
        rw [Option.isSome_eq_false_iff, Option.isNone_iff_eq_none] at hc
        rw [hc]; rfl
      refine leafN rfl (by rw [imgO, if_pos hl, he]) (fun B C h => ?_)
      simp [AVal.den, dens, h, imgC, hl, hc, Hdr.val]
    · rename_i hl
      have hc : imgB sDiaL ((n, d), (m, e)) = true := hc
      rw [(imgL_eq hl).2] at hc
      refine leaf1 0 rfl rfl (by rw [imgO, if_pos hl, (imgL_eq hl).1]) rfl (fun B C h => ?_)
      simp [AVal.den, dens, h, imgC, hl, hc]

def lawIC : PCtr := fun _ _ _ vals k => match vals with
  | [.agg [.int .i64 n, .int .i64 d, .int .i64 m, .int .i64 e]] => True ∧ k [] (.bool true)
  | _ => False
abbrev GLI := GOk.cons toLeaf_ok (GOk.cons sImagesOf_ok (GOk.cons imagesOf_ok (GOk.cons eqLs_ok (GOk.mcons mkLM_ok (GOk.cons mkLH_ok .nil)))))
theorem lawI_ok : PCtrOk Try.prog 4 lawIC where
  enter := enter_ok Try.func4 (by kernel_rfl) rfl
  calls := by
    intro hg rg lr vals k h
    unfold lawIC at h
    split at h
    case h_2 => exact h.elim
    rename_i n d m e
    obtain ⟨_, hk⟩ := h
    refine ⟨_, _, hk, fun A w _ _ => ?_⟩
    refine enter T_ok GLI Try.func4 rfl (K := (· < w.heap.size)) (fun _ h => h) (A := A) (n0 := 0) (b0 := 0) (rows := []) (hp := []) rfl (Nat.zero_le _) (fun k r h => by cases h) rfl (fun k r h => by cases h) rfl rfl (Nat.le_of_ble_eq_true rfl) ?_
    conv => whnf
    repeat (refine V_step T_ok GLI rfl ?_; conv => whnf)
    have hb := imgO_len ((n, d), (m, e))
    repeat (any_goals (first
      | (refine V_step T_ok GLI rfl ?_; conv => whnf)
      | (refine V_drawA T_ok GLI mixed (by kernel_rfl) ?_; conv => whnf)
      | (refine bcond_split (fun hc => ?_) (fun hc => ?_) <;> (try simp only [decide_eq_true_eq, decide_eq_false_iff_not, Bool.not_eq_true', Bool.not_eq_false', Bool.and_eq_true, Bool.or_eq_true, Bool.and_eq_false_imp, Bool.or_eq_false_iff, ne_eq, Decidable.not_not] at hc) <;> conv => whnf)
      | (intro ysK hysK; have hysl := congrArg List.length hysK; (try simp only [List.length_set, List.length_append, List.length_cons, List.length_nil] at hysl); conv => whnf)
      | (refine And.intro (by first | (first | exact True.intro | omega | exact ⟨by omega, Int.le_trans hb (by omega)⟩ | exact ⟨by omega, by rw [List.length_map, List.length_range]; exact Int.le_trans hb (by omega), by rw [List.length_map, List.length_range]⟩) | exact True.intro | exact Nat.le_of_ble_eq_true rfl | (refine ⟨by (try simp only [List.length_cons, List.length_nil]); omega, Int.le_trans (Int.mul_le_mul_of_nonneg_left (show (TInfo.bytes _ : Int) ≤ 64 from Int.ofNat_le.2 (Nat.le_of_ble_eq_true rfl)) (by omega)) (by (try simp only [List.length_cons, List.length_nil]); omega)⟩)) ?_; conv => whnf)))
    all_goals first
      | exact leaf0 rfl rfl rfl
      | (simp at hc; done)
      | (exact absurd trivial hc)
      | (simp [eqLs] at hc; done)

end Go.Proofs.Ytlplngafncobkaa.Fw
