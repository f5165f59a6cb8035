/- Contracts: images of a leaf. -/
import Derived.Test.YtlplngafncobkaaD1
import Derived.Test.YtlplngafncobkaaFwV
namespace Go.Proofs.Ytlplngafncobkaa.Fw
open Go Go.RowKit
set_option linter.unusedVariables false
set_option linter.unusedSimpArgs false
set_option maxRecDepth 100000
set_option maxHeartbeats 2000000

/-- A leaf, its image, the image of that, and so on. -/
def imgs (dia : Lf → Bool) : Nat → List Lf → Lf → Option (List Lf)
  | 0, _, _ => none
  | n + 1, xs, l => if xs.any (eqL l) = true then some xs else if xs.length = 64 then none else if dia l = true then some (xs ++ [l]) else imgs dia n (xs ++ [l]) (imageL l)
def imgL (dia : Lf → Bool) (l : Lf) : List Lf := (imgs dia 65 [] l).getD []
def imgB (dia : Lf → Bool) (l : Lf) : Bool := (imgs dia 65 [] l).isSome
theorem SmL.image {l : Lf} (h : SmL l) : SmL (imageL l) := by
  unfold imageL leafOf
  split
  · exact ⟨h.2.double, h.1.double⟩
  · exact ⟨h.1.double, h.2.double⟩
def imagesIC : PCtr := fun _ _ lr vals k => match vals with
  | [.agg [.int .i64 n, .int .i64 d, .int .i64 m, .int .i64 e]] => SmL ((n, d), (m, e)) ∧ k [⟨lT, 27, true, imgL isDiaL ((n, d), (m, e))⟩] (.tup [.row lr, .bool (imgB isDiaL ((n, d), (m, e)))])
  | _ => False
def imagesSC : PCtr := fun _ _ lr vals k => match vals with
  | [.agg [.int .i64 n, .int .i64 d, .int .i64 m, .int .i64 e]] => SmL ((n, d), (m, e)) ∧ k [⟨lT, 27, true, imgL sDiaL ((n, d), (m, e))⟩] (.tup [.row lr, .bool (imgB sDiaL ((n, d), (m, e)))])
  | _ => False
abbrev GI := GOk.cons isDia_ok (GOk.cons image_ok (GOk.cons hasL_ok .nil))
theorem images_ok : PCtrOk Try.prog 93 imagesIC where
  enter := enter_ok Try.func93 (by kernel_rfl) rfl
  calls := by
    intro hg rg lr vals k h
    unfold imagesIC at h
    split at h
    case h_2 => exact h.elim
    rename_i n d m e
    obtain ⟨h1, hk⟩ := h
    refine ⟨_, _, hk, fun A w _ _ => ?_⟩
    refine enter T_ok GI Try.func93 rfl (K := (· < w.heap.size)) (fun _ h => h) (A := A) (n0 := 0) (b0 := 0) (rows := []) (hp := []) rfl (Nat.zero_le _) (fun k r h => by cases h) rfl (fun k r h => by cases h) rfl rfl (Nat.le_of_ble_eq_true rfl) ?_
    conv => whnf
    repeat (refine V_step T_ok GI rfl ?_; conv => whnf)
    refine V_loopP (γ := List Lf × Lf) (fun g => g.1.length ≤ 64 ∧ SmL g.2 ∧ imgs isDiaL (65 - g.1.length) g.1 g.2 = imgs isDiaL 65 [] ((n, d), (m, e))) (fun g => 65 - g.1.length)
      (fun g => [(4, .row 0)]) (fun g => [(0, [.int .i64 g.2.1.1, .int .i64 g.2.1.2, .int .i64 g.2.2.1, .int .i64 g.2.2.2])]) (fun _ => []) (fun g => [some ⟨lT, 27, true, g.1⟩]) ([], ((n, d), (m, e))) ⟨Nat.zero_le _, h1, rfl⟩ ?_ ?_
    · conv => whnf
      refine ⟨?_, by (conv => whnf); repeat (first | exact True.intro | (refine And.intro rfl ?_; conv => whnf)), by (conv => whnf); repeat (first | exact True.intro | (refine And.intro (by first | rfl | (subst_vars; rfl)) ?_; conv => whnf)), rfl, rfl, rfl, rfl, rfl, rfl, rfl, Nat.le_of_ble_eq_true rfl, Nat.le_of_ble_eq_true rfl⟩
      conv => whnf
      repeat (first | exact True.intro | (refine And.intro (by first | rfl | ((conv => whnf); exact congrArg (AVal.int .i64) (by omega)) | ((conv => whnf); exact congrArg (AVal.int .i64) (by simp only [Int.natCast_add, Int.natCast_one]; omega))) ?_; conv => whnf))
    · rintro ⟨xs, l⟩ ⟨hl, hsm, hi⟩
      simp only at hl hsm hi
      conv => whnf
      refine vcCode_sound T_ok GI _ _ _ _ _ ?_
      conv => whnf
      repeat (refine V_step T_ok GI rfl ?_; conv => whnf)
      repeat (any_goals (first
        | (refine V_step T_ok GI rfl ?_; conv => whnf)
        | (refine V_drawA T_ok GI mixed (by kernel_rfl) ?_; conv => whnf)
        | (refine bcond_split (fun hc => ?_) (fun hc => ?_) <;> (try simp only [decide_eq_true_eq, decide_eq_false_iff_not, Bool.not_eq_true', Bool.not_eq_false', Bool.and_eq_true, Bool.or_eq_true, Bool.and_eq_false_imp, Bool.or_eq_false_iff, ne_eq, Decidable.not_not] at hc) <;> conv => whnf)
        | (intro ysK hysK; have hysl := congrArg List.length hysK; (try simp only [List.length_set, List.length_append, List.length_cons, List.length_nil] at hysl); conv => whnf)
        | (refine And.intro (by first | (first | exact True.intro | exact hsm | omega) | exact True.intro | exact Nat.le_of_ble_eq_true rfl | (refine ⟨by (try simp only [List.length_cons, List.length_nil]); omega, Int.le_trans (Int.mul_le_mul_of_nonneg_left (show (TInfo.bytes _ : Int) ≤ 64 from Int.ofNat_le.2 (Nat.le_of_ble_eq_true rfl)) (by omega)) (by (try simp only [List.length_cons, List.length_nil]); omega)⟩)) ?_; conv => whnf)))
      · rename_i hc1
        have hc : (xs.length : Int) = 64 := hc
        have hr : imgs isDiaL 65 [] ((n, d), (m, e)) = none := by
          rw [← hi, show 65 - xs.length = 0 + 1 by omega, imgs, if_neg (by simpa using hc1), if_pos (by omega)]
        refine leafN rfl (by rw [imgL, hr]; rfl) (fun B C h => ?_)
        simp [AVal.den, dens, h, imgB, hr, Hdr.val]
      · rename_i hc1 hc2
        have hc2 : ¬ (xs.length : Int) = 64 := hc2
        have hr : imgs isDiaL 65 [] ((n, d), (m, e)) = some ysK := by
          rw [← hi, show 65 - xs.length = (64 - xs.length) + 1 by omega, imgs, if_neg (by simpa using hc1), if_neg (by omega), if_pos hc, hysK]
        refine leaf1 2 rfl rfl (by rw [imgL, hr]; rfl) rfl (fun B C h => ?_)
        simp [AVal.den, dens, h, imgB, hr]
      · rename_i hc1 hc2
        have hc2 : ¬ (xs.length : Int) = 64 := hc2
        refine ⟨(ysK, imageL l), ⟨by simp only; omega, hsm.image, ?_⟩, by simp only; omega, ?_⟩
        · simp only
          rw [← hi, show 65 - xs.length = (65 - ysK.length) + 1 by omega, imgs, if_neg (by simpa using hc1), if_neg (by omega), if_neg (by simpa using hc), hysK]
        · conv => whnf
          refine ⟨?_, by (conv => whnf); repeat (first | exact True.intro | (refine And.intro rfl ?_; conv => whnf)), by (conv => whnf); repeat (first | exact True.intro | (refine And.intro (by first | rfl | (subst_vars; rfl)) ?_; conv => whnf)), rfl, rfl, rfl, rfl, rfl, rfl, rfl, Nat.le_of_ble_eq_true rfl, Nat.le_of_ble_eq_true rfl⟩
          conv => whnf
          repeat (first | exact True.intro | (refine And.intro (by first | rfl | ((conv => whnf); exact congrArg (AVal.int .i64) (by omega)) | ((conv => whnf); exact congrArg (AVal.int .i64) (by simp only [Int.natCast_add, Int.natCast_one]; omega))) ?_; conv => whnf))
      · have hr : imgs isDiaL 65 [] ((n, d), (m, e)) = some xs := by
          rw [← hi, show 65 - xs.length = (64 - xs.length) + 1 by omega, imgs, if_pos hc]
        refine leaf1 0 rfl rfl (by rw [imgL, hr]; rfl) rfl (fun B C h => ?_)
        simp [AVal.den, dens, h, imgB, hr]

theorem sImages_ok : PCtrOk Try.prog 90 imagesSC where
  enter := enter_ok Try.func90 (by kernel_rfl) rfl
  calls := by
    intro hg rg lr vals k h
    unfold imagesSC at h
    split at h
    case h_2 => exact h.elim
    rename_i n d m e
    obtain ⟨h1, hk⟩ := h
    refine ⟨_, _, hk, fun A w _ _ => ?_⟩
    refine enter T_ok (GOk.cons sDia_ok (GOk.cons sImage_ok .nil)) Try.func90 rfl (K := (· < w.heap.size)) (fun _ h => h) (A := A) (n0 := 0) (b0 := 0) (rows := []) (hp := []) rfl (Nat.zero_le _) (fun k r h => by cases h) rfl (fun k r h => by cases h) rfl rfl (Nat.le_of_ble_eq_true rfl) ?_
    conv => whnf
    repeat (refine V_step T_ok (GOk.cons sDia_ok (GOk.cons sImage_ok .nil)) rfl ?_; conv => whnf)
    repeat (any_goals (first
      | (refine V_step T_ok (GOk.cons sDia_ok (GOk.cons sImage_ok .nil)) rfl ?_; conv => whnf)
      | (refine V_drawA T_ok (GOk.cons sDia_ok (GOk.cons sImage_ok .nil)) mixed (by kernel_rfl) ?_; conv => whnf)
      | (refine bcond_split (fun hc => ?_) (fun hc => ?_) <;> (try simp only [decide_eq_true_eq, decide_eq_false_iff_not, Bool.not_eq_true', Bool.not_eq_false', Bool.and_eq_true, Bool.or_eq_true, Bool.and_eq_false_imp, Bool.or_eq_false_iff, ne_eq, Decidable.not_not] at hc) <;> conv => whnf)
      | (intro ysK hysK; have hysl := congrArg List.length hysK; (try simp only [List.length_set, List.length_append, List.length_cons, List.length_nil] at hysl); conv => whnf)
      | (refine And.intro (by first | exact True.intro | (with_reducible assumption) | omega | (simp only [Rng]; omega) | exact Nat.le_of_ble_eq_true rfl | exact True.intro | exact Nat.le_of_ble_eq_true rfl | (refine ⟨by (try simp only [List.length_cons, List.length_nil]); omega, Int.le_trans (Int.mul_le_mul_of_nonneg_left (show (TInfo.bytes _ : Int) ≤ 64 from Int.ofNat_le.2 (Nat.le_of_ble_eq_true rfl)) (by omega)) (by (try simp only [List.length_cons, List.length_nil]); omega)⟩)) ?_; conv => whnf)))
    refine V_loopH (γ := List Lf × Lf) (fun g => g.1.length ≤ 64 ∧ SmL g.2 ∧ imgs sDiaL (65 - g.1.length) g.1 g.2 = imgs sDiaL 65 [] ((n, d), (m, e))) (fun g => 65 - g.1.length)
      (fun g => [(4, .row 0), (6, .junk)]) (fun g => [(0, [.int .i64 g.2.1.1, .int .i64 g.2.1.2, .int .i64 g.2.2.1, .int .i64 g.2.2.2])]) (fun g => [(0, some ⟨lT, 27, true, g.1⟩)]) ([], ((n, d), (m, e))) ⟨Nat.zero_le _, h1, rfl⟩ ?_ ?_
    · conv => whnf
      refine ⟨?_, by (conv => whnf); repeat (first | exact True.intro | (refine And.intro rfl ?_; conv => whnf)), by (conv => whnf); repeat (first | exact True.intro | (refine And.intro (by first | rfl | (subst_vars; rfl)) ?_; conv => whnf)), rfl, rfl, rfl, rfl, rfl, rfl, rfl, Nat.le_of_ble_eq_true rfl, Nat.le_of_ble_eq_true rfl⟩
      conv => whnf
      repeat (first | exact True.intro | (refine And.intro (by first | rfl | ((conv => whnf); exact congrArg (AVal.int .i64) (by omega)) | ((conv => whnf); exact congrArg (AVal.int .i64) (by simp only [Int.natCast_add, Int.natCast_one]; omega))) ?_; conv => whnf))
    · rintro ⟨xs, l⟩ ⟨hl, hsm, hi⟩
      simp only at hl hsm hi
      conv => whnf
      refine vcCode_sound T_ok (GOk.cons sDia_ok (GOk.cons sImage_ok .nil)) _ _ _ _ _ ?_
      conv => whnf
      repeat (refine V_step T_ok (GOk.cons sDia_ok (GOk.cons sImage_ok .nil)) rfl ?_; conv => whnf)
      refine V_loopH (γ := Nat) (fun i => i ≤ xs.length ∧ ∀ j, j < i → eqL l (xs.getD j dL) = false) (fun i => xs.length - i)
        (fun i => [(5, .int .i64 i)]) (fun _ => []) (fun _ => []) 0 ⟨Nat.zero_le _, fun j h => absurd h (Nat.not_lt_zero _)⟩ ?_ ?_
      · conv => whnf
        refine ⟨?_, by (conv => whnf); repeat (first | exact True.intro | (refine And.intro rfl ?_; conv => whnf)), by (conv => whnf); repeat (first | exact True.intro | (refine And.intro (by first | rfl | (subst_vars; rfl)) ?_; conv => whnf)), rfl, rfl, rfl, rfl, rfl, rfl, rfl, Nat.le_of_ble_eq_true rfl, Nat.le_of_ble_eq_true rfl⟩
        conv => whnf
        repeat (first | exact True.intro | (refine And.intro (by first | rfl | ((conv => whnf); exact congrArg (AVal.int .i64) (by omega)) | ((conv => whnf); exact congrArg (AVal.int .i64) (by simp only [Int.natCast_add, Int.natCast_one]; omega))) ?_; conv => whnf))
      · rintro i ⟨hi1, hi2⟩
        conv => whnf
        refine vcCode_sound T_ok (GOk.cons sDia_ok (GOk.cons sImage_ok .nil)) _ _ _ _ _ ?_
        conv => whnf
        repeat (refine V_step T_ok (GOk.cons sDia_ok (GOk.cons sImage_ok .nil)) rfl ?_; conv => whnf)
        repeat (any_goals (first
          | (refine V_step T_ok (GOk.cons sDia_ok (GOk.cons sImage_ok .nil)) rfl ?_; conv => whnf)
          | (refine V_drawA T_ok (GOk.cons sDia_ok (GOk.cons sImage_ok .nil)) mixed (by kernel_rfl) ?_; conv => whnf)
          | (refine bcond_split (fun hc => ?_) (fun hc => ?_) <;> (try simp only [decide_eq_true_eq, decide_eq_false_iff_not, Bool.not_eq_true', Bool.not_eq_false', Bool.and_eq_true, Bool.or_eq_true, Bool.and_eq_false_imp, Bool.or_eq_false_iff, ne_eq, Decidable.not_not] at hc) <;> conv => whnf)
          | (intro ysK hysK; have hysl := congrArg List.length hysK; (try simp only [List.length_set, List.length_append, List.length_cons, List.length_nil] at hysl); conv => whnf)
          | (refine And.intro (by first | (first | exact True.intro | exact hsm | omega | (simp only [Rng]; omega)) | exact True.intro | exact Nat.le_of_ble_eq_true rfl | (refine ⟨by (try simp only [List.length_cons, List.length_nil]); omega, Int.le_trans (Int.mul_le_mul_of_nonneg_left (show (TInfo.bytes _ : Int) ≤ 64 from Int.ofNat_le.2 (Nat.le_of_ble_eq_true rfl)) (by omega)) (by (try simp only [List.length_cons, List.length_nil]); omega)⟩)) ?_; conv => whnf)))
        · rename_i hc1
          have hl1 : (i : Int) < (xs.length : Nat) := hc1
          have hp : eqL l (xs.getD i dL) = true := decide_eq_true (Prod.ext (Prod.ext hc.1.1.symm hc.1.2.symm) (Prod.ext hc.2.1.symm hc.2.2.symm))
          have hr : imgs sDiaL 65 [] ((n, d), (m, e)) = some xs := by
            rw [← hi, show 65 - xs.length = (64 - xs.length) + 1 by omega, imgs, if_pos (List.any_eq_true.2 ⟨_, getD_mem (by omega), hp⟩)]
          refine leaf1 0 rfl rfl (by rw [imgL, hr]; rfl) rfl (fun B C h => ?_)
          simp [AVal.den, dens, h, imgB, hr]
        · rename_i hc1
          have hl1 : (i : Int) < (xs.length : Nat) := hc1
          have hc' : (xs.getD i dL).1.1 = l.1.1 ∧ (xs.getD i dL).1.2 = l.1.2 → (xs.getD i dL).2.1 = l.2.1 → ¬ (xs.getD i dL).2.2 = l.2.2 := hc
          have hp : eqL l (xs.getD i dL) = false := decide_eq_false (fun h => by rw [← h] at hc'; exact hc' ⟨rfl, rfl⟩ rfl rfl)
          refine ⟨i + 1, ⟨by omega, fun j hj => ?_⟩, by omega, ?_⟩
          · rcases Nat.lt_or_ge j i with h | h
            · exact hi2 j h
            · obtain rfl : j = i := by omega
              exact hp
          · conv => whnf
            refine ⟨?_, by (conv => whnf); repeat (first | exact True.intro | (refine And.intro rfl ?_; conv => whnf)), by (conv => whnf); repeat (first | exact True.intro | (refine And.intro (by first | rfl | (subst_vars; rfl)) ?_; conv => whnf)), rfl, rfl, rfl, rfl, rfl, rfl, rfl, Nat.le_of_ble_eq_true rfl, Nat.le_of_ble_eq_true rfl⟩
            conv => whnf
            repeat (first | exact True.intro | (refine And.intro (by first | rfl | ((conv => whnf); exact congrArg (AVal.int .i64) (by omega)) | ((conv => whnf); exact congrArg (AVal.int .i64) (by simp only [Int.natCast_add, Int.natCast_one]; omega))) ?_; conv => whnf))
        all_goals
          have hn : xs.any (eqL l) = false := by
            have hge : ¬ (i : Int) < (xs.length : Nat) := by assumption
            rw [List.any_eq_false]
            intro x hx
            obtain ⟨j, hj, rfl⟩ := List.mem_iff_getElem.1 hx
            have := hi2 j (by omega)
            rw [List.getD_eq_getElem?_getD, List.getElem?_eq_getElem hj] at this
            rw [show xs[j] = (some xs[j]).getD dL from rfl, this]; simp
        · have hc : (xs.length : Int) = 64 := hc
          have hr : imgs sDiaL 65 [] ((n, d), (m, e)) = none := by
            rw [← hi, show 65 - xs.length = 0 + 1 by omega, imgs, if_neg (by simpa using hn), if_pos (by omega)]
          refine leafN rfl (by rw [imgL, hr]; rfl) (fun B C h => ?_)
          simp [AVal.den, dens, h, imgB, hr, Hdr.val]
        · rename_i hc1 hc2
          have hc2 : ¬ (xs.length : Int) = 64 := hc2
          have hr : imgs sDiaL 65 [] ((n, d), (m, e)) = some ysK := by
            rw [← hi, show 65 - xs.length = (64 - xs.length) + 1 by omega, imgs, if_neg (by simpa using hn), if_neg (by omega), if_pos hc, hysK]
          refine leaf1 2 rfl rfl (by rw [imgL, hr]; rfl) rfl (fun B C h => ?_)
          simp [AVal.den, dens, h, imgB, hr]
        · rename_i hc1 hc2
          have hc2 : ¬ (xs.length : Int) = 64 := hc2
          refine ⟨(ysK, imageL l), ⟨by simp only; omega, hsm.image, ?_⟩, by simp only; omega, ?_⟩
          · simp only
            have hd : sDiaL l = false := hc
            rw [← hi, show 65 - xs.length = (65 - ysK.length) + 1 by omega, imgs, if_neg (by rw [hn]; simp), if_neg (by omega), if_neg (by rw [hd]; simp), hysK]
          · conv => whnf
            refine ⟨?_, by (conv => whnf); repeat (first | exact True.intro | (refine And.intro rfl ?_; conv => whnf)), by (conv => whnf); repeat (first | exact True.intro | (refine And.intro (by first | rfl | (subst_vars; rfl)) ?_; conv => whnf)), rfl, rfl, rfl, rfl, rfl, rfl, rfl, Nat.le_of_ble_eq_true rfl, Nat.le_of_ble_eq_true rfl⟩
            conv => whnf
            repeat (first | exact True.intro | (refine And.intro (by first | rfl | ((conv => whnf); exact congrArg (AVal.int .i64) (by omega)) | ((conv => whnf); exact congrArg (AVal.int .i64) (by simp only [Int.natCast_add, Int.natCast_one]; omega))) ?_; conv => whnf))

end Go.Proofs.Ytlplngafncobkaa.Fw
