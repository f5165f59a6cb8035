/- Contracts: cut and split at a slash. -/
import Derived.Test.YtmbfflckgmdncaaDoorDF
import Derived.Test.YtmbfflckgmdncaaDoorLyV
import Derived.Shelf.Strings.Search2
namespace Go.Proofs.YtmbfflckgmdncaaDoor.Fw
open Go Go.RowKit Go.Shelf
set_option linter.unusedVariables false
set_option linter.unusedSimpArgs false
set_option maxRecDepth 100000
set_option maxHeartbeats 2000000

theorem idxFD : Tryd.idxL_ren.f 219 = 33 := by kernel_rfl
def idxDC : PCtr := fun _ _ _ vals k => match vals with
  | [.str s, .str p] => p = ByteArray.mk #[47] ∧ k [] (.int .i64 (ix47 s))
  | _ => False
theorem idxD_ok : PCtrOk Tryd.prog 33 idxDC where
  enter := enter_ok Tryd.func33 (by kernel_rfl) rfl
  calls := by
    intro hg rg lr vals k h
    unfold idxDC at h
    split at h
    case h_2 => exact h.elim
    rename_i s p
    obtain ⟨rfl, hk⟩ := h
    refine ⟨_, _, hk, fun A w _ _ => ?_⟩
    have h := Any.stringslite_Index_one Tryd.idxL s 47 w
    rw [idxFD] at h
    refine Calls.mono h ?_
    rintro e w' ⟨rfl, rfl⟩
    exact ⟨[], by unfold ix47; rfl, Blw.refl _ _, newRows_nil⟩
def cutDC : PCtr := fun _ _ _ vals k => match vals with
  | [.str s, .str p] => (p = ByteArray.mk #[47] ∧ s.size ≤ 1048576) ∧ ∀ q : ByteArray × ByteArray × Bool, q = (cuA s, cuB s, decide (0 ≤ ix47 s)) → k [] (.tup [.str q.1, .str q.2.1, .bool q.2.2])
  | _ => False
theorem cutDI_ok : PCtrOk Tryd.prog 26 cutDC where
  enter := enter_ok Tryd.func26 (by kernel_rfl) rfl
  calls := by
    intro hg rg lr vals k h
    unfold cutDC at h
    split at h
    case h_2 => exact h.elim
    rename_i s p
    obtain ⟨⟨hp, hs⟩, hk⟩ := h
    replace hk := hk _ rfl
    refine ⟨_, _, hk, fun A w _ _ => ?_⟩
    refine enter T_ok (GOk.cons idxD_ok .nil) Tryd.func26 rfl (K := (· < w.heap.size)) (fun _ h => h) (A := A) (n0 := 0) (b0 := 0) (rows := []) (hp := []) rfl (Nat.zero_le _) (fun k r h => by cases h) rfl (fun k r h => by cases h) rfl rfl (Nat.le_of_ble_eq_true rfl) ?_
    conv => whnf
    repeat (refine V_step T_ok (GOk.cons idxD_ok .nil) rfl ?_; conv => whnf)
    subst hp
    have hle := ix47_le s
    have hlt := fun h => ix47_lt (s := s) h
    have h47 : ((ByteArray.mk #[47]).size : Int) = 1 := rfl
    repeat (any_goals (first
      | (refine V_step T_ok (GOk.cons idxD_ok .nil) rfl ?_; conv => whnf)
      | (refine V_drawA T_ok (GOk.cons idxD_ok .nil) mixed (by kernel_rfl) ?_; conv => whnf)
      | (refine bcond_split (fun hc => ?_) (fun hc => ?_) <;> (try simp only [decide_eq_true_eq, decide_eq_false_iff_not, Bool.not_eq_true', Bool.not_eq_false', Bool.and_eq_true, Bool.or_eq_true, Bool.and_eq_false_imp, Bool.or_eq_false_iff, ne_eq, Decidable.not_not] at hc) <;> conv => whnf)
      | (intro ysK hysK; have hysl := congrArg List.length hysK; (try simp only [List.length_set, List.length_append, List.length_cons, List.length_nil, List.length_take, List.length_drop, List.length_replicate] at hysl); conv => whnf)
      | (intro bK hbK; have hbl := congrArg ByteArray.size hbK; conv => whnf)
      | (intro sK hsK; conv => whnf)
      | (refine And.intro (by first | (first | exact rfl | omega | (have := hlt (by assumption); omega) | (have := hlt (by assumption); simp only [Rng]; omega)) | exact True.intro | exact ⟨rfl, True.intro, fun _ _ => rfl⟩ | exact Nat.le_of_ble_eq_true rfl | (refine ⟨by (try simp only [List.length_cons, List.length_nil]); omega, Int.le_trans (Int.mul_le_mul_of_nonneg_left (show (TInfo.bytes _ : Int) ≤ 64 from Int.ofNat_le.2 (Nat.le_of_ble_eq_true rfl)) (by omega)) (by (try simp only [List.length_cons, List.length_nil]); omega)⟩)) ?_; conv => whnf)))
    · exact leaf0 rfl (by rw [cuA, cuB, if_pos hc, if_pos hc, decide_eq_true hc, ← h47]) rfl
    · exact leaf0 rfl (by rw [cuA, cuB, if_neg hc, if_neg hc, decide_eq_false hc]) rfl
theorem cutD_ok : PCtrOk Tryd.prog 16 cutDC where
  enter := enter_ok Tryd.func16 (by kernel_rfl) rfl
  calls := by
    intro hg rg lr vals k h
    unfold cutDC at h
    split at h
    case h_2 => exact h.elim
    rename_i s p
    obtain ⟨⟨hp, hs⟩, hk⟩ := h
    replace hk := hk _ rfl
    refine ⟨_, _, hk, fun A w _ _ => ?_⟩
    refine enter T_ok (GOk.cons cutDI_ok .nil) Tryd.func16 rfl (K := (· < w.heap.size)) (fun _ h => h) (A := A) (n0 := 0) (b0 := 0) (rows := []) (hp := []) rfl (Nat.zero_le _) (fun k r h => by cases h) rfl (fun k r h => by cases h) rfl rfl (Nat.le_of_ble_eq_true rfl) ?_
    conv => whnf
    repeat (refine V_step T_ok (GOk.cons cutDI_ok .nil) rfl ?_; conv => whnf)
    subst hp
    repeat (any_goals (first
      | (refine V_step T_ok (GOk.cons cutDI_ok .nil) rfl ?_; conv => whnf)
      | (refine V_drawA T_ok (GOk.cons cutDI_ok .nil) mixed (by kernel_rfl) ?_; conv => whnf)
      | (refine bcond_split (fun hc => ?_) (fun hc => ?_) <;> (try simp only [decide_eq_true_eq, decide_eq_false_iff_not, Bool.not_eq_true', Bool.not_eq_false', Bool.and_eq_true, Bool.or_eq_true, Bool.and_eq_false_imp, Bool.or_eq_false_iff, ne_eq, Decidable.not_not] at hc) <;> conv => whnf)
      | (intro ysK hysK; have hysl := congrArg List.length hysK; (try simp only [List.length_set, List.length_append, List.length_cons, List.length_nil, List.length_take, List.length_drop, List.length_replicate] at hysl); conv => whnf)
      | (intro bK hbK; have hbl := congrArg ByteArray.size hbK; conv => whnf)
      | (intro sK hsK; conv => whnf)
      | (refine And.intro (by first | (first | exact ⟨rfl, hs⟩) | exact True.intro | exact ⟨rfl, True.intro, fun _ _ => rfl⟩ | exact Nat.le_of_ble_eq_true rfl | (refine ⟨by (try simp only [List.length_cons, List.length_nil]); omega, Int.le_trans (Int.mul_le_mul_of_nonneg_left (show (TInfo.bytes _ : Int) ≤ 64 from Int.ofNat_le.2 (Nat.le_of_ble_eq_true rfl)) (by omega)) (by (try simp only [List.length_cons, List.length_nil]); omega)⟩)) ?_; conv => whnf)))
    all_goals exact leaf0 rfl (by rw [hsK]) rfl

/-! ### the reference's -/
def spDC : PCtr := fun _ _ lr vals k => match vals with
  | [.str t, .int .u8 b] => (b = 47 ∧ t.size ≤ 1048576) ∧ ∀ ys : List ByteArray, ys = prtA t → k [⟨.str, 9, true, ys⟩] (.row lr)
  | _ => False
theorem splitD_ok : PCtrOk Tryd.prog 24 spDC where
  enter := enter_ok Tryd.func24 (by kernel_rfl) rfl
  calls := by
    intro hg rg lr vals k h
    unfold spDC at h
    split at h
    case h_2 => exact h.elim
    rename_i t b
    obtain ⟨⟨hb, hs⟩, hk⟩ := h
    replace hk := hk _ rfl
    refine ⟨_, _, hk, fun A w _ _ => ?_⟩
    refine enter T_ok .nil Tryd.func24 rfl (K := (· < w.heap.size)) (fun _ h => h) (A := A) (n0 := 0) (b0 := 0) (rows := []) (hp := []) rfl (Nat.zero_le _) (fun k r h => by cases h) rfl (fun k r h => by cases h) rfl rfl (Nat.le_of_ble_eq_true rfl) ?_
    conv => whnf
    repeat (refine V_step T_ok .nil rfl ?_; conv => whnf)
    subst hb
    repeat (any_goals (first
      | (refine V_step T_ok .nil rfl ?_; conv => whnf)
      | (refine V_drawA T_ok .nil mixed (by kernel_rfl) ?_; conv => whnf)
      | (refine bcond_split (fun hc => ?_) (fun hc => ?_) <;> (try simp only [decide_eq_true_eq, decide_eq_false_iff_not, Bool.not_eq_true', Bool.not_eq_false', Bool.and_eq_true, Bool.or_eq_true, Bool.and_eq_false_imp, Bool.or_eq_false_iff, ne_eq, Decidable.not_not] at hc) <;> conv => whnf)
      | (intro ysK hysK; have hysl := congrArg List.length hysK; (try simp only [List.length_set, List.length_append, List.length_cons, List.length_nil, List.length_take, List.length_drop, List.length_replicate] at hysl); conv => whnf)
      | (intro bK hbK; have hbl := congrArg ByteArray.size hbK; conv => whnf)
      | (intro sK hsK; conv => whnf)
      | (refine And.intro (by first | exact True.intro | (with_reducible assumption) | omega | (simp only [Rng]; omega) | exact Nat.le_of_ble_eq_true rfl | exact True.intro | exact ⟨rfl, True.intro, fun _ _ => rfl⟩ | exact Nat.le_of_ble_eq_true rfl | (refine ⟨by (try simp only [List.length_cons, List.length_nil]); omega, Int.le_trans (Int.mul_le_mul_of_nonneg_left (show (TInfo.bytes _ : Int) ≤ 64 from Int.ofNat_le.2 (Nat.le_of_ble_eq_true rfl)) (by omega)) (by (try simp only [List.length_cons, List.length_nil]); omega)⟩)) ?_; conv => whnf)))
    refine V_loopH (γ := Nat × (List ByteArray × Nat)) (fun g => g.1 ≤ t.size ∧ g.2 = splA t g.1) (fun g => t.size - g.1)
      (fun g => [(5, .row 0), (6, .int .i64 (g.2.2 : Int)), (7, .int .i64 (g.1 : Int)), (8, .junk)]) (fun _ => []) (fun g => [(0, some ⟨.str, 9, true, g.2.1⟩)]) (0, ([], 0)) ⟨Nat.zero_le _, rfl⟩ ?_ ?_
    · conv => whnf
      refine ⟨?_, by (conv => whnf); repeat (first | exact True.intro | (refine And.intro rfl ?_; conv => whnf)), by (conv => whnf); repeat (first | exact True.intro | (refine And.intro (by first | rfl | (subst_vars; rfl)) ?_; conv => whnf)), rfl, rfl, rfl, rfl, rfl, rfl, rfl, Nat.le_of_ble_eq_true rfl, Nat.le_of_ble_eq_true rfl⟩
      conv => whnf
      repeat (first | exact True.intro | (refine And.intro (by first | rfl | ((conv => whnf); exact congrArg (AVal.int .i64) (by omega)) | ((conv => whnf); exact congrArg (AVal.int .i64) (by simp only [Int.natCast_add, Int.natCast_one]; omega)) | ((conv => whnf); exact congrArg (AVal.irow _) (by first | omega | assumption | (simp only; omega)))) ?_; conv => whnf))
    · rintro g ⟨hg, he⟩
      have hat : g.2.2 ≤ g.1 := by rw [he]; exact splA_le _ _
      have hln : (List.length (α := ByteArray) g.2.1 : Int) ≤ 1048576 := by
        have := splA_len t g.1
        rw [← he] at this
        omega
      conv => whnf
      refine vcCode_sound T_ok .nil _ _ _ _ _ ?_
      conv => whnf
      repeat (refine V_step T_ok .nil rfl ?_; conv => whnf)
      repeat (any_goals (first
        | (refine V_step T_ok .nil rfl ?_; conv => whnf)
        | (refine V_drawA T_ok .nil mixed (by kernel_rfl) ?_; conv => whnf)
        | (refine bcond_split (fun hc => ?_) (fun hc => ?_) <;> (try simp only [decide_eq_true_eq, decide_eq_false_iff_not, Bool.not_eq_true', Bool.not_eq_false', Bool.and_eq_true, Bool.or_eq_true, Bool.and_eq_false_imp, Bool.or_eq_false_iff, ne_eq, Decidable.not_not] at hc) <;> conv => whnf)
        | (intro ysK hysK; have hysl := congrArg List.length hysK; (try simp only [List.length_set, List.length_append, List.length_cons, List.length_nil, List.length_take, List.length_drop, List.length_replicate] at hysl); conv => whnf)
        | (intro bK hbK; have hbl := congrArg ByteArray.size hbK; conv => whnf)
        | (intro sK hsK; conv => whnf)
        | (refine And.intro (by first | exact True.intro | (with_reducible assumption) | omega | (simp only [Rng]; omega) | exact Nat.le_of_ble_eq_true rfl | exact True.intro | exact ⟨rfl, True.intro, fun _ _ => rfl⟩ | exact Nat.le_of_ble_eq_true rfl | (refine ⟨by (try simp only [List.length_cons, List.length_nil]); omega, Int.le_trans (Int.mul_le_mul_of_nonneg_left (show (TInfo.bytes _ : Int) ≤ 64 from Int.ofNat_le.2 (Nat.le_of_ble_eq_true rfl)) (by omega)) (by (try simp only [List.length_cons, List.length_nil]); omega)⟩)) ?_; conv => whnf)))
      · have hl : (g.1 : Int) < (t.size : Nat) := by assumption
        have h47 : byteAt t g.1 = 47 := Int.ofNat.inj hc
        refine ⟨(g.1 + 1, (ysK, g.1 + 1)), ⟨by simp only; omega, ?_⟩, by simp only; omega, ?_⟩
        · simp only
          rw [splA, if_pos h47, ← he]
          exact Prod.ext hysK rfl
        · conv => whnf
          refine ⟨?_, by (conv => whnf); repeat (first | exact True.intro | (refine And.intro rfl ?_; conv => whnf)), by (conv => whnf); repeat (first | exact True.intro | (refine And.intro (by first | rfl | (subst_vars; rfl)) ?_; conv => whnf)), rfl, rfl, rfl, rfl, rfl, rfl, rfl, Nat.le_of_ble_eq_true rfl, Nat.le_of_ble_eq_true rfl⟩
          conv => whnf
          repeat (first | exact True.intro | (refine And.intro (by first | rfl | ((conv => whnf); exact congrArg (AVal.int .i64) (by omega)) | ((conv => whnf); exact congrArg (AVal.int .i64) (by simp only [Int.natCast_add, Int.natCast_one]; omega)) | ((conv => whnf); exact congrArg (AVal.irow _) (by first | omega | assumption | (simp only; omega)))) ?_; conv => whnf))
      · have hl : (g.1 : Int) < (t.size : Nat) := by assumption
        have h47 : ¬ byteAt t g.1 = 47 := fun h => hc (congrArg Int.ofNat h)
        refine ⟨(g.1 + 1, g.2), ⟨by simp only; omega, ?_⟩, by simp only; omega, ?_⟩
        · simp only
          rw [splA, if_neg h47]
          exact he
        · conv => whnf
          refine ⟨?_, by (conv => whnf); repeat (first | exact True.intro | (refine And.intro rfl ?_; conv => whnf)), by (conv => whnf); repeat (first | exact True.intro | (refine And.intro (by first | rfl | (subst_vars; rfl)) ?_; conv => whnf)), rfl, rfl, rfl, rfl, rfl, rfl, rfl, Nat.le_of_ble_eq_true rfl, Nat.le_of_ble_eq_true rfl⟩
          conv => whnf
          repeat (first | exact True.intro | (refine And.intro (by first | rfl | ((conv => whnf); exact congrArg (AVal.int .i64) (by omega)) | ((conv => whnf); exact congrArg (AVal.int .i64) (by simp only [Int.natCast_add, Int.natCast_one]; omega)) | ((conv => whnf); exact congrArg (AVal.irow _) (by first | omega | assumption | (simp only; omega)))) ?_; conv => whnf))
      · have hge : g.1 = t.size := by omega
        have hy : ysK = prtA t := by
          rw [prtA_eq, ← hge, ← he]
          rw [← hge] at hysK
          exact hysK
        refine leaf1 2 rfl rfl (by rw [hy]) rfl (fun B C h => ?_)
        simp [AVal.den, dens, h]

end Go.Proofs.YtmbfflckgmdncaaDoor.Fw
-- %intro
