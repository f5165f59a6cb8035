/- The law of ParseSequence. -/
import Derived.Test.YtlplngafncobkadS6
import Derived.Test.YtlplngafncobkadS10
import Derived.Test.YtlplngafncobkadLyP
namespace Go.Proofs.Ytlplngafncobkad.Fw
open Go Go.RowKit Go.Shelf
set_option linter.unusedVariables false
set_option linter.unusedSimpArgs false
set_option maxRecDepth 100000
set_option maxHeartbeats 2000000

theorem idxF : Try.idxL_ren.f 219 = 115 := by kernel_rfl
theorem trimF : Try.trimL_ren.f 102 = 60 := by kernel_rfl
def idxC : PCtr := fun _ _ _ vals k => match vals with
  | [.str s, .str p] => p = ByteArray.mk #[40] ∧ k [] (.int .i64 (ix40 s))
  | _ => False
theorem idx_ok : PCtrOk Try.prog 115 idxC where
  enter := enter_ok Try.func115 (by kernel_rfl) rfl
  calls := by
    intro hg rg lr vals k h
    unfold idxC at h
    split at h
    case h_2 => exact h.elim
    rename_i s p
    obtain ⟨rfl, hk⟩ := h
    refine ⟨_, _, hk, fun A w _ _ => ?_⟩
    have h := Any.stringslite_Index_one Try.idxL s 40 w
    rw [idxF] at h
    refine Calls.mono h ?_
    rintro e w' ⟨rfl, rfl⟩
    exact ⟨[], by unfold ix40; rfl, Blw.refl _ _, newRows_nil⟩
def trimC : PCtr := fun _ _ _ vals k => match vals with
  | [.str s, .str p] => (p = ByteArray.mk #[41] ∧ s.size ≤ 9223372036854775807) ∧ k [] (.str (trim41 s))
  | _ => False
theorem trim_ok : PCtrOk Try.prog 60 trimC where
  enter := enter_ok Try.func60 (by kernel_rfl) rfl
  calls := by
    intro hg rg lr vals k h
    unfold trimC at h
    split at h
    case h_2 => exact h.elim
    rename_i s p
    obtain ⟨⟨rfl, hs⟩, hk⟩ := h
    refine ⟨_, _, hk, fun A w _ _ => ?_⟩
    have h := Any.strings_TrimSuffix Try.trimL s (ByteArray.mk #[41]) w hs
    rw [trimF] at h
    refine Calls.mono h ?_
    rintro e w' ⟨rfl, rfl⟩
    exact ⟨[], by unfold trim41; rfl, Blw.refl _ _, newRows_nil⟩
def cutC : PCtr := fun _ _ _ vals k => match vals with
  | [.str s, .str p] => (p = ByteArray.mk #[40] ∧ s.size ≤ 1048576) ∧ ∀ q : ByteArray × ByteArray × Bool, q = (cut1 s, cut2 s, decide (0 ≤ ix40 s)) → k [] (.tup [.str q.1, .str q.2.1, .bool q.2.2])
  | _ => False
theorem cutI_ok : PCtrOk Try.prog 95 cutC where
  enter := enter_ok Try.func95 (by kernel_rfl) rfl
  calls := by
    intro hg rg lr vals k h
    unfold cutC at h
    split at h
    case h_2 => exact h.elim
    rename_i s p
    obtain ⟨⟨hp, hs⟩, hk⟩ := h
    replace hk := hk _ rfl
    refine ⟨_, _, hk, fun A w _ _ => ?_⟩
    refine enter T_ok (GOk.cons idx_ok .nil) Try.func95 rfl (K := (· < w.heap.size)) (fun _ h => h) (A := A) (n0 := 0) (b0 := 0) (rows := []) (hp := []) rfl (Nat.zero_le _) (fun k r h => by cases h) rfl (fun k r h => by cases h) rfl rfl (Nat.le_of_ble_eq_true rfl) ?_
    conv => whnf
    repeat (refine V_step T_ok (GOk.cons idx_ok .nil) rfl ?_; conv => whnf)
    subst hp
    have hle := ix40_le s
    have hlt := fun h => ix40_lt (s := s) h
    have h40 : ((ByteArray.mk #[40]).size : Int) = 1 := rfl
    repeat (any_goals (first
      | (refine V_step T_ok (GOk.cons idx_ok .nil) rfl ?_; conv => whnf)
      | (refine V_drawA T_ok (GOk.cons idx_ok .nil) mixed (by kernel_rfl) ?_; conv => whnf)
      | (refine bcond_split (fun hc => ?_) (fun hc => ?_) <;> (try simp only [decide_eq_true_eq, decide_eq_false_iff_not, Bool.not_eq_true', Bool.not_eq_false', Bool.and_eq_true, Bool.or_eq_true, Bool.and_eq_false_imp, Bool.or_eq_false_iff, ne_eq, Decidable.not_not] at hc) <;> conv => whnf)
      | (intro ysK hysK; have hysl := congrArg List.length hysK; (try simp only [List.length_set, List.length_append, List.length_cons, List.length_nil, List.length_take, List.length_drop, List.length_replicate] at hysl); conv => whnf)
      | (intro bK hbK; have hbl := congrArg ByteArray.size hbK; conv => whnf)
      | (intro sK hsK; conv => whnf)
      | (refine And.intro (by first | (first | exact rfl | omega | (have := hlt (by assumption); omega) | (have := hlt (by assumption); simp only [Rng]; omega)) | exact True.intro | exact Nat.le_of_ble_eq_true rfl | (refine ⟨by (try simp only [List.length_cons, List.length_nil]); omega, Int.le_trans (Int.mul_le_mul_of_nonneg_left (show (TInfo.bytes _ : Int) ≤ 64 from Int.ofNat_le.2 (Nat.le_of_ble_eq_true rfl)) (by omega)) (by (try simp only [List.length_cons, List.length_nil]); omega)⟩)) ?_; conv => whnf)))
    · exact leaf0 rfl (by rw [cut1, cut2, if_pos hc, if_pos hc, decide_eq_true hc, ← h40]) rfl
    · exact leaf0 rfl (by rw [cut1, cut2, if_neg hc, if_neg hc, decide_eq_false hc]) rfl
theorem cut_ok : PCtrOk Try.prog 59 cutC where
  enter := enter_ok Try.func59 (by kernel_rfl) rfl
  calls := by
    intro hg rg lr vals k h
    unfold cutC at h
    split at h
    case h_2 => exact h.elim
    rename_i s p
    obtain ⟨⟨hp, hs⟩, hk⟩ := h
    replace hk := hk _ rfl
    refine ⟨_, _, hk, fun A w _ _ => ?_⟩
    refine enter T_ok (GOk.cons cutI_ok .nil) Try.func59 rfl (K := (· < w.heap.size)) (fun _ h => h) (A := A) (n0 := 0) (b0 := 0) (rows := []) (hp := []) rfl (Nat.zero_le _) (fun k r h => by cases h) rfl (fun k r h => by cases h) rfl rfl (Nat.le_of_ble_eq_true rfl) ?_
    conv => whnf
    repeat (refine V_step T_ok (GOk.cons cutI_ok .nil) rfl ?_; conv => whnf)
    subst hp
    repeat (any_goals (first
      | (refine V_step T_ok (GOk.cons cutI_ok .nil) rfl ?_; conv => whnf)
      | (refine V_drawA T_ok (GOk.cons cutI_ok .nil) mixed (by kernel_rfl) ?_; conv => whnf)
      | (refine bcond_split (fun hc => ?_) (fun hc => ?_) <;> (try simp only [decide_eq_true_eq, decide_eq_false_iff_not, Bool.not_eq_true', Bool.not_eq_false', Bool.and_eq_true, Bool.or_eq_true, Bool.and_eq_false_imp, Bool.or_eq_false_iff, ne_eq, Decidable.not_not] at hc) <;> conv => whnf)
      | (intro ysK hysK; have hysl := congrArg List.length hysK; (try simp only [List.length_set, List.length_append, List.length_cons, List.length_nil, List.length_take, List.length_drop, List.length_replicate] at hysl); conv => whnf)
      | (intro bK hbK; have hbl := congrArg ByteArray.size hbK; conv => whnf)
      | (intro sK hsK; conv => whnf)
      | (refine And.intro (by first | (first | exact ⟨rfl, hs⟩) | exact True.intro | exact Nat.le_of_ble_eq_true rfl | (refine ⟨by (try simp only [List.length_cons, List.length_nil]); omega, Int.le_trans (Int.mul_le_mul_of_nonneg_left (show (TInfo.bytes _ : Int) ≤ 64 from Int.ofNat_le.2 (Nat.le_of_ble_eq_true rfl)) (by omega)) (by (try simp only [List.length_cons, List.length_nil]); omega)⟩)) ?_; conv => whnf)))
    all_goals exact leaf0 rfl (by rw [hsK]) rfl

theorem txS_text (n d : ByteArray) : textB (n, d) = txS (n, d) := rfl
def parC : PCtr := fun _ _ _ vals k => match vals with
  | [.str t] => t.size ≤ 1048576 ∧ ∀ q : Sq × Int, q = psR t → k [] (.tup [.agg [.str q.1.1, .str q.1.2], .int .i64 q.2])
  | _ => False
abbrev GPa := (GOk.cons cut_ok (GOk.cons trim_ok (GOk.cons isSeq_ok (GOk.cons text_ok .nil))))
theorem cut2_sz {t : ByteArray} (h : t.size ≤ 1048576) : (cut2 t).size ≤ 9223372036854775807 := by
  have := cut_sz t; omega
theorem parse_ok : PCtrOk Try.prog 22 parC where
  enter := enter_ok Try.func22 (by kernel_rfl) rfl
  calls := by
    intro hg rg lr vals k h
    unfold parC at h
    split at h
    case h_2 => exact h.elim
    rename_i t
    obtain ⟨hs, hk⟩ := h
    replace hk := hk _ rfl
    refine ⟨_, _, hk, fun A w _ _ => ?_⟩
    refine enter T_ok GPa Try.func22 rfl (K := (· < w.heap.size)) (fun _ h => h) (A := A) (n0 := 0) (b0 := 0) (rows := []) (hp := []) rfl (Nat.zero_le _) (fun k r h => by cases h) rfl (fun k r h => by cases h) rfl rfl (Nat.le_of_ble_eq_true rfl) ?_
    conv => whnf
    repeat (refine V_step T_ok GPa rfl ?_; conv => whnf)
    have hcs : ∀ q : ByteArray × ByteArray × Bool, q = (cut1 t, cut2 t, decide (0 ≤ ix40 t)) → q.2.1.size ≤ 9223372036854775807 := fun q h => by rw [h]; exact cut2_sz hs
    have hcz : ∀ q : ByteArray × ByteArray × Bool, q = (cut1 t, cut2 t, decide (0 ≤ ix40 t)) → SzS (q.1, trim41 q.2.1) := fun q h => by rw [h]; exact cand_sz hs
    repeat (any_goals (first
      | (refine V_step T_ok GPa rfl ?_; conv => whnf)
      | (refine V_drawA T_ok GPa mixed (by kernel_rfl) ?_; conv => whnf)
      | (refine bcond_split (fun hc => ?_) (fun hc => ?_) <;> (try simp only [decide_eq_true_eq, decide_eq_false_iff_not, Bool.not_eq_true', Bool.not_eq_false', Bool.and_eq_true, Bool.or_eq_true, Bool.and_eq_false_imp, Bool.or_eq_false_iff, ne_eq, Decidable.not_not] at hc) <;> conv => whnf)
      | (intro ysK hysK; have hysl := congrArg List.length hysK; (try simp only [List.length_set, List.length_append, List.length_cons, List.length_nil, List.length_take, List.length_drop, List.length_replicate] at hysl); conv => whnf)
      | (intro bK hbK; have hbl := congrArg ByteArray.size hbK; conv => whnf)
      | (intro sK hsK; conv => whnf)
      | (refine And.intro (by first | (first | exact ⟨rfl, hs⟩ | exact ⟨rfl, hcs _ hsK⟩ | exact ⟨True.intro, hcz _ hsK⟩ | exact hcz _ hsK) | exact True.intro | exact Nat.le_of_ble_eq_true rfl | (refine ⟨by (try simp only [List.length_cons, List.length_nil]); omega, Int.le_trans (Int.mul_le_mul_of_nonneg_left (show (TInfo.bytes _ : Int) ≤ 64 from Int.ofNat_le.2 (Nat.le_of_ble_eq_true rfl)) (by omega)) (by (try simp only [List.length_cons, List.length_nil]); omega)⟩)) ?_; conv => whnf)))
    all_goals have hcd : (sK.1, trim41 sK.2.1) = cand t := by rw [hsK, cand_eq]
    · rw [hcd] at hc
      exact leaf0 rfl (by rw [psR_c fun h => by rw [hc] at h; cases h.1]; rfl) rfl
    · have e1 : bK = txS (cand t) := by rw [← hcd]; exact hbK
      exact leaf0 rfl (by rw [psR_c fun h => hc (e1.trans h.2)]; rfl) rfl
    · have e1 : bK = txS (sK.1, trim41 sK.2.1) := hbK
      exact leaf0 rfl (by rw [psR_t (s := (sK.1, trim41 sK.2.1)) (by assumption) (e1.symm.trans hc)]) rfl

/-! ### the reference's -/
def spC : PCtr := fun _ _ lr vals k => match vals with
  | [.str t, .int .u8 b] => (b = 40 ∧ t.size ≤ 1048576) ∧ ∀ ys : List ByteArray, ys = partS t → k [⟨.str, 9, true, ys⟩] (.row lr)
  | _ => False
theorem split_ok : PCtrOk Try.prog 94 spC where
  enter := enter_ok Try.func94 (by kernel_rfl) rfl
  calls := by
    intro hg rg lr vals k h
    unfold spC at h
    split at h
    case h_2 => exact h.elim
    rename_i t b
    obtain ⟨⟨hb, hs⟩, hk⟩ := h
    replace hk := hk _ rfl
    refine ⟨_, _, hk, fun A w _ _ => ?_⟩
    refine enter T_ok .nil Try.func94 rfl (K := (· < w.heap.size)) (fun _ h => h) (A := A) (n0 := 0) (b0 := 0) (rows := []) (hp := []) rfl (Nat.zero_le _) (fun k r h => by cases h) rfl (fun k r h => by cases h) rfl rfl (Nat.le_of_ble_eq_true rfl) ?_
    conv => whnf
    repeat (refine V_step T_ok .nil rfl ?_; conv => whnf)
    subst hb
    repeat (any_goals (first
      | (refine V_step T_ok .nil rfl ?_; conv => whnf)
      | (refine V_drawA T_ok .nil mixed (by kernel_rfl) ?_; conv => whnf)
      | (refine bcond_split (fun hc => ?_) (fun hc => ?_) <;> (try simp only [decide_eq_true_eq, decide_eq_false_iff_not, Bool.not_eq_true', Bool.not_eq_false', Bool.and_eq_true, Bool.or_eq_true, Bool.and_eq_false_imp, Bool.or_eq_false_iff, ne_eq, Decidable.not_not] at hc) <;> conv => whnf)
      | (intro ysK hysK; have hysl := congrArg List.length hysK; (try simp only [List.length_set, List.length_append, List.length_cons, List.length_nil, List.length_take, List.length_drop, List.length_replicate] at hysl); conv => whnf)
      | (intro bK hbK; have hbl := congrArg ByteArray.size hbK; conv => whnf)
      | (intro sK hsK; conv => whnf)
      | (refine And.intro (by first | exact True.intro | (with_reducible assumption) | omega | (simp only [Rng]; omega) | exact Nat.le_of_ble_eq_true rfl | exact True.intro | exact Nat.le_of_ble_eq_true rfl | (refine ⟨by (try simp only [List.length_cons, List.length_nil]); omega, Int.le_trans (Int.mul_le_mul_of_nonneg_left (show (TInfo.bytes _ : Int) ≤ 64 from Int.ofNat_le.2 (Nat.le_of_ble_eq_true rfl)) (by omega)) (by (try simp only [List.length_cons, List.length_nil]); omega)⟩)) ?_; conv => whnf)))
    refine V_loopH (γ := Nat × (List ByteArray × Nat)) (fun g => g.1 ≤ t.size ∧ g.2 = splR t g.1) (fun g => t.size - g.1)
      (fun g => [(5, .row 0), (6, .int .i64 (g.2.2 : Int)), (7, .int .i64 (g.1 : Int)), (8, .junk)]) (fun _ => []) (fun g => [(0, some ⟨.str, 9, true, g.2.1⟩)]) (0, ([], 0)) ⟨Nat.zero_le _, rfl⟩ ?_ ?_
    · conv => whnf
      refine ⟨?_, by (conv => whnf); repeat (first | exact True.intro | (refine And.intro rfl ?_; conv => whnf)), by (conv => whnf); repeat (first | exact True.intro | (refine And.intro (by first | rfl | (subst_vars; rfl)) ?_; conv => whnf)), rfl, rfl, rfl, rfl, rfl, rfl, rfl, Nat.le_of_ble_eq_true rfl, Nat.le_of_ble_eq_true rfl⟩
      conv => whnf
      repeat (first | exact True.intro | (refine And.intro (by first | rfl | ((conv => whnf); exact congrArg (AVal.int .i64) (by omega)) | ((conv => whnf); exact congrArg (AVal.int .i64) (by simp only [Int.natCast_add, Int.natCast_one]; omega))) ?_; conv => whnf))
    · rintro g ⟨hg, he⟩
      have hat : g.2.2 ≤ g.1 := by rw [he]; exact splR_le _ _
      have hln : (List.length (α := ByteArray) g.2.1 : Int) ≤ 1048576 := by
        have := splR_len t g.1
        rw [← he] at this
        omega
      conv => whnf
      refine vcCode_sound T_ok .nil _ _ _ _ _ ?_
      conv => whnf
      repeat (refine V_step T_ok .nil rfl ?_; conv => whnf)
      repeat (any_goals (first
        | (refine V_step T_ok .nil rfl ?_; conv => whnf)
        | (refine V_drawA T_ok .nil mixed (by kernel_rfl) ?_; conv => whnf)
        | (refine bcond_split (fun hc => ?_) (fun hc => ?_) <;> (try simp only [decide_eq_true_eq, decide_eq_false_iff_not, Bool.not_eq_true', Bool.not_eq_false', Bool.and_eq_true, Bool.or_eq_true, Bool.and_eq_false_imp, Bool.or_eq_false_iff, ne_eq, Decidable.not_not] at hc) <;> conv => whnf)
        | (intro ysK hysK; have hysl := congrArg List.length hysK; (try simp only [List.length_set, List.length_append, List.length_cons, List.length_nil, List.length_take, List.length_drop, List.length_replicate] at hysl); conv => whnf)
        | (intro bK hbK; have hbl := congrArg ByteArray.size hbK; conv => whnf)
        | (intro sK hsK; conv => whnf)
        | (refine And.intro (by first | exact True.intro | (with_reducible assumption) | omega | (simp only [Rng]; omega) | exact Nat.le_of_ble_eq_true rfl | exact True.intro | exact Nat.le_of_ble_eq_true rfl | (refine ⟨by (try simp only [List.length_cons, List.length_nil]); omega, Int.le_trans (Int.mul_le_mul_of_nonneg_left (show (TInfo.bytes _ : Int) ≤ 64 from Int.ofNat_le.2 (Nat.le_of_ble_eq_true rfl)) (by omega)) (by (try simp only [List.length_cons, List.length_nil]); omega)⟩)) ?_; conv => whnf)))
      · have hl : (g.1 : Int) < (t.size : Nat) := by assumption
        have h40 : byteAt t g.1 = 40 := Int.ofNat.inj hc
        refine ⟨(g.1 + 1, (ysK, g.1 + 1)), ⟨by simp only; omega, ?_⟩, by simp only; omega, ?_⟩
        · simp only
          rw [splR, if_pos h40, ← he]
          exact Prod.ext hysK rfl
        · conv => whnf
          refine ⟨?_, by (conv => whnf); repeat (first | exact True.intro | (refine And.intro rfl ?_; conv => whnf)), by (conv => whnf); repeat (first | exact True.intro | (refine And.intro (by first | rfl | (subst_vars; rfl)) ?_; conv => whnf)), rfl, rfl, rfl, rfl, rfl, rfl, rfl, Nat.le_of_ble_eq_true rfl, Nat.le_of_ble_eq_true rfl⟩
          conv => whnf
          repeat (first | exact True.intro | (refine And.intro (by first | rfl | ((conv => whnf); exact congrArg (AVal.int .i64) (by omega)) | ((conv => whnf); exact congrArg (AVal.int .i64) (by simp only [Int.natCast_add, Int.natCast_one]; omega))) ?_; conv => whnf))
      · have hl : (g.1 : Int) < (t.size : Nat) := by assumption
        have h40 : ¬ byteAt t g.1 = 40 := fun h => hc (congrArg Int.ofNat h)
        refine ⟨(g.1 + 1, g.2), ⟨by simp only; omega, ?_⟩, by simp only; omega, ?_⟩
        · simp only
          rw [splR, if_neg h40]
          exact he
        · conv => whnf
          refine ⟨?_, by (conv => whnf); repeat (first | exact True.intro | (refine And.intro rfl ?_; conv => whnf)), by (conv => whnf); repeat (first | exact True.intro | (refine And.intro (by first | rfl | (subst_vars; rfl)) ?_; conv => whnf)), rfl, rfl, rfl, rfl, rfl, rfl, rfl, Nat.le_of_ble_eq_true rfl, Nat.le_of_ble_eq_true rfl⟩
          conv => whnf
          repeat (first | exact True.intro | (refine And.intro (by first | rfl | ((conv => whnf); exact congrArg (AVal.int .i64) (by omega)) | ((conv => whnf); exact congrArg (AVal.int .i64) (by simp only [Int.natCast_add, Int.natCast_one]; omega))) ?_; conv => whnf))
      · have hge : g.1 = t.size := by omega
        have hy : ysK = partS t := by
          rw [partS_eq, ← hge, ← he]
          rw [← hge] at hysK
          exact hysK
        refine leaf1 2 rfl rfl (by rw [hy]) rfl (fun B C h => ?_)
        simp [AVal.den, dens, h]

theorem two_of {ys : List ByteArray} (h : (ys.length : Int) = 2) : ys = [ys.getD 0 ByteArray.empty, ys.getD 1 ByteArray.empty] := by
  match ys, h with
  | [a, b], _ => rfl
  | [], h => simp at h
  | [a], h => simp at h
  | a :: b :: c :: l, h => simp at h; omega
abbrev rdP (t : ByteArray) : ByteArray := (partS t).getD 0 ByteArray.empty
abbrev rdQ (t : ByteArray) : ByteArray := (partS t).getD 1 ByteArray.empty
abbrev rdS (t : ByteArray) : Sq := (rdP t, (rdQ t).extract 0 ((rdQ t).size - 1))
abbrev rdH (t : ByteArray) : Prop := (partS t).length = 2 ∧ 1 ≤ (rdQ t).size ∧ byteAt (rdQ t) ((rdQ t).size - 1) = 41
@[irreducible] noncomputable def rdR (t : ByteArray) : Sq × Bool := if rdH t then (rdS t, isSeqB (rdS t)) else ((ByteArray.mk #[], ByteArray.mk #[]), false)
theorem rdR_f {t : ByteArray} (h : ¬ rdH t) : rdR t = ((ByteArray.mk #[], ByteArray.mk #[]), false) := by unfold rdR; rw [if_neg h]
theorem rdR_t {t : ByteArray} (h : rdH t) : rdR t = (rdS t, isSeqB (rdS t)) := by unfold rdR; rw [if_pos h]
theorem rdH_tx {t : ByteArray} (h : rdH t) : txS (rdS t) = t := txt_of_partS (two_of (by omega)) h.2.1 h.2.2
theorem rdH_of {t : ByteArray} {s : Sq} (h1 : isSeqB s = true) (h2 : txS s = t) : rdH t ∧ rdS t = s := by
  have hs := (isSeqB_iff s).1 h1
  have e := partS_of h2 hs.1.1 hs.1.2
  have e0 : rdP t = s.1 := by unfold rdP; rw [e]; rfl
  have e1 : rdQ t = s.2 ++ ByteArray.mk #[41] := by unfold rdQ; rw [e]; rfl
  have e2 : (rdQ t).size = s.2.size + 1 := by rw [e1, ByteArray.size_append]; rfl
  refine ⟨⟨by rw [e]; rfl, by omega, ?_⟩, ?_⟩
  · rw [e2, Nat.add_sub_cancel, e1, byteAt_append_right (Nat.le_refl _), Nat.sub_self]; rfl
  · refine Prod.ext e0 ?_
    show (rdQ t).extract 0 ((rdQ t).size - 1) = s.2
    rw [e2, Nat.add_sub_cancel, e1]
    apply bl_inj
    rw [bl_extract, bl_append, List.drop_zero, ← bl_len, List.take_left]
theorem rd_true {t : ByteArray} (h : (rdR t).2 = true) : (rdR t).1 = (psR t).1 ∧ (psR t).2 = 0 := by
  by_cases hH : rdH t
  · rw [rdR_t hH] at h ⊢
    rw [psR_t h (rdH_tx hH)]
    exact ⟨rfl, rfl⟩
  · rw [rdR_f hH] at h; cases h
theorem rd_false {t : ByteArray} (h : (rdR t).2 = false) : psR t = ((ByteArray.mk #[], ByteArray.mk #[]), 6) := by
  refine psR_f fun s h1 h2 => ?_
  obtain ⟨h3, h4⟩ := rdH_of h1 h2
  rw [rdR_t h3, h4, h1] at h
  cases h
def readC : PCtr := fun _ _ _ vals k => match vals with
  | [.str t] => t.size ≤ 1048576 ∧ ∀ q : Sq × Bool, q = rdR t → k [] (.tup [.agg [.str q.1.1, .str q.1.2], .bool q.2])
  | _ => False
abbrev GRe := (GOk.cons split_ok (GOk.cons sIsSeq_ok .nil))
theorem partS_sz {t : ByteArray} (h : t.size ≤ 1048576) (h2 : (partS t).length = 2) : (rdP t).size + (rdQ t).size ≤ 1048576 := by
  obtain ⟨j, h1, _, h3⟩ := partS_two h2
  unfold rdP rdQ
  rw [h3]
  show (t.extract 0 j).size + (t.extract (j + 1) t.size).size ≤ 1048576
  rw [size_extract _ _ _ (by omega), size_extract _ _ _ (Nat.le_refl _)]
  omega
theorem read_ok : PCtrOk Try.prog 58 readC where
  enter := enter_ok Try.func58 (by kernel_rfl) rfl
  calls := by
    intro hg rg lr vals k h
    unfold readC at h
    split at h
    case h_2 => exact h.elim
    rename_i t
    obtain ⟨hs, hk⟩ := h
    replace hk := hk _ rfl
    refine ⟨_, _, hk, fun A w _ _ => ?_⟩
    refine enter T_ok GRe Try.func58 rfl (K := (· < w.heap.size)) (fun _ h => h) (A := A) (n0 := 0) (b0 := 0) (rows := []) (hp := []) rfl (Nat.zero_le _) (fun k r h => by cases h) rfl (fun k r h => by cases h) rfl rfl (Nat.le_of_ble_eq_true rfl) ?_
    conv => whnf
    repeat (refine V_step T_ok GRe rfl ?_; conv => whnf)
    have hz : ∀ ys : List ByteArray, ys = partS t → (ys.length : Int) = 2 → ByteArray.size (ys.getD (Int.toNat 1) TyC.str.dflt) ≤ 1048576 := fun ys h h2 => by
      subst h
      have := partS_sz hs (by omega)
      exact Nat.le_trans (Nat.le_add_left _ _) this
    have hn : ∀ ys : List ByteArray, ¬ ys.getD (Int.toNat 1) TyC.str.dflt = ByteArray.mk #[] → 1 ≤ ByteArray.size (ys.getD (Int.toNat 1) TyC.str.dflt) := fun ys h => szne h
    have hs2 : ∀ ys : List ByteArray, ys = partS t → (ys.length : Int) = 2 → ¬ ys.getD (Int.toNat 1) TyC.str.dflt = ByteArray.mk #[] → True ∧ SzS (ys.getD (Int.toNat 0) TyC.str.dflt, ByteArray.extract (ys.getD (Int.toNat 1) TyC.str.dflt) 0 ((ByteArray.size (ys.getD (Int.toNat 1) TyC.str.dflt) : Int) - 1).toNat) := fun ys h h2 h3 => by
      subst h
      have h4 := partS_sz hs (by omega)
      have h5 : 1 ≤ (rdQ t).size := szne h3
      refine ⟨trivial, ?_⟩
      show (rdP t).size + ((rdQ t).extract 0 (((rdQ t).size : Int) - 1).toNat).size ≤ 1048576
      rw [size_extract _ _ _ (by omega)]
      omega
    repeat (any_goals (first
      | (refine V_step T_ok GRe rfl ?_; conv => whnf)
      | (refine V_drawN T_ok GRe mixed (by kernel_rfl) ?_; conv => whnf)
      | (refine bcond_split (fun hc => ?_) (fun hc => ?_) <;> (try simp only [decide_eq_true_eq, decide_eq_false_iff_not, Bool.not_eq_true', Bool.not_eq_false', Bool.and_eq_true, Bool.or_eq_true, Bool.and_eq_false_imp, Bool.or_eq_false_iff, ne_eq, Decidable.not_not] at hc) <;> conv => whnf)
      | (intro ysK hysK; have hysl := congrArg List.length hysK; (try simp only [List.length_set, List.length_append, List.length_cons, List.length_nil, List.length_take, List.length_drop, List.length_replicate] at hysl); conv => whnf)
      | (intro bK hbK; have hbl := congrArg ByteArray.size hbK; conv => whnf)
      | (intro sK hsK; conv => whnf)
      | (refine And.intro (by first | (first | exact ⟨rfl, hs⟩ | exact True.intro | omega | (have h9 := hz _ hysK (by assumption); simp only [Rng]; omega) | (have h9 := hn _ (by assumption); omega) | exact hs2 _ hysK (by assumption) (by assumption)) | exact True.intro | exact Nat.le_of_ble_eq_true rfl | (refine ⟨by (try simp only [List.length_cons, List.length_nil]); omega, Int.le_trans (Int.mul_le_mul_of_nonneg_left (show (TInfo.bytes _ : Int) ≤ 64 from Int.ofNat_le.2 (Nat.le_of_ble_eq_true rfl)) (by omega)) (by (try simp only [List.length_cons, List.length_nil]); omega)⟩)) ?_; conv => whnf)))
    all_goals subst hysK
    all_goals clear hz hs2
    all_goals have e1 : (((rdQ t).size : Int) - 1).toNat = (rdQ t).size - 1 := by omega
    · exact leaf0 rfl (by rw [rdR_f fun h => hc (congrArg Int.ofNat h.1)]; rfl) rfl
    · exact leaf0 rfl (by rw [rdR_f fun h => by have h1 := sz0 (show rdQ t = ByteArray.mk #[] from hc); have h2 := h.2.1; omega]; rfl) rfl
    · have hc : ¬ (byteAt (rdQ t) (((rdQ t).size : Int) - 1).toNat : Int) = 41 := hc
      rw [e1] at hc
      exact leaf0 rfl (by rw [rdR_f fun h => hc (congrArg Int.ofNat h.2.2)]; rfl) rfl
    · have hc : (byteAt (rdQ t) (((rdQ t).size : Int) - 1).toNat : Int) = 41 := hc
      rw [e1] at hc
      have hne : 1 ≤ (rdQ t).size := szne (by assumption)
      have hH : rdH t := ⟨by omega, hne, Int.ofNat.inj hc⟩
      refine leaf0 rfl ?_ rfl
      rw [rdR_t hH]
      show AVal.tup [.agg [.str (rdP t), .str ((rdQ t).extract 0 (((rdQ t).size : Int) - 1).toNat)], .bool (isSeqB (rdP t, (rdQ t).extract 0 (((rdQ t).size : Int) - 1).toNat))] = _
      rw [e1]
theorem sParse_ok : PCtrOk Try.prog 21 parC where
  enter := enter_ok Try.func21 (by kernel_rfl) rfl
  calls := by
    intro hg rg lr vals k h
    unfold parC at h
    split at h
    case h_2 => exact h.elim
    rename_i t
    obtain ⟨hs, hk⟩ := h
    replace hk := hk _ rfl
    refine ⟨_, _, hk, fun A w _ _ => ?_⟩
    refine enter T_ok (GOk.cons read_ok .nil) Try.func21 rfl (K := (· < w.heap.size)) (fun _ h => h) (A := A) (n0 := 0) (b0 := 0) (rows := []) (hp := []) rfl (Nat.zero_le _) (fun k r h => by cases h) rfl (fun k r h => by cases h) rfl rfl (Nat.le_of_ble_eq_true rfl) ?_
    conv => whnf
    repeat (refine V_step T_ok (GOk.cons read_ok .nil) rfl ?_; conv => whnf)
    repeat (any_goals (first
      | (refine V_step T_ok (GOk.cons read_ok .nil) rfl ?_; conv => whnf)
      | (refine V_drawA T_ok (GOk.cons read_ok .nil) mixed (by kernel_rfl) ?_; conv => whnf)
      | (refine bcond_split (fun hc => ?_) (fun hc => ?_) <;> (try simp only [decide_eq_true_eq, decide_eq_false_iff_not, Bool.not_eq_true', Bool.not_eq_false', Bool.and_eq_true, Bool.or_eq_true, Bool.and_eq_false_imp, Bool.or_eq_false_iff, ne_eq, Decidable.not_not] at hc) <;> conv => whnf)
      | (intro ysK hysK; have hysl := congrArg List.length hysK; (try simp only [List.length_set, List.length_append, List.length_cons, List.length_nil, List.length_take, List.length_drop, List.length_replicate] at hysl); conv => whnf)
      | (intro bK hbK; have hbl := congrArg ByteArray.size hbK; conv => whnf)
      | (intro sK hsK; conv => whnf)
      | (refine And.intro (by first | (first | exact hs) | exact True.intro | exact Nat.le_of_ble_eq_true rfl | (refine ⟨by (try simp only [List.length_cons, List.length_nil]); omega, Int.le_trans (Int.mul_le_mul_of_nonneg_left (show (TInfo.bytes _ : Int) ≤ 64 from Int.ofNat_le.2 (Nat.le_of_ble_eq_true rfl)) (by omega)) (by (try simp only [List.length_cons, List.length_nil]); omega)⟩)) ?_; conv => whnf)))
    · exact leaf0 rfl (by rw [rd_false (hsK ▸ hc)]; rfl) rfl
    · have h1 := rd_true (hsK ▸ hc)
      exact leaf0 rfl (by rw [hsK, h1.1, h1.2]) rfl
def eqS2C : PCtr := fun _ _ _ vals k => match vals with
  | [.agg [.str a, .str b], .agg [.str c, .str d]] => True ∧ k [] (.bool (decide (a = c) && decide (b = d)))
  | _ => False
theorem eqSeq2_ok : PCtrOk Try.prog 23 eqS2C where
  enter := enter_ok Try.func23 (by kernel_rfl) rfl
  calls := by
    intro hg rg lr vals k h
    unfold eqS2C at h
    split at h
    case h_2 => exact h.elim
    rename_i a b c d
    obtain ⟨_, hk⟩ := h
    refine ⟨_, _, hk, fun A w _ _ => ?_⟩
    refine enter T_ok .nil Try.func23 rfl (K := (· < w.heap.size)) (fun _ h => h) (A := A) (n0 := 0) (b0 := 0) (rows := []) (hp := []) rfl (Nat.zero_le _) (fun k r h => by cases h) rfl (fun k r h => by cases h) rfl rfl (Nat.le_of_ble_eq_true rfl) ?_
    conv => whnf
    repeat (refine V_step T_ok .nil rfl ?_; conv => whnf)
    repeat (any_goals (first
      | (refine V_step T_ok .nil rfl ?_; conv => whnf)
      | (refine V_drawA T_ok .nil mixed (by kernel_rfl) ?_; conv => whnf)
      | (refine bcond_split (fun hc => ?_) (fun hc => ?_) <;> (try simp only [decide_eq_true_eq, decide_eq_false_iff_not, Bool.not_eq_true', Bool.not_eq_false', Bool.and_eq_true, Bool.or_eq_true, Bool.and_eq_false_imp, Bool.or_eq_false_iff, ne_eq, Decidable.not_not] at hc) <;> conv => whnf)
      | (intro ysK hysK; have hysl := congrArg List.length hysK; (try simp only [List.length_set, List.length_append, List.length_cons, List.length_nil, List.length_take, List.length_drop, List.length_replicate] at hysl); conv => whnf)
      | (intro bK hbK; have hbl := congrArg ByteArray.size hbK; conv => whnf)
      | (intro sK hsK; conv => whnf)
      | (refine And.intro (by first | exact True.intro | (with_reducible assumption) | omega | (simp only [Rng]; omega) | exact Nat.le_of_ble_eq_true rfl | exact True.intro | exact Nat.le_of_ble_eq_true rfl | (refine ⟨by (try simp only [List.length_cons, List.length_nil]); omega, Int.le_trans (Int.mul_le_mul_of_nonneg_left (show (TInfo.bytes _ : Int) ≤ 64 from Int.ofNat_le.2 (Nat.le_of_ble_eq_true rfl)) (by omega)) (by (try simp only [List.length_cons, List.length_nil]); omega)⟩)) ?_; conv => whnf)))
    all_goals refine leaf0 rfl (congrArg AVal.bool ?_) rfl
    all_goals simp [*]
def lawPsC : PCtr := fun _ _ _ vals k => match vals with
  | [.str t] => t.size ≤ 9223372036854775807 ∧ k [] (.bool true)
  | _ => False
abbrev GlPs := (GOk.cons parse_ok (GOk.cons sParse_ok (GOk.cons eqSeq2_ok .nil)))
theorem lawPs_ok : PCtrOk Try.prog 5 lawPsC where
  enter := enter_ok Try.func5 (by kernel_rfl) rfl
  calls := by
    intro hg rg lr vals k h
    unfold lawPsC at h
    split at h
    case h_2 => exact h.elim
    rename_i t
    obtain ⟨hs, hk⟩ := h
    refine ⟨_, _, hk, fun A w _ _ => ?_⟩
    refine enter T_ok GlPs Try.func5 rfl (K := (· < w.heap.size)) (fun _ h => h) (A := A) (n0 := 0) (b0 := 0) (rows := []) (hp := []) rfl (Nat.zero_le _) (fun k r h => by cases h) rfl (fun k r h => by cases h) rfl rfl (Nat.le_of_ble_eq_true rfl) ?_
    conv => whnf
    repeat (refine V_step T_ok GlPs rfl ?_; conv => whnf)
    repeat (any_goals (first
      | (refine V_step T_ok GlPs rfl ?_; conv => whnf)
      | (refine V_drawA T_ok GlPs mixed (by kernel_rfl) ?_; conv => whnf)
      | (refine bcond_split (fun hc => ?_) (fun hc => ?_) <;> (try simp only [decide_eq_true_eq, decide_eq_false_iff_not, Bool.not_eq_true', Bool.not_eq_false', Bool.and_eq_true, Bool.or_eq_true, Bool.and_eq_false_imp, Bool.or_eq_false_iff, ne_eq, Decidable.not_not] at hc) <;> conv => whnf)
      | (intro ysK hysK; have hysl := congrArg List.length hysK; (try simp only [List.length_set, List.length_append, List.length_cons, List.length_nil, List.length_take, List.length_drop, List.length_replicate] at hysl); conv => whnf)
      | (intro bK hbK; have hbl := congrArg ByteArray.size hbK; conv => whnf)
      | (intro sK hsK; conv => whnf)
      | (refine And.intro (by first | (first | exact True.intro | omega) | exact True.intro | exact Nat.le_of_ble_eq_true rfl | (refine ⟨by (try simp only [List.length_cons, List.length_nil]); omega, Int.le_trans (Int.mul_le_mul_of_nonneg_left (show (TInfo.bytes _ : Int) ≤ 64 from Int.ofNat_le.2 (Nat.le_of_ble_eq_true rfl)) (by omega)) (by (try simp only [List.length_cons, List.length_nil]); omega)⟩)) ?_; conv => whnf)))
    · exact leaf0 rfl rfl rfl
    · rename_i s0 h0
      obtain rfl : sK = s0 := hsK.trans h0.symm
      exact absurd rfl (hc rfl)
    · rename_i s0 h0 _
      obtain rfl : sK = s0 := hsK.trans h0.symm
      exact absurd rfl hc
    · exact leaf0 rfl rfl rfl
end Go.Proofs.Ytlplngafncobkad.Fw
