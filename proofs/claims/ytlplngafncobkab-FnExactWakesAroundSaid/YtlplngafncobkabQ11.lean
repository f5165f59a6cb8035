/- Contracts: the reference's wakes, parents, depths. -/
import Derived.Test.YtlplngafncobkabQ10
namespace Go.Proofs.Ytlplngafncobkab.Fw
open Go Go.RowKit
set_option linter.unusedVariables false
set_option linter.unusedSimpArgs false
set_option maxRecDepth 100000
set_option maxHeartbeats 2000000

theorem srt_perm' (a : Ang) (xs : List Lf) : (srtL a xs).Perm (xs.filter (inW a)) := by simpa [srtL] using srt_perm a xs []
theorem srt_isL {a : Ang} {xs : List Lf} (h : ∀ q ∈ xs, IsL q) : ∀ q ∈ srtL a xs, IsL q := fun q hq => h q (List.mem_filter.1 ((srt_perm' a xs).mem_iff.1 hq)).1
theorem srt_len' (a : Ang) (xs : List Lf) : (srtL a xs).length ≤ xs.length := by
  rw [(srt_perm' a xs).length_eq]
  exact List.length_filter_le ..
theorem wakL_2 (n : Int) (a b : Ang) : wakL n [a, b] = (srtL a (prN (n.toNat - 1))).filter (inW b) := by
  show (srtL a (prN (n.toNat - 1))).filter (fun p => [b].all fun x => inW x p) = _
  congr 1
  funext p
  simp

theorem filter_step {α : Type} {f : α → Bool} {d : α} {zs : List α} {j : Nat} (h : j < zs.length) : (zs.take (j + 1)).filter f = (zs.take j).filter f ++ (if f (zs.getD j d) = true then [zs.getD j d] else []) := by
  have e : zs.getD j d = zs[j] := by rw [List.getD_eq_getElem?_getD, List.getElem?_eq_getElem h]; rfl
  rw [List.take_add_one, List.filter_append, List.getElem?_eq_getElem h, e]
  congr 1
  by_cases hf : f zs[j] = true <;> simp [hf]
abbrev GSWk := GOk.cons sIs_ok (GOk.cons sIn_ok (GOk.cons sPairs_ok (GOk.cons sSorted_ok .nil)))
theorem sWakO_ok : PCtrOk Try.prog 15 wakOC where
  enter := enter_ok Try.func15 (by kernel_rfl) rfl
  calls := by
    intro hg rg lr vals k h
    unfold wakOC at h
    split at h
    case h_2 => exact h.elim
    rename_i n d m
    obtain ⟨_, hk⟩ := h
    replace hk := hk _ rfl
    refine ⟨_, _, hk, fun A w _ _ => ?_⟩
    refine enter T_ok GSWk Try.func15 rfl (K := (· < w.heap.size)) (fun _ h => h) (A := A) (n0 := 0) (b0 := 0) (rows := []) (hp := []) rfl (Nat.zero_le _) (fun k r h => by cases h) rfl (fun k r h => by cases h) rfl rfl (Nat.le_of_ble_eq_true rfl) ?_
    conv => whnf
    repeat (refine V_step T_ok GSWk rfl ?_; conv => whnf)
    repeat (any_goals (first
      | (refine V_step T_ok GSWk rfl ?_; conv => whnf)
      | (refine V_drawA T_ok GSWk mixed (by kernel_rfl) ?_; conv => whnf)
      | (refine bcond_split (fun hc => ?_) (fun hc => ?_) <;> (try simp only [decide_eq_true_eq, decide_eq_false_iff_not, Bool.not_eq_true', Bool.not_eq_false', Bool.and_eq_true, Bool.or_eq_true, Bool.and_eq_false_imp, Bool.or_eq_false_iff, ne_eq, Decidable.not_not] at hc) <;> conv => whnf)
      | (intro ysK hysK; have hysl := congrArg List.length hysK; (try simp only [List.length_set, List.length_append, List.length_cons, List.length_nil, List.length_take, List.length_drop, List.length_replicate] at hysl); conv => whnf)
      | (refine And.intro (by first | (first | exact True.intro | (with_reducible assumption) | omega | exact ⟨by assumption, prN_isL (by omega), Nat.le_trans (prN_len (by omega)) (by omega)⟩) | exact True.intro | exact Nat.le_of_ble_eq_true rfl | (refine ⟨by (try simp only [List.length_cons, List.length_nil]); omega, Int.le_trans (Int.mul_le_mul_of_nonneg_left (show (TInfo.bytes _ : Int) ≤ 64 from Int.ofNat_le.2 (Nat.le_of_ble_eq_true rfl)) (by omega)) (by (try simp only [List.length_cons, List.length_nil]); omega)⟩)) ?_; conv => whnf)))
    · refine leafN rfl (by rw [wakO, if_neg (fun h => hc h.1)]) (fun B C h => ?_)
      simp [AVal.den, dens, h, wakN, hc, Hdr.val]
    · rename_i ha
      refine leafN rfl (by rw [wakO, if_neg (fun h => hc h.2)]) (fun B C h => ?_)
      simp [AVal.den, dens, h, wakN, ha, hc, Hdr.val]
    · rename_i ha
      have hn : 2 ≤ m ∧ m ≤ 8 := hc
      refine leaf1 1 rfl rfl (by rw [wakO, if_pos ⟨ha, hn⟩, hysK, wakL_1]) rfl (fun B C h => ?_)
      simp [AVal.den, dens, h, wakN, ha, hn]

def arnC : PCtr := fun _ rg lr vals k => match vals with
  | [.agg [.int .i64 n, .int .i64 d, .int .i64 m, .int .i64 e], .row i] => rowC lT (rg i) fun xs => (IsL ((n, d), (m, e)) ∧ (∀ p ∈ (xs : List Lf), IsL p) ∧ (List.length (α := Lf) xs) ≤ 2300) ∧ ∀ ys, ys = (srtL (n, d) xs).filter (inW (m, e)) → k [⟨lT, 36, true, ys⟩] (.row lr)
  | _ => False
abbrev GSAr := GOk.cons sSorted_ok (GOk.cons sIns_ok .nil)
theorem sAround_ok : PCtrOk Try.prog 63 arnC where
  enter := enter_ok Try.func63 (by kernel_rfl) rfl
  calls := by
    intro hg rg lr vals k h
    unfold arnC at h
    split at h
    case h_2 => exact h.elim
    rename_i n d m e0 i
    obtain ⟨e, own, xs, hi, h⟩ : ∃ e own, ∃ (xs : List Lf), _ := rowC_inv h
    obtain ⟨⟨hp, hL, hlen⟩, hk⟩ := h
    replace hk := hk _ rfl
    refine ⟨_, _, hk, fun A w hB hR => ?_⟩
    refine enter T_ok GSAr Try.func63 rfl (K := (· < w.heap.size)) (fun _ h => h) (A := A.pick [] [i]) (vals := [.agg [.int .i64 n, .int .i64 d, .int .i64 m, .int .i64 e0], .row 0]) (n0 := 0) (b0 := 0) (rows := [some ⟨lT, e, false, xs⟩]) (hp := []) rfl (Nat.zero_le _) no_box rfl (one_row (hR i _ hi)) rfl rfl (Nat.le_of_ble_eq_true rfl) ?_
    conv => whnf
    repeat (refine V_step T_ok GSAr rfl ?_; conv => whnf)
    repeat (any_goals (first
      | (refine V_step T_ok GSAr rfl ?_; conv => whnf)
      | (refine V_drawA T_ok GSAr mixed (by kernel_rfl) ?_; conv => whnf)
      | (refine bcond_split (fun hc => ?_) (fun hc => ?_) <;> (try simp only [decide_eq_true_eq, decide_eq_false_iff_not, Bool.not_eq_true', Bool.not_eq_false', Bool.and_eq_true, Bool.or_eq_true, Bool.and_eq_false_imp, Bool.or_eq_false_iff, ne_eq, Decidable.not_not] at hc) <;> conv => whnf)
      | (intro ysK hysK; have hysl := congrArg List.length hysK; (try simp only [List.length_set, List.length_append, List.length_cons, List.length_nil, List.length_take, List.length_drop, List.length_replicate] at hysl); conv => whnf)
      | (refine And.intro (by first | (first | exact True.intro | exact ⟨hp.1, hL, hlen⟩ | omega) | exact True.intro | exact Nat.le_of_ble_eq_true rfl | (refine ⟨by (try simp only [List.length_cons, List.length_nil]); omega, Int.le_trans (Int.mul_le_mul_of_nonneg_left (show (TInfo.bytes _ : Int) ≤ 64 from Int.ofNat_le.2 (Nat.le_of_ble_eq_true rfl)) (by omega)) (by (try simp only [List.length_cons, List.length_nil]); omega)⟩)) ?_; conv => whnf)))
    have hns := srt_len' (n, d) xs
    have hnL := srt_isL (a := (n, d)) hL
    have hysK : ysK = srtL (n, d) xs := hysK
    rw [← hysK] at hns hnL ⊢
    clear hysl
    obtain ⟨zs, hzs⟩ : ∃ zs : List Lf, zs = ysK := ⟨_, rfl⟩
    subst hzs
    have hl3 : (List.length (α := Lf) zs : Int) ≤ 2300 := by omega
    refine V_loopH (γ := Nat × List Lf) (fun g => g.1 ≤ zs.length ∧ g.2 = (zs.take g.1).filter (inW (m, e0)) ∧ g.2.length ≤ g.1) (fun g => zs.length - g.1)
      (fun g => [(5, .row 1), (7, .int .i64 g.1), (8, .junk)]) (fun _ => []) (fun g => [(1, some ⟨lT, 36, true, g.2⟩)]) (0, []) ⟨Nat.zero_le _, rfl, Nat.zero_le _⟩ ?_ ?_
    · conv => whnf
      refine ⟨?_, by (conv => whnf); repeat (first | exact True.intro | (refine And.intro rfl ?_; conv => whnf)), by (conv => whnf); repeat (first | exact True.intro | (refine And.intro (by first | rfl | (subst_vars; rfl)) ?_; conv => whnf)), rfl, rfl, rfl, rfl, rfl, rfl, rfl, Nat.le_of_ble_eq_true rfl, Nat.le_of_ble_eq_true rfl⟩
      conv => whnf
      repeat (first | exact True.intro | (refine And.intro (by first | rfl | ((conv => whnf); exact congrArg (AVal.int .i64) (by omega)) | ((conv => whnf); exact congrArg (AVal.int .i64) (by simp only [Int.natCast_add, Int.natCast_one]; omega))) ?_; conv => whnf))
    · rintro ⟨j, out⟩ ⟨h1, h2, h3⟩
      simp only at h1 h2 h3
      have hpj : (j : Int) < (List.length (α := Lf) zs : Nat) → IsL (zs.getD j lT.dflt) := fun h => hnL _ (getD_mem (by omega))
      conv => whnf
      refine vcCode_sound T_ok GSAr _ _ _ _ _ ?_
      conv => whnf
      repeat (refine V_step T_ok GSAr rfl ?_; conv => whnf)
      repeat (any_goals (first
        | (refine V_step T_ok GSAr rfl ?_; conv => whnf)
        | (refine V_drawA T_ok GSAr mixed (by kernel_rfl) ?_; conv => whnf)
        | (refine bcond_split (fun hc => ?_) (fun hc => ?_) <;> (try simp only [decide_eq_true_eq, decide_eq_false_iff_not, Bool.not_eq_true', Bool.not_eq_false', Bool.and_eq_true, Bool.or_eq_true, Bool.and_eq_false_imp, Bool.or_eq_false_iff, ne_eq, Decidable.not_not] at hc) <;> conv => whnf)
        | (intro ysK hysK; have hysl := congrArg List.length hysK; (try simp only [List.length_set, List.length_append, List.length_cons, List.length_nil, List.length_take, List.length_drop, List.length_replicate] at hysl); conv => whnf)
        | (refine And.intro (by first | (first | exact True.intro | omega | (simp only [Rng]; omega) | exact ⟨hp.2.1.bd, (hpj (by assumption)).1.bd, (hpj (by assumption)).2.1.bd⟩) | exact True.intro | exact Nat.le_of_ble_eq_true rfl | (refine ⟨by (try simp only [List.length_cons, List.length_nil]); omega, Int.le_trans (Int.mul_le_mul_of_nonneg_left (show (TInfo.bytes _ : Int) ≤ 64 from Int.ofNat_le.2 (Nat.le_of_ble_eq_true rfl)) (by omega)) (by (try simp only [List.length_cons, List.length_nil]); omega)⟩)) ?_; conv => whnf)))
      · rename_i hc0
        have hw : inW (m, e0) (zs.getD j lT.dflt) = true := by rw [← within_in (hpj hc0)]; exact hc
        have hy : ysK = (zs.take (j + 1)).filter (inW (m, e0)) := by
          rw [hysK, filter_step (d := lT.dflt) (by have : (j : Int) < (zs.length : Nat) := hc0; omega), if_pos hw, ← h2]; rfl
        clear hysK
        refine ⟨(j + 1, ysK), ⟨by have : (j : Int) < (zs.length : Nat) := hc0; omega, hy, by simp only; omega⟩, by have : (j : Int) < (zs.length : Nat) := hc0; simp only; omega, ?_⟩
        conv => whnf
        refine ⟨?_, by (conv => whnf); repeat (first | exact True.intro | (refine And.intro rfl ?_; conv => whnf)), by (conv => whnf); repeat (first | exact True.intro | (refine And.intro (by first | rfl | (subst_vars; rfl)) ?_; conv => whnf)), rfl, rfl, rfl, rfl, rfl, rfl, rfl, Nat.le_of_ble_eq_true rfl, Nat.le_of_ble_eq_true rfl⟩
        conv => whnf
        repeat (first | exact True.intro | (refine And.intro (by first | rfl | ((conv => whnf); exact congrArg (AVal.int .i64) (by omega)) | ((conv => whnf); exact congrArg (AVal.int .i64) (by simp only [Int.natCast_add, Int.natCast_one]; omega))) ?_; conv => whnf))
      · rename_i hc0
        have hw : ¬ inW (m, e0) (zs.getD j lT.dflt) = true := by
          rw [← within_in (hpj hc0)]
          intro h
          have hc : sWithinA (m, e0) (zs.getD j lT.dflt).1 (zs.getD j lT.dflt).2 = false := hc
          rw [hc] at h; cases h
        refine ⟨(j + 1, out), ⟨by have : (j : Int) < (zs.length : Nat) := hc0; omega, by rw [filter_step (d := lT.dflt) (by have : (j : Int) < (zs.length : Nat) := hc0; omega), if_neg hw, List.append_nil]; exact h2, by simp only; omega⟩, by have : (j : Int) < (zs.length : Nat) := hc0; simp only; omega, ?_⟩
        conv => whnf
        refine ⟨?_, by (conv => whnf); repeat (first | exact True.intro | (refine And.intro rfl ?_; conv => whnf)), by (conv => whnf); repeat (first | exact True.intro | (refine And.intro (by first | rfl | (subst_vars; rfl)) ?_; conv => whnf)), rfl, rfl, rfl, rfl, rfl, rfl, rfl, Nat.le_of_ble_eq_true rfl, Nat.le_of_ble_eq_true rfl⟩
        conv => whnf
        repeat (first | exact True.intro | (refine And.intro (by first | rfl | ((conv => whnf); exact congrArg (AVal.int .i64) (by omega)) | ((conv => whnf); exact congrArg (AVal.int .i64) (by simp only [Int.natCast_add, Int.natCast_one]; omega))) ?_; conv => whnf))
      · have hl : ¬ (j : Int) < (zs.length : Nat) := hc
        rw [List.take_of_length_le (by omega)] at h2
        refine leaf1 1 rfl rfl ?_ rfl (fun B C h => by simp [AVal.den, h])
        show (⟨lT, 36, true, out⟩ : Row) = _
        rw [h2]

abbrev GSPa := GOk.cons sPr_ok (GOk.cons sPairs_ok (GOk.cons sAround_ok .nil))
theorem sParO_ok : PCtrOk Try.prog 26 parOC where
  enter := enter_ok Try.func26 (by kernel_rfl) rfl
  calls := by
    intro hg rg lr vals k h
    unfold parOC at h
    split at h
    case h_2 => exact h.elim
    rename_i n d
    obtain ⟨_, hk⟩ := h
    replace hk := hk _ rfl
    refine ⟨_, _, hk, fun A w _ _ => ?_⟩
    refine enter T_ok GSPa Try.func26 rfl (K := (· < w.heap.size)) (fun _ h => h) (A := A) (n0 := 0) (b0 := 0) (rows := []) (hp := []) rfl (Nat.zero_le _) (fun k r h => by cases h) rfl (fun k r h => by cases h) rfl rfl (Nat.le_of_ble_eq_true rfl) ?_
    conv => whnf
    repeat (refine V_step T_ok GSPa rfl ?_; conv => whnf)
    by_cases h0 : prCode (n, d) = 0
    · have hl := (prOf_isL ((prCode_ok _).1 h0)).1
      have hpl : (List.filter (inW ((prOf (n, d)).2.1, (prOf (n, d)).2.2)) (srtL ((prOf (n, d)).1.1, (prOf (n, d)).1.2) (prN (Int.toNat 8 - 1)))).length ≤ 2000 := Nat.le_trans (List.length_filter_le (inW (prOf (n, d)).2) (srtL (prOf (n, d)).1 (prN 7))) (Nat.le_trans srt_len (prN_len (by omega)))
      repeat (any_goals (first
        | (refine V_step T_ok GSPa rfl ?_; conv => whnf)
        | (refine V_drawA T_ok GSPa mixed (by kernel_rfl) ?_; conv => whnf)
        | (refine bcond_split (fun hc => ?_) (fun hc => ?_) <;> (try simp only [decide_eq_true_eq, decide_eq_false_iff_not, Bool.not_eq_true', Bool.not_eq_false', Bool.and_eq_true, Bool.or_eq_true, Bool.and_eq_false_imp, Bool.or_eq_false_iff, ne_eq, Decidable.not_not] at hc) <;> conv => whnf)
        | (intro ysK hysK; have hysl := congrArg List.length hysK; (try simp only [List.length_set, List.length_append, List.length_cons, List.length_nil, List.length_take, List.length_drop, List.length_replicate] at hysl); conv => whnf)
        | (refine And.intro (by first | (first | exact True.intro | omega | exact ⟨hl, prN_isL (by omega), Nat.le_trans (prN_len (by omega)) (by omega)⟩ | (simp only [Rng]; omega)) | exact True.intro | exact Nat.le_of_ble_eq_true rfl | (refine ⟨by (try simp only [List.length_cons, List.length_nil]); omega, Int.le_trans (Int.mul_le_mul_of_nonneg_left (show (TInfo.bytes _ : Int) ≤ 64 from Int.ofNat_le.2 (Nat.le_of_ble_eq_true rfl)) (by omega)) (by (try simp only [List.length_cons, List.length_nil]); omega)⟩)) ?_; conv => whnf)))
      · exact absurd h0 hc
      · have hc : (ysK.length : Int) = 0 := hc
        have he : parL (n, d) = ysK := by rw [hysK]; exact wakL_2 8 _ _
        have h0' : ysK = [] := List.eq_nil_of_length_eq_zero (by omega)
        refine leaf0 rfl ?_ rfl
        rw [parV, parN, if_pos h0, if_pos h0, he, if_pos hc, h0']; rfl
      · have hc : ¬ (ysK.length : Int) = 0 := hc
        have he : parL (n, d) = ysK := by rw [hysK]; exact wakL_2 8 _ _
        refine leaf0 rfl ?_ rfl
        rw [parV, parN, if_pos h0, if_pos h0, he, if_neg hc, show ysK.length - 1 = ((ysK.length : Int) - 1).toNat by omega]; rfl
    · skip
      repeat (any_goals (first
        | (refine V_step T_ok GSPa rfl ?_; conv => whnf)
        | (refine V_drawA T_ok GSPa mixed (by kernel_rfl) ?_; conv => whnf)
        | (refine bcond_split (fun hc => ?_) (fun hc => ?_) <;> (try simp only [decide_eq_true_eq, decide_eq_false_iff_not, Bool.not_eq_true', Bool.not_eq_false', Bool.and_eq_true, Bool.or_eq_true, Bool.and_eq_false_imp, Bool.or_eq_false_iff, ne_eq, Decidable.not_not] at hc) <;> conv => whnf)
        | (intro ysK hysK; have hysl := congrArg List.length hysK; (try simp only [List.length_set, List.length_append, List.length_cons, List.length_nil, List.length_take, List.length_drop, List.length_replicate] at hysl); conv => whnf)
        | (refine And.intro (by first | exact True.intro | (with_reducible assumption) | omega | (simp only [Rng]; omega) | exact Nat.le_of_ble_eq_true rfl | exact True.intro | exact Nat.le_of_ble_eq_true rfl | (refine ⟨by (try simp only [List.length_cons, List.length_nil]); omega, Int.le_trans (Int.mul_le_mul_of_nonneg_left (show (TInfo.bytes _ : Int) ≤ 64 from Int.ofNat_le.2 (Nat.le_of_ble_eq_true rfl)) (by omega)) (by (try simp only [List.length_cons, List.length_nil]); omega)⟩)) ?_; conv => whnf)))
      all_goals first
        | exact absurd (by assumption) h0
        | exact leaf0 rfl (by rw [parV, parN, if_neg h0, if_neg h0] <;> rfl) rfl
theorem lawParO_ok : PCtrOk Try.prog 6 lawAC where
  enter := enter_ok Try.func6 (by kernel_rfl) rfl
  calls := by
    intro hg rg lr vals k h
    unfold lawAC at h
    split at h
    case h_2 => exact h.elim
    rename_i n d
    obtain ⟨_, hk⟩ := h
    refine ⟨_, _, hk, fun A w _ _ => ?_⟩
    refine enter T_ok (GOk.cons toAngle_ok (GOk.cons sParO_ok (GOk.cons parO_ok (GOk.cons eqPair_ok .nil)))) Try.func6 rfl (K := (· < w.heap.size)) (fun _ h => h) (A := A) (n0 := 0) (b0 := 0) (rows := []) (hp := []) rfl (Nat.zero_le _) (fun k r h => by cases h) rfl (fun k r h => by cases h) rfl rfl (Nat.le_of_ble_eq_true rfl) ?_
    conv => whnf
    repeat (refine V_step T_ok (GOk.cons toAngle_ok (GOk.cons sParO_ok (GOk.cons parO_ok (GOk.cons eqPair_ok .nil)))) rfl ?_; conv => whnf)
    repeat (any_goals (first
      | (refine V_step T_ok (GOk.cons toAngle_ok (GOk.cons sParO_ok (GOk.cons parO_ok (GOk.cons eqPair_ok .nil)))) rfl ?_; conv => whnf)
      | (refine V_drawA T_ok (GOk.cons toAngle_ok (GOk.cons sParO_ok (GOk.cons parO_ok (GOk.cons eqPair_ok .nil)))) mixed (by kernel_rfl) ?_; conv => whnf)
      | (refine bcond_split (fun hc => ?_) (fun hc => ?_) <;> (try simp only [decide_eq_true_eq, decide_eq_false_iff_not, Bool.not_eq_true', Bool.not_eq_false', Bool.and_eq_true, Bool.or_eq_true, Bool.and_eq_false_imp, Bool.or_eq_false_iff, ne_eq, Decidable.not_not] at hc) <;> conv => whnf)
      | (intro ysK hysK; have hysl := congrArg List.length hysK; (try simp only [List.length_set, List.length_append, List.length_cons, List.length_nil, List.length_take, List.length_drop, List.length_replicate] at hysl); conv => whnf)
      | (refine And.intro (by first | exact True.intro | (with_reducible assumption) | omega | (simp only [Rng]; omega) | exact Nat.le_of_ble_eq_true rfl | exact True.intro | exact Nat.le_of_ble_eq_true rfl | (refine ⟨by (try simp only [List.length_cons, List.length_nil]); omega, Int.le_trans (Int.mul_le_mul_of_nonneg_left (show (TInfo.bytes _ : Int) ≤ 64 from Int.ofNat_le.2 (Nat.le_of_ble_eq_true rfl)) (by omega)) (by (try simp only [List.length_cons, List.length_nil]); omega)⟩)) ?_; conv => whnf)))
    all_goals subst_vars
    all_goals first
      | exact absurd rfl hc
      | exact leaf0 rfl rfl rfl

abbrev GSDe := GOk.cons sPr_ok (GOk.cons sPer_ok (GOk.cons sPairs_ok (GOk.cons sAround_ok .nil)))
theorem sDep_ok : PCtrOk Try.prog 37 depC where
  enter := enter_ok Try.func37 (by kernel_rfl) rfl
  calls := by
    intro hg rg lr vals k h
    unfold depC at h
    split at h
    case h_2 => exact h.elim
    rename_i n d
    obtain ⟨_, hk⟩ := h
    replace hk := hk _ rfl
    refine ⟨_, _, hk, fun A w _ _ => ?_⟩
    refine enter T_ok GSDe Try.func37 rfl (K := (· < w.heap.size)) (fun _ h => h) (A := A) (n0 := 0) (b0 := 0) (rows := []) (hp := []) rfl (Nat.zero_le _) (fun k r h => by cases h) rfl (fun k r h => by cases h) rfl rfl (Nat.le_of_ble_eq_true rfl) ?_
    conv => whnf
    repeat (refine V_step T_ok GSDe rfl ?_; conv => whnf)
    by_cases h0 : prCode (n, d) = 0
    · have hx := (prCode_ok _).1 h0
      have hl := (prOf_isL hx).1
      have hS := hx.perS
      have h2 := hx.2
      repeat (any_goals (first
        | (refine V_step T_ok GSDe rfl ?_; conv => whnf)
        | (refine V_drawA T_ok GSDe mixed (by kernel_rfl) ?_; conv => whnf)
        | (refine bcond_split (fun hc => ?_) (fun hc => ?_) <;> (try simp only [decide_eq_true_eq, decide_eq_false_iff_not, Bool.not_eq_true', Bool.not_eq_false', Bool.and_eq_true, Bool.or_eq_true, Bool.and_eq_false_imp, Bool.or_eq_false_iff, ne_eq, Decidable.not_not] at hc) <;> conv => whnf)
        | (intro ysK hysK; have hysl := congrArg List.length hysK; (try simp only [List.length_set, List.length_append, List.length_cons, List.length_nil, List.length_take, List.length_drop, List.length_replicate] at hysl); conv => whnf)
        | (refine And.intro (by first | (first | exact True.intro | exact hx.1 | omega | exact ⟨hl, prN_isL (by omega), Nat.le_trans (prN_len (by omega)) (by omega)⟩) | exact True.intro | exact Nat.le_of_ble_eq_true rfl | (refine ⟨by (try simp only [List.length_cons, List.length_nil]); omega, Int.le_trans (Int.mul_le_mul_of_nonneg_left (show (TInfo.bytes _ : Int) ≤ 64 from Int.ofNat_le.2 (Nat.le_of_ble_eq_true rfl)) (by omega)) (by (try simp only [List.length_cons, List.length_nil]); omega)⟩)) ?_; conv => whnf)))
      · exact absurd h0 hc
      · have he : depL (n, d) = ysK := by rw [hysK, hS]; exact wakL_2 _ _ _
        refine leaf0 rfl ?_ rfl
        rw [if_pos h0, he, h0]
    · skip
      repeat (any_goals (first
        | (refine V_step T_ok GSDe rfl ?_; conv => whnf)
        | (refine V_drawA T_ok GSDe mixed (by kernel_rfl) ?_; conv => whnf)
        | (refine bcond_split (fun hc => ?_) (fun hc => ?_) <;> (try simp only [decide_eq_true_eq, decide_eq_false_iff_not, Bool.not_eq_true', Bool.not_eq_false', Bool.and_eq_true, Bool.or_eq_true, Bool.and_eq_false_imp, Bool.or_eq_false_iff, ne_eq, Decidable.not_not] at hc) <;> conv => whnf)
        | (intro ysK hysK; have hysl := congrArg List.length hysK; (try simp only [List.length_set, List.length_append, List.length_cons, List.length_nil, List.length_take, List.length_drop, List.length_replicate] at hysl); conv => whnf)
        | (refine And.intro (by first | exact True.intro | (with_reducible assumption) | omega | (simp only [Rng]; omega) | exact Nat.le_of_ble_eq_true rfl | exact True.intro | exact Nat.le_of_ble_eq_true rfl | (refine ⟨by (try simp only [List.length_cons, List.length_nil]); omega, Int.le_trans (Int.mul_le_mul_of_nonneg_left (show (TInfo.bytes _ : Int) ≤ 64 from Int.ofNat_le.2 (Nat.le_of_ble_eq_true rfl)) (by omega)) (by (try simp only [List.length_cons, List.length_nil]); omega)⟩)) ?_; conv => whnf)))
      all_goals first
        | exact absurd (by assumption) h0
        | exact leaf0 rfl (by rw [if_neg h0] <;> rfl) rfl
theorem lawDep_ok : PCtrOk Try.prog 11 lawAC where
  enter := enter_ok Try.func11 (by kernel_rfl) rfl
  calls := by
    intro hg rg lr vals k h
    unfold lawAC at h
    split at h
    case h_2 => exact h.elim
    rename_i n d
    obtain ⟨_, hk⟩ := h
    refine ⟨_, _, hk, fun A w _ _ => ?_⟩
    refine enter T_ok (GOk.cons toAngle_ok (GOk.cons sDep_ok (GOk.cons dep_ok .nil))) Try.func11 rfl (K := (· < w.heap.size)) (fun _ h => h) (A := A) (n0 := 0) (b0 := 0) (rows := []) (hp := []) rfl (Nat.zero_le _) (fun k r h => by cases h) rfl (fun k r h => by cases h) rfl rfl (Nat.le_of_ble_eq_true rfl) ?_
    conv => whnf
    repeat (refine V_step T_ok (GOk.cons toAngle_ok (GOk.cons sDep_ok (GOk.cons dep_ok .nil))) rfl ?_; conv => whnf)
    repeat (any_goals (first
      | (refine V_step T_ok (GOk.cons toAngle_ok (GOk.cons sDep_ok (GOk.cons dep_ok .nil))) rfl ?_; conv => whnf)
      | (refine V_drawA T_ok (GOk.cons toAngle_ok (GOk.cons sDep_ok (GOk.cons dep_ok .nil))) mixed (by kernel_rfl) ?_; conv => whnf)
      | (refine bcond_split (fun hc => ?_) (fun hc => ?_) <;> (try simp only [decide_eq_true_eq, decide_eq_false_iff_not, Bool.not_eq_true', Bool.not_eq_false', Bool.and_eq_true, Bool.or_eq_true, Bool.and_eq_false_imp, Bool.or_eq_false_iff, ne_eq, Decidable.not_not] at hc) <;> conv => whnf)
      | (intro ysK hysK; have hysl := congrArg List.length hysK; (try simp only [List.length_set, List.length_append, List.length_cons, List.length_nil, List.length_take, List.length_drop, List.length_replicate] at hysl); conv => whnf)
      | (refine And.intro (by first | exact True.intro | (with_reducible assumption) | omega | (simp only [Rng]; omega) | exact Nat.le_of_ble_eq_true rfl | exact True.intro | exact Nat.le_of_ble_eq_true rfl | (refine ⟨by (try simp only [List.length_cons, List.length_nil]); omega, Int.le_trans (Int.mul_le_mul_of_nonneg_left (show (TInfo.bytes _ : Int) ≤ 64 from Int.ofNat_le.2 (Nat.le_of_ble_eq_true rfl)) (by omega)) (by (try simp only [List.length_cons, List.length_nil]); omega)⟩)) ?_; conv => whnf)))
    all_goals subst_vars
    all_goals first
      | exact absurd rfl hc
      | exact absurd trivial (by assumption)
      | exact leaf0 rfl rfl rfl
end Go.Proofs.Ytlplngafncobkab.Fw
