/- Contracts: PullBackBy, the reference (under way). -/
import Derived.Test.YtllagpbbbdekiaaVE
namespace Go.Proofs.Ytllagpbbbdekiaa.Fw
open Go Go.RowKit
set_option linter.unusedVariables false
set_option linter.unusedSimpArgs false
set_option maxRecDepth 100000
set_option maxHeartbeats 2000000

theorem pb_bad {l m : Lf} (h : ¬ (IsL l ∧ IsL m)) : pbO l m = ([], 1) := by
  by_cases hl : IsL l
  · have hm : ¬ IsL m := fun h' => h ⟨hl, h'⟩
    have e : mlR ([l].all allLY) m = miZ 1 := by
      have h2 : [l].all allLY = true := by simp [allLY, hl]
      have hc : ¬ (miR m).c = 0 := by rw [miR_1 hm]; decide
      rw [mlR_2 h2 hc, miR_1 hm]
    have hz : ¬ (mlR ([l].all allLY) m).c = 0 := by rw [e]; decide
    rw [pbO_c hz, e]; rfl
  · have e : mlR ([l].all allLY) m = miZ 1 := mlR_1 (by simp [allLY, hl])
    have hz : ¬ (mlR ([l].all allLY) m).c = 0 := by rw [e]; decide
    rw [pbO_c hz, e]; rfl
theorem pb_min {l m : Lf} (h : IsL l ∧ IsL m) (hc : ¬ (smO m).2 = 0) : pbO l m = ([], (smO m).2) := by
  have h2 : [l].all allLY = true := by simp [allLY, h.1]
  have e := (ml_sm h.2).1
  rw [e] at hc ⊢
  have := pbO_c (l := l) (m := m) (by rw [h2]; exact hc)
  rw [h2] at this; exact this
theorem pb_eq {l m : Lf} (h : IsL l ∧ IsL m) (hc : (smO m).2 = 0) (he : l = m) : pbO l m = ((smO m).1, 0) := by
  have h2 : [l].all allLY = true := by simp [allLY, h.1]
  have e := ml_sm h.2
  rw [e.1] at hc
  have := pbO_e (l := l) (m := m) (by rw [h2]; exact hc) he
  rw [h2] at this; rw [this, e.2 hc]
theorem pb_ne {l m : Lf} (h : IsL l ∧ IsL m) (hc : (smO m).2 = 0) (he : ¬ l = m) : pbO l m = bkO l (smO m).1 ∧ (∀ x ∈ (smO m).1, IsL x) ∧ (smO m).1.length = 2 := by
  have h2 : [l].all allLY = true := by simp [allLY, h.1]
  have e := ml_sm h.2
  rw [e.1] at hc
  have hf := ml_facts hc
  have := pbO_n (l := l) (m := m) (by rw [h2]; exact hc) he
  rw [h2] at this
  rw [this, e.2 hc]
  exact ⟨ib_bk h.1 hf.2.2.2.1 hf.2.2.2.2, hf.2.2.2.1, hf.2.2.2.2⟩
theorem sm_two {m : Lf} (h : IsL m) (hc : (smO m).2 = 0) : (∀ x ∈ (smO m).1, IsL x) ∧ (smO m).1.length = 2 := by
  have e := ml_sm h
  rw [e.1] at hc
  have hf := ml_facts hc
  rw [e.2 hc]
  exact ⟨hf.2.2.2.1, hf.2.2.2.2⟩
theorem bkO_len (l : Lf) (ms : List Lf) : (bkO l ms).1.length ≤ 2 := by
  unfold bkO
  have h1 : (bk1 l).length = 2 := sTwo_len _ _
  have h2 : (bk2 l).length = 2 := sTwo_len _ _
  split
  · split
    · exact Nat.zero_le _
    · split
      · exact Nat.le_of_eq h1
      · exact Nat.le_of_eq h2
  · exact Nat.zero_le _
theorem bkO_c {l : Lf} {ms : List Lf} (h : ¬ (bkO l ms).2 = 0) : (bkO l ms).1 = [] := by
  unfold bkO at h ⊢
  split
  · rename_i h1
    rw [if_pos h1] at h
    split
    · rfl
    · rename_i h2
      rw [if_neg h2] at h
      split at h <;> exact absurd rfl h
  · rfl
theorem bytesL : ti31.bytes = 32 := rfl
abbrev GSe := GOk.cons sIsL_ok (GOk.cons sm_ok (GOk.cons bkE_ok .nil))
abbrev GSn := GOk.cons sIsL_ok (GOk.cons sm_ok (GOk.cons bk_ok .nil))
theorem sPb_ok : PCtrOk Try.prog 6 pbC where
  enter := enter_ok Try.func6 (by kernel_rfl) rfl
  calls := by
    intro hg rg lr vals k h
    unfold pbC at h
    split at h
    case h_2 => exact h.elim
    rename_i n d m e n' d' m' e'
    obtain ⟨_, hk⟩ := h
    replace hk := hk _ rfl
    refine ⟨_, _, hk, fun A w _ _ => ?_⟩
    by_cases hlm : (((n, d), (m, e)) : Lf) = ((n', d'), (m', e'))
    · skip
      refine enter T_ok GSe Try.func6 rfl (K := (· < w.heap.size)) (fun _ h => h) (A := A) (vals := [.agg [.int .i64 n, .int .i64 d, .int .i64 m, .int .i64 e], .agg [.int .i64 n', .int .i64 d', .int .i64 m', .int .i64 e']]) (n0 := 0) (b0 := 0) (rows := []) (hp := []) rfl (Nat.zero_le _) no_box rfl no_row rfl rfl (Nat.le_of_ble_eq_true rfl) ?_
      conv => whnf
      repeat (refine V_step T_ok GSe rfl ?_; conv => whnf)
      repeat (any_goals (first
        | (refine V_step T_ok GSe rfl ?_; conv => whnf)
        | (refine V_drawN T_ok GSe mixed (by kernel_rfl) ?_; conv => whnf)
        | (refine bcond_split (fun hc => ?_) (fun hc => ?_) <;> (try simp only [decide_eq_true_eq, decide_eq_false_iff_not, Bool.not_eq_true', Bool.not_eq_false', Bool.and_eq_true, Bool.or_eq_true, Bool.and_eq_false_imp, Bool.or_eq_false_iff, ne_eq, Decidable.not_not] at hc) <;> conv => whnf)
        | (intro ysK hysK; have hysl := congrArg List.length hysK; (try simp only [List.length_set, List.length_append, List.length_cons, List.length_nil, List.length_take, List.length_drop, List.length_replicate] at hysl); conv => whnf)
        | (intro bK hbK; have hbl := congrArg ByteArray.size hbK; conv => whnf)
        | (intro sK hsK; conv => whnf)
        | (refine And.intro (by first | (first | exact True.intro | exact hlm | (with_reducible assumption)) | exact True.intro | exact ⟨rfl, True.intro, fun _ _ => rfl⟩ | exact Nat.le_of_ble_eq_true rfl | (refine ⟨by (try simp only [List.length_cons, List.length_nil]); omega, Int.le_trans (Int.mul_le_mul_of_nonneg_left (show (TInfo.bytes _ : Int) ≤ 64 from Int.ofNat_le.2 (Nat.le_of_ble_eq_true rfl)) (by omega)) (by (try simp only [List.length_cons, List.length_nil]); omega)⟩)) ?_; conv => whnf)))
      · have z := pb_bad (l := ((n, d), (m, e))) (m := ((n', d'), (m', e'))) fun h => hc h.1
        exact leafN rfl (by rw [z]) (fun B C h => by rw [z]; simp [AVal.den, dens, h, Hdr.val])
      · have z := pb_bad (l := ((n, d), (m, e))) (m := ((n', d'), (m', e'))) fun h => hc h.2
        exact leafN rfl (by rw [z]) (fun B C h => by rw [z]; simp [AVal.den, dens, h, Hdr.val])
      · subst hsK
        have z := pb_min (l := ((n, d), (m, e))) (m := ((n', d'), (m', e'))) ⟨by assumption, by assumption⟩ hc
        exact leafN rfl (by rw [z]) (fun B C h => by rw [z]; simp [AVal.den, dens, h, Hdr.val])
      have hLL : IsL ((n, d), (m, e)) ∧ IsL ((n', d'), (m', e')) := ⟨by assumption, by assumption⟩
      have hc0 : (smO ((n', d'), (m', e'))).2 = 0 := by rw [← hsK]; exact hc
      have hs2 := sm_two hLL.2 hc0
      rw [← hsK] at hs2
      have z := pb_eq hLL hc0 hlm
      rw [← hsK] at z
      have hs3 := hs2.2
      repeat (any_goals (first
        | (refine V_step T_ok GSe rfl ?_; conv => whnf)
        | (refine V_drawN T_ok GSe mixed (by kernel_rfl) ?_; conv => whnf)
        | (refine bcond_split (fun hc => ?_) (fun hc => ?_) <;> (try simp only [decide_eq_true_eq, decide_eq_false_iff_not, Bool.not_eq_true', Bool.not_eq_false', Bool.and_eq_true, Bool.or_eq_true, Bool.and_eq_false_imp, Bool.or_eq_false_iff, ne_eq, Decidable.not_not] at hc) <;> conv => whnf)
        | (intro ysK hysK; have hysl := congrArg List.length hysK; (try simp only [List.length_set, List.length_append, List.length_cons, List.length_nil, List.length_take, List.length_drop, List.length_replicate] at hysl); conv => whnf)
        | (intro bK hbK; have hbl := congrArg ByteArray.size hbK; conv => whnf)
        | (intro sK hsK; conv => whnf)
        | (refine And.intro (by first | (first | exact True.intro | (simp only [List.length_nil]; exact ⟨by omega, by rw [bytesL]; omega⟩)) | exact True.intro | exact ⟨rfl, True.intro, fun _ _ => rfl⟩ | exact Nat.le_of_ble_eq_true rfl | (refine ⟨by (try simp only [List.length_cons, List.length_nil]); omega, Int.le_trans (Int.mul_le_mul_of_nonneg_left (show (TInfo.bytes _ : Int) ≤ 64 from Int.ofNat_le.2 (Nat.le_of_ble_eq_true rfl)) (by omega)) (by (try simp only [List.length_cons, List.length_nil]); omega)⟩)) ?_; conv => whnf)))
      have hy : ysK = (pbO ((n, d), (m, e)) ((n', d'), (m', e'))).1 := by rw [z]; exact hysK
      subst hy
      first
        | exact leaf1 2 rfl rfl rfl rfl (fun B C h => by simp [AVal.den, dens, h, z])
        | exact leaf1 1 rfl rfl rfl rfl (fun B C h => by simp [AVal.den, dens, h, z])
        | exact leaf1 3 rfl rfl rfl rfl (fun B C h => by simp [AVal.den, dens, h, z])
    · skip
      refine enter T_ok GSn Try.func6 rfl (K := (· < w.heap.size)) (fun _ h => h) (A := A) (vals := [.agg [.int .i64 n, .int .i64 d, .int .i64 m, .int .i64 e], .agg [.int .i64 n', .int .i64 d', .int .i64 m', .int .i64 e']]) (n0 := 0) (b0 := 0) (rows := []) (hp := []) rfl (Nat.zero_le _) no_box rfl no_row rfl rfl (Nat.le_of_ble_eq_true rfl) ?_
      conv => whnf
      repeat (refine V_step T_ok GSn rfl ?_; conv => whnf)
      repeat (any_goals (first
        | (refine V_step T_ok GSn rfl ?_; conv => whnf)
        | (refine V_drawN T_ok GSn mixed (by kernel_rfl) ?_; conv => whnf)
        | (refine bcond_split (fun hc => ?_) (fun hc => ?_) <;> (try simp only [decide_eq_true_eq, decide_eq_false_iff_not, Bool.not_eq_true', Bool.not_eq_false', Bool.and_eq_true, Bool.or_eq_true, Bool.and_eq_false_imp, Bool.or_eq_false_iff, ne_eq, Decidable.not_not] at hc) <;> conv => whnf)
        | (intro ysK hysK; have hysl := congrArg List.length hysK; (try simp only [List.length_set, List.length_append, List.length_cons, List.length_nil, List.length_take, List.length_drop, List.length_replicate] at hysl); conv => whnf)
        | (intro bK hbK; have hbl := congrArg ByteArray.size hbK; conv => whnf)
        | (intro sK hsK; conv => whnf)
        | (refine And.intro (by first | (first | exact True.intro | (with_reducible assumption)) | exact True.intro | exact ⟨rfl, True.intro, fun _ _ => rfl⟩ | exact Nat.le_of_ble_eq_true rfl | (refine ⟨by (try simp only [List.length_cons, List.length_nil]); omega, Int.le_trans (Int.mul_le_mul_of_nonneg_left (show (TInfo.bytes _ : Int) ≤ 64 from Int.ofNat_le.2 (Nat.le_of_ble_eq_true rfl)) (by omega)) (by (try simp only [List.length_cons, List.length_nil]); omega)⟩)) ?_; conv => whnf)))
      · have z := pb_bad (l := ((n, d), (m, e))) (m := ((n', d'), (m', e'))) fun h => hc h.1
        exact leafN rfl (by rw [z]) (fun B C h => by rw [z]; simp [AVal.den, dens, h, Hdr.val])
      · have z := pb_bad (l := ((n, d), (m, e))) (m := ((n', d'), (m', e'))) fun h => hc h.2
        exact leafN rfl (by rw [z]) (fun B C h => by rw [z]; simp [AVal.den, dens, h, Hdr.val])
      · subst hsK
        have z := pb_min (l := ((n, d), (m, e))) (m := ((n', d'), (m', e'))) ⟨by assumption, by assumption⟩ hc
        exact leafN rfl (by rw [z]) (fun B C h => by rw [z]; simp [AVal.den, dens, h, Hdr.val])
      have hLL : IsL ((n, d), (m, e)) ∧ IsL ((n', d'), (m', e')) := ⟨by assumption, by assumption⟩
      have hc0 : (smO ((n', d'), (m', e'))).2 = 0 := by rw [← hsK]; exact hc
      have hs2 := sm_two hLL.2 hc0
      rw [← hsK] at hs2
      have z := (pb_ne hLL hc0 hlm).1
      rw [← hsK] at z
      have hp := And.intro hLL.1 (And.intro hlm (And.intro hs2.2 (fun x hx => (hs2.1 x hx).sm)))
      clear hs2
      obtain ⟨q0, hq0⟩ : ∃ q0, sK = q0 := ⟨_, rfl⟩
      rw [hq0] at z hp ⊢
      clear hsK hq0 hc sK
      repeat (any_goals (first
        | (refine V_step T_ok GSn rfl ?_; conv => whnf)
        | (refine V_drawN T_ok GSn mixed (by kernel_rfl) ?_; conv => whnf)
        | (refine bcond_split (fun hc => ?_) (fun hc => ?_) <;> (try simp only [decide_eq_true_eq, decide_eq_false_iff_not, Bool.not_eq_true', Bool.not_eq_false', Bool.and_eq_true, Bool.or_eq_true, Bool.and_eq_false_imp, Bool.or_eq_false_iff, ne_eq, Decidable.not_not] at hc) <;> conv => whnf)
        | (intro ysK hysK; have hysl := congrArg List.length hysK; (try simp only [List.length_set, List.length_append, List.length_cons, List.length_nil, List.length_take, List.length_drop, List.length_replicate] at hysl); conv => whnf)
        | (intro bK hbK; have hbl := congrArg ByteArray.size hbK; conv => whnf)
        | (intro sK hsK; conv => whnf)
        | (refine And.intro (by first | (first | exact True.intro | exact hp) | exact True.intro | exact ⟨rfl, True.intro, fun _ _ => rfl⟩ | exact Nat.le_of_ble_eq_true rfl | (refine ⟨by (try simp only [List.length_cons, List.length_nil]); omega, Int.le_trans (Int.mul_le_mul_of_nonneg_left (show (TInfo.bytes _ : Int) ≤ 64 from Int.ofNat_le.2 (Nat.le_of_ble_eq_true rfl)) (by omega)) (by (try simp only [List.length_cons, List.length_nil]); omega)⟩)) ?_; conv => whnf)))
      · have hz : pbO ((n, d), (m, e)) ((n', d'), (m', e')) = sK := z.trans hsK.symm
        have h1 : sK.1 = [] := by rw [hsK]; exact bkO_c (by rw [← hsK]; exact hc)
        exact leafN rfl (by rw [hz, h1]) (fun B C h => by rw [hz]; simp [AVal.den, dens, h, Hdr.val])
      have hz : pbO ((n, d), (m, e)) ((n', d'), (m', e')) = sK := z.trans hsK.symm
      have hl2 : List.length (α := Lf) sK.1 ≤ 2 := by rw [hsK]; exact bkO_len _ _
      repeat (any_goals (first
        | (refine V_step T_ok GSn rfl ?_; conv => whnf)
        | (refine V_drawN T_ok GSn mixed (by kernel_rfl) ?_; conv => whnf)
        | (refine bcond_split (fun hc => ?_) (fun hc => ?_) <;> (try simp only [decide_eq_true_eq, decide_eq_false_iff_not, Bool.not_eq_true', Bool.not_eq_false', Bool.and_eq_true, Bool.or_eq_true, Bool.and_eq_false_imp, Bool.or_eq_false_iff, ne_eq, Decidable.not_not] at hc) <;> conv => whnf)
        | (intro ysK hysK; have hysl := congrArg List.length hysK; (try simp only [List.length_set, List.length_append, List.length_cons, List.length_nil, List.length_take, List.length_drop, List.length_replicate] at hysl); conv => whnf)
        | (intro bK hbK; have hbl := congrArg ByteArray.size hbK; conv => whnf)
        | (intro sK hsK; conv => whnf)
        | (refine And.intro (by first | (first | exact True.intro | (simp only [List.length_nil]; exact ⟨by omega, by rw [bytesL]; omega⟩)) | exact True.intro | exact ⟨rfl, True.intro, fun _ _ => rfl⟩ | exact Nat.le_of_ble_eq_true rfl | (refine ⟨by (try simp only [List.length_cons, List.length_nil]); omega, Int.le_trans (Int.mul_le_mul_of_nonneg_left (show (TInfo.bytes _ : Int) ≤ 64 from Int.ofNat_le.2 (Nat.le_of_ble_eq_true rfl)) (by omega)) (by (try simp only [List.length_cons, List.length_nil]); omega)⟩)) ?_; conv => whnf)))
      have hy : ysK = (pbO ((n, d), (m, e)) ((n', d'), (m', e'))).1 := by rw [hz]; exact hysK
      subst hy
      first
        | exact leaf1 3 rfl rfl rfl rfl (fun B C h => by simp [AVal.den, dens, h, hz, hc])
        | exact leaf1 2 rfl rfl rfl rfl (fun B C h => by simp [AVal.den, dens, h, hz, hc])
        | exact leaf1 4 rfl rfl rfl rfl (fun B C h => by simp [AVal.den, dens, h, hz, hc])
end Go.Proofs.Ytllagpbbbdekiaa.Fw
-- %intro
