/- Contracts: PullBackBy, the program. -/
import Derived.Test.YtllagpbbbdekiaaVC
namespace Go.Proofs.Ytllagpbbbdekiaa.Fw
open Go Go.RowKit
set_option linter.unusedVariables false
set_option linter.unusedSimpArgs false
set_option maxRecDepth 100000
set_option maxHeartbeats 2000000

@[irreducible] def pbO (l m : Lf) : List Lf × Int :=
  if (mlR ([l].all allLY) m).c = 0 then (if l = m then ((mlR ([l].all allLY) m).j, 0) else ibO l (mlR ([l].all allLY) m).j) else ([], (mlR ([l].all allLY) m).c)
theorem pbO_c {l m : Lf} (h : ¬ (mlR ([l].all allLY) m).c = 0) : pbO l m = ([], (mlR ([l].all allLY) m).c) := by unfold pbO; rw [if_neg h]
theorem pbO_e {l m : Lf} (h : (mlR ([l].all allLY) m).c = 0) (he : l = m) : pbO l m = ((mlR ([l].all allLY) m).j, 0) := by unfold pbO; rw [if_pos h, if_pos he]
theorem pbO_n {l m : Lf} (h : (mlR ([l].all allLY) m).c = 0) (he : ¬ l = m) : pbO l m = ibO l (mlR ([l].all allLY) m).j := by unfold pbO; rw [if_pos h, if_neg he]
def pbC : PCtr := fun _ _ lr vals k => match vals with
  | [.agg [.int .i64 n, .int .i64 d, .int .i64 m, .int .i64 e], .agg [.int .i64 n', .int .i64 d', .int .i64 m', .int .i64 e']] => True ∧ ∀ q : List Lf × Int, q = pbO ((n, d), (m, e)) ((n', d'), (m', e')) → k [⟨lT, 31, true, q.1⟩] (.tup [.row lr, .int .i64 q.2])
  | _ => False
theorem ml_facts {ok : Bool} {m : Lf} (h : (mlR ok m).c = 0) : ok = true ∧ IsL m ∧ (mlR ok m).l = m ∧ (∀ x ∈ (mlR ok m).j, IsL x) ∧ (mlR ok m).j.length = 2 := by
  cases ok with
  | false => rw [mlR_1 rfl] at h; exact absurd h (by decide)
  | true =>
    by_cases h2 : (miR m).c = 0
    · by_cases h3 : (miR m).f = 0
      · rw [mlR_4 rfl h2 h3]
        by_cases hl : IsL m
        · by_cases hs : ShortL m
          · by_cases hb : imgB isDiaL m = true ∧ majN m = 0
            · have hj := majN_0 hb.2
              rw [miR_4 hl hs hb]
              refine ⟨rfl, hl, rfl, ?_, ?_⟩
              · show ∀ x ∈ majO m, IsL x
                rw [hj.2]; exact maj_isL hl hj.1
              · show (majO m).length = 2
                rw [hj.2]; exact two_len _ _
            · rw [miR_3 hl hs hb] at h2; exact absurd h2 (by decide)
          · rw [miR_2 hl hs] at h3; exact absurd h3 (show ¬ (1 : Int) = 0 by decide)
        · rw [miR_1 hl] at h2; exact absurd h2 (by decide)
      · rw [mlR_3 rfl h2 h3] at h; exact absurd h (by decide)
    · rw [mlR_2 rfl h2] at h; exact absurd h h2
theorem ibO_len (l : Lf) (ms : List Lf) : (ibO l ms).1.length ≤ 2 := by
  unfold ibO
  have h1 : (wayL l).length = 2 := two_len _ _
  have h2 : (way2L l).length = 2 := two_len _ _
  split
  · split
    · exact Nat.zero_le _
    · split
      · exact Nat.le_of_eq h1
      · exact Nat.le_of_eq h2
  · exact Nat.zero_le _
abbrev GPe := GOk.cons mnl_ok (GOk.cons ibE_ok (GOk.cons cln_ok .nil))
abbrev GPn := GOk.cons mnl_ok (GOk.cons ib_ok (GOk.cons cln_ok .nil))
theorem pb_ok : PCtrOk Try.prog 8 pbC where
  enter := enter_ok Try.func8 (by kernel_rfl) rfl
  calls := by
    intro hg rg lr vals k h
    unfold pbC at h
    split at h
    case h_2 => exact h.elim
    rename_i n d m e n' d' m' e'
    obtain ⟨_, hk⟩ := h
    replace hk := hk _ rfl
    refine ⟨_, _, hk, fun A w _ _ => ?_⟩
    by_cases hlm : (((n, d), (m, e)) : Lf) = ((n', d'), (m', e'))
    · skip
      refine enter T_ok GPe Try.func8 rfl (K := (· < w.heap.size)) (fun _ h => h) (A := A) (vals := [.agg [.int .i64 n, .int .i64 d, .int .i64 m, .int .i64 e], .agg [.int .i64 n', .int .i64 d', .int .i64 m', .int .i64 e']]) (n0 := 0) (b0 := 0) (rows := []) (hp := []) rfl (Nat.zero_le _) no_box rfl no_row rfl rfl (Nat.le_of_ble_eq_true rfl) ?_
      conv => whnf
      repeat (refine V_step T_ok GPe rfl ?_; conv => whnf)
      repeat (any_goals (first
        | (refine V_step T_ok GPe rfl ?_; conv => whnf)
        | (refine V_drawN T_ok GPe mixed (by kernel_rfl) ?_; conv => whnf)
        | (refine bcond_split (fun hc => ?_) (fun hc => ?_) <;> (try simp only [decide_eq_true_eq, decide_eq_false_iff_not, Bool.not_eq_true', Bool.not_eq_false', Bool.and_eq_true, Bool.or_eq_true, Bool.and_eq_false_imp, Bool.or_eq_false_iff, ne_eq, Decidable.not_not] at hc) <;> conv => whnf)
        | (intro ysK hysK; have hysl := congrArg List.length hysK; (try simp only [List.length_set, List.length_append, List.length_cons, List.length_nil, List.length_take, List.length_drop, List.length_replicate] at hysl); conv => whnf)
        | (intro bK hbK; have hbl := congrArg ByteArray.size hbK; conv => whnf)
        | (intro sK hsK; conv => whnf)
        | (refine And.intro (by first | (first | exact True.intro | exact rfl | exact hlm) | exact True.intro | exact ⟨rfl, True.intro, fun _ _ => rfl⟩ | exact Nat.le_of_ble_eq_true rfl | (refine ⟨by (try simp only [List.length_cons, List.length_nil]); omega, Int.le_trans (Int.mul_le_mul_of_nonneg_left (show (TInfo.bytes _ : Int) ≤ 64 from Int.ofNat_le.2 (Nat.le_of_ble_eq_true rfl)) (by omega)) (by (try simp only [List.length_cons, List.length_nil]); omega)⟩)) ?_; conv => whnf)))
      · subst hsK
        have z := pbO_c (l := ((n, d), (m, e))) hc
        exact leafN rfl (by rw [z]) (fun B C h => by rw [z]; simp [AVal.den, dens, h, Hdr.val])
      have hf := ml_facts (hsK ▸ hc)
      have hl : sK.l = ((n', d'), (m', e')) := by rw [hsK]; exact hf.2.2.1
      have hp : (((n, d), (m, e)) : Lf) = ((sK.l.1.1, sK.l.1.2), sK.l.2.1, sK.l.2.2) := hlm.trans hl.symm
      have hj : List.length (α := Lf) sK.j ≤ 1000 := by have := hf.2.2.2.2; rw [← hsK] at this; omega
      repeat (any_goals (first
        | (refine V_step T_ok GPe rfl ?_; conv => whnf)
        | (refine V_drawN T_ok GPe mixed (by kernel_rfl) ?_; conv => whnf)
        | (refine bcond_split (fun hc => ?_) (fun hc => ?_) <;> (try simp only [decide_eq_true_eq, decide_eq_false_iff_not, Bool.not_eq_true', Bool.not_eq_false', Bool.and_eq_true, Bool.or_eq_true, Bool.and_eq_false_imp, Bool.or_eq_false_iff, ne_eq, Decidable.not_not] at hc) <;> conv => whnf)
        | (intro ysK hysK; have hysl := congrArg List.length hysK; (try simp only [List.length_set, List.length_append, List.length_cons, List.length_nil, List.length_take, List.length_drop, List.length_replicate] at hysl); conv => whnf)
        | (intro bK hbK; have hbl := congrArg ByteArray.size hbK; conv => whnf)
        | (intro sK hsK; conv => whnf)
        | (refine And.intro (by first | (first | exact True.intro | exact rfl | exact hp | exact hj) | exact True.intro | exact ⟨rfl, True.intro, fun _ _ => rfl⟩ | exact Nat.le_of_ble_eq_true rfl | (refine ⟨by (try simp only [List.length_cons, List.length_nil]); omega, Int.le_trans (Int.mul_le_mul_of_nonneg_left (show (TInfo.bytes _ : Int) ≤ 64 from Int.ofNat_le.2 (Nat.le_of_ble_eq_true rfl)) (by omega)) (by (try simp only [List.length_cons, List.length_nil]); omega)⟩)) ?_; conv => whnf)))
      have z := pbO_e (l := ((n, d), (m, e))) (hsK ▸ hc) hlm
      have hy : ysK = (pbO ((n, d), (m, e)) ((n', d'), (m', e'))).1 := by rw [z, ← hsK]; exact hysK
      subst hy
      exact leaf1 3 rfl rfl rfl rfl (fun B C h => by simp [AVal.den, dens, h, z])
    · skip
      refine enter T_ok GPn Try.func8 rfl (K := (· < w.heap.size)) (fun _ h => h) (A := A) (vals := [.agg [.int .i64 n, .int .i64 d, .int .i64 m, .int .i64 e], .agg [.int .i64 n', .int .i64 d', .int .i64 m', .int .i64 e']]) (n0 := 0) (b0 := 0) (rows := []) (hp := []) rfl (Nat.zero_le _) no_box rfl no_row rfl rfl (Nat.le_of_ble_eq_true rfl) ?_
      conv => whnf
      repeat (refine V_step T_ok GPn rfl ?_; conv => whnf)
      repeat (any_goals (first
        | (refine V_step T_ok GPn rfl ?_; conv => whnf)
        | (refine V_drawN T_ok GPn mixed (by kernel_rfl) ?_; conv => whnf)
        | (refine bcond_split (fun hc => ?_) (fun hc => ?_) <;> (try simp only [decide_eq_true_eq, decide_eq_false_iff_not, Bool.not_eq_true', Bool.not_eq_false', Bool.and_eq_true, Bool.or_eq_true, Bool.and_eq_false_imp, Bool.or_eq_false_iff, ne_eq, Decidable.not_not] at hc) <;> conv => whnf)
        | (intro ysK hysK; have hysl := congrArg List.length hysK; (try simp only [List.length_set, List.length_append, List.length_cons, List.length_nil, List.length_take, List.length_drop, List.length_replicate] at hysl); conv => whnf)
        | (intro bK hbK; have hbl := congrArg ByteArray.size hbK; conv => whnf)
        | (intro sK hsK; conv => whnf)
        | (refine And.intro (by first | (first | exact True.intro | exact rfl) | exact True.intro | exact ⟨rfl, True.intro, fun _ _ => rfl⟩ | exact Nat.le_of_ble_eq_true rfl | (refine ⟨by (try simp only [List.length_cons, List.length_nil]); omega, Int.le_trans (Int.mul_le_mul_of_nonneg_left (show (TInfo.bytes _ : Int) ≤ 64 from Int.ofNat_le.2 (Nat.le_of_ble_eq_true rfl)) (by omega)) (by (try simp only [List.length_cons, List.length_nil]); omega)⟩)) ?_; conv => whnf)))
      · subst hsK
        have z := pbO_c (l := ((n, d), (m, e))) hc
        exact leafN rfl (by rw [z]) (fun B C h => by rw [z]; simp [AVal.den, dens, h, Hdr.val])
      have hf := ml_facts (hsK ▸ hc)
      have hl : sK.l = ((n', d'), (m', e')) := by rw [hsK]; exact hf.2.2.1
      have hil : IsL ((n, d), (m, e)) := by have := hf.1; simpa [allLY] using this
      have hne : (((n, d), (m, e)) : Lf) ≠ ((sK.l.1.1, sK.l.1.2), sK.l.2.1, sK.l.2.2) := fun h => hlm (h.trans hl)
      have hms : ∀ x ∈ sK.j, SmL x := fun x hx => (hf.2.2.2.1 x (by rw [← hsK]; exact hx)).sm
      have hp := And.intro hil (And.intro hne hms)
      have hcc : (mlR ([(((n, d), (m, e)) : Lf)].all allLY) ((n', d'), (m', e'))).c = 0 := by rw [← hsK]; exact hc
      obtain ⟨q0, hq0⟩ : ∃ q0, sK = q0 := ⟨_, rfl⟩
      rw [hq0] at hsK hc hl hne hms hp ⊢
      have hmm := hsK
      clear hsK hq0
      repeat (any_goals (first
        | (refine V_step T_ok GPn rfl ?_; conv => whnf)
        | (refine V_drawN T_ok GPn mixed (by kernel_rfl) ?_; conv => whnf)
        | (refine bcond_split (fun hc => ?_) (fun hc => ?_) <;> (try simp only [decide_eq_true_eq, decide_eq_false_iff_not, Bool.not_eq_true', Bool.not_eq_false', Bool.and_eq_true, Bool.or_eq_true, Bool.and_eq_false_imp, Bool.or_eq_false_iff, ne_eq, Decidable.not_not] at hc) <;> conv => whnf)
        | (intro ysK hysK; have hysl := congrArg List.length hysK; (try simp only [List.length_set, List.length_append, List.length_cons, List.length_nil, List.length_take, List.length_drop, List.length_replicate] at hysl); conv => whnf)
        | (intro bK hbK; have hbl := congrArg ByteArray.size hbK; conv => whnf)
        | (intro sK hsK; conv => whnf)
        | (refine And.intro (by first | (first | exact True.intro | exact rfl | exact hp) | exact True.intro | exact ⟨rfl, True.intro, fun _ _ => rfl⟩ | exact Nat.le_of_ble_eq_true rfl | (refine ⟨by (try simp only [List.length_cons, List.length_nil]); omega, Int.le_trans (Int.mul_le_mul_of_nonneg_left (show (TInfo.bytes _ : Int) ≤ 64 from Int.ofNat_le.2 (Nat.le_of_ble_eq_true rfl)) (by omega)) (by (try simp only [List.length_cons, List.length_nil]); omega)⟩)) ?_; conv => whnf)))
      have z0 : pbO ((n, d), (m, e)) ((n', d'), (m', e')) = sK := by rw [pbO_n hcc hlm, ← hmm]; exact hsK.symm
      have hj : List.length (α := Lf) sK.1 ≤ 1000 := by
        have := ibO_len ((n, d), (m, e)) q0.j
        rw [hsK]; omega
      repeat (any_goals (first
        | (refine V_step T_ok GPn rfl ?_; conv => whnf)
        | (refine V_drawN T_ok GPn mixed (by kernel_rfl) ?_; conv => whnf)
        | (refine bcond_split (fun hc => ?_) (fun hc => ?_) <;> (try simp only [decide_eq_true_eq, decide_eq_false_iff_not, Bool.not_eq_true', Bool.not_eq_false', Bool.and_eq_true, Bool.or_eq_true, Bool.and_eq_false_imp, Bool.or_eq_false_iff, ne_eq, Decidable.not_not] at hc) <;> conv => whnf)
        | (intro ysK hysK; have hysl := congrArg List.length hysK; (try simp only [List.length_set, List.length_append, List.length_cons, List.length_nil, List.length_take, List.length_drop, List.length_replicate] at hysl); conv => whnf)
        | (intro bK hbK; have hbl := congrArg ByteArray.size hbK; conv => whnf)
        | (intro sK hsK; conv => whnf)
        | (refine And.intro (by first | (first | exact True.intro | exact rfl | exact hj) | exact True.intro | exact ⟨rfl, True.intro, fun _ _ => rfl⟩ | exact Nat.le_of_ble_eq_true rfl | (refine ⟨by (try simp only [List.length_cons, List.length_nil]); omega, Int.le_trans (Int.mul_le_mul_of_nonneg_left (show (TInfo.bytes _ : Int) ≤ 64 from Int.ofNat_le.2 (Nat.le_of_ble_eq_true rfl)) (by omega)) (by (try simp only [List.length_cons, List.length_nil]); omega)⟩)) ?_; conv => whnf)))
      have hy : ysK = (pbO ((n, d), (m, e)) ((n', d'), (m', e'))).1 := by rw [z0]; exact hysK
      subst hy
      exact leaf1 4 rfl rfl rfl rfl (fun B C h => by simp [AVal.den, dens, h, z0])
end Go.Proofs.Ytllagpbbbdekiaa.Fw
-- %intro
