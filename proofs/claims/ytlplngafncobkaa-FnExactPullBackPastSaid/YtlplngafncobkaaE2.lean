/- Contracts: pulling a leaf back past a diameter. -/
import Derived.Test.YtlplngafncobkaaE1
namespace Go.Proofs.Ytlplngafncobkaa.Fw
open Go Go.RowKit
set_option linter.unusedVariables false
set_option linter.unusedSimpArgs false
set_option maxRecDepth 100000
set_option maxHeartbeats 2000000

theorem Sm.half {a : Ang} (h : IsA a) : Sm (halfA a) := by
  have := ofQ_bd a.1 (2 * a.2) (by have := h.1.1; omega)
  have := h.1
  unfold Sm halfA
  omega
theorem Sm.half2 {a : Ang} (h : IsA a) : Sm (half2A a) := by
  have := ofQ_bd (a.1 + a.2) (2 * a.2) (by have := h.1.1; omega)
  have := h.1
  unfold Sm half2A
  omega
theorem leafOf_sm {a b : Ang} (ha : Sm a) (hb : Sm b) : SmL (leafOf a b) := by
  unfold leafOf; split
  · exact ⟨hb, ha⟩
  · exact ⟨ha, hb⟩
theorem two_mem {l m x : Lf} (h : x ∈ twoL l m) : x = l ∨ x = m := by
  unfold twoL at h
  split at h
  · simp at h; exact h.symm
  · simpa using h
theorem way_sm {l : Lf} (h : IsL l) : ∀ x ∈ wayL l, SmL x := fun x hx => by
  rcases two_mem hx with rfl | rfl
  · exact leafOf_sm (Sm.half h.1) (Sm.half h.2.1)
  · exact leafOf_sm (Sm.half2 h.1) (Sm.half2 h.2.1)

def waysC : PCtr := fun _ _ lr vals k => match vals with
  | [.agg [.int .i64 n, .int .i64 d, .int .i64 m, .int .i64 e]] => (IsA (n, d) ∧ IsA (m, e)) ∧ k [⟨lT, 27, true, wayL ((n, d), (m, e))⟩, ⟨lT, 27, true, way2L ((n, d), (m, e))⟩] (.tup [.row lr, .row (lr + 1)])
  | _ => False
abbrev GW := GOk.cons halves_ok (GOk.cons leaf_ok (GOk.cons two_ok .nil))
theorem ways_ok : PCtrOk Try.prog 109 waysC where
  enter := enter_ok Try.func109 (by kernel_rfl) rfl
  calls := by
    intro hg rg lr vals k h
    unfold waysC at h
    split at h
    case h_2 => exact h.elim
    rename_i n d m e
    obtain ⟨⟨h1, h2⟩, hk⟩ := h
    refine ⟨_, _, hk, fun A w _ _ => ?_⟩
    refine enter T_ok GW Try.func109 rfl (K := (· < w.heap.size)) (fun _ h => h) (A := A) (n0 := 0) (b0 := 0) (rows := []) (hp := []) rfl (Nat.zero_le _) (fun k r h => by cases h) rfl (fun k r h => by cases h) rfl rfl (Nat.le_of_ble_eq_true rfl) ?_
    conv => whnf
    repeat (refine V_step T_ok GW rfl ?_; conv => whnf)
    have s1 := h1.sm
    have s2 := h2.sm
    have a1 := Sm.half h1
    have a2 := Sm.half2 h1
    have a3 := Sm.half h2
    have a4 := Sm.half2 h2
    have b1 := a1.bd
    have b2 := a2.bd
    have b3 := a3.bd
    have b4 := a4.bd
    have c1 := (leafOf_sm a1 a3).bd
    have c2 := (leafOf_sm a2 a4).bd
    have c3 := (leafOf_sm a1 a4).bd
    have c4 := (leafOf_sm a2 a3).bd
    repeat (any_goals (first
      | (refine V_step T_ok GW rfl ?_; conv => whnf)
      | (refine V_drawA T_ok GW mixed (by kernel_rfl) ?_; conv => whnf)
      | (refine bcond_split (fun hc => ?_) (fun hc => ?_) <;> (try simp only [decide_eq_true_eq, decide_eq_false_iff_not, Bool.not_eq_true', Bool.not_eq_false', Bool.and_eq_true, Bool.or_eq_true, Bool.and_eq_false_imp, Bool.or_eq_false_iff, ne_eq, Decidable.not_not] at hc) <;> conv => whnf)
      | (intro ysK hysK; have hysl := congrArg List.length hysK; (try simp only [List.length_set, List.length_append, List.length_cons, List.length_nil] at hysl); conv => whnf)
      | (refine And.intro (by first | (first | exact True.intro | with_reducible assumption | exact ⟨b1, b3⟩ | exact ⟨b2, b4⟩ | exact ⟨b1, b4⟩ | exact ⟨b2, b3⟩ | exact ⟨c1, c2⟩ | exact ⟨c3, c4⟩) | exact True.intro | exact Nat.le_of_ble_eq_true rfl | (refine ⟨by (try simp only [List.length_cons, List.length_nil]); omega, Int.le_trans (Int.mul_le_mul_of_nonneg_left (show (TInfo.bytes _ : Int) ≤ 64 from Int.ofNat_le.2 (Nat.le_of_ble_eq_true rfl)) (by omega)) (by (try simp only [List.length_cons, List.length_nil]); omega)⟩)) ?_; conv => whnf)))
    all_goals refine leaf2 0 1 (by decide) rfl rfl rfl rfl rfl rfl rfl (fun B C h1 h2 => ?_)
    all_goals simp [AVal.den, dens, h1, h2]

def PastP (l d : Lf) : Prop := sDiaL d = true ∧ ¬ (doubleA d.1 = l.1 ∨ doubleA d.1 = l.2)
instance (l d : Lf) : Decidable (PastP l d) := by unfold PastP; infer_instance
def pastO (l d : Lf) : List Lf := if IsL l ∧ IsL d then (if PastP l d then (if okHalf l.1 ∧ okHalf l.2 then sPastW l d else []) else []) else []
def pastN (l d : Lf) : Int := if IsL l ∧ IsL d then (if PastP l d then (if okHalf l.1 ∧ okHalf l.2 then 0 else 3) else 5) else 1
def pastC : PCtr := fun _ _ lr vals k => match vals with
  | [.agg [.int .i64 n, .int .i64 d, .int .i64 m, .int .i64 e], .agg [.int .i64 n', .int .i64 d', .int .i64 m', .int .i64 e']] =>
    True ∧ k [⟨lT, 27, true, pastO ((n, d), (m, e)) ((n', d'), (m', e'))⟩] (.tup [.row lr, .int .i64 (pastN ((n, d), (m, e)) ((n', d'), (m', e')))])
  | _ => False
theorem two_isL (l d : Lf) : (if [l, d].all allLY = true then (0 : Int) else 1) = 0 ↔ IsL l ∧ IsL d := by
  simp [allLY]
theorem limA_eq (xs : List Lf) : xs.all limAY = xs.all (fun l => decide (LimL l)) := rfl
theorem PastP.ne1 {l d : Lf} (h : PastP l d) : l.1 ≠ doubleA d.1 := fun e => h.2 (.inl e.symm)
theorem PastP.ne2 {l d : Lf} (h : PastP l d) : l.2 ≠ doubleA d.1 := fun e => h.2 (.inr e.symm)
theorem past_bad {l d : Lf} (h : ¬ (IsL l ∧ IsL d)) : pastO l d = [] ∧ pastN l d = 1 := by
  unfold pastO pastN
  rw [if_neg h, if_neg h]; exact ⟨rfl, rfl⟩
theorem past_st {l d : Lf} (h : IsL l ∧ IsL d) (hp : ¬ PastP l d) : pastO l d = [] ∧ pastN l d = 5 := by
  unfold pastO pastN
  rw [if_pos h, if_pos h, if_neg hp, if_neg hp]; exact ⟨rfl, rfl⟩
theorem past_no {l d : Lf} (h : IsL l ∧ IsL d) (hp : PastP l d) (ho : ¬ (okHalf l.1 ∧ okHalf l.2)) : pastO l d = [] ∧ pastN l d = 3 := by
  unfold pastO pastN
  rw [if_pos h, if_pos h, if_pos hp, if_pos hp, if_neg ho, if_neg ho]; exact ⟨rfl, rfl⟩
theorem past_yes {l d : Lf} (h : IsL l ∧ IsL d) (hp : PastP l d) (ho : okHalf l.1 ∧ okHalf l.2) : pastO l d = sPastW l d ∧ pastN l d = 0 := by
  unfold pastO pastN
  rw [if_pos h, if_pos h, if_pos hp, if_pos hp, if_pos ho, if_pos ho]; exact ⟨rfl, rfl⟩
theorem past_of {l d : Lf} (h : IsL l ∧ IsL d) (h1 : isDiaL d = true) (h2 : ¬ (((doubleA d.1).1, (doubleA d.1).2) = l.1 ∨ ((doubleA d.1).1, (doubleA d.1).2) = l.2)) : PastP l d :=
  ⟨by rw [← dia_eq h.2]; exact h1, h2⟩
theorem past_w {l d : Lf} (h : IsL l ∧ IsL d) (hp : PastP l d) {b : Bool} (hb : (wayL l).any (crossL d) = b) : (if b = true then way2L l else wayL l) = sPastW l d := by
  rw [← past_eq h.1 h.2 hp.1 hp.ne1 hp.ne2, pastW, hb]
theorem past_k {l d : Lf} {b c : Bool} (hb : (wayL l).any (crossL d) = b) (hc : (if b = true then way2L l else wayL l).all limAY = c) : okHalf l.1 ∧ okHalf l.2 ↔ c = true := by
  rw [← past_lim l d, pastW, hb, ← hc, limA_eq]
abbrev GP := GOk.cons leavesCode_ok (GOk.cons isDia_ok (GOk.cons double_ok (GOk.cons isEnd_ok (GOk.cons ways_ok (GOk.cons hasCross_ok (GOk.cons limited_ok .nil))))))
theorem past_ok : PCtrOk Try.prog 28 pastC where
  enter := enter_ok Try.func28 (by kernel_rfl) rfl
  calls := by
    intro hg rg lr vals k h
    unfold pastC at h
    split at h
    case h_2 => exact h.elim
    rename_i n d m e n' d' m' e'
    obtain ⟨_, hk⟩ := h
    refine ⟨_, _, hk, fun A w _ _ => ?_⟩
    refine enter T_ok GP Try.func28 rfl (K := (· < w.heap.size)) (fun _ h => h) (A := A) (n0 := 0) (b0 := 0) (rows := []) (hp := []) rfl (Nat.zero_le _) (fun k r h => by cases h) rfl (fun k r h => by cases h) rfl rfl (Nat.le_of_ble_eq_true rfl) ?_
    conv => whnf
    repeat (refine V_step T_ok GP rfl ?_; conv => whnf)
    repeat (any_goals (first
      | (refine V_step T_ok GP rfl ?_; conv => whnf)
      | (refine V_drawA T_ok GP mixed (by kernel_rfl) ?_; conv => whnf)
      | (refine bcond_split (fun hc => ?_) (fun hc => ?_) <;> (try simp only [decide_eq_true_eq, decide_eq_false_iff_not, Bool.not_eq_true', Bool.not_eq_false', Bool.and_eq_true, Bool.or_eq_true, Bool.and_eq_false_imp, Bool.or_eq_false_iff, ne_eq, Decidable.not_not] at hc) <;> conv => whnf)
      | (intro ysK hysK; have hysl := congrArg List.length hysK; (try simp only [List.length_set, List.length_append, List.length_cons, List.length_nil] at hysl); conv => whnf)
      | (refine And.intro (by first | (first | exact True.intro | exact ((two_isL _ _).1 (by assumption)).2.sm | exact ((two_isL _ _).1 (by assumption)).2.sm.1.bd | exact ⟨((two_isL _ _).1 (by assumption)).1.1, ((two_isL _ _).1 (by assumption)).1.2.1⟩ | exact ⟨((two_isL _ _).1 (by assumption)).2.sm, way_sm ((two_isL _ _).1 (by assumption)).1⟩) | exact True.intro | exact Nat.le_of_ble_eq_true rfl | (refine ⟨by (try simp only [List.length_cons, List.length_nil]); omega, Int.le_trans (Int.mul_le_mul_of_nonneg_left (show (TInfo.bytes _ : Int) ≤ 64 from Int.ofNat_le.2 (Nat.le_of_ble_eq_true rfl)) (by omega)) (by (try simp only [List.length_cons, List.length_nil]); omega)⟩)) ?_; conv => whnf)))
    · have hb := past_bad (fun h => hc ((two_isL _ _).2 h))
      refine leafN rfl hb.1 (fun B C h => ?_)
      have hc' : (if [((n, d), m, e), ((n', d'), m', e')].all allLY = true then (0 : Int) else 1) = 1 := by
        split
        · rename_i h; rw [if_pos h] at hc; exact absurd rfl hc
        · rfl
      rw [hb.2, hc']
      simp [AVal.den, dens, h, Hdr.val]
    · have hl := (two_isL _ _).1 (by assumption)
      have hb := past_st hl (fun h => by have h1 := h.1; rw [← dia_eq hl.2] at h1; rw [hc] at h1; cases h1)
      refine leafN rfl hb.1 (fun B C h => ?_)
      simp [AVal.den, dens, h, hb.2, Hdr.val]
    · have hl := (two_isL _ _).1 (by assumption)
      have hb := past_st hl (fun h => h.2 hc)
      refine leafN rfl hb.1 (fun B C h => ?_)
      simp [AVal.den, dens, h, hb.2, Hdr.val]
    · rename_i k0 k1 k2 k3
      have hl := (two_isL _ _).1 k0
      have hp := past_of hl k1 k2
      have hb := past_yes hl hp ((past_k k3 hc).2 rfl)
      refine leaf1 2 rfl rfl (by rw [hb.1, ← past_w hl hp k3]; rfl) rfl (fun B C h => ?_)
      simp [AVal.den, dens, h, hb.2]
    · rename_i k0 k1 k2 k3
      have hl := (two_isL _ _).1 k0
      have hp := past_of hl k1 k2
      have hb := past_no hl hp (fun h => by have := (past_k k3 hc).1 h; cases this)
      refine leafN rfl hb.1 (fun B C h => ?_)
      simp [AVal.den, dens, h, hb.2, Hdr.val]
    · rename_i k0 k1 k2 k3
      have hl := (two_isL _ _).1 k0
      have hp := past_of hl k1 k2
      have hb := past_yes hl hp ((past_k k3 hc).2 rfl)
      refine leaf1 1 rfl rfl (by rw [hb.1, ← past_w hl hp k3]; rfl) rfl (fun B C h => ?_)
      simp [AVal.den, dens, h, hb.2]
    · rename_i k0 k1 k2 k3
      have hl := (two_isL _ _).1 k0
      have hp := past_of hl k1 k2
      have hb := past_no hl hp (fun h => by have := (past_k k3 hc).1 h; cases this)
      refine leafN rfl hb.1 (fun B C h => ?_)
      simp [AVal.den, dens, h, hb.2, Hdr.val]

end Go.Proofs.Ytlplngafncobkaa.Fw
