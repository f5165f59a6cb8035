/- Contracts: what a minor leaf pulls back, the program. -/
import Derived.Test.YtllagpbbbdekiaaV6
namespace Go.Proofs.Ytllagpbbbdekiaa.Fw
open Go Go.RowKit
set_option linter.unusedVariables false
set_option linter.unusedSimpArgs false
set_option maxRecDepth 100000
set_option maxHeartbeats 2000000

@[irreducible] def ibO (l : Lf) (ms : List Lf) : List Lf × Int :=
  if (wayL l).all limAY = true then
    (if haveL (wayL l) ms = true ∧ haveL (way2L l) ms = true then ([], 5)
     else if haveL (wayL l) ms = false ∧ (haveL (way2L l) ms = true ∨ ltS (wayL l) (way2L l) = true) then (wayL l, 0) else (way2L l, 0))
  else ([], 3)
theorem ibO_3 {l : Lf} {ms : List Lf} (h : (wayL l).all limAY = false) : ibO l ms = ([], 3) := by unfold ibO; rw [if_neg (by rw [h]; decide)]
theorem ibO_5 {l : Lf} {ms : List Lf} (h : (wayL l).all limAY = true) (h1 : haveL (wayL l) ms = true) (h2 : haveL (way2L l) ms = true) : ibO l ms = ([], 5) := by unfold ibO; rw [if_pos h, if_pos ⟨h1, h2⟩]
theorem ibO_1 {l : Lf} {ms : List Lf} (h : (wayL l).all limAY = true) (h1 : haveL (wayL l) ms = false) (h2 : haveL (way2L l) ms = true ∨ ltS (wayL l) (way2L l) = true) : ibO l ms = (wayL l, 0) := by
  unfold ibO; rw [if_pos h, if_neg (fun h' => by rw [h1] at h'; cases h'.1), if_pos ⟨h1, h2⟩]
theorem ibO_2 {l : Lf} {ms : List Lf} (h : (wayL l).all limAY = true) (h0 : ¬ (haveL (wayL l) ms = true ∧ haveL (way2L l) ms = true)) (h1 : ¬ (haveL (wayL l) ms = false ∧ (haveL (way2L l) ms = true ∨ ltS (wayL l) (way2L l) = true))) : ibO l ms = (way2L l, 0) := by
  unfold ibO; rw [if_pos h, if_neg h0, if_neg h1]
theorem two_len (l m : Lf) : (twoL l m).length = 2 := by unfold twoL; split <;> rfl
theorem way_ok {l : Lf} (h : IsL l) : (wayL l).length = 2 ∧ ∀ x ∈ wayL l, SmL x := ⟨two_len _ _, way_sm h⟩
theorem way2_ok {l : Lf} (h : IsL l) : (way2L l).length = 2 ∧ ∀ x ∈ way2L l, SmL x := ⟨two_len _ _, fun x hx => by
  rcases two_mem hx with rfl | rfl
  · exact leafOf_sm (Sm.half h.1) (Sm.half2 h.2.1)
  · exact leafOf_sm (Sm.half2 h.1) (Sm.half h.2.1)⟩
def ibC : PCtr := fun _ rg lr vals k => match vals with
  | [.agg [.int .i64 n', .int .i64 d', .int .i64 m', .int .i64 e', .row i, .row j, .int .i64 f], .agg [.int .i64 n, .int .i64 d, .int .i64 m, .int .i64 e]] => rowC lT (rg i) fun im => rowC lT (rg j) fun ms =>
    (IsL ((n, d), (m, e)) ∧ (((n, d), (m, e)) : Lf) ≠ ((n', d'), (m', e')) ∧ ∀ x ∈ (ms : List Lf), SmL x) ∧ ∀ q : List Lf × Int, q = ibO ((n, d), (m, e)) ms → k [⟨lT, 31, true, q.1⟩] (.tup [.row lr, .int .i64 q.2])
  | _ => False
abbrev GIb := GOk.cons ways_ok (GOk.cons limited_ok (GOk.cons have_ok (GOk.cons il_ok .nil)))
theorem ib_ok : PCtrOk Try.prog 26 ibC where
  enter := enter_ok Try.func26 (by kernel_rfl) rfl
  calls := by
    intro hg rg lr vals k h
    unfold ibC at h
    split at h
    case h_2 => exact h.elim
    rename_i n' d' m' e' i j f n d m e
    obtain ⟨e0, own, im, hi, h⟩ : ∃ e own, ∃ (xs : List Lf), _ := rowC_inv h
    obtain ⟨e1, own1, ms, hj, h⟩ : ∃ e own, ∃ (xs : List Lf), _ := rowC_inv h
    obtain ⟨⟨hl, hne, hms⟩, hk⟩ := h
    replace hk := hk _ rfl
    refine ⟨_, _, hk, fun A w hB hR => ?_⟩
    refine enter T_ok GIb Try.func26 rfl (K := (· < w.heap.size)) (fun _ h => h) (A := A.pick [] [i, j]) (vals := [.agg [.int .i64 n', .int .i64 d', .int .i64 m', .int .i64 e', .row 0, .row 1, .int .i64 f], .agg [.int .i64 n, .int .i64 d, .int .i64 m, .int .i64 e]]) (n0 := 0) (b0 := 0) (rows := [some ⟨lT, e0, false, im⟩, some ⟨lT, e1, false, ms⟩]) (hp := []) rfl (Nat.zero_le _) no_box rfl (two_rows (hR i _ hi) (hR j _ hj)) rfl rfl (Nat.le_of_ble_eq_true rfl) ?_
    conv => whnf
    repeat (refine V_step T_ok GIb rfl ?_; conv => whnf)
    have hw1 := way_ok hl
    have hw2 := way2_ok hl
    have g0 : IsA (n, d) ∧ IsA (m, e) := ⟨hl.1, hl.2.1⟩
    have g1 := And.intro hw1.2 hms
    have g2 := And.intro hw2.2 hms
    have g3 := And.intro hw1 hw2
    repeat (any_goals (first
      | (refine V_step T_ok GIb rfl ?_; conv => whnf)
      | (refine V_drawN T_ok GIb mixed (by kernel_rfl) ?_; conv => whnf)
      | (refine bcond_split (fun hc => ?_) (fun hc => ?_) <;> (try simp only [decide_eq_true_eq, decide_eq_false_iff_not, Bool.not_eq_true', Bool.not_eq_false', Bool.and_eq_true, Bool.or_eq_true, Bool.and_eq_false_imp, Bool.or_eq_false_iff, ne_eq, Decidable.not_not] at hc) <;> conv => whnf)
      | (intro ysK hysK; have hysl := congrArg List.length hysK; (try simp only [List.length_set, List.length_append, List.length_cons, List.length_nil, List.length_take, List.length_drop, List.length_replicate] at hysl); conv => whnf)
      | (intro bK hbK; have hbl := congrArg ByteArray.size hbK; conv => whnf)
      | (intro sK hsK; conv => whnf)
      | (refine And.intro (by first | (first | exact True.intro | exact g0 | exact g1 | exact g2 | exact g3) | exact True.intro | exact ⟨rfl, True.intro, fun _ _ => rfl⟩ | exact Nat.le_of_ble_eq_true rfl | (refine ⟨by (try simp only [List.length_cons, List.length_nil]); omega, Int.le_trans (Int.mul_le_mul_of_nonneg_left (show (TInfo.bytes _ : Int) ≤ 64 from Int.ofNat_le.2 (Nat.le_of_ble_eq_true rfl)) (by omega)) (by (try simp only [List.length_cons, List.length_nil]); omega)⟩)) ?_; conv => whnf)))
    · exact absurd (Prod.ext (Prod.ext hc.1.1 hc.1.2) (Prod.ext hc.2.1 hc.2.2)) hne
    all_goals first
      | exact absurd ((‹haveL (wayL ((n, d), (m, e))) ms = false›).symm.trans ‹haveL (wayL ((n, d), (m, e))) ms = true›) (by decide)
      | exact absurd ((‹haveL (way2L ((n, d), (m, e))) ms = false›).symm.trans ‹haveL (way2L ((n, d), (m, e))) ms = true›) (by decide)
      | (have z := ibO_3 (l := ((n, d), (m, e))) (ms := ms) (by assumption)
         exact leafN rfl (by rw [z]) (fun B C h => by rw [z]; simp [AVal.den, dens, h, Hdr.val]))
      | (have z := ibO_5 (l := ((n, d), (m, e))) (ms := ms) (by assumption) (by assumption) (by assumption)
         exact leafN rfl (by rw [z]) (fun B C h => by rw [z]; simp [AVal.den, dens, h, Hdr.val]))
      | (have z := ibO_1 (l := ((n, d), (m, e))) (ms := ms) (by assumption) (by assumption) (.inl (by assumption))
         exact leaf1 2 rfl rfl (by rw [z]) rfl (fun B C h => by rw [z]; simp [AVal.den, dens, h]))
      | (have z := ibO_1 (l := ((n, d), (m, e))) (ms := ms) (by assumption) (by assumption) (.inr (by assumption))
         exact leaf1 2 rfl rfl (by rw [z]) rfl (fun B C h => by rw [z]; simp [AVal.den, dens, h]))
      | (have z := ibO_2 (l := ((n, d), (m, e))) (ms := ms) (by assumption) (by simp only [*]; simp) (by simp only [*]; simp)
         exact leaf1 3 rfl rfl (by rw [z]) rfl (fun B C h => by rw [z]; simp [AVal.den, dens, h]))
end Go.Proofs.Ytllagpbbbdekiaa.Fw
-- %intro
