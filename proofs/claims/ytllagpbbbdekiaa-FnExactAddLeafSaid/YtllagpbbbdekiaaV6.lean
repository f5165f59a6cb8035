/- Contracts: what a minor leaf pulls back, the reference. -/
import Derived.Test.YtllagpbbbdekiaaV5
namespace Go.Proofs.Ytllagpbbbdekiaa.Fw
open Go Go.RowKit
set_option linter.unusedVariables false
set_option linter.unusedSimpArgs false
set_option maxRecDepth 100000
set_option maxHeartbeats 2000000

/-- The two ways in which a leaf may be pulled back. -/
def bk1 (l : Lf) : List Lf := sTwoL (leafOf (halfA l.1) (halfA l.2)) (leafOf (half2A l.1) (half2A l.2))
def bk2 (l : Lf) : List Lf := sTwoL (leafOf (halfA l.1) (half2A l.2)) (leafOf (half2A l.1) (halfA l.2))
@[irreducible] def bkO (l : Lf) (ms : List Lf) : List Lf × Int :=
  if okHalf l.1 ∧ okHalf l.2 then
    (if frB (bk1 l) ms = false ∧ frB (bk2 l) ms = false then ([], 5)
     else if frB (bk1 l) ms = true ∧ (frB (bk2 l) ms = false ∨ slB (bk1 l) (bk2 l) = true) then (bk1 l, 0) else (bk2 l, 0))
  else ([], 3)
theorem bkO_3 {l : Lf} {ms : List Lf} (h : ¬ (okHalf l.1 ∧ okHalf l.2)) : bkO l ms = ([], 3) := by unfold bkO; rw [if_neg h]
theorem bkO_5 {l : Lf} {ms : List Lf} (h : okHalf l.1 ∧ okHalf l.2) (h1 : frB (bk1 l) ms = false) (h2 : frB (bk2 l) ms = false) : bkO l ms = ([], 5) := by unfold bkO; rw [if_pos h, if_pos ⟨h1, h2⟩]
theorem bkO_1 {l : Lf} {ms : List Lf} (h : okHalf l.1 ∧ okHalf l.2) (h1 : frB (bk1 l) ms = true) (h2 : frB (bk2 l) ms = false ∨ slB (bk1 l) (bk2 l) = true) : bkO l ms = (bk1 l, 0) := by
  unfold bkO; rw [if_pos h, if_neg (fun h' => by rw [h1] at h'; cases h'.1), if_pos ⟨h1, h2⟩]
theorem bkO_2 {l : Lf} {ms : List Lf} (h : okHalf l.1 ∧ okHalf l.2) (h0 : ¬ (frB (bk1 l) ms = false ∧ frB (bk2 l) ms = false)) (h1 : ¬ (frB (bk1 l) ms = true ∧ (frB (bk2 l) ms = false ∨ slB (bk1 l) (bk2 l) = true))) : bkO l ms = (bk2 l, 0) := by
  unfold bkO; rw [if_pos h, if_neg h0, if_neg h1]
theorem sTwo_mem {l m x : Lf} (h : x ∈ sTwoL l m) : x = l ∨ x = m := by
  unfold sTwoL at h
  split at h
  · simp at h; exact h.symm
  · simpa using h
theorem bk1_ok {l : Lf} (h : IsL l) : (bk1 l).length = 2 ∧ ∀ x ∈ bk1 l, SmL x := ⟨sTwo_len _ _, fun x hx => by
  rcases sTwo_mem hx with rfl | rfl
  · exact leafOf_sm (Sm.half h.1) (Sm.half h.2.1)
  · exact leafOf_sm (Sm.half2 h.1) (Sm.half2 h.2.1)⟩
theorem bk2_ok {l : Lf} (h : IsL l) : (bk2 l).length = 2 ∧ ∀ x ∈ bk2 l, SmL x := ⟨sTwo_len _ _, fun x hx => by
  rcases sTwo_mem hx with rfl | rfl
  · exact leafOf_sm (Sm.half h.1) (Sm.half2 h.2.1)
  · exact leafOf_sm (Sm.half2 h.1) (Sm.half h.2.1)⟩
def bkC : PCtr := fun _ rg lr vals k => match vals with
  | [.agg [.int .i64 n, .int .i64 d, .int .i64 m, .int .i64 e], .agg [.int .i64 n', .int .i64 d', .int .i64 m', .int .i64 e'], .row i] => rowC lT (rg i) fun ms =>
    (IsL ((n, d), (m, e)) ∧ (((n, d), (m, e)) : Lf) ≠ ((n', d'), (m', e')) ∧ List.length (α := Lf) ms = 2 ∧ ∀ x ∈ (ms : List Lf), SmL x) ∧ ∀ q : List Lf × Int, q = bkO ((n, d), (m, e)) ms → k [⟨lT, 31, true, q.1⟩] (.tup [.row lr, .int .i64 q.2])
  | _ => False
abbrev GBk := GOk.cons sHalves_ok (GOk.cons sLeafOf_ok (GOk.cons sPair_ok (GOk.cons fr_ok (GOk.cons sl_ok .nil))))
theorem bk_ok : PCtrOk Try.prog 23 bkC where
  enter := enter_ok Try.func23 (by kernel_rfl) rfl
  calls := by
    intro hg rg lr vals k h
    unfold bkC at h
    split at h
    case h_2 => exact h.elim
    rename_i n d m e n' d' m' e' i
    obtain ⟨e0, own, ms, hi, h⟩ : ∃ e own, ∃ (xs : List Lf), _ := rowC_inv h
    obtain ⟨⟨hl, hne, hms⟩, hk⟩ := h
    replace hk := hk _ rfl
    refine ⟨_, _, hk, fun A w hB hR => ?_⟩
    refine enter T_ok GBk Try.func23 rfl (K := (· < w.heap.size)) (fun _ h => h) (A := A.pick [] [i]) (vals := [.agg [.int .i64 n, .int .i64 d, .int .i64 m, .int .i64 e], .agg [.int .i64 n', .int .i64 d', .int .i64 m', .int .i64 e'], .row 0]) (n0 := 0) (b0 := 0) (rows := [some ⟨lT, e0, false, ms⟩]) (hp := []) rfl (Nat.zero_le _) no_box rfl (one_row (hR i _ hi)) rfl rfl (Nat.le_of_ble_eq_true rfl) ?_
    conv => whnf
    repeat (refine V_step T_ok GBk rfl ?_; conv => whnf)
    have h1 := hl.1
    have h2 := hl.2.1
    have s1 := h1.sm
    have s2 := h2.sm
    have a1 := Sm.half h1
    have a2 := Sm.half2 h1
    have a3 := Sm.half h2
    have a4 := Sm.half2 h2
    have g1 : Bd (halfA (n, d)) ∧ Bd (halfA (m, e)) := ⟨a1.bd, a3.bd⟩
    have g2 : Bd (half2A (n, d)) ∧ Bd (half2A (m, e)) := ⟨a2.bd, a4.bd⟩
    have g3 : Bd (halfA (n, d)) ∧ Bd (half2A (m, e)) := ⟨a1.bd, a4.bd⟩
    have g4 : Bd (half2A (n, d)) ∧ Bd (halfA (m, e)) := ⟨a2.bd, a3.bd⟩
    have c1 := (leafOf_sm a1 a3).bd
    have c2 := (leafOf_sm a2 a4).bd
    have c3 := (leafOf_sm a1 a4).bd
    have c4 := (leafOf_sm a2 a3).bd
    have hb1 := bk1_ok hl
    have hb2 := bk2_ok hl
    repeat (any_goals (first
      | (refine V_step T_ok GBk rfl ?_; conv => whnf)
      | (refine V_drawN T_ok GBk mixed (by kernel_rfl) ?_; conv => whnf)
      | (refine bcond_split (fun hc => ?_) (fun hc => ?_) <;> (try simp only [decide_eq_true_eq, decide_eq_false_iff_not, Bool.not_eq_true', Bool.not_eq_false', Bool.and_eq_true, Bool.or_eq_true, Bool.and_eq_false_imp, Bool.or_eq_false_iff, ne_eq, Decidable.not_not] at hc) <;> conv => whnf)
      | (intro ysK hysK; have hysl := congrArg List.length hysK; (try simp only [List.length_set, List.length_append, List.length_cons, List.length_nil, List.length_take, List.length_drop, List.length_replicate] at hysl); conv => whnf)
      | (intro bK hbK; have hbl := congrArg ByteArray.size hbK; conv => whnf)
      | (intro sK hsK; conv => whnf)
      | (refine And.intro (by first | (first | exact True.intro | exact s1 | exact s2 | exact g1 | exact g2 | exact g3 | exact g4 | exact ⟨c1, c2⟩ | exact ⟨c3, c4⟩) | exact True.intro | exact ⟨rfl, True.intro, fun _ _ => rfl⟩ | exact Nat.le_of_ble_eq_true rfl | (refine ⟨by (try simp only [List.length_cons, List.length_nil]); omega, Int.le_trans (Int.mul_le_mul_of_nonneg_left (show (TInfo.bytes _ : Int) ≤ 64 from Int.ofNat_le.2 (Nat.le_of_ble_eq_true rfl)) (by omega)) (by (try simp only [List.length_cons, List.length_nil]); omega)⟩)) ?_; conv => whnf)))
    · exact absurd (Prod.ext (Prod.ext hc.1.1 hc.1.2) (Prod.ext hc.2.1 hc.2.2)) hne
    · have z := bkO_3 (l := ((n, d), (m, e))) (ms := ms) fun h => hc h.1
      exact leafN rfl (by rw [z]) (fun B C h => by rw [z]; simp [AVal.den, dens, h, Hdr.val])
    · have z := bkO_3 (l := ((n, d), (m, e))) (ms := ms) fun h => hc h.2
      exact leafN rfl (by rw [z]) (fun B C h => by rw [z]; simp [AVal.den, dens, h, Hdr.val])
    have ho : okHalf ((n, d), (m, e)).1 ∧ okHalf ((n, d), (m, e)).2 := ⟨by assumption, hc⟩
    rename_i y1 hy1 hl1
    have e1 : y1 = bk1 ((n, d), (m, e)) := hy1
    have e2 : ysK = bk2 ((n, d), (m, e)) := hysK
    clear hy1 hl1 hysK hysl
    rw [← e1] at hb1
    rw [← e2] at hb2
    have f1 := And.intro hb1 hms
    have f2 := And.intro hb2 hms
    have f3 := And.intro hb1 hb2
    repeat (any_goals (first
      | (refine V_step T_ok GBk rfl ?_; conv => whnf)
      | (refine V_drawN T_ok GBk mixed (by kernel_rfl) ?_; conv => whnf)
      | (refine bcond_split (fun hc => ?_) (fun hc => ?_) <;> (try simp only [decide_eq_true_eq, decide_eq_false_iff_not, Bool.not_eq_true', Bool.not_eq_false', Bool.and_eq_true, Bool.or_eq_true, Bool.and_eq_false_imp, Bool.or_eq_false_iff, ne_eq, Decidable.not_not] at hc) <;> conv => whnf)
      | (intro ysK hysK; have hysl := congrArg List.length hysK; (try simp only [List.length_set, List.length_append, List.length_cons, List.length_nil, List.length_take, List.length_drop, List.length_replicate] at hysl); conv => whnf)
      | (intro bK hbK; have hbl := congrArg ByteArray.size hbK; conv => whnf)
      | (intro sK hsK; conv => whnf)
      | (refine And.intro (by first | (first | exact True.intro | exact f1 | exact f2 | exact f3) | exact True.intro | exact ⟨rfl, True.intro, fun _ _ => rfl⟩ | exact Nat.le_of_ble_eq_true rfl | (refine ⟨by (try simp only [List.length_cons, List.length_nil]); omega, Int.le_trans (Int.mul_le_mul_of_nonneg_left (show (TInfo.bytes _ : Int) ≤ 64 from Int.ofNat_le.2 (Nat.le_of_ble_eq_true rfl)) (by omega)) (by (try simp only [List.length_cons, List.length_nil]); omega)⟩)) ?_; conv => whnf)))
    all_goals subst e1 e2
    all_goals first
      | exact absurd ((‹frB (bk1 ((n, d), (m, e))) ms = false›).symm.trans ‹frB (bk1 ((n, d), (m, e))) ms = true›) (by decide)
      | exact absurd ((‹frB (bk2 ((n, d), (m, e))) ms = false›).symm.trans ‹frB (bk2 ((n, d), (m, e))) ms = true›) (by decide)
      | (have z := bkO_5 (l := ((n, d), (m, e))) (ms := ms) ho (by assumption) (by assumption)
         exact leafN rfl (by rw [z]) (fun B C h => by rw [z]; simp [AVal.den, dens, h, Hdr.val]))
      | (have z := bkO_1 (l := ((n, d), (m, e))) (ms := ms) ho (by assumption) (.inl (by assumption))
         exact leaf1 1 rfl rfl (by rw [z]) rfl (fun B C h => by rw [z]; simp [AVal.den, dens, h]))
      | (have z := bkO_1 (l := ((n, d), (m, e))) (ms := ms) ho (by assumption) (.inr (by assumption))
         exact leaf1 1 rfl rfl (by rw [z]) rfl (fun B C h => by rw [z]; simp [AVal.den, dens, h]))
      | (have z := bkO_2 (l := ((n, d), (m, e))) (ms := ms) ho (by simp only [*]; simp) (by simp only [*]; simp)
         exact leaf1 2 rfl rfl (by rw [z]) rfl (fun B C h => by rw [z]; simp [AVal.den, dens, h]))
end Go.Proofs.Ytllagpbbbdekiaa.Fw
-- %intro
