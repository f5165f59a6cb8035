/- The law of AngleOfSequence. -/
import Derived.Test.YtlplngafncobkacS17
namespace Go.Proofs.Ytlplngafncobkac.Fw
open Go Go.RowKit
set_option linter.unusedVariables false
set_option linter.unusedSimpArgs false
set_option maxRecDepth 100000
set_option maxHeartbeats 2000000

abbrev GsAo := (GOk.cons sIsSeq_ok (GOk.cons sAt_ok (GOk.cons val_ok .nil)))
theorem sAo_ok : PCtrOk Try.prog 58 aoC where
  enter := enter_ok Try.func58 (by kernel_rfl) rfl
  calls := by
    intro hg rg lr vals k h
    unfold aoC at h
    split at h
    case h_2 => exact h.elim
    rename_i n d
    obtain ⟨⟨_, hx⟩, hk⟩ := h
    replace hk := hk _ rfl
    refine ⟨_, _, hk, fun A w _ _ => ?_⟩
    refine enter T_ok GsAo Try.func58 rfl (K := (· < w.heap.size)) (fun _ h => h) (A := A) (n0 := 0) (b0 := 0) (rows := []) (hp := []) rfl (Nat.zero_le _) (fun k r h => by cases h) rfl (fun k r h => by cases h) rfl rfl (Nat.le_of_ble_eq_true rfl) ?_
    conv => whnf
    repeat (refine V_step T_ok GsAo rfl ?_; conv => whnf)
    have hx' : n.size + d.size ≤ 1048576 := hx
    repeat (any_goals (first
      | (refine V_step T_ok GsAo rfl ?_; conv => whnf)
      | (refine V_drawA T_ok GsAo mixed (by kernel_rfl) ?_; conv => whnf)
      | (refine bcond_split (fun hc => ?_) (fun hc => ?_) <;> (try simp only [decide_eq_true_eq, decide_eq_false_iff_not, Bool.not_eq_true', Bool.not_eq_false', Bool.and_eq_true, Bool.or_eq_true, Bool.and_eq_false_imp, Bool.or_eq_false_iff, ne_eq, Decidable.not_not] at hc) <;> conv => whnf)
      | (intro ysK hysK; have hysl := congrArg List.length hysK; (try simp only [List.length_set, List.length_append, List.length_cons, List.length_nil, List.length_take, List.length_drop, List.length_replicate] at hysl); conv => whnf)
      | (intro bK hbK; have hbl := congrArg ByteArray.size hbK; conv => whnf)
      | (intro sK hsK; conv => whnf)
      | (refine And.intro (by first | (first | exact True.intro | exact ⟨True.intro, hx⟩ | omega) | exact True.intro | exact ⟨rfl, True.intro, fun _ _ => rfl⟩ | exact Nat.le_of_ble_eq_true rfl | (refine ⟨by (try simp only [List.length_cons, List.length_nil]); omega, Int.le_trans (Int.mul_le_mul_of_nonneg_left (show (TInfo.bytes _ : Int) ≤ 64 from Int.ofNat_le.2 (Nat.le_of_ble_eq_true rfl)) (by omega)) (by (try simp only [List.length_cons, List.length_nil]); omega)⟩)) ?_; conv => whnf)))
    · exact leaf0 rfl (by rw [aoR_i hc]) rfl
    · rename_i hq
      have hseq := (isSeqB_iff _).1 hc
      have hd1 : 1 ≤ d.size := hseq.2.1.1
      have hd64 : n.size + d.size ≤ 64 := hseq.2.1.2
      refine V_loopH (γ := Nat) (fun g => g ≤ n.size + d.size ∧ ∀ k, k < g → ltN (n, d) k ≠ 42) (fun g => n.size + d.size - g)
        (fun g => [(4, .int .i64 g)]) (fun _ => []) (fun _ => []) 0 ⟨Nat.zero_le _, fun k h => absurd h (Nat.not_lt_zero _)⟩ ?_ ?_
      · conv => whnf
        refine ⟨?_, by (conv => whnf); repeat (first | exact True.intro | (refine And.intro rfl ?_; conv => whnf)), by (conv => whnf); repeat (first | exact True.intro | (refine And.intro (by first | rfl | (subst_vars; rfl)) ?_; conv => whnf)), rfl, rfl, rfl, rfl, rfl, rfl, rfl, Nat.le_of_ble_eq_true rfl, Nat.le_of_ble_eq_true rfl⟩
        conv => whnf
        repeat (first | exact True.intro | (refine And.intro (by first | rfl | ((conv => whnf); exact congrArg (AVal.int .i64) (by omega)) | ((conv => whnf); exact congrArg (AVal.int .i64) (by simp only [Int.natCast_add, Int.natCast_one]; omega))) ?_; conv => whnf))
      · rintro g ⟨hg1, hg2⟩
        have hst : ¬ (g : Int) < (n.size : Int) + (d.size : Int) → stB (n, d) = false := fun h => by
          rcases hb : stB (n, d) with _ | _
          · rfl
          · obtain ⟨k, hk, e⟩ := (stB_at (n, d)).1 hb
            exact absurd e (hg2 k (by simp only at hk; omega))
        have hpre : ¬ (g : Int) < (n.size : Int) + (d.size : Int) → IsSeq (n, d) ∧ BitS (n, d) := fun h => ⟨hseq, BitS.of hseq (hst h)⟩
        conv => whnf
        refine vcCode_sound T_ok GsAo _ _ _ _ _ ?_
        conv => whnf
        repeat (refine V_step T_ok GsAo rfl ?_; conv => whnf)
        repeat (any_goals (first
          | (refine V_step T_ok GsAo rfl ?_; conv => whnf)
          | (refine V_drawN T_ok GsAo mixed (by kernel_rfl) ?_; conv => whnf)
          | (refine bcond_split (fun hc => ?_) (fun hc => ?_) <;> (try simp only [decide_eq_true_eq, decide_eq_false_iff_not, Bool.not_eq_true', Bool.not_eq_false', Bool.and_eq_true, Bool.or_eq_true, Bool.and_eq_false_imp, Bool.or_eq_false_iff, ne_eq, Decidable.not_not] at hc) <;> conv => whnf)
          | (intro ysK hysK; have hysl := congrArg List.length hysK; (try simp only [List.length_set, List.length_append, List.length_cons, List.length_nil, List.length_take, List.length_drop, List.length_replicate] at hysl); conv => whnf)
          | (intro bK hbK; have hbl := congrArg ByteArray.size hbK; conv => whnf)
          | (intro sK hsK; conv => whnf)
          | (refine And.intro (by first | (first | exact True.intro | exact ⟨⟨by omega, by omega⟩, by omega, by omega, by omega⟩ | omega | (simp only [Rng]; omega) | exact hpre (by assumption)) | exact True.intro | exact ⟨rfl, True.intro, fun _ _ => rfl⟩ | exact Nat.le_of_ble_eq_true rfl | (refine ⟨by (try simp only [List.length_cons, List.length_nil]); omega, Int.le_trans (Int.mul_le_mul_of_nonneg_left (show (TInfo.bytes _ : Int) ≤ 64 from Int.ofNat_le.2 (Nat.le_of_ble_eq_true rfl)) (by omega)) (by (try simp only [List.length_cons, List.length_nil]); omega)⟩)) ?_; conv => whnf)))
        · have h1 : stB (n, d) = true := (stB_at (n, d)).2 ⟨g, by simp only; omega, by have h9 : (ltN (n, d) g : Int) = 42 := hc; omega⟩
          exact leaf0 rfl (by rw [aoR_s (by assumption) h1]) rfl
        · refine ⟨g + 1, ⟨by omega, fun k hk => ?_⟩, by omega, ?_⟩
          · rcases Nat.lt_or_ge k g with h | h
            · exact hg2 k h
            · obtain rfl : k = g := by omega
              intro e
              exact hc (by show (ltN (n, d) k : Int) = 42; omega)
          · conv => whnf
            refine ⟨?_, by (conv => whnf); repeat (first | exact True.intro | (refine And.intro rfl ?_; conv => whnf)), by (conv => whnf); repeat (first | exact True.intro | (refine And.intro (by first | rfl | (subst_vars; rfl)) ?_; conv => whnf)), rfl, rfl, rfl, rfl, rfl, rfl, rfl, Nat.le_of_ble_eq_true rfl, Nat.le_of_ble_eq_true rfl⟩
            conv => whnf
            repeat (first | exact True.intro | (refine And.intro (by first | rfl | ((conv => whnf); exact congrArg (AVal.int .i64) (by omega)) | ((conv => whnf); exact congrArg (AVal.int .i64) (by simp only [Int.natCast_add, Int.natCast_one]; omega))) ?_; conv => whnf))
        · have h1 := hst (by assumption)
          have h2 : ¬ (aS (n, d)).2 ≤ 8191 := fun h => by rw [hsK, val_t h] at hc; cases hc
          exact leaf0 rfl (by rw [aoR_l (by assumption) h1 h2]) rfl
        · have h1 := hst (by assumption)
          have h2 : (aS (n, d)).2 ≤ 8191 := Classical.byContradiction fun h => by rw [hsK, val_f h] at hc; cases hc
          exact leaf0 rfl (by rw [aoR_t (by assumption) h1 h2, hsK, val_t h2]) rfl


def eqAngC : PCtr := fun _ _ _ vals k => match vals with
  | [.agg [.int .i64 a, .int .i64 b], .agg [.int .i64 c, .int .i64 d]] => True ∧ k [] (.bool (decide (a = c) && decide (b = d)))
  | _ => False
theorem eqAng_ok : PCtrOk Try.prog 61 eqAngC where
  enter := enter_ok Try.func61 (by kernel_rfl) rfl
  calls := by
    intro hg rg lr vals k h
    unfold eqAngC at h
    split at h
    case h_2 => exact h.elim
    rename_i a b c d
    obtain ⟨_, hk⟩ := h
    refine ⟨_, _, hk, fun A w _ _ => ?_⟩
    refine enter T_ok .nil Try.func61 rfl (K := (· < w.heap.size)) (fun _ h => h) (A := A) (n0 := 0) (b0 := 0) (rows := []) (hp := []) rfl (Nat.zero_le _) (fun k r h => by cases h) rfl (fun k r h => by cases h) rfl rfl (Nat.le_of_ble_eq_true rfl) ?_
    conv => whnf
    repeat (refine V_step T_ok .nil rfl ?_; conv => whnf)
    repeat (any_goals (first
      | (refine V_step T_ok .nil rfl ?_; conv => whnf)
      | (refine V_drawA T_ok .nil mixed (by kernel_rfl) ?_; conv => whnf)
      | (refine bcond_split (fun hc => ?_) (fun hc => ?_) <;> (try simp only [decide_eq_true_eq, decide_eq_false_iff_not, Bool.not_eq_true', Bool.not_eq_false', Bool.and_eq_true, Bool.or_eq_true, Bool.and_eq_false_imp, Bool.or_eq_false_iff, ne_eq, Decidable.not_not] at hc) <;> conv => whnf)
      | (intro ysK hysK; have hysl := congrArg List.length hysK; (try simp only [List.length_set, List.length_append, List.length_cons, List.length_nil, List.length_take, List.length_drop, List.length_replicate] at hysl); conv => whnf)
      | (intro bK hbK; have hbl := congrArg ByteArray.size hbK; conv => whnf)
      | (intro sK hsK; conv => whnf)
      | (refine And.intro (by first | exact True.intro | (with_reducible assumption) | omega | (simp only [Rng]; omega) | exact Nat.le_of_ble_eq_true rfl | exact True.intro | exact ⟨rfl, True.intro, fun _ _ => rfl⟩ | exact Nat.le_of_ble_eq_true rfl | (refine ⟨by (try simp only [List.length_cons, List.length_nil]); omega, Int.le_trans (Int.mul_le_mul_of_nonneg_left (show (TInfo.bytes _ : Int) ≤ 64 from Int.ofNat_le.2 (Nat.le_of_ble_eq_true rfl)) (by omega)) (by (try simp only [List.length_cons, List.length_nil]); omega)⟩)) ?_; conv => whnf)))
    all_goals refine leaf0 rfl (congrArg AVal.bool ?_) rfl
    all_goals simp [*]
def lawAoC : PCtr := fun _ _ _ vals k => match vals with
  | [.agg [.str n, .str d]] => (n.size ≤ 9223372036854775807 ∧ d.size ≤ 9223372036854775807) ∧ k [] (.bool true)
  | _ => False
abbrev GlAo := (GOk.cons szS_ok (GOk.cons toS_ok (GOk.cons ao_ok (GOk.cons sAo_ok (GOk.cons eqAng_ok .nil)))))
theorem lawAo_ok : PCtrOk Try.prog 14 lawAoC where
  enter := enter_ok Try.func14 (by kernel_rfl) rfl
  calls := by
    intro hg rg lr vals k h
    unfold lawAoC at h
    split at h
    case h_2 => exact h.elim
    rename_i n d
    obtain ⟨⟨h1, h2⟩, hk⟩ := h
    refine ⟨_, _, hk, fun A w _ _ => ?_⟩
    refine enter T_ok GlAo Try.func14 rfl (K := (· < w.heap.size)) (fun _ h => h) (A := A) (n0 := 0) (b0 := 0) (rows := []) (hp := []) rfl (Nat.zero_le _) (fun k r h => by cases h) rfl (fun k r h => by cases h) rfl rfl (Nat.le_of_ble_eq_true rfl) ?_
    conv => whnf
    repeat (refine V_step T_ok GlAo rfl ?_; conv => whnf)
    repeat (any_goals (first
      | (refine V_step T_ok GlAo rfl ?_; conv => whnf)
      | (refine V_drawN T_ok GlAo mixed (by kernel_rfl) ?_; conv => whnf)
      | (refine bcond_split (fun hc => ?_) (fun hc => ?_) <;> (try simp only [decide_eq_true_eq, decide_eq_false_iff_not, Bool.not_eq_true', Bool.not_eq_false', Bool.and_eq_true, Bool.or_eq_true, Bool.and_eq_false_imp, Bool.or_eq_false_iff, ne_eq, Decidable.not_not] at hc) <;> conv => whnf)
      | (intro ysK hysK; have hysl := congrArg List.length hysK; (try simp only [List.length_set, List.length_append, List.length_cons, List.length_nil, List.length_take, List.length_drop, List.length_replicate] at hysl); conv => whnf)
      | (intro bK hbK; have hbl := congrArg ByteArray.size hbK; conv => whnf)
      | (intro sK hsK; conv => whnf)
      | (refine And.intro (by first | (first | exact True.intro | exact ⟨by omega, h1, h2⟩ | exact ⟨True.intro, szS_of (by assumption)⟩) | exact True.intro | exact ⟨rfl, True.intro, fun _ _ => rfl⟩ | exact Nat.le_of_ble_eq_true rfl | (refine ⟨by (try simp only [List.length_cons, List.length_nil]); omega, Int.le_trans (Int.mul_le_mul_of_nonneg_left (show (TInfo.bytes _ : Int) ≤ 64 from Int.ofNat_le.2 (Nat.le_of_ble_eq_true rfl)) (by omega)) (by (try simp only [List.length_cons, List.length_nil]); omega)⟩)) ?_; conv => whnf)))
    · exact leaf0 rfl rfl rfl
    · rename_i s0 h0
      obtain rfl : sK = s0 := hsK.trans h0.symm
      exact absurd rfl (hc rfl)
    · rename_i s0 h0 _
      obtain rfl : sK = s0 := hsK.trans h0.symm
      exact absurd rfl hc
    · exact leaf0 rfl rfl rfl

end Go.Proofs.Ytlplngafncobkac.Fw
-- %intro
