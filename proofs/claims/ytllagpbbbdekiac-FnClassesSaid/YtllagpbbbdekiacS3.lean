/- Contracts: sequences told in the one way; IsSequence, sequencesCode. -/
import Derived.Test.YtllagpbbbdekiacS2
namespace Go.Proofs.Ytllagpbbbdekiac.Fw
open Go Go.RowKit
set_option linter.unusedVariables false
set_option linter.unusedSimpArgs false
set_option maxRecDepth 100000
set_option maxHeartbeats 2000000
theorem szne {s : ByteArray} (h : ¬ s = ByteArray.mk #[]) : 1 ≤ s.size := by
  rcases Nat.eq_zero_or_pos s.size with h0 | h0
  · exact absurd (size_zero.1 h0) h
  · exact h0
theorem sz0 {s : ByteArray} (h : s = ByteArray.mk #[]) : s.size = 0 := by subst h; rfl
def seqC : PCtr := fun _ _ _ vals k => match vals with
  | [.str p, .str q] => ((1 ≤ q.size ∧ q.size ≤ 64) ∧ p.size ≤ 1000000) ∧ ∀ s : Sq, s = seqB p q → k [] (.agg [.str s.1, .str s.2])
  | _ => False
abbrev SqInv (p q : ByteArray) (g : Sq) : Prop := ((1 ≤ g.2.size ∧ g.2.size ≤ 64) ∧ g.1.size ≤ p.size) ∧ stripB g.1.size g.1 g.2 = seqB p q
theorem SqInv.start {p q : ByteArray} (h1 : 1 ≤ q.size) (h2 : q.size ≤ 64) : SqInv p q (p, wordR q) := by
  have h3 := wordR_size h1
  have h4 := rootK_spec q h1
  refine ⟨⟨⟨?_, ?_⟩, Nat.le_refl _⟩, rfl⟩
  · show 1 ≤ (wordR q).size
    rw [h3]; exact h4.1.1.1
  · show (wordR q).size ≤ 64
    rw [h3]; omega
theorem SqInv.step {p q a b : ByteArray} (h : SqInv p q (a, b)) (h1 : 1 ≤ a.size) (h2 : byteAt a (a.size - 1) = byteAt b (b.size - 1)) : SqInv p q (a.extract 0 (a.size - 1), b.extract (b.size - 1) b.size ++ b.extract 0 (b.size - 1)) := by
  obtain ⟨⟨⟨h3, h4⟩, h5⟩, h6⟩ := h
  simp only at h3 h4 h5 h6
  refine ⟨⟨?_, ?_⟩, ?_⟩
  · simp only [turn_size b h3]; exact ⟨h3, h4⟩
  · show (a.extract 0 (a.size - 1)).size ≤ p.size
    rw [size_extract _ _ _ (by omega)]; omega
  · show stripB _ _ _ = _
    rw [← strip_go ⟨by omega, h2⟩]; exact h6
theorem SqInv.stop {p q a b : ByteArray} (h : SqInv p q (a, b)) (h1 : ¬ (a.size ≠ 0 ∧ byteAt a (a.size - 1) = byteAt b (b.size - 1))) : (a, b) = seqB p q := by
  rw [← h.2]; exact (strip_stop h1).symm
theorem SqInv.sum {p q a b : ByteArray} (h : SqInv p q (a, b)) : (b.extract (b.size - 1) b.size).size + (b.extract 0 (b.size - 1)).size ≤ 9223372036854775807 := by
  have h1 := turn_size b h.1.1.1
  rw [ByteArray.size_append] at h1
  have := h.1.1.2
  simp only at this
  omega
theorem seq_ok : PCtrOk Try.prog 81 seqC where
  enter := enter_ok Try.func81 (by kernel_rfl) rfl
  calls := by
    intro hg rg lr vals k h
    unfold seqC at h
    split at h
    case h_2 => exact h.elim
    rename_i p q
    obtain ⟨⟨⟨h1, h2⟩, h3⟩, hk⟩ := h
    replace hk := hk _ rfl
    refine ⟨_, _, hk, fun A w _ _ => ?_⟩
    refine enter T_ok (GOk.cons root_ok .nil) Try.func81 rfl (K := (· < w.heap.size)) (fun _ h => h) (A := A) (n0 := 0) (b0 := 0) (rows := []) (hp := []) rfl (Nat.zero_le _) (fun k r h => by cases h) rfl (fun k r h => by cases h) rfl rfl (Nat.le_of_ble_eq_true rfl) ?_
    conv => whnf
    repeat (refine V_step T_ok (GOk.cons root_ok .nil) rfl ?_; conv => whnf)
    repeat (any_goals (first
      | (refine V_step T_ok (GOk.cons root_ok .nil) rfl ?_; conv => whnf)
      | (refine V_drawA T_ok (GOk.cons root_ok .nil) mixed (by kernel_rfl) ?_; conv => whnf)
      | (refine bcond_split (fun hc => ?_) (fun hc => ?_) <;> (try simp only [decide_eq_true_eq, decide_eq_false_iff_not, Bool.not_eq_true', Bool.not_eq_false', Bool.and_eq_true, Bool.or_eq_true, Bool.and_eq_false_imp, Bool.or_eq_false_iff, ne_eq, Decidable.not_not] at hc) <;> conv => whnf)
      | (intro ysK hysK; have hysl := congrArg List.length hysK; (try simp only [List.length_set, List.length_append, List.length_cons, List.length_nil, List.length_take, List.length_drop, List.length_replicate] at hysl); conv => whnf)
      | (intro bK hbK; have hbl := congrArg ByteArray.size hbK; conv => whnf)
      | (intro sK hsK; conv => whnf)
      | (refine And.intro (by first | (first | exact ⟨h1, h2⟩) | exact True.intro | exact ⟨rfl, True.intro, fun _ _ => rfl⟩ | exact Nat.le_of_ble_eq_true rfl | (refine ⟨by (try simp only [List.length_cons, List.length_nil]); omega, Int.le_trans (Int.mul_le_mul_of_nonneg_left (show (TInfo.bytes _ : Int) ≤ 64 from Int.ofNat_le.2 (Nat.le_of_ble_eq_true rfl)) (by omega)) (by (try simp only [List.length_cons, List.length_nil]); omega)⟩)) ?_; conv => whnf)))
    refine V_loopH (γ := Sq) (SqInv p q) (fun g => g.1.size)
      (fun g => [(0, .str g.1), (1, .str g.2)]) (fun _ => []) (fun _ => []) (p, bK) (hbK ▸ SqInv.start h1 h2) ?_ ?_
    · conv => whnf
      refine ⟨?_, by (conv => whnf); repeat (first | exact True.intro | (refine And.intro rfl ?_; conv => whnf)), by (conv => whnf); repeat (first | exact True.intro | (refine And.intro (by first | rfl | (subst_vars; rfl)) ?_; conv => whnf)), rfl, rfl, rfl, rfl, rfl, rfl, rfl, Nat.le_of_ble_eq_true rfl, Nat.le_of_ble_eq_true rfl⟩
      conv => whnf
      repeat (first | exact True.intro | (refine And.intro (by first | rfl | ((conv => whnf); exact congrArg (AVal.int .i64) (by omega)) | ((conv => whnf); exact congrArg (AVal.int .i64) (by simp only [Int.natCast_add, Int.natCast_one]; omega)) | ((conv => whnf); exact congrArg (AVal.irow _) (by first | omega | assumption | (simp only; omega)))) ?_; conv => whnf))
    · rintro g hI
      have h5 : g.1.size ≤ p.size := hI.1.2
      have h6 : 1 ≤ g.2.size := hI.1.1.1
      have h7 : g.2.size ≤ 64 := hI.1.1.2
      have e2 : ((g.2.size : Int) - 1).toNat = g.2.size - 1 := by omega
      have hsum : (g.2.extract ((g.2.size : Int) - 1).toNat g.2.size).size + (g.2.extract 0 ((g.2.size : Int) - 1).toNat).size ≤ 9223372036854775807 := by rw [e2]; exact hI.sum
      conv => whnf
      refine vcCode_sound T_ok .nil _ _ _ _ _ ?_
      conv => whnf
      repeat (refine V_step T_ok .nil rfl ?_; conv => whnf)
      repeat (any_goals (first
        | (refine V_step T_ok .nil rfl ?_; conv => whnf)
        | (refine V_drawA T_ok .nil mixed (by kernel_rfl) ?_; conv => whnf)
        | (refine bcond_split (fun hc => ?_) (fun hc => ?_) <;> (try simp only [decide_eq_true_eq, decide_eq_false_iff_not, Bool.not_eq_true', Bool.not_eq_false', Bool.and_eq_true, Bool.or_eq_true, Bool.and_eq_false_imp, Bool.or_eq_false_iff, ne_eq, Decidable.not_not] at hc) <;> conv => whnf)
        | (intro ysK hysK; have hysl := congrArg List.length hysK; (try simp only [List.length_set, List.length_append, List.length_cons, List.length_nil, List.length_take, List.length_drop, List.length_replicate] at hysl); conv => whnf)
        | (intro bK hbK; have hbl := congrArg ByteArray.size hbK; conv => whnf)
        | (intro sK hsK; conv => whnf)
        | (refine And.intro (by first | (first | exact True.intro | omega | (have := szne (show ¬ g.1 = ByteArray.mk #[] from by assumption); omega) | (simp only [Rng]; omega) | with_reducible exact hsum) | exact True.intro | exact ⟨rfl, True.intro, fun _ _ => rfl⟩ | exact Nat.le_of_ble_eq_true rfl | (refine ⟨by (try simp only [List.length_cons, List.length_nil]); omega, Int.le_trans (Int.mul_le_mul_of_nonneg_left (show (TInfo.bytes _ : Int) ≤ 64 from Int.ofNat_le.2 (Nat.le_of_ble_eq_true rfl)) (by omega)) (by (try simp only [List.length_cons, List.length_nil]); omega)⟩)) ?_; conv => whnf)))
      · rename_i hne
        have hz := szne hne
        have e1 : ((g.1.size : Int) - 1).toNat = g.1.size - 1 := by omega
        rw [e1, e2] at hc
        refine ⟨(g.1.extract 0 ((g.1.size : Int) - 1).toNat, g.2.extract ((g.2.size : Int) - 1).toNat g.2.size ++ g.2.extract 0 ((g.2.size : Int) - 1).toNat), ?_, ?_, ?_⟩
        · rw [e1, e2]; exact SqInv.step hI hz (Int.ofNat.inj hc)
        · show (g.1.extract 0 ((g.1.size : Int) - 1).toNat).size < g.1.size
          rw [e1, size_extract _ _ _ (by omega)]; omega
        · conv => whnf
          refine ⟨?_, by (conv => whnf); repeat (first | exact True.intro | (refine And.intro rfl ?_; conv => whnf)), by (conv => whnf); repeat (first | exact True.intro | (refine And.intro (by first | rfl | (subst_vars; rfl)) ?_; conv => whnf)), rfl, rfl, rfl, rfl, rfl, rfl, rfl, Nat.le_of_ble_eq_true rfl, Nat.le_of_ble_eq_true rfl⟩
          conv => whnf
          repeat (first | exact True.intro | (refine And.intro (by first | rfl | ((conv => whnf); exact congrArg (AVal.int .i64) (by omega)) | ((conv => whnf); exact congrArg (AVal.int .i64) (by simp only [Int.natCast_add, Int.natCast_one]; omega)) | ((conv => whnf); exact congrArg (AVal.irow _) (by first | omega | assumption | (simp only; omega)))) ?_; conv => whnf))
      · rename_i hne
        have hz := szne hne
        have e1 : ((g.1.size : Int) - 1).toNat = g.1.size - 1 := by omega
        rw [e1, e2] at hc
        exact leaf0 rfl (by rw [← SqInv.stop hI fun h => hc (congrArg _ h.2)]) rfl
      · exact leaf0 rfl (by rw [← SqInv.stop hI fun h => h.1 (sz0 hc)]) rfl
end Go.Proofs.Ytllagpbbbdekiac.Fw
