/- Contracts: sequencesCode; the reference's letters and sequences; texts; the law's own functions over sequences. -/
import Derived.Test.YtllagpbbbdekiacS4
namespace Go.Proofs.Ytllagpbbbdekiac.Fw
open Go Go.RowKit
set_option linter.unusedVariables false
set_option linter.unusedSimpArgs false
set_option maxRecDepth 100000
set_option maxHeartbeats 2000000
theorem root_next {s : ByteArray} {n : Nat} (h1 : 1 ≤ s.size) (hn2 : n ≤ s.size) (hno : ∀ j, j < n → ¬ rootP s j) (h : ¬ rootP s n) : n + 1 ≤ s.size ∧ ∀ j, j < n + 1 → ¬ rootP s j := by
  refine ⟨?_, fun j hj => ?_⟩
  · rcases Nat.lt_or_ge n s.size with h' | h'
    · omega
    · obtain rfl : n = s.size := by omega
      exact absurd ⟨h1, Nat.mod_self _, perL_all _⟩ h
  · rcases Nat.lt_or_ge j n with h' | h'
    · exact hno j h'
    · obtain rfl : j = n := by omega
      exact h
theorem perL_iff (w : List UInt8) (k i : Nat) (h : i = w.length) : (∀ m, k ≤ m → m < i → w.getD m 0 = w.getD (m - k) 0) ↔ perL w k := by subst h; rfl
theorem sSeq_ok : PCtrOk Try.prog 77 seqC where
  enter := enter_ok Try.func77 (by kernel_rfl) rfl
  calls := by
    intro hg rg lr vals k h
    unfold seqC at h
    split at h
    case h_2 => exact h.elim
    rename_i p q
    obtain ⟨⟨⟨h1, h2⟩, h3⟩, hk⟩ := h
    replace hk := hk _ rfl
    refine ⟨_, _, hk, fun A w _ _ => ?_⟩
    refine enter T_ok .nil Try.func77 rfl (K := (· < w.heap.size)) (fun _ h => h) (A := A) (n0 := 0) (b0 := 0) (rows := []) (hp := []) rfl (Nat.zero_le _) (fun k r h => by cases h) rfl (fun k r h => by cases h) rfl rfl (Nat.le_of_ble_eq_true rfl) ?_
    conv => whnf
    repeat (refine V_step T_ok .nil rfl ?_; conv => whnf)
    refine V_loopH (γ := Nat) (fun n => (1 ≤ n ∧ n ≤ q.size) ∧ ∀ j, j < n → ¬ rootP q j) (fun n => q.size - n)
      (fun n => [(6, .int .i64 n), (1, .str q)]) (fun _ => []) (fun _ => []) 1 ⟨⟨by omega, by omega⟩, fun j hj hp => by have := hp.1; omega⟩ ?_ ?_
    · conv => whnf
      refine ⟨?_, by (conv => whnf); repeat (first | exact True.intro | (refine And.intro rfl ?_; conv => whnf)), by (conv => whnf); repeat (first | exact True.intro | (refine And.intro (by first | rfl | (subst_vars; rfl)) ?_; conv => whnf)), rfl, rfl, rfl, rfl, rfl, rfl, rfl, Nat.le_of_ble_eq_true rfl, Nat.le_of_ble_eq_true rfl⟩
      conv => whnf
      repeat (first | exact True.intro | (refine And.intro (by first | rfl | ((conv => whnf); exact congrArg (AVal.int .i64) (by omega)) | ((conv => whnf); exact congrArg (AVal.int .i64) (by simp only [Int.natCast_add, Int.natCast_one]; omega)) | ((conv => whnf); exact congrArg (AVal.irow _) (by first | omega | assumption | (simp only; omega)))) ?_; conv => whnf))
    · rintro n ⟨⟨hn1, hn2⟩, hno⟩
      have hr : (q.size : Int).tmod (n : Int) = ((q.size % n : Nat) : Int) := rfl
      conv => whnf
      refine vcCode_sound T_ok .nil _ _ _ _ _ ?_
      conv => whnf
      repeat (refine V_step T_ok .nil rfl ?_; conv => whnf)
      repeat (any_goals (first
        | (refine V_step T_ok .nil rfl ?_; conv => whnf)
        | (refine V_drawA T_ok .nil mixed (by kernel_rfl) ?_; conv => whnf)
        | (refine bcond_split (fun hc => ?_) (fun hc => ?_) <;> (try simp only [decide_eq_true_eq, decide_eq_false_iff_not, Bool.not_eq_true', Bool.not_eq_false', Bool.and_eq_true, Bool.or_eq_true, Bool.and_eq_false_imp, Bool.or_eq_false_iff, ne_eq, Decidable.not_not] at hc) <;> conv => whnf)
        | (intro ysK hysK; have hysl := congrArg List.length hysK; (try simp only [List.length_set, List.length_append, List.length_cons, List.length_nil, List.length_take, List.length_drop, List.length_replicate] at hysl); conv => whnf)
        | (intro bK hbK; have hbl := congrArg ByteArray.size hbK; conv => whnf)
        | (intro sK hsK; conv => whnf)
        | (refine And.intro (by first | exact True.intro | (with_reducible assumption) | omega | (simp only [Rng]; omega) | exact Nat.le_of_ble_eq_true rfl | exact True.intro | exact ⟨rfl, True.intro, fun _ _ => rfl⟩ | exact Nat.le_of_ble_eq_true rfl | (refine ⟨by (try simp only [List.length_cons, List.length_nil]); omega, Int.le_trans (Int.mul_le_mul_of_nonneg_left (show (TInfo.bytes _ : Int) ≤ 64 from Int.ofNat_le.2 (Nat.le_of_ble_eq_true rfl)) (by omega)) (by (try simp only [List.length_cons, List.length_nil]); omega)⟩)) ?_; conv => whnf)))
      · rw [hr] at hc
        obtain ⟨h5, h6⟩ := root_next h1 hn2 hno fun h => hc (by rw [h.2.1]; rfl)
        refine ⟨n + 1, ⟨⟨by omega, h5⟩, h6⟩, by omega, ?_⟩
        conv => whnf
        refine ⟨?_, by (conv => whnf); repeat (first | exact True.intro | (refine And.intro rfl ?_; conv => whnf)), by (conv => whnf); repeat (first | exact True.intro | (refine And.intro (by first | rfl | (subst_vars; rfl)) ?_; conv => whnf)), rfl, rfl, rfl, rfl, rfl, rfl, rfl, Nat.le_of_ble_eq_true rfl, Nat.le_of_ble_eq_true rfl⟩
        conv => whnf
        repeat (first | exact True.intro | (refine And.intro (by first | rfl | ((conv => whnf); exact congrArg (AVal.int .i64) (by omega)) | ((conv => whnf); exact congrArg (AVal.int .i64) (by simp only [Int.natCast_add, Int.natCast_one]; omega)) | ((conv => whnf); exact congrArg (AVal.irow _) (by first | omega | assumption | (simp only; omega)))) ?_; conv => whnf))
      · rw [hr] at hc
        have hd : q.size % n = 0 := by omega
        refine V_loopH (γ := Nat × Bool) (fun g => (n ≤ g.1 ∧ g.1 ≤ q.size) ∧ (g.2 = true ↔ ∀ m, n ≤ m → m < g.1 → (bl q).getD m 0 = (bl q).getD (m - n) 0)) (fun g => q.size - g.1)
          (fun g => [(7, .bool g.2), (8, .int .i64 g.1)]) (fun _ => []) (fun _ => []) (n, true) ⟨⟨Nat.le_refl _, hn2⟩, ⟨fun _ m h5 h6 => by simp only at h6; omega, fun _ => rfl⟩⟩ ?_ ?_
        · conv => whnf
          refine ⟨?_, by (conv => whnf); repeat (first | exact True.intro | (refine And.intro rfl ?_; conv => whnf)), by (conv => whnf); repeat (first | exact True.intro | (refine And.intro (by first | rfl | (subst_vars; rfl)) ?_; conv => whnf)), rfl, rfl, rfl, rfl, rfl, rfl, rfl, Nat.le_of_ble_eq_true rfl, Nat.le_of_ble_eq_true rfl⟩
          conv => whnf
          repeat (first | exact True.intro | (refine And.intro (by first | rfl | ((conv => whnf); exact congrArg (AVal.int .i64) (by omega)) | ((conv => whnf); exact congrArg (AVal.int .i64) (by simp only [Int.natCast_add, Int.natCast_one]; omega)) | ((conv => whnf); exact congrArg (AVal.irow _) (by first | omega | assumption | (simp only; omega)))) ?_; conv => whnf))
        · rintro g ⟨⟨hi1, hi2⟩, hs⟩
          conv => whnf
          refine vcCode_sound T_ok .nil _ _ _ _ _ ?_
          conv => whnf
          repeat (refine V_step T_ok .nil rfl ?_; conv => whnf)
          repeat (any_goals (first
            | (refine V_step T_ok .nil rfl ?_; conv => whnf)
            | (refine V_drawA T_ok .nil mixed (by kernel_rfl) ?_; conv => whnf)
            | (refine bcond_split (fun hc => ?_) (fun hc => ?_) <;> (try simp only [decide_eq_true_eq, decide_eq_false_iff_not, Bool.not_eq_true', Bool.not_eq_false', Bool.and_eq_true, Bool.or_eq_true, Bool.and_eq_false_imp, Bool.or_eq_false_iff, ne_eq, Decidable.not_not] at hc) <;> conv => whnf)
            | (intro ysK hysK; have hysl := congrArg List.length hysK; (try simp only [List.length_set, List.length_append, List.length_cons, List.length_nil, List.length_take, List.length_drop, List.length_replicate] at hysl); conv => whnf)
            | (intro bK hbK; have hbl := congrArg ByteArray.size hbK; conv => whnf)
            | (intro sK hsK; conv => whnf)
            | (refine And.intro (by first | exact True.intro | (with_reducible assumption) | omega | (simp only [Rng]; omega) | exact Nat.le_of_ble_eq_true rfl | exact True.intro | exact ⟨rfl, True.intro, fun _ _ => rfl⟩ | exact Nat.le_of_ble_eq_true rfl | (refine ⟨by (try simp only [List.length_cons, List.length_nil]); omega, Int.le_trans (Int.mul_le_mul_of_nonneg_left (show (TInfo.bytes _ : Int) ≤ 64 from Int.ofNat_le.2 (Nat.le_of_ble_eq_true rfl)) (by omega)) (by (try simp only [List.length_cons, List.length_nil]); omega)⟩)) ?_; conv => whnf)))
          · have hl : (g.1 : Int) < (q.size : Nat) := by assumption
            have e1 : ((g.1 : Int) - (n : Int)).toNat = g.1 - n := by omega
            refine ⟨(g.1 + 1, decide ((byteAt q (g.1 : Int).toNat : Int) = (byteAt q ((g.1 : Int) - (n : Int)).toNat : Int))), ⟨⟨by simp only; omega, by simp only; omega⟩, ?_⟩, by simp only; omega, ?_⟩
            · simp only [decide_eq_true_eq]
              rw [e1, Int.toNat_natCast, Int.ofNat_inj, byteAt_inj]
              constructor
              · intro h m hm1 hm2
                rcases Nat.lt_or_ge m g.1 with h' | h'
                · exact hs.1 hc m hm1 h'
                · obtain rfl : m = g.1 := by omega
                  exact h
              · intro h
                exact h g.1 hi1 (by omega)
            · conv => whnf
              refine ⟨?_, by (conv => whnf); repeat (first | exact True.intro | (refine And.intro rfl ?_; conv => whnf)), by (conv => whnf); repeat (first | exact True.intro | (refine And.intro (by first | rfl | (subst_vars; rfl)) ?_; conv => whnf)), rfl, rfl, rfl, rfl, rfl, rfl, rfl, Nat.le_of_ble_eq_true rfl, Nat.le_of_ble_eq_true rfl⟩
              conv => whnf
              repeat (first | exact True.intro | (refine And.intro (by first | rfl | ((conv => whnf); exact congrArg (AVal.int .i64) (by omega)) | ((conv => whnf); exact congrArg (AVal.int .i64) (by simp only [Int.natCast_add, Int.natCast_one]; omega)) | ((conv => whnf); exact congrArg (AVal.irow _) (by first | omega | assumption | (simp only; omega)))) ?_; conv => whnf))
          · have hl : (g.1 : Int) < (q.size : Nat) := by assumption
            refine ⟨(g.1 + 1, false), ⟨⟨by simp only; omega, by simp only; omega⟩, ?_⟩, by simp only; omega, ?_⟩
            · constructor
              · intro h; cases h
              · intro h
                have := hs.2 fun m hm1 hm2 => h m hm1 (by simp only; omega)
                rw [hc] at this
                cases this
            · conv => whnf
              refine ⟨?_, by (conv => whnf); repeat (first | exact True.intro | (refine And.intro rfl ?_; conv => whnf)), by (conv => whnf); repeat (first | exact True.intro | (refine And.intro (by first | rfl | (subst_vars; rfl)) ?_; conv => whnf)), rfl, rfl, rfl, rfl, rfl, rfl, rfl, Nat.le_of_ble_eq_true rfl, Nat.le_of_ble_eq_true rfl⟩
              conv => whnf
              repeat (first | exact True.intro | (refine And.intro (by first | rfl | ((conv => whnf); exact congrArg (AVal.int .i64) (by omega)) | ((conv => whnf); exact congrArg (AVal.int .i64) (by simp only [Int.natCast_add, Int.natCast_one]; omega)) | ((conv => whnf); exact congrArg (AVal.irow _) (by first | omega | assumption | (simp only; omega)))) ?_; conv => whnf))
          · have hge : ¬ (g.1 : Int) < (q.size : Nat) := by assumption
            have hroot : rootP q n := ⟨hn1, hd, (perL_iff (bl q) n g.1 (by rw [bl_len]; omega)).1 (hs.1 hc)⟩
            have hw : wordR q = q.extract 0 (n : Int).toNat := by rw [wordR, rootK_of ⟨hroot, hno⟩ hn2]; rfl
            refine V_loopH (γ := Sq) (SqInv p q) (fun g => g.1.size)
              (fun g => [(0, .str g.1), (1, .str g.2)]) (fun _ => []) (fun _ => []) (p, q.extract 0 (n : Int).toNat) (hw ▸ SqInv.start h1 h2) ?_ ?_
            · conv => whnf
              refine ⟨?_, by (conv => whnf); repeat (first | exact True.intro | (refine And.intro rfl ?_; conv => whnf)), by (conv => whnf); repeat (first | exact True.intro | (refine And.intro (by first | rfl | (subst_vars; rfl)) ?_; conv => whnf)), rfl, rfl, rfl, rfl, rfl, rfl, rfl, Nat.le_of_ble_eq_true rfl, Nat.le_of_ble_eq_true rfl⟩
              conv => whnf
              repeat (first | exact True.intro | (refine And.intro (by first | rfl | ((conv => whnf); exact congrArg (AVal.int .i64) (by omega)) | ((conv => whnf); exact congrArg (AVal.int .i64) (by simp only [Int.natCast_add, Int.natCast_one]; omega)) | ((conv => whnf); exact congrArg (AVal.irow _) (by first | omega | assumption | (simp only; omega)))) ?_; conv => whnf))
            · rintro g hI
              have h5 : g.1.size ≤ p.size := hI.1.2
              have h6 : 1 ≤ g.2.size := hI.1.1.1
              have h7 : g.2.size ≤ 64 := hI.1.1.2
              have e2 : ((g.2.size : Int) - 1).toNat = g.2.size - 1 := by omega
              have hsum : (g.2.extract ((g.2.size : Int) - 1).toNat g.2.size).size + (g.2.extract 0 ((g.2.size : Int) - 1).toNat).size ≤ 9223372036854775807 := by rw [e2]; exact hI.sum
              conv => whnf
              refine vcCode_sound T_ok .nil _ _ _ _ _ ?_
              conv => whnf
              repeat (refine V_step T_ok .nil rfl ?_; conv => whnf)
              repeat (any_goals (first
                | (refine V_step T_ok .nil rfl ?_; conv => whnf)
                | (refine V_drawA T_ok .nil mixed (by kernel_rfl) ?_; conv => whnf)
                | (refine bcond_split (fun hc => ?_) (fun hc => ?_) <;> (try simp only [decide_eq_true_eq, decide_eq_false_iff_not, Bool.not_eq_true', Bool.not_eq_false', Bool.and_eq_true, Bool.or_eq_true, Bool.and_eq_false_imp, Bool.or_eq_false_iff, ne_eq, Decidable.not_not] at hc) <;> conv => whnf)
                | (intro ysK hysK; have hysl := congrArg List.length hysK; (try simp only [List.length_set, List.length_append, List.length_cons, List.length_nil, List.length_take, List.length_drop, List.length_replicate] at hysl); conv => whnf)
                | (intro bK hbK; have hbl := congrArg ByteArray.size hbK; conv => whnf)
                | (intro sK hsK; conv => whnf)
                | (refine And.intro (by first | (first | exact True.intro | omega | (simp only [Rng]; omega) | with_reducible exact hsum) | exact True.intro | exact ⟨rfl, True.intro, fun _ _ => rfl⟩ | exact Nat.le_of_ble_eq_true rfl | (refine ⟨by (try simp only [List.length_cons, List.length_nil]); omega, Int.le_trans (Int.mul_le_mul_of_nonneg_left (show (TInfo.bytes _ : Int) ≤ 64 from Int.ofNat_le.2 (Nat.le_of_ble_eq_true rfl)) (by omega)) (by (try simp only [List.length_cons, List.length_nil]); omega)⟩)) ?_; conv => whnf)))
              · have hz : (0 : Int) < g.1.size := by assumption
                have e1 : ((g.1.size : Int) - 1).toNat = g.1.size - 1 := by omega
                rw [e1, e2] at hc
                refine ⟨(g.1.extract 0 ((g.1.size : Int) - 1).toNat, g.2.extract ((g.2.size : Int) - 1).toNat g.2.size ++ g.2.extract 0 ((g.2.size : Int) - 1).toNat), ?_, ?_, ?_⟩
                · rw [e1, e2]; exact SqInv.step hI (by omega) (Int.ofNat.inj hc)
                · show (g.1.extract 0 ((g.1.size : Int) - 1).toNat).size < g.1.size
                  rw [e1, size_extract _ _ _ (by omega)]; omega
                · conv => whnf
                  refine ⟨?_, by (conv => whnf); repeat (first | exact True.intro | (refine And.intro rfl ?_; conv => whnf)), by (conv => whnf); repeat (first | exact True.intro | (refine And.intro (by first | rfl | (subst_vars; rfl)) ?_; conv => whnf)), rfl, rfl, rfl, rfl, rfl, rfl, rfl, Nat.le_of_ble_eq_true rfl, Nat.le_of_ble_eq_true rfl⟩
                  conv => whnf
                  repeat (first | exact True.intro | (refine And.intro (by first | rfl | ((conv => whnf); exact congrArg (AVal.int .i64) (by omega)) | ((conv => whnf); exact congrArg (AVal.int .i64) (by simp only [Int.natCast_add, Int.natCast_one]; omega)) | ((conv => whnf); exact congrArg (AVal.irow _) (by first | omega | assumption | (simp only; omega)))) ?_; conv => whnf))
              · have hz : (0 : Int) < g.1.size := by assumption
                have e1 : ((g.1.size : Int) - 1).toNat = g.1.size - 1 := by omega
                rw [e1, e2] at hc
                exact leaf0 rfl (by rw [← SqInv.stop hI fun h => hc (congrArg _ h.2)]) rfl
              · exact leaf0 rfl (by rw [← SqInv.stop hI fun h => h.1 (by omega)]) rfl
          · have hge : ¬ (g.1 : Int) < (q.size : Nat) := by assumption
            have hnr : ¬ rootP q n := fun h => by
              have := hs.2 ((perL_iff (bl q) n g.1 (by rw [bl_len]; omega)).2 h.2.2)
              rw [hc] at this
              cases this
            obtain ⟨h5, h6⟩ := root_next h1 hn2 hno hnr
            refine ⟨n + 1, ⟨⟨by omega, h5⟩, h6⟩, by omega, ?_⟩
            conv => whnf
            refine ⟨?_, by (conv => whnf); repeat (first | exact True.intro | (refine And.intro rfl ?_; conv => whnf)), by (conv => whnf); repeat (first | exact True.intro | (refine And.intro (by first | rfl | (subst_vars; rfl)) ?_; conv => whnf)), rfl, rfl, rfl, rfl, rfl, rfl, rfl, Nat.le_of_ble_eq_true rfl, Nat.le_of_ble_eq_true rfl⟩
            conv => whnf
            repeat (first | exact True.intro | (refine And.intro (by first | rfl | ((conv => whnf); exact congrArg (AVal.int .i64) (by omega)) | ((conv => whnf); exact congrArg (AVal.int .i64) (by simp only [Int.natCast_add, Int.natCast_one]; omega)) | ((conv => whnf); exact congrArg (AVal.irow _) (by first | omega | assumption | (simp only; omega)))) ?_; conv => whnf))
      · exact absurd (Int.ofNat_le.2 hn2) hc
end Go.Proofs.Ytllagpbbbdekiac.Fw
