/- Contracts: the program's orbits. -/
import Derived.Test.YtllagpbbbdekiabO1
namespace Go.Proofs.Ytllagpbbbdekiab.Fw
open Go Go.RowKit
set_option linter.unusedVariables false
set_option linter.unusedSimpArgs false
set_option maxRecDepth 100000
set_option maxHeartbeats 2000000
theorem orb_idx {a : Ang} (h : IsF a) {g : Nat} (hg : ∀ j, j < g → stopA a j = false) :
    (stopA a g = true ∧ idxP (eqA (itA a g)) ((List.range g).map (itA a)) = (preA a : Int)) ∨ (stopA a g = false ∧ idxP (eqA (itA a g)) ((List.range g).map (itA a)) = -1) := by
  rcases idxP_cases (eqA (itA a g)) (0, 0) ((List.range g).map (itA a)) with ⟨h1, h2⟩ | ⟨n, h1, h2, h3, _⟩
  · refine .inr ⟨stop_no fun ⟨h3, h4⟩ => ?_, h1⟩
    have := h2 (itA a (preA a)) (List.mem_map.2 ⟨_, List.mem_range.2 h3, rfl⟩)
    unfold eqA at this
    rw [decide_eq_false_iff_not] at this
    exact this h4
  · have hn : n < g := by simpa using h2
    rw [getD_map_range hn] at h3
    unfold eqA at h3
    rw [decide_eq_true_iff] at h3
    obtain ⟨h4, h5⟩ := it_rep h hg hn h3.symm
    exact .inl ⟨h5, by rw [h1, h4]⟩
theorem orbit_ok : PCtrOk Try.prog 57 orbC where
  enter := enter_ok Try.func57 (by kernel_rfl) rfl
  calls := by
    intro hg rg lr vals k h
    unfold orbC at h
    split at h
    case h_2 => exact h.elim
    rename_i n d
    obtain ⟨hA, hk⟩ := h
    refine ⟨_, _, hk, fun A w _ _ => ?_⟩
    refine enter T_ok (GOk.cons idxA_ok (GOk.cons double_ok .nil)) Try.func57 rfl (K := (· < w.heap.size)) (fun _ h => h) (A := A) (n0 := 0) (b0 := 0) (rows := []) (hp := []) rfl (Nat.zero_le _) (fun k r h => by cases h) rfl (fun k r h => by cases h) rfl rfl (Nat.le_of_ble_eq_true rfl) ?_
    conv => whnf
    repeat (refine V_step T_ok (GOk.cons idxA_ok (GOk.cons double_ok .nil)) rfl ?_; conv => whnf)
    have hp13 := preA_le hA
    refine V_loopP (γ := Nat) (fun g => g ≤ 64 ∧ ∀ j, j < g → stopA (n, d) j = false) (fun g => 65 - g)
      (fun g => [(5, .row 0)]) (fun g => [(0, [.int .i64 (itA (n, d) g).1, .int .i64 (itA (n, d) g).2])]) (fun _ => []) (fun g => [some ⟨aT, 25, true, (List.range g).map (itA (n, d))⟩]) 0 ⟨Nat.zero_le _, fun j h => absurd h (Nat.not_lt_zero _)⟩ ?_ ?_
    · conv => whnf
      refine ⟨?_, by (conv => whnf); repeat (first | exact True.intro | (refine And.intro rfl ?_; conv => whnf)), by (conv => whnf); repeat (first | exact True.intro | (refine And.intro (by first | rfl | (subst_vars; rfl)) ?_; conv => whnf)), rfl, rfl, rfl, rfl, rfl, rfl, rfl, Nat.le_of_ble_eq_true rfl, Nat.le_of_ble_eq_true rfl⟩
      conv => whnf
      repeat (first | exact True.intro | (refine And.intro (by first | rfl | ((conv => whnf); exact congrArg (AVal.int .i64) (by omega)) | ((conv => whnf); exact congrArg (AVal.int .i64) (by simp only [Int.natCast_add, Int.natCast_one]; omega)) | ((conv => whnf); exact congrArg (AVal.irow _) (by first | omega | assumption | (simp only; omega)))) ?_; conv => whnf))
    · rintro g ⟨hg1, hg2⟩
      have hb := (hA.it g).bd
      have hlen : (List.length (α := Int × Int) ((List.range g).map (itA (n, d))) : Int) = (g : Int) := by rw [List.length_map, List.length_range]
      have hnx : stopA (n, d) g = false → ∀ j, j < g + 1 → stopA (n, d) j = false := fun h j hj => by
        rcases Nat.lt_or_ge j g with h' | h'
        · exact hg2 j h'
        · obtain rfl : j = g := by omega
          exact h
      have hix := orb_idx hA.f hg2
      conv => whnf
      refine vcCode_sound T_ok (GOk.cons idxA_ok (GOk.cons double_ok .nil)) _ _ _ _ _ ?_
      conv => whnf
      repeat (refine V_step T_ok (GOk.cons idxA_ok (GOk.cons double_ok .nil)) rfl ?_; conv => whnf)
      repeat (any_goals (first
        | (refine V_step T_ok (GOk.cons idxA_ok (GOk.cons double_ok .nil)) rfl ?_; conv => whnf)
        | (refine V_drawA T_ok (GOk.cons idxA_ok (GOk.cons double_ok .nil)) mixed (by kernel_rfl) ?_; conv => whnf)
        | (refine bcond_split (fun hc => ?_) (fun hc => ?_) <;> (try simp only [decide_eq_true_eq, decide_eq_false_iff_not, Bool.not_eq_true', Bool.not_eq_false', Bool.and_eq_true, Bool.or_eq_true, Bool.and_eq_false_imp, Bool.or_eq_false_iff, ne_eq, Decidable.not_not] at hc) <;> conv => whnf)
        | (intro ysK hysK; have hysl := congrArg List.length hysK; (try simp only [List.length_set, List.length_append, List.length_cons, List.length_nil, List.length_take, List.length_drop, List.length_replicate] at hysl); conv => whnf)
        | (refine And.intro (by first | (first | exact True.intro | exact hb | omega | (simp only [Rng]; omega)) | exact True.intro | exact ⟨rfl, True.intro, fun _ _ => rfl⟩ | exact Nat.le_of_ble_eq_true rfl | (refine ⟨by (try simp only [List.length_cons, List.length_nil]); omega, Int.le_trans (Int.mul_le_mul_of_nonneg_left (show (TInfo.bytes _ : Int) ≤ 64 from Int.ofNat_le.2 (Nat.le_of_ble_eq_true rfl)) (by omega)) (by (try simp only [List.length_cons, List.length_nil]); omega)⟩)) ?_; conv => whnf)))
      · have hc' : 0 ≤ idxP (eqA (itA (n, d) g)) ((List.range g).map (itA (n, d))) := hc
        rcases hix with ⟨hs, hi⟩ | ⟨_, hi⟩
        · have hl := lenA_some hg1 hs hg2
          have hi' : idxP (eqA ((itA (n, d) g).1, (itA (n, d) g).2)) ((List.range g).map (itA (n, d))) = (preA (n, d) : Int) := hi
          refine leaf1 0 rfl rfl (by rw [orbX, hl]) rfl (fun B C h => ?_)
          simp [AVal.den, dens, h, orbP, orbB, hl, hi']
        · omega
      · rename_i hne
        have hc' : ¬ 0 ≤ idxP (eqA (itA (n, d) g)) ((List.range g).map (itA (n, d))) := hne
        have hs : stopA (n, d) g = false := by
          rcases hix with ⟨_, hi⟩ | ⟨hs, _⟩
          · omega
          · exact hs
        have hl := lenA_none (a := (n, d)) (fun m hm => hnx hs m (by omega))
        refine leafN rfl (by rw [orbX, hl]) (fun B C h => ?_)
        simp [AVal.den, dens, h, orbP, orbB, hl, Hdr.val]
      · rename_i hne
        have hc' : ¬ 0 ≤ idxP (eqA (itA (n, d) g)) ((List.range g).map (itA (n, d))) := hne
        have hs : stopA (n, d) g = false := by
          rcases hix with ⟨_, hi⟩ | ⟨hs, _⟩
          · omega
          · exact hs
        have hK : ysK = (List.range (g + 1)).map (itA (n, d)) := by rw [List.range_succ, List.map_append]; exact hysK
        subst hK
        refine ⟨g + 1, ⟨by omega, hnx hs⟩, by omega, ?_⟩
        conv => whnf
        refine ⟨?_, by (conv => whnf); repeat (first | exact True.intro | (refine And.intro rfl ?_; conv => whnf)), by (conv => whnf); repeat (first | exact True.intro | (refine And.intro (by first | rfl | (subst_vars; rfl)) ?_; conv => whnf)), rfl, rfl, rfl, rfl, rfl, rfl, rfl, Nat.le_of_ble_eq_true rfl, Nat.le_of_ble_eq_true rfl⟩
        conv => whnf
        repeat (first | exact True.intro | (refine And.intro (by first | rfl | ((conv => whnf); exact congrArg (AVal.int .i64) (by omega)) | ((conv => whnf); exact congrArg (AVal.int .i64) (by simp only [Int.natCast_add, Int.natCast_one]; omega)) | ((conv => whnf); exact congrArg (AVal.irow _) (by first | omega | assumption | (simp only; omega)))) ?_; conv => whnf))
end Go.Proofs.Ytllagpbbbdekiab.Fw
