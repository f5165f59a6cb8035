/- Rotation sets: the program. -/
import Derived.Test.YtmbfflckgmdncaaZC
namespace Go.Proofs.Ytmbfflckgmdncaa.Fw
open Go Go.RowKit
set_option linter.unusedVariables false
set_option linter.unusedSimpArgs false
set_option maxRecDepth 100000
set_option maxHeartbeats 2000000

theorem rot_ok : PCtrOk Try.prog 5 roC where
  enter := enter_ok Try.func5 (by kernel_rfl) rfl
  calls := by
    intro hg rg lr vals k h
    unfold roC at h
    split at h
    case h_2 => exact h.elim
    rename_i q v
    obtain ⟨_, hk⟩ := h
    replace hk := hk _ rfl
    refine ⟨_, _, hk, fun A w _ _ => ?_⟩
    refine enter T_ok (GOk.cons within_ok (GOk.cons div_ok (GOk.cons angle_ok (GOk.mcons so_ok GOk.nil)))) Try.func5 rfl (K := (· < w.heap.size)) (fun _ h => h) (A := A) (n0 := 0) (b0 := 0) (rows := []) (hp := []) rfl (Nat.zero_le _) (fun k r h => by cases h) rfl (fun k r h => by cases h) rfl rfl (Nat.le_of_ble_eq_true rfl) ?_
    conv => whnf
    repeat (refine V_step T_ok (GOk.cons within_ok (GOk.cons div_ok (GOk.cons angle_ok (GOk.mcons so_ok GOk.nil)))) rfl ?_; conv => whnf)
    repeat (any_goals (first
      | (refine V_step T_ok (GOk.cons within_ok (GOk.cons div_ok (GOk.cons angle_ok (GOk.mcons so_ok GOk.nil)))) rfl ?_; conv => whnf)
      | (refine V_drawN T_ok (GOk.cons within_ok (GOk.cons div_ok (GOk.cons angle_ok (GOk.mcons so_ok GOk.nil)))) mixed (by kernel_rfl) ?_; conv => whnf)
      | (refine bcond_split (fun hc => ?_) (fun hc => ?_) <;> (try simp only [decide_eq_true_eq, decide_eq_false_iff_not, Bool.not_eq_true', Bool.not_eq_false', Bool.and_eq_true, Bool.or_eq_true, Bool.and_eq_false_imp, Bool.or_eq_false_iff, ne_eq, Decidable.not_not] at hc) <;> conv => whnf)
      | (intro ysK hysK; have hysl := congrArg List.length hysK; (try simp only [List.length_set, List.length_append, List.length_cons, List.length_nil, List.length_take, List.length_drop, List.length_replicate] at hysl); conv => whnf)
      | (intro bK hbK; have hbl := congrArg ByteArray.size hbK; conv => whnf)
      | (intro sK hsK; conv => whnf)
      | (refine And.intro (by first | (first | exact True.intro | omega | (simp only [Rng]; omega)) | exact True.intro | exact ⟨rfl, True.intro, fun _ _ => rfl⟩ | exact Nat.le_of_ble_eq_true rfl | (refine ⟨by (try simp only [List.length_cons, List.length_nil]); omega, Int.le_trans (Int.mul_le_mul_of_nonneg_left (show (TInfo.bytes _ : Int) ≤ 64 from Int.ofNat_le.2 (Nat.le_of_ble_eq_true rfl)) (by omega)) (by (try simp only [List.length_cons, List.length_nil]); omega)⟩)) ?_; conv => whnf)))
    · exact leafN rfl (by rw [roO_f fun h => hc h.1]) (fun B C h => by rw [roO_f fun h => hc h.1]; simp [AVal.den, dens, h, Hdr.val])
    · exact leafN rfl (by rw [roO_f fun h => hc h.2.1]) (fun B C h => by rw [roO_f fun h => hc h.2.1]; simp [AVal.den, dens, h, Hdr.val])
    · exact leafN rfl (by rw [roO_f fun h => hc h.2.2]) (fun B C h => by rw [roO_f fun h => hc h.2.2]; simp [AVal.den, dens, h, Hdr.val])
    have hv : 2 ≤ v ∧ v ≤ 13 := by assumption
    have hq : 1 ≤ q ∧ q ≤ v - 1 := by assumption
    have ho : okR q v := ⟨hv, hq, hc⟩
    clear hk
    obtain ⟨N, hN⟩ : ∃ N : Nat, v = (N : Int) := ⟨v.toNat, by omega⟩
    subst hN
    have p := pow2v hv
    rw [Int.toNat_natCast] at p
    have hb16 : (ti32.bytes : Int) = 16 := rfl
    refine V_loopP (γ := Nat) (fun g => g ≤ N) (fun g => N - g) (fun g => [(6, .row 0), (27, .int .i64 g)]) (fun _ => []) (fun _ => []) (fun g => [some ⟨aT, 32, true, (List.range g).map (rotE q N)⟩]) 0 (Nat.zero_le _) ?_ ?_
    · conv => whnf
      refine ⟨?_, by (conv => whnf); repeat (first | exact True.intro | (refine And.intro rfl ?_; conv => whnf)), by (conv => whnf); repeat (first | exact True.intro | (refine And.intro (by first | rfl | (subst_vars; rfl)) ?_; conv => whnf)), rfl, rfl, rfl, rfl, rfl, rfl, rfl, Nat.le_of_ble_eq_true rfl, Nat.le_of_ble_eq_true rfl⟩
      conv => whnf
      repeat (first | exact True.intro | (refine And.intro (by first | rfl | ((conv => whnf); exact congrArg (AVal.int .i64) (by omega)) | ((conv => whnf); exact congrArg (AVal.int .i64) (by simp only [Int.natCast_add, Int.natCast_one]; omega)) | ((conv => whnf); exact congrArg (AVal.irow _) (by first | omega | assumption | (simp only; omega)))) ?_; conv => whnf))
    · rintro g hg
      have hlg : ((List.range g).map (rotE q N)).length = g := by simp
      conv => whnf
      refine vcCode_sound T_ok (GOk.cons within_ok (GOk.cons div_ok (GOk.cons angle_ok (GOk.mcons so_ok GOk.nil)))) _ _ _ _ _ ?_
      conv => whnf
      repeat (refine V_step T_ok (GOk.cons within_ok (GOk.cons div_ok (GOk.cons angle_ok (GOk.mcons so_ok GOk.nil)))) rfl ?_; conv => whnf)
      repeat (any_goals (first
        | (refine V_step T_ok (GOk.cons within_ok (GOk.cons div_ok (GOk.cons angle_ok (GOk.mcons so_ok GOk.nil)))) rfl ?_; conv => whnf)
        | (refine V_drawN T_ok (GOk.cons within_ok (GOk.cons div_ok (GOk.cons angle_ok (GOk.mcons so_ok GOk.nil)))) mixed (by kernel_rfl) ?_; conv => whnf)
        | (refine bcond_split (fun hc => ?_) (fun hc => ?_) <;> (try simp only [decide_eq_true_eq, decide_eq_false_iff_not, Bool.not_eq_true', Bool.not_eq_false', Bool.and_eq_true, Bool.or_eq_true, Bool.and_eq_false_imp, Bool.or_eq_false_iff, ne_eq, Decidable.not_not] at hc) <;> conv => whnf)
        | (intro ysK hysK; have hysl := congrArg List.length hysK; (try simp only [List.length_set, List.length_append, List.length_cons, List.length_nil, List.length_take, List.length_drop, List.length_replicate] at hysl); conv => whnf)
        | (intro bK hbK; have hbl := congrArg ByteArray.size hbK; conv => whnf)
        | (intro sK hsK; conv => whnf)
        | (refine And.intro (by first | (first | exact True.intro | omega | (simp only [Rng]; omega)) | exact True.intro | exact ⟨rfl, True.intro, fun _ _ => rfl⟩ | exact Nat.le_of_ble_eq_true rfl | (refine ⟨by (try simp only [List.length_cons, List.length_nil]); omega, Int.le_trans (Int.mul_le_mul_of_nonneg_left (show (TInfo.bytes _ : Int) ≤ 64 from Int.ofNat_le.2 (Nat.le_of_ble_eq_true rfl)) (by omega)) (by (try simp only [List.length_cons, List.length_nil]); omega)⟩)) ?_; conv => whnf)))
      · have hgN : g < N := by omega
        refine V_loopH (γ := Nat) (fun i => i ≤ N) (fun i => N - i) (fun i => [(8, .int .i64 (rotN q N g i)), (31, .int .i64 i)]) (fun _ => []) (fun _ => []) 0 (Nat.zero_le _) ?_ ?_
        · clear hlg
          conv => whnf
          refine ⟨?_, by (conv => whnf); repeat (first | exact True.intro | (refine And.intro rfl ?_; conv => whnf)), by (conv => whnf); repeat (first | exact True.intro | (refine And.intro (by first | rfl | (subst_vars; rfl)) ?_; conv => whnf)), rfl, rfl, rfl, rfl, rfl, rfl, rfl, Nat.le_of_ble_eq_true rfl, Nat.le_of_ble_eq_true rfl⟩
          conv => whnf
          repeat (first | exact True.intro | (refine And.intro (by first | rfl | ((conv => whnf); exact congrArg (AVal.int .i64) (by omega)) | ((conv => whnf); exact congrArg (AVal.int .i64) (by simp only [Int.natCast_add, Int.natCast_one]; omega)) | ((conv => whnf); exact congrArg (AVal.irow _) (by first | omega | assumption | (simp only; omega)))) ?_; conv => whnf))
        · rintro i hi
          have b1 := rotN_bd q N g i
          have b2 := pow13 (n := i) (by omega)
          have b3 : 0 ≤ (i : Int) * q := Int.mul_nonneg (by omega) (by omega)
          have b4 : (i : Int) * q ≤ 13 * 13 := Int.mul_le_mul (by omega) (by omega) (by omega) (by omega)
          have b5 : Int.tmod ((g : Int) + (i : Int) * q) N = ((g : Int) + (i : Int) * q) % N := Int.tmod_eq_emod_of_nonneg (by omega)
          have b6 : 0 ≤ ((g : Int) + (i : Int) * q) % N := Int.emod_nonneg _ (by omega)
          have b7 : ((g : Int) + (i : Int) * q) % N < N := Int.emod_lt_of_pos _ (by omega)
          have r1 : Rng .i64 (Int.tmod ((g : Int) + (i : Int) * q) N) := by rw [b5]; simp only [Rng]; omega
          conv => whnf
          refine vcCode_sound T_ok (GOk.cons within_ok (GOk.cons div_ok (GOk.cons angle_ok (GOk.mcons so_ok GOk.nil)))) _ _ _ _ _ ?_
          conv => whnf
          repeat (refine V_step T_ok (GOk.cons within_ok (GOk.cons div_ok (GOk.cons angle_ok (GOk.mcons so_ok GOk.nil)))) rfl ?_; conv => whnf)
          repeat (any_goals (first
            | (refine V_step T_ok (GOk.cons within_ok (GOk.cons div_ok (GOk.cons angle_ok (GOk.mcons so_ok GOk.nil)))) rfl ?_; conv => whnf)
            | (refine V_drawN T_ok (GOk.cons within_ok (GOk.cons div_ok (GOk.cons angle_ok (GOk.mcons so_ok GOk.nil)))) mixed (by kernel_rfl) ?_; conv => whnf)
            | (refine bcond_split (fun hc => ?_) (fun hc => ?_) <;> (try simp only [decide_eq_true_eq, decide_eq_false_iff_not, Bool.not_eq_true', Bool.not_eq_false', Bool.and_eq_true, Bool.or_eq_true, Bool.and_eq_false_imp, Bool.or_eq_false_iff, ne_eq, Decidable.not_not] at hc) <;> conv => whnf)
            | (intro ysK hysK; have hysl := congrArg List.length hysK; (try simp only [List.length_set, List.length_append, List.length_cons, List.length_nil, List.length_take, List.length_drop, List.length_replicate] at hysl); conv => whnf)
            | (intro bK hbK; have hbl := congrArg ByteArray.size hbK; conv => whnf)
            | (intro sK hsK; conv => whnf)
            | (refine And.intro (by first | (first | exact True.intro | exact r1 | omega | (simp only [Rng]; omega)) | exact True.intro | exact ⟨rfl, True.intro, fun _ _ => rfl⟩ | exact Nat.le_of_ble_eq_true rfl | (refine ⟨by (try simp only [List.length_cons, List.length_nil]); omega, Int.le_trans (Int.mul_le_mul_of_nonneg_left (show (TInfo.bytes _ : Int) ≤ 64 from Int.ofNat_le.2 (Nat.le_of_ble_eq_true rfl)) (by omega)) (by (try simp only [List.length_cons, List.length_nil]); omega)⟩)) ?_; conv => whnf)))
          · have e : rotN q N g (i + 1) = 2 * rotN q N g i + 1 := by rw [rotN, if_pos hc]
            refine ⟨i + 1, by omega, by omega, ?_⟩
            simp only [e]
            clear hlg b1 b2 b3 b4 b5 b6 b7 r1 e
            conv => whnf
            refine ⟨?_, by (conv => whnf); repeat (first | exact True.intro | (refine And.intro rfl ?_; conv => whnf)), by (conv => whnf); repeat (first | exact True.intro | (refine And.intro (by first | rfl | (subst_vars; rfl)) ?_; conv => whnf)), rfl, rfl, rfl, rfl, rfl, rfl, rfl, Nat.le_of_ble_eq_true rfl, Nat.le_of_ble_eq_true rfl⟩
            conv => whnf
            repeat (first | exact True.intro | (refine And.intro (by first | rfl | ((conv => whnf); exact congrArg (AVal.int .i64) (by omega)) | ((conv => whnf); exact congrArg (AVal.int .i64) (by simp only [Int.natCast_add, Int.natCast_one]; omega)) | ((conv => whnf); exact congrArg (AVal.irow _) (by first | omega | assumption | (simp only; omega)))) ?_; conv => whnf))
          · have e : rotN q N g (i + 1) = 2 * rotN q N g i := by rw [rotN, if_neg hc, Int.add_zero]
            refine ⟨i + 1, by omega, by omega, ?_⟩
            simp only [e]
            clear hlg b1 b2 b3 b4 b5 b6 b7 r1 e
            conv => whnf
            refine ⟨?_, by (conv => whnf); repeat (first | exact True.intro | (refine And.intro rfl ?_; conv => whnf)), by (conv => whnf); repeat (first | exact True.intro | (refine And.intro (by first | rfl | (subst_vars; rfl)) ?_; conv => whnf)), rfl, rfl, rfl, rfl, rfl, rfl, rfl, Nat.le_of_ble_eq_true rfl, Nat.le_of_ble_eq_true rfl⟩
            conv => whnf
            repeat (first | exact True.intro | (refine And.intro (by first | rfl | ((conv => whnf); exact congrArg (AVal.int .i64) (by omega)) | ((conv => whnf); exact congrArg (AVal.int .i64) (by simp only [Int.natCast_add, Int.natCast_one]; omega)) | ((conv => whnf); exact congrArg (AVal.irow _) (by first | omega | assumption | (simp only; omega)))) ?_; conv => whnf))
          · have hiN : i = N := by omega
            rw [hiN] at b1 b2 ⊢
            have s1 : Rng .i64 (1 * 2 ^ (N : Int).toNat) := by show Rng .i64 (1 * 2 ^ N); simp only [Rng]; omega
            have s2 : Rng .i64 (1 * 2 ^ (N : Int).toNat - 1) := by show Rng .i64 (1 * 2 ^ N - 1); simp only [Rng]; omega
            have s3 : ((0 : Int) < 1 * 2 ^ (N : Int).toNat - 1 ∧ (1 : Int) * 2 ^ (N : Int).toNat - 1 ≤ 4611686018427387904) ∧ (-4611686018427387904 ≤ rotN q N g N ∧ rotN q N g N ≤ 4611686018427387904) := by
              show (0 < 1 * (2 : Int) ^ N - 1 ∧ 1 * (2 : Int) ^ N - 1 ≤ 4611686018427387904) ∧ _
              exact ⟨⟨by omega, by omega⟩, by omega, by omega⟩
            have s4 : ofQ (rotN q N g N) (1 * 2 ^ (N : Int).toNat - 1) = rotE q N g := by unfold rotE; rw [Int.one_mul]; rfl
            repeat (any_goals (first
              | (refine V_step T_ok (GOk.cons within_ok (GOk.cons div_ok (GOk.cons angle_ok (GOk.mcons so_ok GOk.nil)))) rfl ?_; conv => whnf)
              | (refine V_drawN T_ok (GOk.cons within_ok (GOk.cons div_ok (GOk.cons angle_ok (GOk.mcons so_ok GOk.nil)))) mixed (by kernel_rfl) ?_; conv => whnf)
              | (refine bcond_split (fun hc => ?_) (fun hc => ?_) <;> (try simp only [decide_eq_true_eq, decide_eq_false_iff_not, Bool.not_eq_true', Bool.not_eq_false', Bool.and_eq_true, Bool.or_eq_true, Bool.and_eq_false_imp, Bool.or_eq_false_iff, ne_eq, Decidable.not_not] at hc) <;> conv => whnf)
              | (intro ysK hysK; have hysl := congrArg List.length hysK; (try simp only [List.length_set, List.length_append, List.length_cons, List.length_nil, List.length_take, List.length_drop, List.length_replicate] at hysl); conv => whnf)
              | (intro bK hbK; have hbl := congrArg ByteArray.size hbK; conv => whnf)
              | (intro sK hsK; conv => whnf)
              | (refine And.intro (by first | (first | exact True.intro | with_reducible exact s1 | with_reducible exact s2 | with_reducible exact s3 | (simp only [List.length_cons, List.length_nil, hlg]; rw [hb16]; omega) | omega | (simp only [Rng]; omega)) | exact True.intro | exact ⟨rfl, True.intro, fun _ _ => rfl⟩ | exact Nat.le_of_ble_eq_true rfl | (refine ⟨by (try simp only [List.length_cons, List.length_nil]); omega, Int.le_trans (Int.mul_le_mul_of_nonneg_left (show (TInfo.bytes _ : Int) ≤ 64 from Int.ofNat_le.2 (Nat.le_of_ble_eq_true rfl)) (by omega)) (by (try simp only [List.length_cons, List.length_nil]); omega)⟩)) ?_; conv => whnf)))
            have hy : ysK = (List.range (g + 1)).map (rotE q N) := by
              have h9 : ysK = (List.range g).map (rotE q N) ++ [ofQ (rotN q N g N) (1 * 2 ^ (N : Int).toNat - 1)] := hysK
              rw [h9, s4, List.range_succ, List.map_append]; rfl
            clear hysK hysl s1 s2 s3 s4
            subst hy
            refine ⟨g + 1, by omega, by omega, ?_⟩
            clear hlg b1 b2 b3 b4 b5 b6 b7 r1
            conv => whnf
            refine ⟨?_, by (conv => whnf); repeat (first | exact True.intro | (refine And.intro rfl ?_; conv => whnf)), by (conv => whnf); repeat (first | exact True.intro | (refine And.intro (by first | rfl | (subst_vars; rfl)) ?_; conv => whnf)), rfl, rfl, rfl, rfl, rfl, rfl, rfl, Nat.le_of_ble_eq_true rfl, Nat.le_of_ble_eq_true rfl⟩
            conv => whnf
            repeat (first | exact True.intro | (refine And.intro (by first | rfl | ((conv => whnf); exact congrArg (AVal.int .i64) (by omega)) | ((conv => whnf); exact congrArg (AVal.int .i64) (by simp only [Int.natCast_add, Int.natCast_one]; omega)) | ((conv => whnf); exact congrArg (AVal.irow _) (by first | omega | assumption | (simp only; omega)))) ?_; conv => whnf))
      · have hgl : g = N := by omega
        refine ⟨⟨fun x hx => ?_, by rw [hlg]; omega⟩, ?_⟩
        · obtain ⟨t, _, rfl⟩ := List.mem_map.1 hx
          exact rotE_isA hv t
        conv => whnf
        repeat (any_goals (first
          | (refine V_step T_ok (GOk.cons within_ok (GOk.cons div_ok (GOk.cons angle_ok (GOk.mcons so_ok GOk.nil)))) rfl ?_; conv => whnf)
          | (refine V_drawN T_ok (GOk.cons within_ok (GOk.cons div_ok (GOk.cons angle_ok (GOk.mcons so_ok GOk.nil)))) mixed (by kernel_rfl) ?_; conv => whnf)
          | (refine bcond_split (fun hc => ?_) (fun hc => ?_) <;> (try simp only [decide_eq_true_eq, decide_eq_false_iff_not, Bool.not_eq_true', Bool.not_eq_false', Bool.and_eq_true, Bool.or_eq_true, Bool.and_eq_false_imp, Bool.or_eq_false_iff, ne_eq, Decidable.not_not] at hc) <;> conv => whnf)
          | (intro ysK hysK; have hysl := congrArg List.length hysK; (try simp only [List.length_set, List.length_append, List.length_cons, List.length_nil, List.length_take, List.length_drop, List.length_replicate] at hysl); conv => whnf)
          | (intro bK hbK; have hbl := congrArg ByteArray.size hbK; conv => whnf)
          | (intro sK hsK; conv => whnf)
          | (refine And.intro (by first | (first | exact True.intro | omega) | exact True.intro | exact ⟨rfl, True.intro, fun _ _ => rfl⟩ | exact Nat.le_of_ble_eq_true rfl | (refine ⟨by (try simp only [List.length_cons, List.length_nil]); omega, Int.le_trans (Int.mul_le_mul_of_nonneg_left (show (TInfo.bytes _ : Int) ≤ 64 from Int.ofNat_le.2 (Nat.le_of_ble_eq_true rfl)) (by omega)) (by (try simp only [List.length_cons, List.length_nil]); omega)⟩)) ?_; conv => whnf)))
        have hy : ysK = (roO q N).1 := by
          have h9 : ysK = srtA (List.map (rotE q N) (List.range g)) := hysK
          rw [roO_t ho, rotS_srt, Int.toNat_natCast, h9, hgl]
        exact leaf1 1 rfl rfl (congrArg (fun ys => (⟨aT, 32, true, ys⟩ : Row)) hy) rfl (fun B C h => by rw [roO_t ho]; simp [AVal.den, dens, h])
end Go.Proofs.Ytmbfflckgmdncaa.Fw
-- %intro
