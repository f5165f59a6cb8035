/- Rotation sets: the reference. -/
import Derived.Test.YtmbfflckgmdncaaZ1
namespace Go.Proofs.Ytmbfflckgmdncaa.Fw
open Go Go.RowKit
set_option linter.unusedVariables false
set_option linter.unusedSimpArgs false
set_option maxRecDepth 100000
set_option maxHeartbeats 2000000

/-- The number of which the first binary digits are told. -/
def rotN (q v k : Int) : Nat → Int
  | 0 => 0
  | i + 1 => 2 * rotN q v k i + (if v - q ≤ (k + (i : Int) * q).tmod v then 1 else 0)
theorem rotN_bd (q v k : Int) : ∀ i : Nat, 0 ≤ rotN q v k i ∧ rotN q v k i ≤ 2 ^ i - 1
  | 0 => by simp [rotN]
  | i + 1 => by
    have ih := rotN_bd q v k i
    have e : (2 : Int) ^ (i + 1) = 2 * 2 ^ i := by rw [Int.pow_succ]; omega
    rw [rotN, e]
    split <;> omega
def rotE (q v : Int) (k : Nat) : Ang := ofQ (rotN q v k v.toNat) (2 ^ v.toNat - 1)
/-- The rotation set of the first numbers. -/
def rotS (q v : Int) : Nat → List Ang
  | 0 => []
  | k + 1 => putA9 (rotS q v k) (rotE q v k)
theorem pow13 {n : Nat} (h : n ≤ 13) : (1 : Int) ≤ 2 ^ n ∧ (2 : Int) ^ n ≤ 8192 := by
  have h1 : (2 : Nat) ^ n ≤ 2 ^ 13 := Nat.pow_le_pow_right (by decide) h
  have h2 : 0 < (2 : Nat) ^ n := Nat.pow_pos (by decide)
  have e : (2 : Int) ^ n = ((2 ^ n : Nat) : Int) := by rw [Int.natCast_pow]; rfl
  rw [e]; omega
theorem pow2v {v : Int} (h : 2 ≤ v ∧ v ≤ 13) : (3 : Int) ≤ 2 ^ v.toNat - 1 ∧ (2 : Int) ^ v.toNat - 1 ≤ 8191 := by
  obtain ⟨n, rfl⟩ : ∃ n : Nat, v = (n : Int) := ⟨v.toNat, by omega⟩
  have h1 : (2 : Nat) ^ n ≤ 2 ^ 13 := Nat.pow_le_pow_right (by decide) (by omega)
  have h2 : (2 : Nat) ^ 2 ≤ 2 ^ n := Nat.pow_le_pow_right (by decide) (by omega)
  have e : (2 : Int) ^ n = ((2 ^ n : Nat) : Int) := by rw [Int.natCast_pow]; rfl
  rw [Int.toNat_natCast, e]; omega
theorem rotE_isA {q v : Int} (h : 2 ≤ v ∧ v ≤ 13) (k : Nat) : IsA (rotE q v k) := by
  have := pow2v h
  exact ofQ_isA _ _ (by omega) (by omega)
theorem putA9_mem {xs : List Ang} {a x : Ang} (h : x ∈ putA9 xs a) : x ∈ xs ∨ x = a := by
  unfold putA9 at h
  split at h
  · exact .inl h
  · rcases List.mem_append.1 h with h | h
    · exact .inl (List.mem_of_mem_take h)
    · rcases List.mem_append.1 h with h | h
      · exact .inr (List.mem_singleton.1 h)
      · exact .inl (List.mem_of_mem_drop h)
theorem rotS_isA {q v : Int} (h : 2 ≤ v ∧ v ≤ 13) : ∀ k, ∀ x ∈ rotS q v k, IsA x
  | 0, x, hx => by cases hx
  | k + 1, x, hx => by
    rcases putA9_mem hx with h1 | rfl
    · exact rotS_isA h k x h1
    · exact rotE_isA h k
theorem rotS_len (q v : Int) : ∀ k, (rotS q v k).length ≤ k
  | 0 => Nat.le_refl _
  | k + 1 => Nat.le_trans (putA9_len _ _) (Nat.succ_le_succ (rotS_len q v k))
abbrev e29 (e : TypeId) : Prop := e = 32
def l07C : PCtr := fun _ _ lr vals k => match vals with
  | [.int .i64 q, .int .i64 v] => ((2 ≤ v ∧ v ≤ 13) ∧ 1 ≤ q ∧ q ≤ v - 1) ∧ ∀ ys : List Ang, ys = rotS q v v.toNat → k [⟨aT, 32, true, ys⟩] (.row lr)
  | _ => False
abbrev GSro := GOk.cons sOf_ok (GOk.mcons sInsA_ok .nil)
theorem sRo_ok : PCtrOk Try.prog 11 l07C where
  enter := enter_ok Try.func11 (by kernel_rfl) rfl
  calls := by
    intro hg rg lr vals k h
    unfold l07C at h
    split at h
    case h_2 => exact h.elim
    rename_i q v
    obtain ⟨⟨hv, hq⟩, hk⟩ := h
    replace hk := hk _ rfl
    refine ⟨_, _, hk, fun A w _ _ => ?_⟩
    refine enter T_ok GSro Try.func11 rfl (K := (· < w.heap.size)) (fun _ h => h) (A := A) (n0 := 0) (b0 := 0) (rows := []) (hp := []) rfl (Nat.zero_le _) (fun k r h => by cases h) rfl (fun k r h => by cases h) rfl rfl (Nat.le_of_ble_eq_true rfl) ?_
    conv => whnf
    repeat (refine V_step T_ok GSro rfl ?_; conv => whnf)
    obtain ⟨N, hN⟩ : ∃ N : Nat, v = (N : Int) := ⟨v.toNat, by omega⟩
    subst hN
    repeat (any_goals (first
      | (refine V_step T_ok GSro rfl ?_; conv => whnf)
      | (refine V_drawA T_ok GSro mixed (by kernel_rfl) ?_; conv => whnf)
      | (refine bcond_split (fun hc => ?_) (fun hc => ?_) <;> (try simp only [decide_eq_true_eq, decide_eq_false_iff_not, Bool.not_eq_true', Bool.not_eq_false', Bool.and_eq_true, Bool.or_eq_true, Bool.and_eq_false_imp, Bool.or_eq_false_iff, ne_eq, Decidable.not_not] at hc) <;> conv => whnf)
      | (intro ysK hysK; have hysl := congrArg List.length hysK; (try simp only [List.length_set, List.length_append, List.length_cons, List.length_nil, List.length_take, List.length_drop, List.length_replicate] at hysl); conv => whnf)
      | (intro bK hbK; have hbl := congrArg ByteArray.size hbK; conv => whnf)
      | (intro sK hsK; conv => whnf)
      | (refine And.intro (by first | (first | exact True.intro | omega) | exact True.intro | exact ⟨rfl, True.intro, fun _ _ => rfl⟩ | exact Nat.le_of_ble_eq_true rfl | (refine ⟨by (try simp only [List.length_cons, List.length_nil]); omega, Int.le_trans (Int.mul_le_mul_of_nonneg_left (show (TInfo.bytes _ : Int) ≤ 64 from Int.ofNat_le.2 (Nat.le_of_ble_eq_true rfl)) (by omega)) (by (try simp only [List.length_cons, List.length_nil]); omega)⟩)) ?_; conv => whnf)))
    refine V_loopH (γ := Nat) (fun g => g ≤ N) (fun g => N - g) (fun g => [(5, .row 0), (6, .int .i64 g), (10, .junk)]) (fun _ => []) (fun g => [(0, some ⟨aT, 32, true, rotS q N g⟩)]) 0 (Nat.zero_le _) ?_ ?_
    · conv => whnf
      refine ⟨?_, by (conv => whnf); repeat (first | exact True.intro | (refine And.intro rfl ?_; conv => whnf)), by (conv => whnf); repeat (first | exact True.intro | (refine And.intro (by first | rfl | (subst_vars; rfl)) ?_; conv => whnf)), rfl, rfl, rfl, rfl, rfl, rfl, rfl, Nat.le_of_ble_eq_true rfl, Nat.le_of_ble_eq_true rfl⟩
      conv => whnf
      repeat (first | exact True.intro | (refine And.intro (by first | rfl | ((conv => whnf); exact congrArg (AVal.int .i64) (by omega)) | ((conv => whnf); exact congrArg (AVal.int .i64) (by simp only [Int.natCast_add, Int.natCast_one]; omega)) | ((conv => whnf); exact congrArg (AVal.irow _) (by first | omega | assumption | (simp only; omega)))) ?_; conv => whnf))
    · rintro g hg
      conv => whnf
      refine vcCode_sound T_ok GSro _ _ _ _ _ ?_
      conv => whnf
      repeat (refine V_step T_ok GSro rfl ?_; conv => whnf)
      repeat (any_goals (first
        | (refine V_step T_ok GSro rfl ?_; conv => whnf)
        | (refine V_drawA T_ok GSro mixed (by kernel_rfl) ?_; conv => whnf)
        | (refine bcond_split (fun hc => ?_) (fun hc => ?_) <;> (try simp only [decide_eq_true_eq, decide_eq_false_iff_not, Bool.not_eq_true', Bool.not_eq_false', Bool.and_eq_true, Bool.or_eq_true, Bool.and_eq_false_imp, Bool.or_eq_false_iff, ne_eq, Decidable.not_not] at hc) <;> conv => whnf)
        | (intro ysK hysK; have hysl := congrArg List.length hysK; (try simp only [List.length_set, List.length_append, List.length_cons, List.length_nil, List.length_take, List.length_drop, List.length_replicate] at hysl); conv => whnf)
        | (intro bK hbK; have hbl := congrArg ByteArray.size hbK; conv => whnf)
        | (intro sK hsK; conv => whnf)
        | (refine And.intro (by first | (first | exact True.intro | omega | (simp only [Rng]; omega)) | exact True.intro | exact ⟨rfl, True.intro, fun _ _ => rfl⟩ | exact Nat.le_of_ble_eq_true rfl | (refine ⟨by (try simp only [List.length_cons, List.length_nil]); omega, Int.le_trans (Int.mul_le_mul_of_nonneg_left (show (TInfo.bytes _ : Int) ≤ 64 from Int.ofNat_le.2 (Nat.le_of_ble_eq_true rfl)) (by omega)) (by (try simp only [List.length_cons, List.length_nil]); omega)⟩)) ?_; conv => whnf)))
      · have hgN : g < N := by omega
        have hset : e29 32 ∧ (∀ x ∈ rotS q N g, Bd x) ∧ Bd (rotE q N g) ∧ List.length (α := Ang) (rotS q N g) ≤ 1000 := ⟨rfl, fun x hx => (rotS_isA hv g x hx).bd, (rotE_isA hv g).bd, by have := rotS_len q N g; omega⟩
        refine V_loopH (γ := Nat) (fun i => i ≤ N) (fun i => N - i) (fun i => [(7, .int .i64 (rotN q N g i)), (8, .int .i64 (2 ^ i)), (9, .int .i64 i)]) (fun _ => []) (fun _ => []) 0 (Nat.zero_le _) ?_ ?_
        · clear hset
          conv => whnf
          refine ⟨?_, by (conv => whnf); repeat (first | exact True.intro | (refine And.intro rfl ?_; conv => whnf)), by (conv => whnf); repeat (first | exact True.intro | (refine And.intro (by first | rfl | (subst_vars; rfl)) ?_; conv => whnf)), rfl, rfl, rfl, rfl, rfl, rfl, rfl, Nat.le_of_ble_eq_true rfl, Nat.le_of_ble_eq_true rfl⟩
          conv => whnf
          repeat (first | exact True.intro | (refine And.intro (by first | rfl | ((conv => whnf); exact congrArg (AVal.int .i64) (by omega)) | ((conv => whnf); exact congrArg (AVal.int .i64) (by simp only [Int.natCast_add, Int.natCast_one]; omega)) | ((conv => whnf); exact congrArg (AVal.irow _) (by first | omega | assumption | (simp only; omega)))) ?_; conv => whnf))
        · rintro i hi
          have b1 := rotN_bd q N g i
          have b2 := pow13 (n := i) (by omega)
          have b3 : 0 ≤ (i : Int) * q := Int.mul_nonneg (by omega) (by omega)
          have b4 : (i : Int) * q ≤ 13 * 13 := Int.mul_le_mul (by omega) (by omega) (by omega) (by omega)
          have b5 : Int.tmod ((g : Int) + (i : Int) * q) N = ((g : Int) + (i : Int) * q) % N := Int.tmod_eq_emod_of_nonneg (by omega)
          have b6 : 0 ≤ ((g : Int) + (i : Int) * q) % N := Int.emod_nonneg _ (by omega)
          have b7 : ((g : Int) + (i : Int) * q) % N < N := Int.emod_lt_of_pos _ (by omega)
          have r1 : Rng .i64 (Int.tmod ((g : Int) + (i : Int) * q) N) := by rw [b5]; simp only [Rng]; omega
          conv => whnf
          refine vcCode_sound T_ok GSro _ _ _ _ _ ?_
          conv => whnf
          repeat (refine V_step T_ok GSro rfl ?_; conv => whnf)
          repeat (any_goals (first
            | (refine V_step T_ok GSro rfl ?_; conv => whnf)
            | (refine V_drawA T_ok GSro mixed (by kernel_rfl) ?_; conv => whnf)
            | (refine bcond_split (fun hc => ?_) (fun hc => ?_) <;> (try simp only [decide_eq_true_eq, decide_eq_false_iff_not, Bool.not_eq_true', Bool.not_eq_false', Bool.and_eq_true, Bool.or_eq_true, Bool.and_eq_false_imp, Bool.or_eq_false_iff, ne_eq, Decidable.not_not] at hc) <;> conv => whnf)
            | (intro ysK hysK; have hysl := congrArg List.length hysK; (try simp only [List.length_set, List.length_append, List.length_cons, List.length_nil, List.length_take, List.length_drop, List.length_replicate] at hysl); conv => whnf)
            | (intro bK hbK; have hbl := congrArg ByteArray.size hbK; conv => whnf)
            | (intro sK hsK; conv => whnf)
            | (refine And.intro (by first | (first | exact True.intro | exact r1 | omega | (simp only [Rng]; omega)) | exact True.intro | exact ⟨rfl, True.intro, fun _ _ => rfl⟩ | exact Nat.le_of_ble_eq_true rfl | (refine ⟨by (try simp only [List.length_cons, List.length_nil]); omega, Int.le_trans (Int.mul_le_mul_of_nonneg_left (show (TInfo.bytes _ : Int) ≤ 64 from Int.ofNat_le.2 (Nat.le_of_ble_eq_true rfl)) (by omega)) (by (try simp only [List.length_cons, List.length_nil]); omega)⟩)) ?_; conv => whnf)))
          · have e : rotN q N g (i + 1) = 2 * rotN q N g i + 1 := by rw [rotN, if_pos hc]
            have e2 : (2 : Int) ^ (i + 1) = 2 * 2 ^ i := by rw [Int.pow_succ]; omega
            refine ⟨i + 1, by omega, by omega, ?_⟩
            simp only [e, e2]
            clear hset b1 b2 b3 b4 b5 b6 b7 r1 e e2
            conv => whnf
            refine ⟨?_, by (conv => whnf); repeat (first | exact True.intro | (refine And.intro rfl ?_; conv => whnf)), by (conv => whnf); repeat (first | exact True.intro | (refine And.intro (by first | rfl | (subst_vars; rfl)) ?_; conv => whnf)), rfl, rfl, rfl, rfl, rfl, rfl, rfl, Nat.le_of_ble_eq_true rfl, Nat.le_of_ble_eq_true rfl⟩
            conv => whnf
            repeat (first | exact True.intro | (refine And.intro (by first | rfl | ((conv => whnf); exact congrArg (AVal.int .i64) (by omega)) | ((conv => whnf); exact congrArg (AVal.int .i64) (by simp only [Int.natCast_add, Int.natCast_one]; omega)) | ((conv => whnf); exact congrArg (AVal.irow _) (by first | omega | assumption | (simp only; omega)))) ?_; conv => whnf))
          · have e : rotN q N g (i + 1) = 2 * rotN q N g i := by rw [rotN, if_neg hc, Int.add_zero]
            have e2 : (2 : Int) ^ (i + 1) = 2 * 2 ^ i := by rw [Int.pow_succ]; omega
            refine ⟨i + 1, by omega, by omega, ?_⟩
            simp only [e, e2]
            clear hset b1 b2 b3 b4 b5 b6 b7 r1 e e2
            conv => whnf
            refine ⟨?_, by (conv => whnf); repeat (first | exact True.intro | (refine And.intro rfl ?_; conv => whnf)), by (conv => whnf); repeat (first | exact True.intro | (refine And.intro (by first | rfl | (subst_vars; rfl)) ?_; conv => whnf)), rfl, rfl, rfl, rfl, rfl, rfl, rfl, Nat.le_of_ble_eq_true rfl, Nat.le_of_ble_eq_true rfl⟩
            conv => whnf
            repeat (first | exact True.intro | (refine And.intro (by first | rfl | ((conv => whnf); exact congrArg (AVal.int .i64) (by omega)) | ((conv => whnf); exact congrArg (AVal.int .i64) (by simp only [Int.natCast_add, Int.natCast_one]; omega)) | ((conv => whnf); exact congrArg (AVal.irow _) (by first | omega | assumption | (simp only; omega)))) ?_; conv => whnf))
          · obtain rfl : i = N := by omega
            have p := pow2v hv
            rw [Int.toNat_natCast] at p
            refine ⟨⟨⟨by omega, by omega⟩, by omega, by omega⟩, ?_⟩
            conv => whnf
            repeat (any_goals (first
              | (refine V_step T_ok GSro rfl ?_; conv => whnf)
              | (refine V_drawA T_ok GSro mixed (by kernel_rfl) ?_; conv => whnf)
              | (refine bcond_split (fun hc => ?_) (fun hc => ?_) <;> (try simp only [decide_eq_true_eq, decide_eq_false_iff_not, Bool.not_eq_true', Bool.not_eq_false', Bool.and_eq_true, Bool.or_eq_true, Bool.and_eq_false_imp, Bool.or_eq_false_iff, ne_eq, Decidable.not_not] at hc) <;> conv => whnf)
              | (intro ysK hysK; have hysl := congrArg List.length hysK; (try simp only [List.length_set, List.length_append, List.length_cons, List.length_nil, List.length_take, List.length_drop, List.length_replicate] at hysl); conv => whnf)
              | (intro bK hbK; have hbl := congrArg ByteArray.size hbK; conv => whnf)
              | (intro sK hsK; conv => whnf)
              | (refine And.intro (by first | (first | exact True.intro | exact hset | omega | (simp only [Rng]; omega)) | exact True.intro | exact ⟨rfl, True.intro, fun _ _ => rfl⟩ | exact Nat.le_of_ble_eq_true rfl | (refine ⟨by (try simp only [List.length_cons, List.length_nil]); omega, Int.le_trans (Int.mul_le_mul_of_nonneg_left (show (TInfo.bytes _ : Int) ≤ 64 from Int.ofNat_le.2 (Nat.le_of_ble_eq_true rfl)) (by omega)) (by (try simp only [List.length_cons, List.length_nil]); omega)⟩)) ?_; conv => whnf)))
            have hy : ysK = rotS q i (g + 1) := hysK
            clear hysK hysl
            subst hy
            refine ⟨g + 1, by omega, by omega, ?_⟩
            clear hset b1 b2 b3 b4 b5 b6 b7 r1 p
            conv => whnf
            refine ⟨?_, by (conv => whnf); repeat (first | exact True.intro | (refine And.intro rfl ?_; conv => whnf)), by (conv => whnf); repeat (first | exact True.intro | (refine And.intro (by first | rfl | (subst_vars; rfl)) ?_; conv => whnf)), rfl, rfl, rfl, rfl, rfl, rfl, rfl, Nat.le_of_ble_eq_true rfl, Nat.le_of_ble_eq_true rfl⟩
            conv => whnf
            repeat (first | exact True.intro | (refine And.intro (by first | rfl | ((conv => whnf); exact congrArg (AVal.int .i64) (by omega)) | ((conv => whnf); exact congrArg (AVal.int .i64) (by simp only [Int.natCast_add, Int.natCast_one]; omega)) | ((conv => whnf); exact congrArg (AVal.irow _) (by first | omega | assumption | (simp only; omega)))) ?_; conv => whnf))
      · have hgl : g = N := by omega
        exact leaf1 0 rfl rfl (congrArg (fun ys => (⟨aT, 32, true, ys⟩ : Row)) (by rw [hgl, Int.toNat_natCast])) rfl (fun B C h => by simp [AVal.den, h])
end Go.Proofs.Ytmbfflckgmdncaa.Fw
-- %intro
