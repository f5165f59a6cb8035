/- Contracts: the reference reads an angle. -/
import Derived.Test.YtmbfflckgmdncaaDoorDG
namespace Go.Proofs.YtmbfflckgmdncaaDoor.Fw
open Go Go.RowKit
set_option linter.unusedVariables false
set_option linter.unusedSimpArgs false
set_option maxRecDepth 100000
set_option maxHeartbeats 2000000

theorem byteAt_lt256 (s : ByteArray) (n : Nat) : byteAt s n < 256 := by rw [byteAt_eq]; exact UInt8.toNat_lt _
def nmC : PCtr := fun _ _ _ vals k => match vals with
  | [.str s] => s.size ≤ 1048576 ∧ ∀ v : Int, v = nmL (bl s) → k [] (.int .i64 v)
  | _ => False
/-- The first i bytes are digits. -/
def dgs (s : ByteArray) (i : Nat) : Prop := ∀ m, m < i → 48 ≤ byteAt s m ∧ byteAt s m ≤ 57
theorem dgs_all {s : ByteArray} : dgs s s.size ↔ ∀ c ∈ bl s, Dg c := by
  constructor
  · intro h c hc
    obtain ⟨n, hn, rfl⟩ := List.mem_iff_getElem.1 hc
    have := h n (by rw [← bl_len]; exact hn)
    rw [byteAt_eq, List.getD_eq_getElem?_getD, List.getElem?_eq_getElem hn] at this
    exact this
  · intro h m hm
    have hm' : m < (bl s).length := by rw [bl_len]; exact hm
    have := h _ (List.getElem_mem hm')
    rw [byteAt_eq, List.getD_eq_getElem?_getD, List.getElem?_eq_getElem hm']
    exact this
theorem dvT_next (s : ByteArray) {i : Nat} (h : i < s.size) : dvL 0 ((bl s).take (i + 1)) = dvL 0 ((bl s).take i) * 10 + (byteAt s i - 48) := by
  have h' : i < (bl s).length := by rw [bl_len]; exact h
  rw [List.take_succ_eq_append_getElem h', dvL_snoc, byteAt_eq, List.getD_eq_getElem?_getD, List.getElem?_eq_getElem h']
  rfl
theorem dvT_lt {s : ByteArray} {i : Nat} (hd : dgs s i) (hi : i ≤ s.size) (h9 : s.size ≤ 9) : dvL 0 ((bl s).take i) < 1000000000 := by
  have h : ∀ c ∈ (bl s).take i, Dg c := fun c hc => by
    obtain ⟨n, hn, rfl⟩ := List.mem_iff_getElem.1 hc
    rw [List.length_take] at hn
    have hn' : n < (bl s).length := by omega
    have := hd n (by omega)
    rw [byteAt_eq, List.getD_eq_getElem?_getD, List.getElem?_eq_getElem hn'] at this
    rw [List.getElem_take]
    exact this
  have h1 := dvL_lt _ 0 h
  have h2 : ((bl s).take i).length ≤ 9 := by rw [List.length_take, bl_len]; omega
  have h3 : (10 : Nat) ^ ((bl s).take i).length ≤ 10 ^ 9 := Nat.pow_le_pow_right (by omega) h2
  omega
theorem num_ok : PCtrOk Tryd.prog 25 nmC where
  enter := enter_ok Tryd.func25 (by kernel_rfl) rfl
  calls := by
    intro hg rg lr vals k h
    unfold nmC at h
    split at h
    case h_2 => exact h.elim
    rename_i s
    obtain ⟨hs, hk⟩ := h
    replace hk := hk _ rfl
    refine ⟨_, _, hk, fun A w _ _ => ?_⟩
    refine enter T_ok .nil Tryd.func25 rfl (K := (· < w.heap.size)) (fun _ h => h) (A := A) (n0 := 0) (b0 := 0) (rows := []) (hp := []) rfl (Nat.zero_le _) (fun k r h => by cases h) rfl (fun k r h => by cases h) rfl rfl (Nat.le_of_ble_eq_true rfl) ?_
    conv => whnf
    repeat (refine V_step T_ok .nil rfl ?_; conv => whnf)
    have hln : (bl s).length = s.size := rfl
    have bad : ∀ {i : Nat}, i < s.size → ¬ (48 ≤ byteAt s i ∧ byteAt s i ≤ 57) → nmL (bl s) = -1 := fun {i} hi hb => by
      unfold nmL
      split
      · rfl
      · rw [if_neg fun h => hb (dgs_all.2 h i hi)]
    repeat (any_goals (first
      | (refine V_step T_ok .nil rfl ?_; conv => whnf)
      | (refine V_drawA T_ok .nil mixed (by kernel_rfl) ?_; conv => whnf)
      | (refine bcond_split (fun hc => ?_) (fun hc => ?_) <;> (try simp only [decide_eq_true_eq, decide_eq_false_iff_not, Bool.not_eq_true', Bool.not_eq_false', Bool.and_eq_true, Bool.or_eq_true, Bool.and_eq_false_imp, Bool.or_eq_false_iff, ne_eq, Decidable.not_not] at hc) <;> conv => whnf)
      | (intro ysK hysK; have hysl := congrArg List.length hysK; (try simp only [List.length_set, List.length_append, List.length_cons, List.length_nil, List.length_take, List.length_drop, List.length_replicate] at hysl); conv => whnf)
      | (intro bK hbK; have hbl := congrArg ByteArray.size hbK; conv => whnf)
      | (intro sK hsK; conv => whnf)
      | (refine And.intro (by first | (first | exact True.intro | omega | (simp only [Rng]; omega)) | exact True.intro | exact ⟨rfl, True.intro, fun _ _ => rfl⟩ | exact Nat.le_of_ble_eq_true rfl | (refine ⟨by (try simp only [List.length_cons, List.length_nil]); omega, Int.le_trans (Int.mul_le_mul_of_nonneg_left (show (TInfo.bytes _ : Int) ≤ 64 from Int.ofNat_le.2 (Nat.le_of_ble_eq_true rfl)) (by omega)) (by (try simp only [List.length_cons, List.length_nil]); omega)⟩)) ?_; conv => whnf)))
    · exact leaf0 rfl (by unfold nmL; rw [if_pos (.inl (.inl (by omega)))]) rfl
    · exact leaf0 rfl (by unfold nmL; rw [if_pos (.inl (.inr (by omega)))]) rfl
    · have hc : (byteAt s 0 : Int) = 48 := hc
      exact leaf0 rfl (by unfold nmL; rw [if_pos (.inr ⟨by omega, by rw [byteAt_eq] at hc; omega⟩)]) rfl
    · have hc : ¬ (byteAt s 0 : Int) = 48 := hc
      have good : dgs s s.size → nmL (bl s) = (dvL 0 (bl s) : Nat) := fun h => by
        unfold nmL
        rw [if_neg (by rw [byteAt_eq] at hc; omega), if_pos (dgs_all.1 h)]
      have hs9 : s.size ≤ 9 := by omega
      refine V_loopH (γ := Nat) (fun i => i ≤ s.size ∧ dgs s i) (fun i => s.size - i) (fun i => [(3, .int .i64 ((dvL 0 ((bl s).take i) : Nat) : Int)), (4, .int .i64 (i : Int))]) (fun _ => []) (fun _ => []) 0 ⟨Nat.zero_le _, fun m hm => absurd hm (Nat.not_lt_zero m)⟩ ?_ ?_
      · conv => whnf
        refine ⟨?_, by (conv => whnf); repeat (first | exact True.intro | (refine And.intro rfl ?_; conv => whnf)), by (conv => whnf); repeat (first | exact True.intro | (refine And.intro (by first | rfl | (subst_vars; rfl)) ?_; conv => whnf)), rfl, rfl, rfl, rfl, rfl, rfl, rfl, Nat.le_of_ble_eq_true rfl, Nat.le_of_ble_eq_true rfl⟩
        conv => whnf
        repeat (first | exact True.intro | (refine And.intro (by first | rfl | ((conv => whnf); exact congrArg (AVal.int .i64) (by omega)) | ((conv => whnf); exact congrArg (AVal.int .i64) (by simp only [Int.natCast_add, Int.natCast_one]; omega)) | ((conv => whnf); exact congrArg (AVal.irow _) (by first | omega | assumption | (simp only; omega)))) ?_; conv => whnf))
      · rintro i ⟨hi, hd⟩
        have hlt := dvT_lt hd hi hs9
        conv => whnf
        refine vcCode_sound T_ok .nil _ _ _ _ _ ?_
        conv => whnf
        repeat (refine V_step T_ok .nil rfl ?_; conv => whnf)
        have hbt := byteAt_lt256 s i
        have eb : byteAt s (i : Int).toNat = byteAt s i := by rw [Int.toNat_natCast]
        repeat (any_goals (first
          | (refine V_step T_ok .nil rfl ?_; conv => whnf)
          | (refine V_drawA T_ok .nil mixed (by kernel_rfl) ?_; conv => whnf)
          | (refine bcond_split (fun hc => ?_) (fun hc => ?_) <;> (try simp only [decide_eq_true_eq, decide_eq_false_iff_not, Bool.not_eq_true', Bool.not_eq_false', Bool.and_eq_true, Bool.or_eq_true, Bool.and_eq_false_imp, Bool.or_eq_false_iff, ne_eq, Decidable.not_not] at hc) <;> conv => whnf)
          | (intro ysK hysK; have hysl := congrArg List.length hysK; (try simp only [List.length_set, List.length_append, List.length_cons, List.length_nil, List.length_take, List.length_drop, List.length_replicate] at hysl); conv => whnf)
          | (intro bK hbK; have hbl := congrArg ByteArray.size hbK; conv => whnf)
          | (intro sK hsK; conv => whnf)
          | (refine And.intro (by first | (first | exact True.intro | omega | (simp only [Rng]; omega)) | exact True.intro | exact ⟨rfl, True.intro, fun _ _ => rfl⟩ | exact Nat.le_of_ble_eq_true rfl | (refine ⟨by (try simp only [List.length_cons, List.length_nil]); omega, Int.le_trans (Int.mul_le_mul_of_nonneg_left (show (TInfo.bytes _ : Int) ≤ 64 from Int.ofNat_le.2 (Nat.le_of_ble_eq_true rfl)) (by omega)) (by (try simp only [List.length_cons, List.length_nil]); omega)⟩)) ?_; conv => whnf)))
        · exact leaf0 rfl (by rw [bad (i := i) (by omega) (by omega)]) rfl
        · exact leaf0 rfl (by rw [bad (i := i) (by omega) (by omega)]) rfl
        · have h1 : (i : Int) < (s.size : Nat) := by assumption
          have hix : i < s.size := by omega
          have e : ((dvL 0 ((bl s).take (i + 1)) : Nat) : Int) = ((dvL 0 ((bl s).take i) : Nat) : Int) * 10 + ((byteAt s (i : Int).toNat : Int) - 48) := by
            rw [dvT_next s hix]; omega
          refine ⟨i + 1, ⟨by omega, fun m hm => ?_⟩, by omega, ?_⟩
          · rcases Nat.lt_or_ge m i with h | h
            · exact hd m h
            · obtain rfl : m = i := by omega
              omega
          · simp only [e]
            conv => whnf
            refine ⟨?_, by (conv => whnf); repeat (first | exact True.intro | (refine And.intro rfl ?_; conv => whnf)), by (conv => whnf); repeat (first | exact True.intro | (refine And.intro (by first | rfl | (subst_vars; rfl)) ?_; conv => whnf)), rfl, rfl, rfl, rfl, rfl, rfl, rfl, Nat.le_of_ble_eq_true rfl, Nat.le_of_ble_eq_true rfl⟩
            conv => whnf
            repeat (first | exact True.intro | (refine And.intro (by first | rfl | ((conv => whnf); exact congrArg (AVal.int .i64) (by omega)) | ((conv => whnf); exact congrArg (AVal.int .i64) (by simp only [Int.natCast_add, Int.natCast_one]; omega)) | ((conv => whnf); exact congrArg (AVal.irow _) (by first | omega | assumption | (simp only; omega)))) ?_; conv => whnf))
        · have hge : i = s.size := by omega
          subst hge
          have e : (bl s).take s.size = bl s := List.take_of_length_le (Nat.le_of_eq hln)
          exact leaf0 rfl (by rw [good hd, e]) rfl
    · have good : dgs s s.size → nmL (bl s) = (dvL 0 (bl s) : Nat) := fun h => by
        unfold nmL
        rw [if_neg (by omega), if_pos (dgs_all.1 h)]
      have hs9 : s.size ≤ 9 := by omega
      refine V_loopH (γ := Nat) (fun i => i ≤ s.size ∧ dgs s i) (fun i => s.size - i) (fun i => [(3, .int .i64 ((dvL 0 ((bl s).take i) : Nat) : Int)), (4, .int .i64 (i : Int))]) (fun _ => []) (fun _ => []) 0 ⟨Nat.zero_le _, fun m hm => absurd hm (Nat.not_lt_zero m)⟩ ?_ ?_
      · conv => whnf
        refine ⟨?_, by (conv => whnf); repeat (first | exact True.intro | (refine And.intro rfl ?_; conv => whnf)), by (conv => whnf); repeat (first | exact True.intro | (refine And.intro (by first | rfl | (subst_vars; rfl)) ?_; conv => whnf)), rfl, rfl, rfl, rfl, rfl, rfl, rfl, Nat.le_of_ble_eq_true rfl, Nat.le_of_ble_eq_true rfl⟩
        conv => whnf
        repeat (first | exact True.intro | (refine And.intro (by first | rfl | ((conv => whnf); exact congrArg (AVal.int .i64) (by omega)) | ((conv => whnf); exact congrArg (AVal.int .i64) (by simp only [Int.natCast_add, Int.natCast_one]; omega)) | ((conv => whnf); exact congrArg (AVal.irow _) (by first | omega | assumption | (simp only; omega)))) ?_; conv => whnf))
      · rintro i ⟨hi, hd⟩
        have hlt := dvT_lt hd hi hs9
        conv => whnf
        refine vcCode_sound T_ok .nil _ _ _ _ _ ?_
        conv => whnf
        repeat (refine V_step T_ok .nil rfl ?_; conv => whnf)
        have hbt := byteAt_lt256 s i
        have eb : byteAt s (i : Int).toNat = byteAt s i := by rw [Int.toNat_natCast]
        repeat (any_goals (first
          | (refine V_step T_ok .nil rfl ?_; conv => whnf)
          | (refine V_drawA T_ok .nil mixed (by kernel_rfl) ?_; conv => whnf)
          | (refine bcond_split (fun hc => ?_) (fun hc => ?_) <;> (try simp only [decide_eq_true_eq, decide_eq_false_iff_not, Bool.not_eq_true', Bool.not_eq_false', Bool.and_eq_true, Bool.or_eq_true, Bool.and_eq_false_imp, Bool.or_eq_false_iff, ne_eq, Decidable.not_not] at hc) <;> conv => whnf)
          | (intro ysK hysK; have hysl := congrArg List.length hysK; (try simp only [List.length_set, List.length_append, List.length_cons, List.length_nil, List.length_take, List.length_drop, List.length_replicate] at hysl); conv => whnf)
          | (intro bK hbK; have hbl := congrArg ByteArray.size hbK; conv => whnf)
          | (intro sK hsK; conv => whnf)
          | (refine And.intro (by first | (first | exact True.intro | omega | (simp only [Rng]; omega)) | exact True.intro | exact ⟨rfl, True.intro, fun _ _ => rfl⟩ | exact Nat.le_of_ble_eq_true rfl | (refine ⟨by (try simp only [List.length_cons, List.length_nil]); omega, Int.le_trans (Int.mul_le_mul_of_nonneg_left (show (TInfo.bytes _ : Int) ≤ 64 from Int.ofNat_le.2 (Nat.le_of_ble_eq_true rfl)) (by omega)) (by (try simp only [List.length_cons, List.length_nil]); omega)⟩)) ?_; conv => whnf)))
        · exact leaf0 rfl (by rw [bad (i := i) (by omega) (by omega)]) rfl
        · exact leaf0 rfl (by rw [bad (i := i) (by omega) (by omega)]) rfl
        · have h1 : (i : Int) < (s.size : Nat) := by assumption
          have hix : i < s.size := by omega
          have e : ((dvL 0 ((bl s).take (i + 1)) : Nat) : Int) = ((dvL 0 ((bl s).take i) : Nat) : Int) * 10 + ((byteAt s (i : Int).toNat : Int) - 48) := by
            rw [dvT_next s hix]; omega
          refine ⟨i + 1, ⟨by omega, fun m hm => ?_⟩, by omega, ?_⟩
          · rcases Nat.lt_or_ge m i with h | h
            · exact hd m h
            · obtain rfl : m = i := by omega
              omega
          · simp only [e]
            conv => whnf
            refine ⟨?_, by (conv => whnf); repeat (first | exact True.intro | (refine And.intro rfl ?_; conv => whnf)), by (conv => whnf); repeat (first | exact True.intro | (refine And.intro (by first | rfl | (subst_vars; rfl)) ?_; conv => whnf)), rfl, rfl, rfl, rfl, rfl, rfl, rfl, Nat.le_of_ble_eq_true rfl, Nat.le_of_ble_eq_true rfl⟩
            conv => whnf
            repeat (first | exact True.intro | (refine And.intro (by first | rfl | ((conv => whnf); exact congrArg (AVal.int .i64) (by omega)) | ((conv => whnf); exact congrArg (AVal.int .i64) (by simp only [Int.natCast_add, Int.natCast_one]; omega)) | ((conv => whnf); exact congrArg (AVal.irow _) (by first | omega | assumption | (simp only; omega)))) ?_; conv => whnf))
        · have hge : i = s.size := by omega
          subst hge
          have e : (bl s).take s.size = bl s := List.take_of_length_le (Nat.le_of_eq hln)
          exact leaf0 rfl (by rw [good hd, e]) rfl
end Go.Proofs.YtmbfflckgmdncaaDoor.Fw
-- %intro
