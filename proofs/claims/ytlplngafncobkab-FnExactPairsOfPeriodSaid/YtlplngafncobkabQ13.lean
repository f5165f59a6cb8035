/- Contracts: satellites counted; the law of the pairs of a period. -/
import Derived.Test.YtlplngafncobkabQ12
namespace Go.Proofs.Ytlplngafncobkab.Fw
open Go Go.RowKit
set_option linter.unusedVariables false
set_option linter.unusedSimpArgs false
set_option maxRecDepth 100000
set_option maxHeartbeats 2000000

def cntI (n : Int) : Int := ((popL n).filter satB).length
def cntC : PCtr := fun _ _ _ vals k => match vals with
  | [.int .i64 n] => True ∧ k [] (.tup [.int .i64 (cntI n), .int .i64 (popN n)])
  | _ => False
theorem popL_sat {n : Int} : ∀ p ∈ popL n, SatR p := fun p hp => by
  unfold popL at hp
  split at hp
  · have h1 := newN_isL (m := n.toNat - 2) (by omega) p hp
    obtain ⟨_, h2, _⟩ := prN_succ (m := n.toNat - 2) (by omega)
    have := (h2 p hp).1
    exact ⟨h1, by omega⟩
  · simp at hp
theorem popL_len (n : Int) : (popL n).length ≤ 2000 := by
  unfold popL
  split
  · unfold newN
    rw [List.length_drop]
    have := prN_len (m := n.toNat - 2 + 1) (by omega)
    omega
  · exact Nat.zero_le _
theorem filter_stp {α : Type} {f : α → Bool} {d : α} {zs : List α} {j : Nat} (h : j < zs.length) : (zs.take (j + 1)).filter f = (zs.take j).filter f ++ (if f (zs.getD j d) = true then [zs.getD j d] else []) := by
  have e : zs.getD j d = zs[j] := by rw [List.getD_eq_getElem?_getD, List.getElem?_eq_getElem h]; rfl
  rw [List.take_add_one, List.filter_append, List.getElem?_eq_getElem h, e]
  congr 1
  by_cases hf : f zs[j] = true <;> simp [hf]
def lawNC : PCtr := fun _ _ _ vals k => match vals with
  | [.int .i64 n] => True ∧ k [] (.bool true)
  | _ => False
abbrev GCn := GOk.cons isPeriod_ok (GOk.cons pairs_ok (GOk.mcons csd_ok (GOk.cons lenP_ok .nil)))
theorem cnt_ok : PCtrOk Try.prog 42 cntC where
  enter := enter_ok Try.func42 (by kernel_rfl) rfl
  calls := by
    intro hg rg lr vals k h
    unfold cntC at h
    split at h
    case h_2 => exact h.elim
    rename_i n
    obtain ⟨_, hk⟩ := h
    refine ⟨_, _, hk, fun A w _ _ => ?_⟩
    refine enter T_ok GCn Try.func42 rfl (K := (· < w.heap.size)) (fun _ h => h) (A := A) (n0 := 0) (b0 := 0) (rows := []) (hp := []) rfl (Nat.zero_le _) (fun k r h => by cases h) rfl (fun k r h => by cases h) rfl rfl (Nat.le_of_ble_eq_true rfl) ?_
    conv => whnf
    repeat (refine V_step T_ok GCn rfl ?_; conv => whnf)
    by_cases h0 : 2 ≤ n ∧ n ≤ 8
    · have hL : popL n = newN (n.toNat - 2) := if_pos h0
      have hs := popL_sat (n := n)
      rw [hL] at hs
      repeat (any_goals (first
        | (refine V_step T_ok GCn rfl ?_; conv => whnf)
        | (refine V_drawA T_ok GCn mixed (by kernel_rfl) ?_; conv => whnf)
        | (refine bcond_split (fun hc => ?_) (fun hc => ?_) <;> (try simp only [decide_eq_true_eq, decide_eq_false_iff_not, Bool.not_eq_true', Bool.not_eq_false', Bool.and_eq_true, Bool.or_eq_true, Bool.and_eq_false_imp, Bool.or_eq_false_iff, ne_eq, Decidable.not_not] at hc) <;> conv => whnf)
        | (intro ysK hysK; have hysl := congrArg List.length hysK; (try simp only [List.length_set, List.length_append, List.length_cons, List.length_nil, List.length_take, List.length_drop, List.length_replicate] at hysl); conv => whnf)
        | (refine And.intro (by first | (first | exact True.intro | exact h0 | exact ⟨trivial, hs⟩) | exact True.intro | exact Nat.le_of_ble_eq_true rfl | (refine ⟨by (try simp only [List.length_cons, List.length_nil]); omega, Int.le_trans (Int.mul_le_mul_of_nonneg_left (show (TInfo.bytes _ : Int) ≤ 64 from Int.ofNat_le.2 (Nat.le_of_ble_eq_true rfl)) (by omega)) (by (try simp only [List.length_cons, List.length_nil]); omega)⟩)) ?_; conv => whnf)))
      · exact absurd h0 hc
      · refine leaf0 rfl ?_ rfl
        rw [cntI, popN, if_pos h0, hL]
        have : (fun x => !(notSat) x) = satB := by funext x; simp [notSat]
        rw [← this]
    · skip
      repeat (any_goals (first
        | (refine V_step T_ok GCn rfl ?_; conv => whnf)
        | (refine V_drawA T_ok GCn mixed (by kernel_rfl) ?_; conv => whnf)
        | (refine bcond_split (fun hc => ?_) (fun hc => ?_) <;> (try simp only [decide_eq_true_eq, decide_eq_false_iff_not, Bool.not_eq_true', Bool.not_eq_false', Bool.and_eq_true, Bool.or_eq_true, Bool.and_eq_false_imp, Bool.or_eq_false_iff, ne_eq, Decidable.not_not] at hc) <;> conv => whnf)
        | (intro ysK hysK; have hysl := congrArg List.length hysK; (try simp only [List.length_set, List.length_append, List.length_cons, List.length_nil, List.length_take, List.length_drop, List.length_replicate] at hysl); conv => whnf)
        | (refine And.intro (by first | exact True.intro | (with_reducible assumption) | omega | (simp only [Rng]; omega) | exact Nat.le_of_ble_eq_true rfl | exact True.intro | exact Nat.le_of_ble_eq_true rfl | (refine ⟨by (try simp only [List.length_cons, List.length_nil]); omega, Int.le_trans (Int.mul_le_mul_of_nonneg_left (show (TInfo.bytes _ : Int) ≤ 64 from Int.ofNat_le.2 (Nat.le_of_ble_eq_true rfl)) (by omega)) (by (try simp only [List.length_cons, List.length_nil]); omega)⟩)) ?_; conv => whnf)))
      · refine leaf0 rfl ?_ rfl
        rw [cntI, popN, if_neg h0, popL, if_neg h0]; rfl
      · exact absurd hc h0

abbrev GSCn := GOk.cons sPop_ok (GOk.cons sSat_ok .nil)
theorem sCnt_ok : PCtrOk Try.prog 41 cntC where
  enter := enter_ok Try.func41 (by kernel_rfl) rfl
  calls := by
    intro hg rg lr vals k h
    unfold cntC at h
    split at h
    case h_2 => exact h.elim
    rename_i n
    obtain ⟨_, hk⟩ := h
    refine ⟨_, _, hk, fun A w _ _ => ?_⟩
    refine enter T_ok GSCn Try.func41 rfl (K := (· < w.heap.size)) (fun _ h => h) (A := A) (n0 := 0) (b0 := 0) (rows := []) (hp := []) rfl (Nat.zero_le _) (fun k r h => by cases h) rfl (fun k r h => by cases h) rfl rfl (Nat.le_of_ble_eq_true rfl) ?_
    conv => whnf
    repeat (refine V_step T_ok GSCn rfl ?_; conv => whnf)
    repeat (any_goals (first
      | (refine V_step T_ok GSCn rfl ?_; conv => whnf)
      | (refine V_drawA T_ok GSCn mixed (by kernel_rfl) ?_; conv => whnf)
      | (refine bcond_split (fun hc => ?_) (fun hc => ?_) <;> (try simp only [decide_eq_true_eq, decide_eq_false_iff_not, Bool.not_eq_true', Bool.not_eq_false', Bool.and_eq_true, Bool.or_eq_true, Bool.and_eq_false_imp, Bool.or_eq_false_iff, ne_eq, Decidable.not_not] at hc) <;> conv => whnf)
      | (intro ysK hysK; have hysl := congrArg List.length hysK; (try simp only [List.length_set, List.length_append, List.length_cons, List.length_nil, List.length_take, List.length_drop, List.length_replicate] at hysl); conv => whnf)
      | (refine And.intro (by first | exact True.intro | (with_reducible assumption) | omega | (simp only [Rng]; omega) | exact Nat.le_of_ble_eq_true rfl | exact True.intro | exact Nat.le_of_ble_eq_true rfl | (refine ⟨by (try simp only [List.length_cons, List.length_nil]); omega, Int.le_trans (Int.mul_le_mul_of_nonneg_left (show (TInfo.bytes _ : Int) ≤ 64 from Int.ofNat_le.2 (Nat.le_of_ble_eq_true rfl)) (by omega)) (by (try simp only [List.length_cons, List.length_nil]); omega)⟩)) ?_; conv => whnf)))
    intro a ha l hl
    conv => whnf
    have hpd : (List.drop (α := Lf) a ysK) = popL n := by rw [hysK, ha]; exact pop_drop n
    have hpn := popL_len n
    have hps := popL_sat (n := n)
    have hyl : List.length (α := Lf) ysK = a + l := by rw [hysK, ha, hl]; exact pop_len n
    have hcI : cntI n = (((popL n).filter satB).length : Int) := rfl
    rw [hcI]
    clear hcI hysl hysK ha
    by_cases h0 : popN n = 0
    · rw [h0]
      generalize popL n = ws at *
      have hget : ∀ j, ysK.getD (a + j) lT.dflt = ws.getD j lT.dflt := fun j => by
        rw [← hpd, List.getD_eq_getElem?_getD, List.getD_eq_getElem?_getD, List.getElem?_drop]
      conv => whnf
      repeat (any_goals (first
        | (refine V_step T_ok GSCn rfl ?_; conv => whnf)
        | (refine V_drawA T_ok GSCn mixed (by kernel_rfl) ?_; conv => whnf)
        | (refine bcond_split (fun hc => ?_) (fun hc => ?_) <;> (try simp only [decide_eq_true_eq, decide_eq_false_iff_not, Bool.not_eq_true', Bool.not_eq_false', Bool.and_eq_true, Bool.or_eq_true, Bool.and_eq_false_imp, Bool.or_eq_false_iff, ne_eq, Decidable.not_not] at hc) <;> conv => whnf)
        | (intro ysK hysK; have hysl := congrArg List.length hysK; (try simp only [List.length_set, List.length_append, List.length_cons, List.length_nil, List.length_take, List.length_drop, List.length_replicate] at hysl); conv => whnf)
        | (refine And.intro (by first | exact True.intro | (with_reducible assumption) | omega | (simp only [Rng]; omega) | exact Nat.le_of_ble_eq_true rfl | exact True.intro | exact Nat.le_of_ble_eq_true rfl | (refine ⟨by (try simp only [List.length_cons, List.length_nil]); omega, Int.le_trans (Int.mul_le_mul_of_nonneg_left (show (TInfo.bytes _ : Int) ≤ 64 from Int.ofNat_le.2 (Nat.le_of_ble_eq_true rfl)) (by omega)) (by (try simp only [List.length_cons, List.length_nil]); omega)⟩)) ?_; conv => whnf)))
      refine V_loopH (γ := Nat × Nat) (fun g => g.1 ≤ l ∧ g.2 = ((ws.take g.1).filter satB).length ∧ g.2 ≤ g.1) (fun g => l - g.1)
        (fun g => [(6, .int .i64 g.2), (7, .int .i64 g.1)]) (fun _ => []) (fun _ => []) (0, 0) ⟨Nat.zero_le _, rfl, Nat.zero_le _⟩ ?_ ?_
      · conv => whnf
        refine ⟨?_, by (conv => whnf); repeat (first | exact True.intro | (refine And.intro rfl ?_; conv => whnf)), by (conv => whnf); repeat (first | exact True.intro | (refine And.intro (by first | rfl | (subst_vars; rfl)) ?_; conv => whnf)), rfl, rfl, rfl, rfl, rfl, rfl, rfl, Nat.le_of_ble_eq_true rfl, Nat.le_of_ble_eq_true rfl⟩
        conv => whnf
        repeat (first | exact True.intro | (refine And.intro (by first | rfl | ((conv => whnf); exact congrArg (AVal.int .i64) (by omega)) | ((conv => whnf); exact congrArg (AVal.int .i64) (by simp only [Int.natCast_add, Int.natCast_one]; omega))) ?_; conv => whnf))
      · rintro ⟨j, c⟩ ⟨h1, h2, h3⟩
        simp only at h1 h2 h3
        have hsj : (j : Int) < (l : Int) → SatR (ysK.getD (a + j) lT.dflt) := fun h => by rw [hget]; exact hps _ (getD_mem (by omega))
        conv => whnf
        refine vcCode_sound T_ok GSCn _ _ _ _ _ ?_
        conv => whnf
        repeat (refine V_step T_ok GSCn rfl ?_; conv => whnf)
        repeat (any_goals (first
          | (refine V_step T_ok GSCn rfl ?_; conv => whnf)
          | (refine V_drawA T_ok GSCn mixed (by kernel_rfl) ?_; conv => whnf)
          | (refine bcond_split (fun hc => ?_) (fun hc => ?_) <;> (try simp only [decide_eq_true_eq, decide_eq_false_iff_not, Bool.not_eq_true', Bool.not_eq_false', Bool.and_eq_true, Bool.or_eq_true, Bool.and_eq_false_imp, Bool.or_eq_false_iff, ne_eq, Decidable.not_not] at hc) <;> conv => whnf)
          | (intro ysK hysK; have hysl := congrArg List.length hysK; (try simp only [List.length_set, List.length_append, List.length_cons, List.length_nil, List.length_take, List.length_drop, List.length_replicate] at hysl); conv => whnf)
          | (refine And.intro (by first | (first | exact True.intro | omega | (simp only [Rng]; omega) | exact hsj (by assumption)) | exact True.intro | exact Nat.le_of_ble_eq_true rfl | (refine ⟨by (try simp only [List.length_cons, List.length_nil]); omega, Int.le_trans (Int.mul_le_mul_of_nonneg_left (show (TInfo.bytes _ : Int) ≤ 64 from Int.ofNat_le.2 (Nat.le_of_ble_eq_true rfl)) (by omega)) (by (try simp only [List.length_cons, List.length_nil]); omega)⟩)) ?_; conv => whnf)))
        · rename_i hc0
          have hw : satB (ws.getD j lT.dflt) = true := by rw [← hget]; exact hc
          refine ⟨(j + 1, c + 1), ⟨by simp only; omega, by rw [filter_stp (d := lT.dflt) (by omega), if_pos hw, List.length_append, ← h2]; rfl, by simp only; omega⟩, by simp only; omega, ?_⟩
          conv => whnf
          refine ⟨?_, by (conv => whnf); repeat (first | exact True.intro | (refine And.intro rfl ?_; conv => whnf)), by (conv => whnf); repeat (first | exact True.intro | (refine And.intro (by first | rfl | (subst_vars; rfl)) ?_; conv => whnf)), rfl, rfl, rfl, rfl, rfl, rfl, rfl, Nat.le_of_ble_eq_true rfl, Nat.le_of_ble_eq_true rfl⟩
          conv => whnf
          repeat (first | exact True.intro | (refine And.intro (by first | rfl | ((conv => whnf); exact congrArg (AVal.int .i64) (by omega)) | ((conv => whnf); exact congrArg (AVal.int .i64) (by simp only [Int.natCast_add, Int.natCast_one]; omega))) ?_; conv => whnf))
        · rename_i hc0
          have hw : satB (ws.getD j lT.dflt) = false := by rw [← hget]; exact hc
          refine ⟨(j + 1, c), ⟨by simp only; omega, by rw [filter_stp (d := lT.dflt) (by omega), if_neg (by rw [hw]; exact Bool.false_ne_true), List.length_append, ← h2]; rfl, by simp only; omega⟩, by simp only; omega, ?_⟩
          conv => whnf
          refine ⟨?_, by (conv => whnf); repeat (first | exact True.intro | (refine And.intro rfl ?_; conv => whnf)), by (conv => whnf); repeat (first | exact True.intro | (refine And.intro (by first | rfl | (subst_vars; rfl)) ?_; conv => whnf)), rfl, rfl, rfl, rfl, rfl, rfl, rfl, Nat.le_of_ble_eq_true rfl, Nat.le_of_ble_eq_true rfl⟩
          conv => whnf
          repeat (first | exact True.intro | (refine And.intro (by first | rfl | ((conv => whnf); exact congrArg (AVal.int .i64) (by omega)) | ((conv => whnf); exact congrArg (AVal.int .i64) (by simp only [Int.natCast_add, Int.natCast_one]; omega))) ?_; conv => whnf))
        · rw [List.take_of_length_le (by omega)] at h2
          exact leaf0 rfl (by rw [← h2]) rfl
    · have hb : ¬ (2 ≤ n ∧ n ≤ 8) := fun h => h0 (if_pos h)
      have hL : popL n = [] := if_neg hb
      rw [hL]
      repeat (any_goals (first
        | (refine V_step T_ok GSCn rfl ?_; conv => whnf)
        | (refine V_drawA T_ok GSCn mixed (by kernel_rfl) ?_; conv => whnf)
        | (refine bcond_split (fun hc => ?_) (fun hc => ?_) <;> (try simp only [decide_eq_true_eq, decide_eq_false_iff_not, Bool.not_eq_true', Bool.not_eq_false', Bool.and_eq_true, Bool.or_eq_true, Bool.and_eq_false_imp, Bool.or_eq_false_iff, ne_eq, Decidable.not_not] at hc) <;> conv => whnf)
        | (intro ysK hysK; have hysl := congrArg List.length hysK; (try simp only [List.length_set, List.length_append, List.length_cons, List.length_nil, List.length_take, List.length_drop, List.length_replicate] at hysl); conv => whnf)
        | (refine And.intro (by first | exact True.intro | (with_reducible assumption) | omega | (simp only [Rng]; omega) | exact Nat.le_of_ble_eq_true rfl | exact True.intro | exact Nat.le_of_ble_eq_true rfl | (refine ⟨by (try simp only [List.length_cons, List.length_nil]); omega, Int.le_trans (Int.mul_le_mul_of_nonneg_left (show (TInfo.bytes _ : Int) ≤ 64 from Int.ofNat_le.2 (Nat.le_of_ble_eq_true rfl)) (by omega)) (by (try simp only [List.length_cons, List.length_nil]); omega)⟩)) ?_; conv => whnf)))
      · exact leaf0 rfl rfl rfl
      · exact absurd hc h0
theorem lawCnt_ok : PCtrOk Try.prog 13 lawNC where
  enter := enter_ok Try.func13 (by kernel_rfl) rfl
  calls := by
    intro hg rg lr vals k h
    unfold lawNC at h
    split at h
    case h_2 => exact h.elim
    rename_i n
    obtain ⟨_, hk⟩ := h
    refine ⟨_, _, hk, fun A w _ _ => ?_⟩
    refine enter T_ok (GOk.cons sCnt_ok (GOk.cons cnt_ok .nil)) Try.func13 rfl (K := (· < w.heap.size)) (fun _ h => h) (A := A) (n0 := 0) (b0 := 0) (rows := []) (hp := []) rfl (Nat.zero_le _) (fun k r h => by cases h) rfl (fun k r h => by cases h) rfl rfl (Nat.le_of_ble_eq_true rfl) ?_
    conv => whnf
    repeat (refine V_step T_ok (GOk.cons sCnt_ok (GOk.cons cnt_ok .nil)) rfl ?_; conv => whnf)
    repeat (any_goals (first
      | (refine V_step T_ok (GOk.cons sCnt_ok (GOk.cons cnt_ok .nil)) rfl ?_; conv => whnf)
      | (refine V_drawA T_ok (GOk.cons sCnt_ok (GOk.cons cnt_ok .nil)) mixed (by kernel_rfl) ?_; conv => whnf)
      | (refine bcond_split (fun hc => ?_) (fun hc => ?_) <;> (try simp only [decide_eq_true_eq, decide_eq_false_iff_not, Bool.not_eq_true', Bool.not_eq_false', Bool.and_eq_true, Bool.or_eq_true, Bool.and_eq_false_imp, Bool.or_eq_false_iff, ne_eq, Decidable.not_not] at hc) <;> conv => whnf)
      | (intro ysK hysK; have hysl := congrArg List.length hysK; (try simp only [List.length_set, List.length_append, List.length_cons, List.length_nil, List.length_take, List.length_drop, List.length_replicate] at hysl); conv => whnf)
      | (refine And.intro (by first | exact True.intro | (with_reducible assumption) | omega | (simp only [Rng]; omega) | exact Nat.le_of_ble_eq_true rfl | exact True.intro | exact Nat.le_of_ble_eq_true rfl | (refine ⟨by (try simp only [List.length_cons, List.length_nil]); omega, Int.le_trans (Int.mul_le_mul_of_nonneg_left (show (TInfo.bytes _ : Int) ≤ 64 from Int.ofNat_le.2 (Nat.le_of_ble_eq_true rfl)) (by omega)) (by (try simp only [List.length_cons, List.length_nil]); omega)⟩)) ?_; conv => whnf)))
    all_goals first
      | exact leaf0 rfl rfl rfl
      | (exact absurd trivial hc)
      | (exact absurd rfl hc)
      | (simp at hc; done)
end Go.Proofs.Ytlplngafncobkab.Fw
