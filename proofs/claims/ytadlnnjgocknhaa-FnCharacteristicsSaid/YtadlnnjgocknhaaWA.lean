/- The law of characteristic polynomials, walked. -/
import Derived.Test.YtadlnnjgocknhaaW8
import Derived.Test.YtadlnnjgocknhaaW9
import Derived.Test.YtadlnnjgocknhaaW4
import Derived.Test.YtadlnnjgocknhaaU4
namespace Go.Proofs.Ytadlnnjgocknhaa.Fw
open Go Go.RowKit
set_option linter.unusedVariables false
set_option linter.unusedSimpArgs false
set_option maxRecDepth 100000
set_option maxHeartbeats 4000000
def bigC : PCtr := fun _ rg _ vals k => match vals with
  | [.row i] => rowC bT (rg i) fun xs => True ∧ k [] (.bool (decide (4096 < (List.length (α := Int) xs : Int))))
  | _ => False
theorem big_ok : PCtrOk Try.prog 18 bigC where
  enter := enter_ok Try.func18 (by kernel_rfl) rfl
  calls := by
    intro hg rg lr vals k h
    unfold bigC at h
    split at h
    case h_2 => exact h.elim
    rename_i i
    obtain ⟨e, own, xs, hi, h⟩ : ∃ e own, ∃ (xs : List Int), _ := rowC_inv h
    have hk := h.2
    refine ⟨_, _, hk, fun A w hB hR => ?_⟩
    refine enter T_okW .nil Try.func18 rfl (K := (· < w.heap.size)) (fun _ h => h) (A := A.pick [] [i]) (vals := [.row 0]) (n0 := 0) (b0 := 0) (rows := [some ⟨bT, e, false, xs⟩]) (hp := []) rfl (Nat.zero_le _) no_box rfl (one_row (hR i _ hi)) rfl rfl (Nat.le_of_ble_eq_true rfl) ?_
    conv => whnf
    repeat (refine V_step T_okW .nil rfl ?_; conv => whnf)
    repeat (any_goals (first
      | (refine V_step T_okW .nil rfl ?_; conv => whnf)
      | (refine V_drawA T_okW .nil mixed (by kernel_rfl) ?_; conv => whnf)
      | (refine bcond_split (fun hc => ?_) (fun hc => ?_) <;> (try simp only [decide_eq_true_eq, decide_eq_false_iff_not, Bool.not_eq_true', Bool.not_eq_false', Bool.and_eq_true, Bool.or_eq_true, Bool.and_eq_false_imp, Bool.or_eq_false_iff, ne_eq, Decidable.not_not] at hc) <;> conv => whnf)
      | (intro ysK hysK; have hysl := congrArg List.length hysK; (try simp only [List.length_set, List.length_append, List.length_cons, List.length_nil, List.length_take, List.length_drop, List.length_replicate] at hysl); conv => whnf)
      | (intro bK hbK; have hbl := congrArg ByteArray.size hbK; conv => whnf)
      | (intro sK hsK; conv => whnf)
      | (refine And.intro (by first | exact True.intro | (with_reducible assumption) | omega | (simp only [Rng]; omega) | exact Nat.le_of_ble_eq_true rfl | exact True.intro | exact ⟨rfl, True.intro, fun _ _ => rfl⟩ | exact Nat.le_of_ble_eq_true rfl | (refine ⟨by (try simp only [List.length_cons, List.length_nil]); omega, Int.le_trans (Int.mul_le_mul_of_nonneg_left (show (TInfo.bytes _ : Int) ≤ 64 from Int.ofNat_le.2 (Nat.le_of_ble_eq_true rfl)) (by omega)) (by (try simp only [List.length_cons, List.length_nil]); omega)⟩)) ?_; conv => whnf)))
    all_goals exact leaf0 rfl rfl rfl
def lawChC : PCtr := fun _ rg _ vals k => match vals with
  | [.row i] => rowC bT (rg i) fun code => Bts code ∧ k [] (.bool true)
  | _ => False
abbrev GLc := GOk.cons big_ok (GOk.rcons dCh_ok (GOk.cons co_ok (GOk.cons sCo_ok (GOk.cons likeI_ok (GOk.rcons dPp_ok (GOk.cons pp_ok (GOk.cons sPp_ok (GOk.cons pm_ok .nil))))))))
theorem lawCh_ok : PCtrOk Try.prog 5 lawChC where
  enter := enter_ok Try.func5 (by kernel_rfl) rfl
  calls := by
    intro hg rg lr vals k h
    unfold lawChC at h
    split at h
    case h_2 => exact h.elim
    rename_i i
    obtain ⟨e, own, code, hi, h⟩ : ∃ e own, ∃ (xs : List Int), _ := rowC_inv h
    obtain ⟨hb, hk⟩ := h
    refine ⟨_, _, hk, fun A w hB hR => ?_⟩
    refine enter T_okW GLc Try.func5 rfl (K := (· < w.heap.size)) (fun _ h => h) (A := A.pick [] [i]) (vals := [.row 0]) (n0 := 0) (b0 := 0) (rows := [some ⟨bT, e, false, code⟩]) (hp := []) rfl (Nat.zero_le _) no_box rfl (one_row (hR i _ hi)) rfl rfl (Nat.le_of_ble_eq_true rfl) ?_
    conv => whnf
    repeat (refine V_step T_okW GLc rfl ?_; conv => whnf)
    have z1 : ∀ L : List (List Int), chOk L → List.length (α := List Int) L ≤ 900 ∧ ∀ r ∈ L, shR r := fun L h => ⟨by have := h.1; omega, fun r hr => by have := h.2 r hr; unfold shR; omega⟩
    repeat (any_goals (first
      | (refine V_step T_okW GLc rfl ?_; conv => whnf)
      | (refine V_drawN T_okW GLc mixed (by kernel_rfl) ?_; conv => whnf)
      | (refine bcond_split (fun hc => ?_) (fun hc => ?_) <;> (try simp only [decide_eq_true_eq, decide_eq_false_iff_not, Bool.not_eq_true', Bool.not_eq_false', Bool.and_eq_true, Bool.or_eq_true, Bool.and_eq_false_imp, Bool.or_eq_false_iff, ne_eq, Decidable.not_not] at hc) <;> conv => whnf)
      | (intro ysK hysK; have hysl := congrArg List.length hysK; (try simp only [List.length_set, List.length_append, List.length_cons, List.length_nil, List.length_take, List.length_drop, List.length_replicate] at hysl); conv => whnf)
      | (intro bK hbK; have hbl := congrArg ByteArray.size hbK; conv => whnf)
      | (intro sK hsK; conv => whnf)
      | (refine And.intro (by first | (first | exact True.intro | exact hb | exact z1 _ (by assumption)) | exact True.intro | exact ⟨rfl, True.intro, fun _ _ => rfl⟩ | exact Nat.le_of_ble_eq_true rfl | (refine ⟨by (try simp only [List.length_cons, List.length_nil]); omega, Int.le_trans (Int.mul_le_mul_of_nonneg_left (show (TInfo.bytes _ : Int) ≤ 64 from Int.ofNat_le.2 (Nat.le_of_ble_eq_true rfl)) (by omega)) (by (try simp only [List.length_cons, List.length_nil]); omega)⟩)) ?_; conv => whnf)))
    · exact leaf0 rfl rfl rfl
    · rename_i x hx
      exact absurd (congrArg Prod.snd (hx.trans hsK.symm)) hc
    rename_i L hL x hx
    have hx : x = coR L := hx
    have hsK : sK = coR L := hsK
    have hxs : x = sK := hx.trans hsK.symm
    subst hxs
    obtain ⟨P, q⟩ := x
    clear hsK
    have hz := z1 L hL
    have hPl : List.length (α := Int) P ≤ 1000 := by
      have := coR_len L hz.1
      rw [← hx] at this; exact this
    have hz2 : (List.length (α := Int) P ≤ 100000 ∧ List.length (α := Int) P ≤ 100000) := ⟨by omega, by omega⟩
    have hlk : ∀ x : List Int, eqLI x x = true := fun x => decide_eq_true rfl
    repeat (any_goals (first
      | (refine V_step T_okW GLc rfl ?_; conv => whnf)
      | (refine V_drawN T_okW GLc mixed (by kernel_rfl) ?_; conv => whnf)
      | (refine bcond_split (fun hc => ?_) (fun hc => ?_) <;> (try simp only [decide_eq_true_eq, decide_eq_false_iff_not, Bool.not_eq_true', Bool.not_eq_false', Bool.and_eq_true, Bool.or_eq_true, Bool.and_eq_false_imp, Bool.or_eq_false_iff, ne_eq, Decidable.not_not] at hc) <;> conv => whnf)
      | (intro ysK hysK; have hysl := congrArg List.length hysK; (try simp only [List.length_set, List.length_append, List.length_cons, List.length_nil, List.length_take, List.length_drop, List.length_replicate] at hysl); conv => whnf)
      | (intro bK hbK; have hbl := congrArg ByteArray.size hbK; conv => whnf)
      | (intro sK hsK; conv => whnf)
      | (refine And.intro (by first | (first | exact True.intro | exact hb | with_reducible exact hz | exact hz2) | exact True.intro | exact ⟨rfl, True.intro, fun _ _ => rfl⟩ | exact Nat.le_of_ble_eq_true rfl | (refine ⟨by (try simp only [List.length_cons, List.length_nil]); omega, Int.le_trans (Int.mul_le_mul_of_nonneg_left (show (TInfo.bytes _ : Int) ≤ 64 from Int.ofNat_le.2 (Nat.le_of_ble_eq_true rfl)) (by omega)) (by (try simp only [List.length_cons, List.length_nil]); omega)⟩)) ?_; conv => whnf)))
    · rw [hlk] at hc; cases hc
    · exact absurd trivial hc
    rename_i y1 hy1 hl1
    obtain ⟨n, d⟩ := sK
    have hy1 : y1 = ppO (n, d) := hy1
    have hysK : ysK = ppO (n, d) := hysK
    clear hysl hl1
    subst hy1 hysK
    have hz3 : (List.length (α := Int) (ppO (n, d)) ≤ 100000 ∧ List.length (α := Int) (ppO (n, d)) ≤ 100000) := by
      have := ppO_len (n, d)
      exact ⟨by omega, by omega⟩
    have hz4 := pmO_sh (n, d)
    have hz5 : ∀ ys, ys = pmO (n, d) → (List.length (α := List Int) ys ≤ 900 ∧ ∀ r ∈ ys, shR r) := fun ys h => by subst h; exact hz4
    have hnz : q ≠ 0 → List.length (α := Int) P = 0 := fun h => by
      rcases coR_case L with h1 | h1
      · rw [← hx] at h1; rw [show P = [] from h1.1]; rfl
      · rw [← hx] at h1; exact absurd (congrArg Prod.snd h1.1) h
    have hqf : q = 0 → P = chP L ∧ (∀ r ∈ L, r.length = L.length) ∧ List.length (α := List Int) L ≤ 21 ∧ ∀ r ∈ L, Nn 2 r := fun h => by
      rcases coR_case L with h1 | h1
      · rw [← hx] at h1; exact absurd h h1.2
      · rw [← hx] at h1; exact ⟨congrArg Prod.fst h1.1, h1.2⟩
    repeat (any_goals (first
      | (refine V_step T_okW GLc rfl ?_; conv => whnf)
      | (refine V_drawN T_okW GLc mixed (by kernel_rfl) ?_; conv => whnf)
      | (refine bcond_split (fun hc => ?_) (fun hc => ?_) <;> (try simp only [decide_eq_true_eq, decide_eq_false_iff_not, Bool.not_eq_true', Bool.not_eq_false', Bool.and_eq_true, Bool.or_eq_true, Bool.and_eq_false_imp, Bool.or_eq_false_iff, ne_eq, Decidable.not_not] at hc) <;> conv => whnf)
      | (intro ysK hysK; have hysl := congrArg List.length hysK; (try simp only [List.length_set, List.length_append, List.length_cons, List.length_nil, List.length_take, List.length_drop, List.length_replicate] at hysl); conv => whnf)
      | (intro bK hbK; have hbl := congrArg ByteArray.size hbK; conv => whnf)
      | (intro sK hsK; conv => whnf)
      | (refine And.intro (by first | (first | exact True.intro | exact hb | exact hz3 | exact hz5 _ (by assumption)) | exact True.intro | exact ⟨rfl, True.intro, fun _ _ => rfl⟩ | exact Nat.le_of_ble_eq_true rfl | (refine ⟨by (try simp only [List.length_cons, List.length_nil]); omega, Int.le_trans (Int.mul_le_mul_of_nonneg_left (show (TInfo.bytes _ : Int) ≤ 64 from Int.ofNat_le.2 (Nat.le_of_ble_eq_true rfl)) (by omega)) (by (try simp only [List.length_cons, List.length_nil]); omega)⟩)) ?_; conv => whnf)))
    · rw [hlk] at hc; cases hc
    · exact absurd (by assumption) hc
    · rename_i h0 _
      have h0 : orbN8 (n, d) = 0 := h0
      have e1 : ysK = pmO (n, d) := hysK
      have e2 : sK = coR ysK := hsK
      rw [e1, coR_mat h0] at e2
      rw [e2] at hc; exact absurd rfl hc
    · rename_i h0 _
      have h0 : orbN8 (n, d) = 0 := h0
      have e1 : ysK = pmO (n, d) := hysK
      have e2 : sK = coR ysK := hsK
      rw [e1, coR_mat h0] at e2
      subst e2
      repeat (any_goals (first
        | (refine V_step T_okW GLc rfl ?_; conv => whnf)
        | (refine V_drawN T_okW GLc mixed (by kernel_rfl) ?_; conv => whnf)
        | (refine bcond_split (fun hc => ?_) (fun hc => ?_) <;> (try simp only [decide_eq_true_eq, decide_eq_false_iff_not, Bool.not_eq_true', Bool.not_eq_false', Bool.and_eq_true, Bool.or_eq_true, Bool.and_eq_false_imp, Bool.or_eq_false_iff, ne_eq, Decidable.not_not] at hc) <;> conv => whnf)
        | (intro ysK hysK; have hysl := congrArg List.length hysK; (try simp only [List.length_set, List.length_append, List.length_cons, List.length_nil, List.length_take, List.length_drop, List.length_replicate] at hysl); conv => whnf)
        | (intro bK hbK; have hbl := congrArg ByteArray.size hbK; conv => whnf)
        | (intro sK hsK; conv => whnf)
        | (refine And.intro (by first | (first | exact True.intro | exact hz3) | exact True.intro | exact ⟨rfl, True.intro, fun _ _ => rfl⟩ | exact Nat.le_of_ble_eq_true rfl | (refine ⟨by (try simp only [List.length_cons, List.length_nil]); omega, Int.le_trans (Int.mul_le_mul_of_nonneg_left (show (TInfo.bytes _ : Int) ≤ 64 from Int.ofNat_le.2 (Nat.le_of_ble_eq_true rfl)) (by omega)) (by (try simp only [List.length_cons, List.length_nil]); omega)⟩)) ?_; conv => whnf)))
      · rw [hlk] at hc; cases hc
      · exact leaf0 rfl (congrArg AVal.bool (decide_eq_true (by have := hnz hc; show (List.length (α := Int) P : Int) = 0; omega))) rfl
      · skip
        have hq : q = 0 := by assumption
        obtain ⟨hP, hsq, h21, hNn⟩ := hqf hq
        have hP1 : (List.length (α := Int) P : Int) = (List.length (α := List Int) L : Int) + 1 := by rw [hP, chP_len]; omega
        have hP2 : List.length (α := Int) P = List.length (α := List Int) L + 1 := by omega
        have hPlast : List.getD (α := Int) P (Int.toNat (List.length (α := List Int) L : Int)) 0 = 1 := by
          show List.getD (α := Int) P (List.length (α := List Int) L) 0 = 1
          rw [hP]; exact chP_last L
        have hPlast2 : ∀ z, z = Int.toNat (List.length (α := List Int) L : Int) → List.getD (α := Int) P z 0 = 1 := fun z h => by rw [h]; exact hPlast
        have hrow0 : ∀ g : Nat, (g : Int) < (List.length (α := List Int) L : Int) → List.length (α := Int) (@List.getD (List Int) L g []) = List.length (α := List Int) L := fun g h => hsq _ (getD_mem (by omega))
        have hL22 : List.length (α := List Int) L ≤ 21 := h21
        have hRL : Rng .i64 ((List.length (α := List Int) L : Int) + 1) := by simp only [Rng]; omega
        have hix : 0 ≤ (List.length (α := List Int) L : Int) ∧ (List.length (α := List Int) L : Int) < (List.length (α := Int) P : Int) := ⟨by omega, by omega⟩
        have hix2 : Int.toNat (List.length (α := List Int) L : Int) < List.length (α := Int) P := by omega
        clear hx hlk hnz hqf hz hz2 hz3 hz4 hz5 z1
        repeat (any_goals (first
          | (refine V_step T_okW GLc rfl ?_; conv => whnf)
          | (refine V_drawN T_okW GLc mixed (by kernel_rfl) ?_; conv => whnf)
          | (refine bcond_split (fun hc => ?_) (fun hc => ?_) <;> (try simp only [decide_eq_true_eq, decide_eq_false_iff_not, Bool.not_eq_true', Bool.not_eq_false', Bool.and_eq_true, Bool.or_eq_true, Bool.and_eq_false_imp, Bool.or_eq_false_iff, ne_eq, Decidable.not_not] at hc) <;> conv => whnf)
          | (intro ysK hysK; have hysl := congrArg List.length hysK; (try simp only [List.length_set, List.length_append, List.length_cons, List.length_nil, List.length_take, List.length_drop, List.length_replicate] at hysl); conv => whnf)
          | (intro bK hbK; have hbl := congrArg ByteArray.size hbK; conv => whnf)
          | (intro sK hsK; conv => whnf)
          | (refine And.intro (by first | (first | exact True.intro | with_reducible exact hRL | exact hix | exact hix2 | omega) | exact True.intro | exact ⟨rfl, True.intro, fun _ _ => rfl⟩ | exact Nat.le_of_ble_eq_true rfl | (refine ⟨by (try simp only [List.length_cons, List.length_nil]); omega, Int.le_trans (Int.mul_le_mul_of_nonneg_left (show (TInfo.bytes _ : Int) ≤ 64 from Int.ofNat_le.2 (Nat.le_of_ble_eq_true rfl)) (by omega)) (by (try simp only [List.length_cons, List.length_nil]); omega)⟩)) ?_; conv => whnf)))
        · exact absurd hP1 hc
        · exact absurd hPlast hc
        refine V_loopH (γ := Nat) (fun g => g ≤ List.length (α := List Int) L) (fun g => List.length (α := List Int) L - g)
          (fun g => [(18, .int .i64 (trW L g)), (19, .int .i64 g)]) (fun _ => []) (fun _ => []) 0 (Nat.zero_le _) ?_ ?_
        · clear hNn hrow0 hsq
          conv => whnf
          refine ⟨?_, by (conv => whnf); repeat (first | exact True.intro | (refine And.intro rfl ?_; conv => whnf)), by (conv => whnf); repeat (first | exact True.intro | (refine And.intro (by first | rfl | (subst_vars; rfl)) ?_; conv => whnf)), rfl, rfl, rfl, rfl, rfl, rfl, rfl, Nat.le_of_ble_eq_true rfl, Nat.le_of_ble_eq_true rfl⟩
          conv => whnf
          repeat (first | exact True.intro | (refine And.intro (by first | rfl | ((conv => whnf); exact congrArg (AVal.int .i64) (by omega)) | ((conv => whnf); exact congrArg (AVal.int .i64) (by simp only [Int.natCast_add, Int.natCast_one]; omega)) | ((conv => whnf); exact congrArg (AVal.irow _) (by first | omega | assumption | (simp only; omega)))) ?_; conv => whnf))
        rintro g h1
        have hrow := hrow0 g
        conv => whnf
        refine vcCode_sound T_okW GLc _ _ _ _ _ ?_
        conv => whnf
        repeat (refine V_step T_okW GLc rfl ?_; conv => whnf)
        repeat (any_goals (first
          | (refine V_step T_okW GLc rfl ?_; conv => whnf)
          | (refine V_drawN T_okW GLc mixed (by kernel_rfl) ?_; conv => whnf)
          | (refine bcond_split (fun hc => ?_) (fun hc => ?_) <;> (try simp only [decide_eq_true_eq, decide_eq_false_iff_not, Bool.not_eq_true', Bool.not_eq_false', Bool.and_eq_true, Bool.or_eq_true, Bool.and_eq_false_imp, Bool.or_eq_false_iff, ne_eq, Decidable.not_not] at hc) <;> conv => whnf)
          | (intro ysK hysK; have hysl := congrArg List.length hysK; (try simp only [List.length_set, List.length_append, List.length_cons, List.length_nil, List.length_take, List.length_drop, List.length_replicate] at hysl); conv => whnf)
          | (intro bK hbK; have hbl := congrArg ByteArray.size hbK; conv => whnf)
          | (intro sK hsK; conv => whnf)
          | (refine And.intro (by first | (first | exact True.intro | omega | (have q := hrow (by assumption); simp only [Int.toNat_natCast]; omega) | (simp only [Rng]; omega)) | exact True.intro | exact ⟨rfl, True.intro, fun _ _ => rfl⟩ | exact Nat.le_of_ble_eq_true rfl | (refine ⟨by (try simp only [List.length_cons, List.length_nil]); omega, Int.le_trans (Int.mul_le_mul_of_nonneg_left (show (TInfo.bytes _ : Int) ≤ 64 from Int.ofNat_le.2 (Nat.le_of_ble_eq_true rfl)) (by omega)) (by (try simp only [List.length_cons, List.length_nil]); omega)⟩)) ?_; conv => whnf)))
        · refine ⟨g + 1, by omega, by omega, ?_⟩
          clear hNn hrow0 hrow hsq
          conv => whnf
          refine ⟨?_, by (conv => whnf); repeat (first | exact True.intro | (refine And.intro rfl ?_; conv => whnf)), by (conv => whnf); repeat (first | exact True.intro | (refine And.intro (by first | rfl | (subst_vars; rfl)) ?_; conv => whnf)), rfl, rfl, rfl, rfl, rfl, rfl, rfl, Nat.le_of_ble_eq_true rfl, Nat.le_of_ble_eq_true rfl⟩
          conv => whnf
          repeat (first | exact True.intro | (refine And.intro (by first | rfl | ((conv => whnf); exact congrArg (AVal.int .i64) (by omega)) | ((conv => whnf); exact congrArg (AVal.int .i64) (by simp only [Int.natCast_add, Int.natCast_one]; omega)) | ((conv => whnf); exact congrArg (AVal.irow _) (by first | omega | assumption | (simp only; omega)))) ?_; conv => whnf))
        · have h0 : 0 < (List.length (α := List Int) L : Int) := by assumption
          have hg : g = List.length (α := List Int) L := by
            have hh : ¬ (g : Int) < (List.length (α := List Int) L : Int) := by assumption
            omega
          refine absurd ?_ hc
          have e9 : Int.toNat ((List.length (α := List Int) L : Int) - 1) = List.length (α := List Int) L - 1 := by omega
          show List.getD (α := Int) P (Int.toNat ((List.length (α := List Int) L : Int) - 1)) 0 = IntKind.i64.wrap (-trW L g)
          rw [e9, hg, hP]
          exact chP_tr hsq h21 hNn (by omega)
        · exact leaf0 rfl rfl rfl
        · have hS : Sml L := ⟨by omega, hsq, hNn⟩
          have hmk : (0 ≤ (List.length (α := List Int) L : Int) ∧ (List.length (α := List Int) L : Int) = (List.length (α := List Int) L : Int) ∧ (ti64w.bytes : Int) * (List.length (α := List Int) L : Int) ≤ 281474976710656 ∧ (List.length (α := List Int) L : Int) ≤ 9223372036854775807) := by
            refine ⟨by omega, rfl, ?_, by omega⟩
            show (8 : Int) * (List.length (α := List Int) L : Int) ≤ _
            omega
          have hrep : List.length (α := Int) (List.replicate (Int.toNat (List.length (α := List Int) L : Int)) (0 : Int)) = List.length (α := List Int) L := by rw [List.length_replicate]; omega
          have hrp2 : List.replicate (Int.toNat (List.length (α := List Int) L : Int)) (0 : Int) = List.replicate (List.length (α := List Int) L) 0 := congrArg (fun z => List.replicate z (0 : Int)) (by omega)
          clear hNn hsq hrow
          refine V_loopH (γ := Nat) (fun i => i ≤ List.length (α := List Int) L) (fun i => List.length (α := List Int) L - i)
            (fun i => [(20, .int .i64 i)]) (fun _ => []) (fun _ => []) 0 (Nat.zero_le _) ?_ ?_
          · clear hmk hrep hrp2 hS
            conv => whnf
            refine ⟨?_, by (conv => whnf); repeat (first | exact True.intro | (refine And.intro rfl ?_; conv => whnf)), by (conv => whnf); repeat (first | exact True.intro | (refine And.intro (by first | rfl | (subst_vars; rfl)) ?_; conv => whnf)), rfl, rfl, rfl, rfl, rfl, rfl, rfl, Nat.le_of_ble_eq_true rfl, Nat.le_of_ble_eq_true rfl⟩
            conv => whnf
            repeat (first | exact True.intro | (refine And.intro (by first | rfl | ((conv => whnf); exact congrArg (AVal.int .i64) (by omega)) | ((conv => whnf); exact congrArg (AVal.int .i64) (by simp only [Int.natCast_add, Int.natCast_one]; omega)) | ((conv => whnf); exact congrArg (AVal.irow _) (by first | omega | assumption | (simp only; omega)))) ?_; conv => whnf))
          rintro i i1
          have hi1 : (i : Int) < (List.length (α := List Int) L : Int) → (0 ≤ (i : Int) ∧ (i : Int) < (List.length (α := Int) (List.replicate (Int.toNat (List.length (α := List Int) L : Int)) (0 : Int)) : Int)) := fun h => by rw [hrep]; exact ⟨by omega, h⟩
          have hi2 : (i : Int) < (List.length (α := List Int) L : Int) → Int.toNat (i : Int) < List.length (α := Int) (List.replicate (Int.toNat (List.length (α := List Int) L : Int)) (0 : Int)) := fun h => by rw [hrep]; omega
          conv => whnf
          refine vcCode_sound T_okW GLc _ _ _ _ _ ?_
          conv => whnf
          repeat (refine V_step T_okW GLc rfl ?_; conv => whnf)
          repeat (any_goals (first
            | (refine V_step T_okW GLc rfl ?_; conv => whnf)
            | (refine V_drawN T_okW GLc mixed (by kernel_rfl) ?_; conv => whnf)
            | (refine bcond_split (fun hc => ?_) (fun hc => ?_) <;> (try simp only [decide_eq_true_eq, decide_eq_false_iff_not, Bool.not_eq_true', Bool.not_eq_false', Bool.and_eq_true, Bool.or_eq_true, Bool.and_eq_false_imp, Bool.or_eq_false_iff, ne_eq, Decidable.not_not] at hc) <;> conv => whnf)
            | (intro ysK hysK; have hysl := congrArg List.length hysK; (try simp only [List.length_set, List.length_append, List.length_cons, List.length_nil, List.length_take, List.length_drop, List.length_replicate] at hysl); conv => whnf)
            | (intro bK hbK; have hbl := congrArg ByteArray.size hbK; conv => whnf)
            | (intro sK hsK; conv => whnf)
            | (refine And.intro (by first | (first | exact True.intro | with_reducible exact hmk | exact hi1 (by assumption) | exact hi2 (by assumption) | omega | (simp only [Rng]; omega)) | exact True.intro | exact ⟨rfl, True.intro, fun _ _ => rfl⟩ | exact Nat.le_of_ble_eq_true rfl | (refine ⟨by (try simp only [List.length_cons, List.length_nil]); omega, Int.le_trans (Int.mul_le_mul_of_nonneg_left (show (TInfo.bytes _ : Int) ≤ 64 from Int.ofNat_le.2 (Nat.le_of_ble_eq_true rfl)) (by omega)) (by (try simp only [List.length_cons, List.length_nil]); omega)⟩)) ?_; conv => whnf)))
          · have hiR : i < List.length (α := List Int) L := by
              have hc : (i : Int) < (List.length (α := List Int) L : Int) := by assumption
              omega
            have hY : ysK = mk9 (rw9 L i 0) (List.length (α := List Int) L) := by
              rw [hysK]
              show (List.replicate (Int.toNat (List.length (α := List Int) L : Int)) (0 : Int)).set i 1 = _
              rw [hrp2, mk9_unit]
              exact mk9_congr fun s _ => (rw9_zero L i s).symm
            have hT : List.replicate (Int.toNat (List.length (α := List Int) L : Int)) (0 : Int) = mk9 (to9 L i 0) (List.length (α := List Int) L) := by
              rw [hrp2, mk9_zero]
              exact mk9_congr fun s _ => (to9_zero L i s).symm
            clear hysK hysl hi1 hi2
            refine V_loopH (γ := Nat × List Int × List Int) (fun g => g.1 ≤ List.length (α := List Int) L + 1 ∧ g.2.1 = mk9 (rw9 L i g.1) (List.length (α := List Int) L) ∧ g.2.2 = mk9 (to9 L i g.1) (List.length (α := List Int) L)) (fun g => List.length (α := List Int) L + 1 - g.1)
              (fun g => [(21, .row 8), (22, .row 9), (23, .int .i64 g.1), (149, .junk), (152, .junk), (154, .junk)]) (fun _ => []) (fun g => [(8, some ⟨iT, 2, true, g.2.1⟩), (9, some ⟨iT, 2, true, g.2.2⟩)]) (0, ysK, List.replicate (Int.toNat (List.length (α := List Int) L : Int)) (0 : Int)) ⟨Nat.zero_le _, hY, hT⟩ ?_ ?_
            · clear hmk hrep hrp2 hS hY hT
              conv => whnf
              refine ⟨?_, by (conv => whnf); repeat (first | exact True.intro | (refine And.intro rfl ?_; conv => whnf)), by (conv => whnf); repeat (first | exact True.intro | (refine And.intro (by first | rfl | (subst_vars; rfl)) ?_; conv => whnf)), rfl, rfl, rfl, rfl, rfl, rfl, rfl, Nat.le_of_ble_eq_true rfl, Nat.le_of_ble_eq_true rfl⟩
              conv => whnf
              repeat (first | exact True.intro | (refine And.intro (by first | rfl | ((conv => whnf); exact congrArg (AVal.int .i64) (by omega)) | ((conv => whnf); exact congrArg (AVal.int .i64) (by simp only [Int.natCast_add, Int.natCast_one]; omega)) | ((conv => whnf); exact congrArg (AVal.irow _) (by first | omega | assumption | (simp only; omega)))) ?_; conv => whnf))
            · rintro ⟨k, ro, tt⟩ ⟨k1, k2, k3⟩
              simp only at k1 k2 k3
              have hro : List.length (α := Int) ro = List.length (α := List Int) L := by rw [k2, mk9_len]
              have htt : List.length (α := Int) tt = List.length (α := List Int) L := by rw [k3, mk9_len]
              conv => whnf
              refine vcCode_sound T_okW GLc _ _ _ _ _ ?_
              conv => whnf
              repeat (refine V_step T_okW GLc rfl ?_; conv => whnf)
              repeat (any_goals (first
                | (refine V_step T_okW GLc rfl ?_; conv => whnf)
                | (refine V_drawN T_okW GLc mixed (by kernel_rfl) ?_; conv => whnf)
                | (refine bcond_split (fun hc => ?_) (fun hc => ?_) <;> (try simp only [decide_eq_true_eq, decide_eq_false_iff_not, Bool.not_eq_true', Bool.not_eq_false', Bool.and_eq_true, Bool.or_eq_true, Bool.and_eq_false_imp, Bool.or_eq_false_iff, ne_eq, Decidable.not_not] at hc) <;> conv => whnf)
                | (intro ysK hysK; have hysl := congrArg List.length hysK; (try simp only [List.length_set, List.length_append, List.length_cons, List.length_nil, List.length_take, List.length_drop, List.length_replicate] at hysl); conv => whnf)
                | (intro bK hbK; have hbl := congrArg ByteArray.size hbK; conv => whnf)
                | (intro sK hsK; conv => whnf)
                | (refine And.intro (by first | (first | exact True.intro | with_reducible exact hmk | omega | (simp only [Rng]; omega)) | exact True.intro | exact ⟨rfl, True.intro, fun _ _ => rfl⟩ | exact Nat.le_of_ble_eq_true rfl | (refine ⟨by (try simp only [List.length_cons, List.length_nil]); omega, Int.le_trans (Int.mul_le_mul_of_nonneg_left (show (TInfo.bytes _ : Int) ≤ 64 from Int.ofNat_le.2 (Nat.le_of_ble_eq_true rfl)) (by omega)) (by (try simp only [List.length_cons, List.length_nil]); omega)⟩)) ?_; conv => whnf)))
              · have hkR : k ≤ List.length (α := List Int) L := by
                  have hc : (k : Int) ≤ (List.length (α := List Int) L : Int) := by assumption
                  omega
                have hN0 : List.replicate (Int.toNat (List.length (α := List Int) L : Int)) (0 : Int) = mk9 (nx9 L i k 0) (List.length (α := List Int) L) := by
                  rw [hrp2, mk9_zero]
                  exact mk9_congr fun s _ => (nx9_zero L i k s).symm
                have hT0 : tt = mix9 (to9 L i k) (to9 L i (k + 1)) (List.length (α := List Int) L) 0 := by rw [mix9_zero]; exact k3
                have hroG : ∀ p : Nat, p < List.length (α := List Int) L → ro.getD p 0 = rw9 L i k p := fun p h => by rw [k2]; exact mk9_get h
                refine V_loopH (γ := Nat × List Int × List Int) (fun g => g.1 ≤ List.length (α := List Int) L ∧ g.2.1 = mix9 (to9 L i k) (to9 L i (k + 1)) (List.length (α := List Int) L) g.1 ∧ g.2.2 = mk9 (nx9 L i k g.1) (List.length (α := List Int) L)) (fun g => List.length (α := List Int) L - g.1)
                  (fun g => [(25, .int .i64 g.1)]) (fun _ => []) (fun g => [(9, some ⟨iT, 2, true, g.2.1⟩), (10, some ⟨iT, 2, true, g.2.2⟩)]) (0, tt, List.replicate (Int.toNat (List.length (α := List Int) L : Int)) (0 : Int)) ⟨Nat.zero_le _, hT0, hN0⟩ ?_ ?_
                · clear hmk hrep hrp2 hS hY hT hroG hN0 hT0
                  conv => whnf
                  refine ⟨?_, by (conv => whnf); repeat (first | exact True.intro | (refine And.intro rfl ?_; conv => whnf)), by (conv => whnf); repeat (first | exact True.intro | (refine And.intro (by first | rfl | (subst_vars; rfl)) ?_; conv => whnf)), rfl, rfl, rfl, rfl, rfl, rfl, rfl, Nat.le_of_ble_eq_true rfl, Nat.le_of_ble_eq_true rfl⟩
                  conv => whnf
                  repeat (first | exact True.intro | (refine And.intro (by first | rfl | ((conv => whnf); exact congrArg (AVal.int .i64) (by omega)) | ((conv => whnf); exact congrArg (AVal.int .i64) (by simp only [Int.natCast_add, Int.natCast_one]; omega)) | ((conv => whnf); exact congrArg (AVal.irow _) (by first | omega | assumption | (simp only; omega)))) ?_; conv => whnf))
                · rintro ⟨p, t2, nx⟩ ⟨p1, p2, p3⟩
                  simp only at p1 p2 p3
                  have ht2 : List.length (α := Int) t2 = List.length (α := List Int) L := by rw [p2, mix9_len]
                  have hnx : List.length (α := Int) nx = List.length (α := List Int) L := by rw [p3, mk9_len]
                  have s1 : (p : Int) < (List.length (α := List Int) L : Int) → (0 ≤ (p : Int) ∧ (p : Int) < (List.length (α := Int) t2 : Int)) := fun h => ⟨by omega, by omega⟩
                  have s2 : (p : Int) < (List.length (α := List Int) L : Int) → Int.toNat (p : Int) < List.length (α := Int) t2 := fun h => by omega
                  have s3 : 0 ≤ (k : Int) ∧ (k : Int) < (List.length (α := Int) P : Int) := ⟨by omega, by omega⟩
                  have s4 : Int.toNat (k : Int) < List.length (α := Int) P := by omega
                  have s5 : (p : Int) < (List.length (α := List Int) L : Int) → (0 ≤ (p : Int) ∧ (p : Int) < (List.length (α := Int) ro : Int)) := fun h => ⟨by omega, by omega⟩
                  have s6 : (p : Int) < (List.length (α := List Int) L : Int) → Int.toNat (p : Int) < List.length (α := Int) ro := fun h => by omega
                  conv => whnf
                  refine vcCode_sound T_okW GLc _ _ _ _ _ ?_
                  conv => whnf
                  repeat (refine V_step T_okW GLc rfl ?_; conv => whnf)
                  repeat (any_goals (first
                    | (refine V_step T_okW GLc rfl ?_; conv => whnf)
                    | (refine V_drawN T_okW GLc mixed (by kernel_rfl) ?_; conv => whnf)
                    | (refine bcond_split (fun hc => ?_) (fun hc => ?_) <;> (try simp only [decide_eq_true_eq, decide_eq_false_iff_not, Bool.not_eq_true', Bool.not_eq_false', Bool.and_eq_true, Bool.or_eq_true, Bool.and_eq_false_imp, Bool.or_eq_false_iff, ne_eq, Decidable.not_not] at hc) <;> conv => whnf)
                    | (intro ysK hysK; have hysl := congrArg List.length hysK; (try simp only [List.length_set, List.length_append, List.length_cons, List.length_nil, List.length_take, List.length_drop, List.length_replicate] at hysl); conv => whnf)
                    | (intro bK hbK; have hbl := congrArg ByteArray.size hbK; conv => whnf)
                    | (intro sK hsK; conv => whnf)
                    | (refine And.intro (by first | (first | exact True.intro | exact s1 (by assumption) | exact s2 (by assumption) | exact s3 | exact s4 | exact s5 (by assumption) | exact s6 (by assumption) | omega | (simp only [Rng]; omega)) | exact True.intro | exact ⟨rfl, True.intro, fun _ _ => rfl⟩ | exact Nat.le_of_ble_eq_true rfl | (refine ⟨by (try simp only [List.length_cons, List.length_nil]); omega, Int.le_trans (Int.mul_le_mul_of_nonneg_left (show (TInfo.bytes _ : Int) ≤ 64 from Int.ofNat_le.2 (Nat.le_of_ble_eq_true rfl)) (by omega)) (by (try simp only [List.length_cons, List.length_nil]); omega)⟩)) ?_; conv => whnf)))
                  · have hpR : p < List.length (α := List Int) L := by
                      have hc : (p : Int) < (List.length (α := List Int) L : Int) := by assumption
                      omega
                    have hY2 : ysK = mix9 (to9 L i k) (to9 L i (k + 1)) (List.length (α := List Int) L) (p + 1) := by
                      have e1 : List.getD (α := Int) t2 p 0 = to9 L i k p := by rw [p2]; exact mix9_get hpR
                      have e2 : List.getD (α := Int) ro p 0 = rw9 L i k p := hroG p hpR
                      have e3 : ysK = t2.set p (wr (List.getD (α := Int) t2 p 0 + wr (List.getD (α := Int) P k 0 * List.getD (α := Int) ro p 0))) := hysK
                      rw [e3, e1, e2, hP, to9_step, p2]
                      exact mix9_step hpR
                    have hM0 : nx = mix9 (nx9 L i k p) (nx9 L i k (p + 1)) (List.length (α := List Int) L) 0 := by rw [mix9_zero]; exact p3
                    have hYl : List.length (α := Int) ysK = List.length (α := List Int) L := by rw [hY2, mix9_len]
                    have e8 := hroG p hpR
                    have e9 := hrow0 p
                    clear hysK hysl s1 s2 s3 s4 s5 s6
                    refine V_loopH (γ := Nat × List Int) (fun g => g.1 ≤ List.length (α := List Int) L ∧ g.2 = mix9 (nx9 L i k p) (nx9 L i k (p + 1)) (List.length (α := List Int) L) g.1) (fun g => List.length (α := List Int) L - g.1)
                      (fun g => [(26, .int .i64 g.1)]) (fun _ => []) (fun g => [(10, some ⟨iT, 2, true, g.2⟩)]) (0, nx) ⟨Nat.zero_le _, hM0⟩ ?_ ?_
                    · clear hmk hrep hrp2 hS hY hT hroG hN0 hT0 hrow0 e9
                      conv => whnf
                      refine ⟨?_, by (conv => whnf); repeat (first | exact True.intro | (refine And.intro rfl ?_; conv => whnf)), by (conv => whnf); repeat (first | exact True.intro | (refine And.intro (by first | rfl | (subst_vars; rfl)) ?_; conv => whnf)), rfl, rfl, rfl, rfl, rfl, rfl, rfl, Nat.le_of_ble_eq_true rfl, Nat.le_of_ble_eq_true rfl⟩
                      conv => whnf
                      repeat (first | exact True.intro | (refine And.intro (by first | rfl | ((conv => whnf); exact congrArg (AVal.int .i64) (by omega)) | ((conv => whnf); exact congrArg (AVal.int .i64) (by simp only [Int.natCast_add, Int.natCast_one]; omega)) | ((conv => whnf); exact congrArg (AVal.irow _) (by first | omega | assumption | (simp only; omega)))) ?_; conv => whnf))
                    · rintro ⟨u, nz⟩ ⟨u1, u2⟩
                      simp only at u1 u2
                      have hnz : List.length (α := Int) nz = List.length (α := List Int) L := by rw [u2, mix9_len]
                      have v1 : (u : Int) < (List.length (α := List Int) L : Int) → (0 ≤ (u : Int) ∧ (u : Int) < (List.length (α := Int) nz : Int)) := fun h => ⟨by omega, by omega⟩
                      have v2 : (u : Int) < (List.length (α := List Int) L : Int) → Int.toNat (u : Int) < List.length (α := Int) nz := fun h => by omega
                      have v3 : 0 ≤ (p : Int) ∧ (p : Int) < (List.length (α := Int) ro : Int) := ⟨by omega, by omega⟩
                      have v4 : Int.toNat (p : Int) < List.length (α := Int) ro := by omega
                      have v5 : 0 ≤ (p : Int) ∧ (p : Int) < (List.length (α := List Int) L : Int) := ⟨by omega, by omega⟩
                      have v6 : Int.toNat (p : Int) < List.length (α := List Int) L := by omega
                      have v9 : List.length (α := Int) (@List.getD (List Int) L p []) = List.length (α := List Int) L := e9 (by omega)
                      have v7 : (u : Int) < (List.length (α := List Int) L : Int) → (0 ≤ (u : Int) ∧ (u : Int) < (List.length (α := Int) (@List.getD (List Int) L (Int.toNat (p : Int)) []) : Int) ∧ Int.toNat (p : Int) < List.length (α := List Int) L) := fun h => ⟨by omega, by show (u : Int) < (List.length (α := Int) (@List.getD (List Int) L p []) : Int); omega, by omega⟩
                      have v8 : (u : Int) < (List.length (α := List Int) L : Int) → (Int.toNat (p : Int) < List.length (α := List Int) L ∧ Int.toNat (u : Int) < List.length (α := Int) (@List.getD (List Int) L (Int.toNat (p : Int)) [])) := fun h => ⟨by omega, by show Int.toNat (u : Int) < List.length (α := Int) (@List.getD (List Int) L p []); omega⟩
                      have v10 : (u : Int) < (List.length (α := List Int) L : Int) → Int.toNat (u : Int) < List.length (α := Int) (@List.getD (List Int) L (Int.toNat (p : Int)) []) := fun h => (v8 h).2
                      conv => whnf
                      refine vcCode_sound T_okW GLc _ _ _ _ _ ?_
                      conv => whnf
                      repeat (refine V_step T_okW GLc rfl ?_; conv => whnf)
                      repeat (any_goals (first
                        | (refine V_step T_okW GLc rfl ?_; conv => whnf)
                        | (refine V_drawN T_okW GLc mixed (by kernel_rfl) ?_; conv => whnf)
                        | (refine bcond_split (fun hc => ?_) (fun hc => ?_) <;> (try simp only [decide_eq_true_eq, decide_eq_false_iff_not, Bool.not_eq_true', Bool.not_eq_false', Bool.and_eq_true, Bool.or_eq_true, Bool.and_eq_false_imp, Bool.or_eq_false_iff, ne_eq, Decidable.not_not] at hc) <;> conv => whnf)
                        | (intro ysK hysK; have hysl := congrArg List.length hysK; (try simp only [List.length_set, List.length_append, List.length_cons, List.length_nil, List.length_take, List.length_drop, List.length_replicate] at hysl); conv => whnf)
                        | (intro bK hbK; have hbl := congrArg ByteArray.size hbK; conv => whnf)
                        | (intro sK hsK; conv => whnf)
                        | (refine And.intro (by first | (first | exact True.intro | exact v1 (by assumption) | exact v2 (by assumption) | exact v3 | exact v4 | exact v5 | exact v6 | exact v7 (by assumption) | exact v8 (by assumption) | exact v10 (by assumption) | omega | (simp only [Rng]; omega)) | exact True.intro | exact ⟨rfl, True.intro, fun _ _ => rfl⟩ | exact Nat.le_of_ble_eq_true rfl | (refine ⟨by (try simp only [List.length_cons, List.length_nil]); omega, Int.le_trans (Int.mul_le_mul_of_nonneg_left (show (TInfo.bytes _ : Int) ≤ 64 from Int.ofNat_le.2 (Nat.le_of_ble_eq_true rfl)) (by omega)) (by (try simp only [List.length_cons, List.length_nil]); omega)⟩)) ?_; conv => whnf)))
                      · have huR : u < List.length (α := List Int) L := by
                          have hc : (u : Int) < (List.length (α := List Int) L : Int) := by assumption
                          omega
                        have hY3 : ysK = mix9 (nx9 L i k p) (nx9 L i k (p + 1)) (List.length (α := List Int) L) (u + 1) := by
                          have f1 : List.getD (α := Int) nz u 0 = nx9 L i k p u := by rw [u2]; exact mix9_get huR
                          have f3 : ysK = nz.set u (wr (List.getD (α := Int) nz u 0 + wr (List.getD (α := Int) ro p 0 * ent L p u))) := hysK
                          rw [f3, f1, e8, nx9_step, u2]
                          exact mix9_step huR
                        clear hysK hysl v1 v2 v3 v4 v5 v6 v7 v8 v9 v10
                        refine ⟨(u + 1, ysK), ⟨by simp only; omega, hY3⟩, by simp only; omega, ?_⟩
                        clear hmk hrep hrp2 hS hY hT hroG hN0 hT0 hrow0 e9
                        conv => whnf
                        refine ⟨?_, by (conv => whnf); repeat (first | exact True.intro | (refine And.intro rfl ?_; conv => whnf)), by (conv => whnf); repeat (first | exact True.intro | (refine And.intro (by first | rfl | (subst_vars; rfl)) ?_; conv => whnf)), rfl, rfl, rfl, rfl, rfl, rfl, rfl, Nat.le_of_ble_eq_true rfl, Nat.le_of_ble_eq_true rfl⟩
                        conv => whnf
                        repeat (first | exact True.intro | (refine And.intro (by first | rfl | ((conv => whnf); exact congrArg (AVal.int .i64) (by omega)) | ((conv => whnf); exact congrArg (AVal.int .i64) (by simp only [Int.natCast_add, Int.natCast_one]; omega)) | ((conv => whnf); exact congrArg (AVal.irow _) (by first | omega | assumption | (simp only; omega)))) ?_; conv => whnf))
                      · have huR : u = List.length (α := List Int) L := by
                          have hc : ¬ (u : Int) < (List.length (α := List Int) L : Int) := by assumption
                          omega
                        rw [huR, mix9_all] at u2
                        clear v1 v2 v3 v4 v5 v6 v7 v8 v9 v10
                        refine ⟨(p + 1, ysK, nz), ⟨by simp only; omega, hY2, u2⟩, by simp only; omega, ?_⟩
                        clear hmk hrep hrp2 hS hY hT hroG hN0 hT0 hrow0 e9
                        conv => whnf
                        refine ⟨?_, by (conv => whnf); repeat (first | exact True.intro | (refine And.intro rfl ?_; conv => whnf)), by (conv => whnf); repeat (first | exact True.intro | (refine And.intro (by first | rfl | (subst_vars; rfl)) ?_; conv => whnf)), rfl, rfl, rfl, rfl, rfl, rfl, rfl, Nat.le_of_ble_eq_true rfl, Nat.le_of_ble_eq_true rfl⟩
                        conv => whnf
                        repeat (first | exact True.intro | (refine And.intro (by first | rfl | ((conv => whnf); exact congrArg (AVal.int .i64) (by omega)) | ((conv => whnf); exact congrArg (AVal.int .i64) (by simp only [Int.natCast_add, Int.natCast_one]; omega)) | ((conv => whnf); exact congrArg (AVal.irow _) (by first | omega | assumption | (simp only; omega)))) ?_; conv => whnf))
                  · have hpR : p = List.length (α := List Int) L := by
                      have hc : ¬ (p : Int) < (List.length (α := List Int) L : Int) := by assumption
                      omega
                    rw [hpR, mix9_all] at p2
                    rw [hpR] at p3
                    clear s1 s2 s3 s4 s5 s6
                    refine ⟨(k + 1, nx, t2), ⟨by simp only; omega, p3, p2⟩, by simp only; omega, ?_⟩
                    clear hmk hrep hrp2 hS hY hT hroG hN0 hT0 hrow0
                    conv => whnf
                    refine ⟨?_, by (conv => whnf); repeat (first | exact True.intro | (refine And.intro rfl ?_; conv => whnf)), by (conv => whnf); repeat (first | exact True.intro | (refine And.intro (by first | rfl | (subst_vars; rfl)) ?_; conv => whnf)), rfl, rfl, rfl, rfl, rfl, rfl, rfl, Nat.le_of_ble_eq_true rfl, Nat.le_of_ble_eq_true rfl⟩
                    conv => whnf
                    repeat (first | exact True.intro | (refine And.intro (by first | rfl | ((conv => whnf); exact congrArg (AVal.int .i64) (by omega)) | ((conv => whnf); exact congrArg (AVal.int .i64) (by simp only [Int.natCast_add, Int.natCast_one]; omega)) | ((conv => whnf); exact congrArg (AVal.irow _) (by first | omega | assumption | (simp only; omega)))) ?_; conv => whnf))
              · have hkR : k = List.length (α := List Int) L + 1 := by
                  have hc : ¬ (k : Int) ≤ (List.length (α := List Int) L : Int) := by assumption
                  omega
                have hz : ∀ p : Nat, (p : Int) < (List.length (α := List Int) L : Int) → List.getD (α := Int) tt p 0 = 0 := fun p h => by
                  rw [k3, mk9_get (by omega), hkR]
                  exact to9_all hS hiR (by omega)
                refine V_loopH (γ := Nat) (fun p => p ≤ List.length (α := List Int) L) (fun p => List.length (α := List Int) L - p)
                  (fun p => [(27, .int .i64 p)]) (fun _ => []) (fun _ => []) 0 (Nat.zero_le _) ?_ ?_
                · clear hmk hrep hrp2 hS hY hT hrow0 hz
                  conv => whnf
                  refine ⟨?_, by (conv => whnf); repeat (first | exact True.intro | (refine And.intro rfl ?_; conv => whnf)), by (conv => whnf); repeat (first | exact True.intro | (refine And.intro (by first | rfl | (subst_vars; rfl)) ?_; conv => whnf)), rfl, rfl, rfl, rfl, rfl, rfl, rfl, Nat.le_of_ble_eq_true rfl, Nat.le_of_ble_eq_true rfl⟩
                  conv => whnf
                  repeat (first | exact True.intro | (refine And.intro (by first | rfl | ((conv => whnf); exact congrArg (AVal.int .i64) (by omega)) | ((conv => whnf); exact congrArg (AVal.int .i64) (by simp only [Int.natCast_add, Int.natCast_one]; omega)) | ((conv => whnf); exact congrArg (AVal.irow _) (by first | omega | assumption | (simp only; omega)))) ?_; conv => whnf))
                · rintro p p1
                  have hzp : (p : Int) < (List.length (α := List Int) L : Int) → List.getD (α := Int) tt (Int.toNat (p : Int)) 0 = 0 := hz p
                  have s1 : (p : Int) < (List.length (α := List Int) L : Int) → (0 ≤ (p : Int) ∧ (p : Int) < (List.length (α := Int) tt : Int)) := fun h => ⟨by omega, by omega⟩
                  have s2 : (p : Int) < (List.length (α := List Int) L : Int) → Int.toNat (p : Int) < List.length (α := Int) tt := fun h => by omega
                  conv => whnf
                  refine vcCode_sound T_okW GLc _ _ _ _ _ ?_
                  conv => whnf
                  repeat (refine V_step T_okW GLc rfl ?_; conv => whnf)
                  repeat (any_goals (first
                    | (refine V_step T_okW GLc rfl ?_; conv => whnf)
                    | (refine V_drawN T_okW GLc mixed (by kernel_rfl) ?_; conv => whnf)
                    | (refine bcond_split (fun hc => ?_) (fun hc => ?_) <;> (try simp only [decide_eq_true_eq, decide_eq_false_iff_not, Bool.not_eq_true', Bool.not_eq_false', Bool.and_eq_true, Bool.or_eq_true, Bool.and_eq_false_imp, Bool.or_eq_false_iff, ne_eq, Decidable.not_not] at hc) <;> conv => whnf)
                    | (intro ysK hysK; have hysl := congrArg List.length hysK; (try simp only [List.length_set, List.length_append, List.length_cons, List.length_nil, List.length_take, List.length_drop, List.length_replicate] at hysl); conv => whnf)
                    | (intro bK hbK; have hbl := congrArg ByteArray.size hbK; conv => whnf)
                    | (intro sK hsK; conv => whnf)
                    | (refine And.intro (by first | (first | exact True.intro | exact s1 (by assumption) | exact s2 (by assumption) | omega | (simp only [Rng]; omega)) | exact True.intro | exact ⟨rfl, True.intro, fun _ _ => rfl⟩ | exact Nat.le_of_ble_eq_true rfl | (refine ⟨by (try simp only [List.length_cons, List.length_nil]); omega, Int.le_trans (Int.mul_le_mul_of_nonneg_left (show (TInfo.bytes _ : Int) ≤ 64 from Int.ofNat_le.2 (Nat.le_of_ble_eq_true rfl)) (by omega)) (by (try simp only [List.length_cons, List.length_nil]); omega)⟩)) ?_; conv => whnf)))
                  · exact absurd (hzp (by assumption)) hc
                  · clear s1 s2
                    refine ⟨p + 1, by omega, by omega, ?_⟩
                    clear hmk hrep hrp2 hS hY hT hrow0 hz hzp
                    conv => whnf
                    refine ⟨?_, by (conv => whnf); repeat (first | exact True.intro | (refine And.intro rfl ?_; conv => whnf)), by (conv => whnf); repeat (first | exact True.intro | (refine And.intro (by first | rfl | (subst_vars; rfl)) ?_; conv => whnf)), rfl, rfl, rfl, rfl, rfl, rfl, rfl, Nat.le_of_ble_eq_true rfl, Nat.le_of_ble_eq_true rfl⟩
                    conv => whnf
                    repeat (first | exact True.intro | (refine And.intro (by first | rfl | ((conv => whnf); exact congrArg (AVal.int .i64) (by omega)) | ((conv => whnf); exact congrArg (AVal.int .i64) (by simp only [Int.natCast_add, Int.natCast_one]; omega)) | ((conv => whnf); exact congrArg (AVal.irow _) (by first | omega | assumption | (simp only; omega)))) ?_; conv => whnf))
                  · clear s1 s2
                    refine ⟨i + 1, by omega, by omega, ?_⟩
                    clear hmk hrep hrp2 hS hY hT hrow0 hz hzp
                    conv => whnf
                    refine ⟨?_, by (conv => whnf); repeat (first | exact True.intro | (refine And.intro rfl ?_; conv => whnf)), by (conv => whnf); repeat (first | exact True.intro | (refine And.intro (by first | rfl | (subst_vars; rfl)) ?_; conv => whnf)), rfl, rfl, rfl, rfl, rfl, rfl, rfl, Nat.le_of_ble_eq_true rfl, Nat.le_of_ble_eq_true rfl⟩
                    conv => whnf
                    repeat (first | exact True.intro | (refine And.intro (by first | rfl | ((conv => whnf); exact congrArg (AVal.int .i64) (by omega)) | ((conv => whnf); exact congrArg (AVal.int .i64) (by simp only [Int.natCast_add, Int.natCast_one]; omega)) | ((conv => whnf); exact congrArg (AVal.irow _) (by first | omega | assumption | (simp only; omega)))) ?_; conv => whnf))
          · exact leaf0 rfl rfl rfl
        · exact leaf0 rfl rfl rfl
        · refine V_loopH (γ := Nat) (fun i => i = 0) (fun i => 0)
            (fun i => [(20, .int .i64 i)]) (fun _ => []) (fun _ => []) 0 rfl ?_ ?_
          · clear hNn hrow0 hsq hrow
            conv => whnf
            refine ⟨?_, by (conv => whnf); repeat (first | exact True.intro | (refine And.intro rfl ?_; conv => whnf)), by (conv => whnf); repeat (first | exact True.intro | (refine And.intro (by first | rfl | (subst_vars; rfl)) ?_; conv => whnf)), rfl, rfl, rfl, rfl, rfl, rfl, rfl, Nat.le_of_ble_eq_true rfl, Nat.le_of_ble_eq_true rfl⟩
            conv => whnf
            repeat (first | exact True.intro | (refine And.intro (by first | rfl | ((conv => whnf); exact congrArg (AVal.int .i64) (by omega)) | ((conv => whnf); exact congrArg (AVal.int .i64) (by simp only [Int.natCast_add, Int.natCast_one]; omega)) | ((conv => whnf); exact congrArg (AVal.irow _) (by first | omega | assumption | (simp only; omega)))) ?_; conv => whnf))
          rintro i i1
          conv => whnf
          refine vcCode_sound T_okW GLc _ _ _ _ _ ?_
          conv => whnf
          repeat (refine V_step T_okW GLc rfl ?_; conv => whnf)
          refine bcond_split (fun hc => ?_) (fun hc => ?_) <;> conv => whnf
          · have hc2 : (i : Int) < (List.length (α := List Int) L : Int) := of_decide_eq_true hc
            omega
          repeat (any_goals (first
            | (refine V_step T_okW GLc rfl ?_; conv => whnf)
            | (refine V_drawN T_okW GLc mixed (by kernel_rfl) ?_; conv => whnf)
            | (refine bcond_split (fun hc => ?_) (fun hc => ?_) <;> (try simp only [decide_eq_true_eq, decide_eq_false_iff_not, Bool.not_eq_true', Bool.not_eq_false', Bool.and_eq_true, Bool.or_eq_true, Bool.and_eq_false_imp, Bool.or_eq_false_iff, ne_eq, Decidable.not_not] at hc) <;> conv => whnf)
            | (intro ysK hysK; have hysl := congrArg List.length hysK; (try simp only [List.length_set, List.length_append, List.length_cons, List.length_nil, List.length_take, List.length_drop, List.length_replicate] at hysl); conv => whnf)
            | (intro bK hbK; have hbl := congrArg ByteArray.size hbK; conv => whnf)
            | (intro sK hsK; conv => whnf)
            | (refine And.intro (by first | (first | exact True.intro | omega) | exact True.intro | exact ⟨rfl, True.intro, fun _ _ => rfl⟩ | exact Nat.le_of_ble_eq_true rfl | (refine ⟨by (try simp only [List.length_cons, List.length_nil]); omega, Int.le_trans (Int.mul_le_mul_of_nonneg_left (show (TInfo.bytes _ : Int) ≤ 64 from Int.ofNat_le.2 (Nat.le_of_ble_eq_true rfl)) (by omega)) (by (try simp only [List.length_cons, List.length_nil]); omega)⟩)) ?_; conv => whnf)))
          exact leaf0 rfl rfl rfl
    · exact leaf0 rfl (congrArg AVal.bool (decide_eq_true (by have := hnz hc; show (List.length (α := Int) P : Int) = 0; omega))) rfl
    · skip
      have hq : q = 0 := by assumption
      obtain ⟨hP, hsq, h21, hNn⟩ := hqf hq
      have hP1 : (List.length (α := Int) P : Int) = (List.length (α := List Int) L : Int) + 1 := by rw [hP, chP_len]; omega
      have hP2 : List.length (α := Int) P = List.length (α := List Int) L + 1 := by omega
      have hPlast : List.getD (α := Int) P (Int.toNat (List.length (α := List Int) L : Int)) 0 = 1 := by
        show List.getD (α := Int) P (List.length (α := List Int) L) 0 = 1
        rw [hP]; exact chP_last L
      have hPlast2 : ∀ z, z = Int.toNat (List.length (α := List Int) L : Int) → List.getD (α := Int) P z 0 = 1 := fun z h => by rw [h]; exact hPlast
      have hrow0 : ∀ g : Nat, (g : Int) < (List.length (α := List Int) L : Int) → List.length (α := Int) (@List.getD (List Int) L g []) = List.length (α := List Int) L := fun g h => hsq _ (getD_mem (by omega))
      have hL22 : List.length (α := List Int) L ≤ 21 := h21
      have hRL : Rng .i64 ((List.length (α := List Int) L : Int) + 1) := by simp only [Rng]; omega
      have hix : 0 ≤ (List.length (α := List Int) L : Int) ∧ (List.length (α := List Int) L : Int) < (List.length (α := Int) P : Int) := ⟨by omega, by omega⟩
      have hix2 : Int.toNat (List.length (α := List Int) L : Int) < List.length (α := Int) P := by omega
      clear hx hlk hnz hqf hz hz2 hz3 hz4 hz5 z1
      repeat (any_goals (first
        | (refine V_step T_okW GLc rfl ?_; conv => whnf)
        | (refine V_drawN T_okW GLc mixed (by kernel_rfl) ?_; conv => whnf)
        | (refine bcond_split (fun hc => ?_) (fun hc => ?_) <;> (try simp only [decide_eq_true_eq, decide_eq_false_iff_not, Bool.not_eq_true', Bool.not_eq_false', Bool.and_eq_true, Bool.or_eq_true, Bool.and_eq_false_imp, Bool.or_eq_false_iff, ne_eq, Decidable.not_not] at hc) <;> conv => whnf)
        | (intro ysK hysK; have hysl := congrArg List.length hysK; (try simp only [List.length_set, List.length_append, List.length_cons, List.length_nil, List.length_take, List.length_drop, List.length_replicate] at hysl); conv => whnf)
        | (intro bK hbK; have hbl := congrArg ByteArray.size hbK; conv => whnf)
        | (intro sK hsK; conv => whnf)
        | (refine And.intro (by first | (first | exact True.intro | with_reducible exact hRL | exact hix | exact hix2 | omega) | exact True.intro | exact ⟨rfl, True.intro, fun _ _ => rfl⟩ | exact Nat.le_of_ble_eq_true rfl | (refine ⟨by (try simp only [List.length_cons, List.length_nil]); omega, Int.le_trans (Int.mul_le_mul_of_nonneg_left (show (TInfo.bytes _ : Int) ≤ 64 from Int.ofNat_le.2 (Nat.le_of_ble_eq_true rfl)) (by omega)) (by (try simp only [List.length_cons, List.length_nil]); omega)⟩)) ?_; conv => whnf)))
      · exact absurd hP1 hc
      · exact absurd hPlast hc
      refine V_loopH (γ := Nat) (fun g => g ≤ List.length (α := List Int) L) (fun g => List.length (α := List Int) L - g)
        (fun g => [(18, .int .i64 (trW L g)), (19, .int .i64 g)]) (fun _ => []) (fun _ => []) 0 (Nat.zero_le _) ?_ ?_
      · clear hNn hrow0 hsq
        conv => whnf
        refine ⟨?_, by (conv => whnf); repeat (first | exact True.intro | (refine And.intro rfl ?_; conv => whnf)), by (conv => whnf); repeat (first | exact True.intro | (refine And.intro (by first | rfl | (subst_vars; rfl)) ?_; conv => whnf)), rfl, rfl, rfl, rfl, rfl, rfl, rfl, Nat.le_of_ble_eq_true rfl, Nat.le_of_ble_eq_true rfl⟩
        conv => whnf
        repeat (first | exact True.intro | (refine And.intro (by first | rfl | ((conv => whnf); exact congrArg (AVal.int .i64) (by omega)) | ((conv => whnf); exact congrArg (AVal.int .i64) (by simp only [Int.natCast_add, Int.natCast_one]; omega)) | ((conv => whnf); exact congrArg (AVal.irow _) (by first | omega | assumption | (simp only; omega)))) ?_; conv => whnf))
      rintro g h1
      have hrow := hrow0 g
      conv => whnf
      refine vcCode_sound T_okW GLc _ _ _ _ _ ?_
      conv => whnf
      repeat (refine V_step T_okW GLc rfl ?_; conv => whnf)
      repeat (any_goals (first
        | (refine V_step T_okW GLc rfl ?_; conv => whnf)
        | (refine V_drawN T_okW GLc mixed (by kernel_rfl) ?_; conv => whnf)
        | (refine bcond_split (fun hc => ?_) (fun hc => ?_) <;> (try simp only [decide_eq_true_eq, decide_eq_false_iff_not, Bool.not_eq_true', Bool.not_eq_false', Bool.and_eq_true, Bool.or_eq_true, Bool.and_eq_false_imp, Bool.or_eq_false_iff, ne_eq, Decidable.not_not] at hc) <;> conv => whnf)
        | (intro ysK hysK; have hysl := congrArg List.length hysK; (try simp only [List.length_set, List.length_append, List.length_cons, List.length_nil, List.length_take, List.length_drop, List.length_replicate] at hysl); conv => whnf)
        | (intro bK hbK; have hbl := congrArg ByteArray.size hbK; conv => whnf)
        | (intro sK hsK; conv => whnf)
        | (refine And.intro (by first | (first | exact True.intro | omega | (have q := hrow (by assumption); simp only [Int.toNat_natCast]; omega) | (simp only [Rng]; omega)) | exact True.intro | exact ⟨rfl, True.intro, fun _ _ => rfl⟩ | exact Nat.le_of_ble_eq_true rfl | (refine ⟨by (try simp only [List.length_cons, List.length_nil]); omega, Int.le_trans (Int.mul_le_mul_of_nonneg_left (show (TInfo.bytes _ : Int) ≤ 64 from Int.ofNat_le.2 (Nat.le_of_ble_eq_true rfl)) (by omega)) (by (try simp only [List.length_cons, List.length_nil]); omega)⟩)) ?_; conv => whnf)))
      · refine ⟨g + 1, by omega, by omega, ?_⟩
        clear hNn hrow0 hrow hsq
        conv => whnf
        refine ⟨?_, by (conv => whnf); repeat (first | exact True.intro | (refine And.intro rfl ?_; conv => whnf)), by (conv => whnf); repeat (first | exact True.intro | (refine And.intro (by first | rfl | (subst_vars; rfl)) ?_; conv => whnf)), rfl, rfl, rfl, rfl, rfl, rfl, rfl, Nat.le_of_ble_eq_true rfl, Nat.le_of_ble_eq_true rfl⟩
        conv => whnf
        repeat (first | exact True.intro | (refine And.intro (by first | rfl | ((conv => whnf); exact congrArg (AVal.int .i64) (by omega)) | ((conv => whnf); exact congrArg (AVal.int .i64) (by simp only [Int.natCast_add, Int.natCast_one]; omega)) | ((conv => whnf); exact congrArg (AVal.irow _) (by first | omega | assumption | (simp only; omega)))) ?_; conv => whnf))
      · have h0 : 0 < (List.length (α := List Int) L : Int) := by assumption
        have hg : g = List.length (α := List Int) L := by
          have hh : ¬ (g : Int) < (List.length (α := List Int) L : Int) := by assumption
          omega
        refine absurd ?_ hc
        have e9 : Int.toNat ((List.length (α := List Int) L : Int) - 1) = List.length (α := List Int) L - 1 := by omega
        show List.getD (α := Int) P (Int.toNat ((List.length (α := List Int) L : Int) - 1)) 0 = IntKind.i64.wrap (-trW L g)
        rw [e9, hg, hP]
        exact chP_tr hsq h21 hNn (by omega)
      · exact leaf0 rfl rfl rfl
      · have hS : Sml L := ⟨by omega, hsq, hNn⟩
        have hmk : (0 ≤ (List.length (α := List Int) L : Int) ∧ (List.length (α := List Int) L : Int) = (List.length (α := List Int) L : Int) ∧ (ti64w.bytes : Int) * (List.length (α := List Int) L : Int) ≤ 281474976710656 ∧ (List.length (α := List Int) L : Int) ≤ 9223372036854775807) := by
          refine ⟨by omega, rfl, ?_, by omega⟩
          show (8 : Int) * (List.length (α := List Int) L : Int) ≤ _
          omega
        have hrep : List.length (α := Int) (List.replicate (Int.toNat (List.length (α := List Int) L : Int)) (0 : Int)) = List.length (α := List Int) L := by rw [List.length_replicate]; omega
        have hrp2 : List.replicate (Int.toNat (List.length (α := List Int) L : Int)) (0 : Int) = List.replicate (List.length (α := List Int) L) 0 := congrArg (fun z => List.replicate z (0 : Int)) (by omega)
        clear hNn hsq hrow
        refine V_loopH (γ := Nat) (fun i => i ≤ List.length (α := List Int) L) (fun i => List.length (α := List Int) L - i)
          (fun i => [(20, .int .i64 i)]) (fun _ => []) (fun _ => []) 0 (Nat.zero_le _) ?_ ?_
        · clear hmk hrep hrp2 hS
          conv => whnf
          refine ⟨?_, by (conv => whnf); repeat (first | exact True.intro | (refine And.intro rfl ?_; conv => whnf)), by (conv => whnf); repeat (first | exact True.intro | (refine And.intro (by first | rfl | (subst_vars; rfl)) ?_; conv => whnf)), rfl, rfl, rfl, rfl, rfl, rfl, rfl, Nat.le_of_ble_eq_true rfl, Nat.le_of_ble_eq_true rfl⟩
          conv => whnf
          repeat (first | exact True.intro | (refine And.intro (by first | rfl | ((conv => whnf); exact congrArg (AVal.int .i64) (by omega)) | ((conv => whnf); exact congrArg (AVal.int .i64) (by simp only [Int.natCast_add, Int.natCast_one]; omega)) | ((conv => whnf); exact congrArg (AVal.irow _) (by first | omega | assumption | (simp only; omega)))) ?_; conv => whnf))
        rintro i i1
        have hi1 : (i : Int) < (List.length (α := List Int) L : Int) → (0 ≤ (i : Int) ∧ (i : Int) < (List.length (α := Int) (List.replicate (Int.toNat (List.length (α := List Int) L : Int)) (0 : Int)) : Int)) := fun h => by rw [hrep]; exact ⟨by omega, h⟩
        have hi2 : (i : Int) < (List.length (α := List Int) L : Int) → Int.toNat (i : Int) < List.length (α := Int) (List.replicate (Int.toNat (List.length (α := List Int) L : Int)) (0 : Int)) := fun h => by rw [hrep]; omega
        conv => whnf
        refine vcCode_sound T_okW GLc _ _ _ _ _ ?_
        conv => whnf
        repeat (refine V_step T_okW GLc rfl ?_; conv => whnf)
        repeat (any_goals (first
          | (refine V_step T_okW GLc rfl ?_; conv => whnf)
          | (refine V_drawN T_okW GLc mixed (by kernel_rfl) ?_; conv => whnf)
          | (refine bcond_split (fun hc => ?_) (fun hc => ?_) <;> (try simp only [decide_eq_true_eq, decide_eq_false_iff_not, Bool.not_eq_true', Bool.not_eq_false', Bool.and_eq_true, Bool.or_eq_true, Bool.and_eq_false_imp, Bool.or_eq_false_iff, ne_eq, Decidable.not_not] at hc) <;> conv => whnf)
          | (intro ysK hysK; have hysl := congrArg List.length hysK; (try simp only [List.length_set, List.length_append, List.length_cons, List.length_nil, List.length_take, List.length_drop, List.length_replicate] at hysl); conv => whnf)
          | (intro bK hbK; have hbl := congrArg ByteArray.size hbK; conv => whnf)
          | (intro sK hsK; conv => whnf)
          | (refine And.intro (by first | (first | exact True.intro | with_reducible exact hmk | exact hi1 (by assumption) | exact hi2 (by assumption) | omega | (simp only [Rng]; omega)) | exact True.intro | exact ⟨rfl, True.intro, fun _ _ => rfl⟩ | exact Nat.le_of_ble_eq_true rfl | (refine ⟨by (try simp only [List.length_cons, List.length_nil]); omega, Int.le_trans (Int.mul_le_mul_of_nonneg_left (show (TInfo.bytes _ : Int) ≤ 64 from Int.ofNat_le.2 (Nat.le_of_ble_eq_true rfl)) (by omega)) (by (try simp only [List.length_cons, List.length_nil]); omega)⟩)) ?_; conv => whnf)))
        · have hiR : i < List.length (α := List Int) L := by
            have hc : (i : Int) < (List.length (α := List Int) L : Int) := by assumption
            omega
          have hY : ysK = mk9 (rw9 L i 0) (List.length (α := List Int) L) := by
            rw [hysK]
            show (List.replicate (Int.toNat (List.length (α := List Int) L : Int)) (0 : Int)).set i 1 = _
            rw [hrp2, mk9_unit]
            exact mk9_congr fun s _ => (rw9_zero L i s).symm
          have hT : List.replicate (Int.toNat (List.length (α := List Int) L : Int)) (0 : Int) = mk9 (to9 L i 0) (List.length (α := List Int) L) := by
            rw [hrp2, mk9_zero]
            exact mk9_congr fun s _ => (to9_zero L i s).symm
          clear hysK hysl hi1 hi2
          refine V_loopH (γ := Nat × List Int × List Int) (fun g => g.1 ≤ List.length (α := List Int) L + 1 ∧ g.2.1 = mk9 (rw9 L i g.1) (List.length (α := List Int) L) ∧ g.2.2 = mk9 (to9 L i g.1) (List.length (α := List Int) L)) (fun g => List.length (α := List Int) L + 1 - g.1)
            (fun g => [(21, .row 6), (22, .row 7), (23, .int .i64 g.1), (149, .junk), (152, .junk), (154, .junk)]) (fun _ => []) (fun g => [(6, some ⟨iT, 2, true, g.2.1⟩), (7, some ⟨iT, 2, true, g.2.2⟩)]) (0, ysK, List.replicate (Int.toNat (List.length (α := List Int) L : Int)) (0 : Int)) ⟨Nat.zero_le _, hY, hT⟩ ?_ ?_
          · clear hmk hrep hrp2 hS hY hT
            conv => whnf
            refine ⟨?_, by (conv => whnf); repeat (first | exact True.intro | (refine And.intro rfl ?_; conv => whnf)), by (conv => whnf); repeat (first | exact True.intro | (refine And.intro (by first | rfl | (subst_vars; rfl)) ?_; conv => whnf)), rfl, rfl, rfl, rfl, rfl, rfl, rfl, Nat.le_of_ble_eq_true rfl, Nat.le_of_ble_eq_true rfl⟩
            conv => whnf
            repeat (first | exact True.intro | (refine And.intro (by first | rfl | ((conv => whnf); exact congrArg (AVal.int .i64) (by omega)) | ((conv => whnf); exact congrArg (AVal.int .i64) (by simp only [Int.natCast_add, Int.natCast_one]; omega)) | ((conv => whnf); exact congrArg (AVal.irow _) (by first | omega | assumption | (simp only; omega)))) ?_; conv => whnf))
          · rintro ⟨k, ro, tt⟩ ⟨k1, k2, k3⟩
            simp only at k1 k2 k3
            have hro : List.length (α := Int) ro = List.length (α := List Int) L := by rw [k2, mk9_len]
            have htt : List.length (α := Int) tt = List.length (α := List Int) L := by rw [k3, mk9_len]
            conv => whnf
            refine vcCode_sound T_okW GLc _ _ _ _ _ ?_
            conv => whnf
            repeat (refine V_step T_okW GLc rfl ?_; conv => whnf)
            repeat (any_goals (first
              | (refine V_step T_okW GLc rfl ?_; conv => whnf)
              | (refine V_drawN T_okW GLc mixed (by kernel_rfl) ?_; conv => whnf)
              | (refine bcond_split (fun hc => ?_) (fun hc => ?_) <;> (try simp only [decide_eq_true_eq, decide_eq_false_iff_not, Bool.not_eq_true', Bool.not_eq_false', Bool.and_eq_true, Bool.or_eq_true, Bool.and_eq_false_imp, Bool.or_eq_false_iff, ne_eq, Decidable.not_not] at hc) <;> conv => whnf)
              | (intro ysK hysK; have hysl := congrArg List.length hysK; (try simp only [List.length_set, List.length_append, List.length_cons, List.length_nil, List.length_take, List.length_drop, List.length_replicate] at hysl); conv => whnf)
              | (intro bK hbK; have hbl := congrArg ByteArray.size hbK; conv => whnf)
              | (intro sK hsK; conv => whnf)
              | (refine And.intro (by first | (first | exact True.intro | with_reducible exact hmk | omega | (simp only [Rng]; omega)) | exact True.intro | exact ⟨rfl, True.intro, fun _ _ => rfl⟩ | exact Nat.le_of_ble_eq_true rfl | (refine ⟨by (try simp only [List.length_cons, List.length_nil]); omega, Int.le_trans (Int.mul_le_mul_of_nonneg_left (show (TInfo.bytes _ : Int) ≤ 64 from Int.ofNat_le.2 (Nat.le_of_ble_eq_true rfl)) (by omega)) (by (try simp only [List.length_cons, List.length_nil]); omega)⟩)) ?_; conv => whnf)))
            · have hkR : k ≤ List.length (α := List Int) L := by
                have hc : (k : Int) ≤ (List.length (α := List Int) L : Int) := by assumption
                omega
              have hN0 : List.replicate (Int.toNat (List.length (α := List Int) L : Int)) (0 : Int) = mk9 (nx9 L i k 0) (List.length (α := List Int) L) := by
                rw [hrp2, mk9_zero]
                exact mk9_congr fun s _ => (nx9_zero L i k s).symm
              have hT0 : tt = mix9 (to9 L i k) (to9 L i (k + 1)) (List.length (α := List Int) L) 0 := by rw [mix9_zero]; exact k3
              have hroG : ∀ p : Nat, p < List.length (α := List Int) L → ro.getD p 0 = rw9 L i k p := fun p h => by rw [k2]; exact mk9_get h
              refine V_loopH (γ := Nat × List Int × List Int) (fun g => g.1 ≤ List.length (α := List Int) L ∧ g.2.1 = mix9 (to9 L i k) (to9 L i (k + 1)) (List.length (α := List Int) L) g.1 ∧ g.2.2 = mk9 (nx9 L i k g.1) (List.length (α := List Int) L)) (fun g => List.length (α := List Int) L - g.1)
                (fun g => [(25, .int .i64 g.1)]) (fun _ => []) (fun g => [(7, some ⟨iT, 2, true, g.2.1⟩), (8, some ⟨iT, 2, true, g.2.2⟩)]) (0, tt, List.replicate (Int.toNat (List.length (α := List Int) L : Int)) (0 : Int)) ⟨Nat.zero_le _, hT0, hN0⟩ ?_ ?_
              · clear hmk hrep hrp2 hS hY hT hroG hN0 hT0
                conv => whnf
                refine ⟨?_, by (conv => whnf); repeat (first | exact True.intro | (refine And.intro rfl ?_; conv => whnf)), by (conv => whnf); repeat (first | exact True.intro | (refine And.intro (by first | rfl | (subst_vars; rfl)) ?_; conv => whnf)), rfl, rfl, rfl, rfl, rfl, rfl, rfl, Nat.le_of_ble_eq_true rfl, Nat.le_of_ble_eq_true rfl⟩
                conv => whnf
                repeat (first | exact True.intro | (refine And.intro (by first | rfl | ((conv => whnf); exact congrArg (AVal.int .i64) (by omega)) | ((conv => whnf); exact congrArg (AVal.int .i64) (by simp only [Int.natCast_add, Int.natCast_one]; omega)) | ((conv => whnf); exact congrArg (AVal.irow _) (by first | omega | assumption | (simp only; omega)))) ?_; conv => whnf))
              · rintro ⟨p, t2, nx⟩ ⟨p1, p2, p3⟩
                simp only at p1 p2 p3
                have ht2 : List.length (α := Int) t2 = List.length (α := List Int) L := by rw [p2, mix9_len]
                have hnx : List.length (α := Int) nx = List.length (α := List Int) L := by rw [p3, mk9_len]
                have s1 : (p : Int) < (List.length (α := List Int) L : Int) → (0 ≤ (p : Int) ∧ (p : Int) < (List.length (α := Int) t2 : Int)) := fun h => ⟨by omega, by omega⟩
                have s2 : (p : Int) < (List.length (α := List Int) L : Int) → Int.toNat (p : Int) < List.length (α := Int) t2 := fun h => by omega
                have s3 : 0 ≤ (k : Int) ∧ (k : Int) < (List.length (α := Int) P : Int) := ⟨by omega, by omega⟩
                have s4 : Int.toNat (k : Int) < List.length (α := Int) P := by omega
                have s5 : (p : Int) < (List.length (α := List Int) L : Int) → (0 ≤ (p : Int) ∧ (p : Int) < (List.length (α := Int) ro : Int)) := fun h => ⟨by omega, by omega⟩
                have s6 : (p : Int) < (List.length (α := List Int) L : Int) → Int.toNat (p : Int) < List.length (α := Int) ro := fun h => by omega
                conv => whnf
                refine vcCode_sound T_okW GLc _ _ _ _ _ ?_
                conv => whnf
                repeat (refine V_step T_okW GLc rfl ?_; conv => whnf)
                repeat (any_goals (first
                  | (refine V_step T_okW GLc rfl ?_; conv => whnf)
                  | (refine V_drawN T_okW GLc mixed (by kernel_rfl) ?_; conv => whnf)
                  | (refine bcond_split (fun hc => ?_) (fun hc => ?_) <;> (try simp only [decide_eq_true_eq, decide_eq_false_iff_not, Bool.not_eq_true', Bool.not_eq_false', Bool.and_eq_true, Bool.or_eq_true, Bool.and_eq_false_imp, Bool.or_eq_false_iff, ne_eq, Decidable.not_not] at hc) <;> conv => whnf)
                  | (intro ysK hysK; have hysl := congrArg List.length hysK; (try simp only [List.length_set, List.length_append, List.length_cons, List.length_nil, List.length_take, List.length_drop, List.length_replicate] at hysl); conv => whnf)
                  | (intro bK hbK; have hbl := congrArg ByteArray.size hbK; conv => whnf)
                  | (intro sK hsK; conv => whnf)
                  | (refine And.intro (by first | (first | exact True.intro | exact s1 (by assumption) | exact s2 (by assumption) | exact s3 | exact s4 | exact s5 (by assumption) | exact s6 (by assumption) | omega | (simp only [Rng]; omega)) | exact True.intro | exact ⟨rfl, True.intro, fun _ _ => rfl⟩ | exact Nat.le_of_ble_eq_true rfl | (refine ⟨by (try simp only [List.length_cons, List.length_nil]); omega, Int.le_trans (Int.mul_le_mul_of_nonneg_left (show (TInfo.bytes _ : Int) ≤ 64 from Int.ofNat_le.2 (Nat.le_of_ble_eq_true rfl)) (by omega)) (by (try simp only [List.length_cons, List.length_nil]); omega)⟩)) ?_; conv => whnf)))
                · have hpR : p < List.length (α := List Int) L := by
                    have hc : (p : Int) < (List.length (α := List Int) L : Int) := by assumption
                    omega
                  have hY2 : ysK = mix9 (to9 L i k) (to9 L i (k + 1)) (List.length (α := List Int) L) (p + 1) := by
                    have e1 : List.getD (α := Int) t2 p 0 = to9 L i k p := by rw [p2]; exact mix9_get hpR
                    have e2 : List.getD (α := Int) ro p 0 = rw9 L i k p := hroG p hpR
                    have e3 : ysK = t2.set p (wr (List.getD (α := Int) t2 p 0 + wr (List.getD (α := Int) P k 0 * List.getD (α := Int) ro p 0))) := hysK
                    rw [e3, e1, e2, hP, to9_step, p2]
                    exact mix9_step hpR
                  have hM0 : nx = mix9 (nx9 L i k p) (nx9 L i k (p + 1)) (List.length (α := List Int) L) 0 := by rw [mix9_zero]; exact p3
                  have hYl : List.length (α := Int) ysK = List.length (α := List Int) L := by rw [hY2, mix9_len]
                  have e8 := hroG p hpR
                  have e9 := hrow0 p
                  clear hysK hysl s1 s2 s3 s4 s5 s6
                  refine V_loopH (γ := Nat × List Int) (fun g => g.1 ≤ List.length (α := List Int) L ∧ g.2 = mix9 (nx9 L i k p) (nx9 L i k (p + 1)) (List.length (α := List Int) L) g.1) (fun g => List.length (α := List Int) L - g.1)
                    (fun g => [(26, .int .i64 g.1)]) (fun _ => []) (fun g => [(8, some ⟨iT, 2, true, g.2⟩)]) (0, nx) ⟨Nat.zero_le _, hM0⟩ ?_ ?_
                  · clear hmk hrep hrp2 hS hY hT hroG hN0 hT0 hrow0 e9
                    conv => whnf
                    refine ⟨?_, by (conv => whnf); repeat (first | exact True.intro | (refine And.intro rfl ?_; conv => whnf)), by (conv => whnf); repeat (first | exact True.intro | (refine And.intro (by first | rfl | (subst_vars; rfl)) ?_; conv => whnf)), rfl, rfl, rfl, rfl, rfl, rfl, rfl, Nat.le_of_ble_eq_true rfl, Nat.le_of_ble_eq_true rfl⟩
                    conv => whnf
                    repeat (first | exact True.intro | (refine And.intro (by first | rfl | ((conv => whnf); exact congrArg (AVal.int .i64) (by omega)) | ((conv => whnf); exact congrArg (AVal.int .i64) (by simp only [Int.natCast_add, Int.natCast_one]; omega)) | ((conv => whnf); exact congrArg (AVal.irow _) (by first | omega | assumption | (simp only; omega)))) ?_; conv => whnf))
                  · rintro ⟨u, nz⟩ ⟨u1, u2⟩
                    simp only at u1 u2
                    have hnz : List.length (α := Int) nz = List.length (α := List Int) L := by rw [u2, mix9_len]
                    have v1 : (u : Int) < (List.length (α := List Int) L : Int) → (0 ≤ (u : Int) ∧ (u : Int) < (List.length (α := Int) nz : Int)) := fun h => ⟨by omega, by omega⟩
                    have v2 : (u : Int) < (List.length (α := List Int) L : Int) → Int.toNat (u : Int) < List.length (α := Int) nz := fun h => by omega
                    have v3 : 0 ≤ (p : Int) ∧ (p : Int) < (List.length (α := Int) ro : Int) := ⟨by omega, by omega⟩
                    have v4 : Int.toNat (p : Int) < List.length (α := Int) ro := by omega
                    have v5 : 0 ≤ (p : Int) ∧ (p : Int) < (List.length (α := List Int) L : Int) := ⟨by omega, by omega⟩
                    have v6 : Int.toNat (p : Int) < List.length (α := List Int) L := by omega
                    have v9 : List.length (α := Int) (@List.getD (List Int) L p []) = List.length (α := List Int) L := e9 (by omega)
                    have v7 : (u : Int) < (List.length (α := List Int) L : Int) → (0 ≤ (u : Int) ∧ (u : Int) < (List.length (α := Int) (@List.getD (List Int) L (Int.toNat (p : Int)) []) : Int) ∧ Int.toNat (p : Int) < List.length (α := List Int) L) := fun h => ⟨by omega, by show (u : Int) < (List.length (α := Int) (@List.getD (List Int) L p []) : Int); omega, by omega⟩
                    have v8 : (u : Int) < (List.length (α := List Int) L : Int) → (Int.toNat (p : Int) < List.length (α := List Int) L ∧ Int.toNat (u : Int) < List.length (α := Int) (@List.getD (List Int) L (Int.toNat (p : Int)) [])) := fun h => ⟨by omega, by show Int.toNat (u : Int) < List.length (α := Int) (@List.getD (List Int) L p []); omega⟩
                    have v10 : (u : Int) < (List.length (α := List Int) L : Int) → Int.toNat (u : Int) < List.length (α := Int) (@List.getD (List Int) L (Int.toNat (p : Int)) []) := fun h => (v8 h).2
                    conv => whnf
                    refine vcCode_sound T_okW GLc _ _ _ _ _ ?_
                    conv => whnf
                    repeat (refine V_step T_okW GLc rfl ?_; conv => whnf)
                    repeat (any_goals (first
                      | (refine V_step T_okW GLc rfl ?_; conv => whnf)
                      | (refine V_drawN T_okW GLc mixed (by kernel_rfl) ?_; conv => whnf)
                      | (refine bcond_split (fun hc => ?_) (fun hc => ?_) <;> (try simp only [decide_eq_true_eq, decide_eq_false_iff_not, Bool.not_eq_true', Bool.not_eq_false', Bool.and_eq_true, Bool.or_eq_true, Bool.and_eq_false_imp, Bool.or_eq_false_iff, ne_eq, Decidable.not_not] at hc) <;> conv => whnf)
                      | (intro ysK hysK; have hysl := congrArg List.length hysK; (try simp only [List.length_set, List.length_append, List.length_cons, List.length_nil, List.length_take, List.length_drop, List.length_replicate] at hysl); conv => whnf)
                      | (intro bK hbK; have hbl := congrArg ByteArray.size hbK; conv => whnf)
                      | (intro sK hsK; conv => whnf)
                      | (refine And.intro (by first | (first | exact True.intro | exact v1 (by assumption) | exact v2 (by assumption) | exact v3 | exact v4 | exact v5 | exact v6 | exact v7 (by assumption) | exact v8 (by assumption) | exact v10 (by assumption) | omega | (simp only [Rng]; omega)) | exact True.intro | exact ⟨rfl, True.intro, fun _ _ => rfl⟩ | exact Nat.le_of_ble_eq_true rfl | (refine ⟨by (try simp only [List.length_cons, List.length_nil]); omega, Int.le_trans (Int.mul_le_mul_of_nonneg_left (show (TInfo.bytes _ : Int) ≤ 64 from Int.ofNat_le.2 (Nat.le_of_ble_eq_true rfl)) (by omega)) (by (try simp only [List.length_cons, List.length_nil]); omega)⟩)) ?_; conv => whnf)))
                    · have huR : u < List.length (α := List Int) L := by
                        have hc : (u : Int) < (List.length (α := List Int) L : Int) := by assumption
                        omega
                      have hY3 : ysK = mix9 (nx9 L i k p) (nx9 L i k (p + 1)) (List.length (α := List Int) L) (u + 1) := by
                        have f1 : List.getD (α := Int) nz u 0 = nx9 L i k p u := by rw [u2]; exact mix9_get huR
                        have f3 : ysK = nz.set u (wr (List.getD (α := Int) nz u 0 + wr (List.getD (α := Int) ro p 0 * ent L p u))) := hysK
                        rw [f3, f1, e8, nx9_step, u2]
                        exact mix9_step huR
                      clear hysK hysl v1 v2 v3 v4 v5 v6 v7 v8 v9 v10
                      refine ⟨(u + 1, ysK), ⟨by simp only; omega, hY3⟩, by simp only; omega, ?_⟩
                      clear hmk hrep hrp2 hS hY hT hroG hN0 hT0 hrow0 e9
                      conv => whnf
                      refine ⟨?_, by (conv => whnf); repeat (first | exact True.intro | (refine And.intro rfl ?_; conv => whnf)), by (conv => whnf); repeat (first | exact True.intro | (refine And.intro (by first | rfl | (subst_vars; rfl)) ?_; conv => whnf)), rfl, rfl, rfl, rfl, rfl, rfl, rfl, Nat.le_of_ble_eq_true rfl, Nat.le_of_ble_eq_true rfl⟩
                      conv => whnf
                      repeat (first | exact True.intro | (refine And.intro (by first | rfl | ((conv => whnf); exact congrArg (AVal.int .i64) (by omega)) | ((conv => whnf); exact congrArg (AVal.int .i64) (by simp only [Int.natCast_add, Int.natCast_one]; omega)) | ((conv => whnf); exact congrArg (AVal.irow _) (by first | omega | assumption | (simp only; omega)))) ?_; conv => whnf))
                    · have huR : u = List.length (α := List Int) L := by
                        have hc : ¬ (u : Int) < (List.length (α := List Int) L : Int) := by assumption
                        omega
                      rw [huR, mix9_all] at u2
                      clear v1 v2 v3 v4 v5 v6 v7 v8 v9 v10
                      refine ⟨(p + 1, ysK, nz), ⟨by simp only; omega, hY2, u2⟩, by simp only; omega, ?_⟩
                      clear hmk hrep hrp2 hS hY hT hroG hN0 hT0 hrow0 e9
                      conv => whnf
                      refine ⟨?_, by (conv => whnf); repeat (first | exact True.intro | (refine And.intro rfl ?_; conv => whnf)), by (conv => whnf); repeat (first | exact True.intro | (refine And.intro (by first | rfl | (subst_vars; rfl)) ?_; conv => whnf)), rfl, rfl, rfl, rfl, rfl, rfl, rfl, Nat.le_of_ble_eq_true rfl, Nat.le_of_ble_eq_true rfl⟩
                      conv => whnf
                      repeat (first | exact True.intro | (refine And.intro (by first | rfl | ((conv => whnf); exact congrArg (AVal.int .i64) (by omega)) | ((conv => whnf); exact congrArg (AVal.int .i64) (by simp only [Int.natCast_add, Int.natCast_one]; omega)) | ((conv => whnf); exact congrArg (AVal.irow _) (by first | omega | assumption | (simp only; omega)))) ?_; conv => whnf))
                · have hpR : p = List.length (α := List Int) L := by
                    have hc : ¬ (p : Int) < (List.length (α := List Int) L : Int) := by assumption
                    omega
                  rw [hpR, mix9_all] at p2
                  rw [hpR] at p3
                  clear s1 s2 s3 s4 s5 s6
                  refine ⟨(k + 1, nx, t2), ⟨by simp only; omega, p3, p2⟩, by simp only; omega, ?_⟩
                  clear hmk hrep hrp2 hS hY hT hroG hN0 hT0 hrow0
                  conv => whnf
                  refine ⟨?_, by (conv => whnf); repeat (first | exact True.intro | (refine And.intro rfl ?_; conv => whnf)), by (conv => whnf); repeat (first | exact True.intro | (refine And.intro (by first | rfl | (subst_vars; rfl)) ?_; conv => whnf)), rfl, rfl, rfl, rfl, rfl, rfl, rfl, Nat.le_of_ble_eq_true rfl, Nat.le_of_ble_eq_true rfl⟩
                  conv => whnf
                  repeat (first | exact True.intro | (refine And.intro (by first | rfl | ((conv => whnf); exact congrArg (AVal.int .i64) (by omega)) | ((conv => whnf); exact congrArg (AVal.int .i64) (by simp only [Int.natCast_add, Int.natCast_one]; omega)) | ((conv => whnf); exact congrArg (AVal.irow _) (by first | omega | assumption | (simp only; omega)))) ?_; conv => whnf))
            · have hkR : k = List.length (α := List Int) L + 1 := by
                have hc : ¬ (k : Int) ≤ (List.length (α := List Int) L : Int) := by assumption
                omega
              have hz : ∀ p : Nat, (p : Int) < (List.length (α := List Int) L : Int) → List.getD (α := Int) tt p 0 = 0 := fun p h => by
                rw [k3, mk9_get (by omega), hkR]
                exact to9_all hS hiR (by omega)
              refine V_loopH (γ := Nat) (fun p => p ≤ List.length (α := List Int) L) (fun p => List.length (α := List Int) L - p)
                (fun p => [(27, .int .i64 p)]) (fun _ => []) (fun _ => []) 0 (Nat.zero_le _) ?_ ?_
              · clear hmk hrep hrp2 hS hY hT hrow0 hz
                conv => whnf
                refine ⟨?_, by (conv => whnf); repeat (first | exact True.intro | (refine And.intro rfl ?_; conv => whnf)), by (conv => whnf); repeat (first | exact True.intro | (refine And.intro (by first | rfl | (subst_vars; rfl)) ?_; conv => whnf)), rfl, rfl, rfl, rfl, rfl, rfl, rfl, Nat.le_of_ble_eq_true rfl, Nat.le_of_ble_eq_true rfl⟩
                conv => whnf
                repeat (first | exact True.intro | (refine And.intro (by first | rfl | ((conv => whnf); exact congrArg (AVal.int .i64) (by omega)) | ((conv => whnf); exact congrArg (AVal.int .i64) (by simp only [Int.natCast_add, Int.natCast_one]; omega)) | ((conv => whnf); exact congrArg (AVal.irow _) (by first | omega | assumption | (simp only; omega)))) ?_; conv => whnf))
              · rintro p p1
                have hzp : (p : Int) < (List.length (α := List Int) L : Int) → List.getD (α := Int) tt (Int.toNat (p : Int)) 0 = 0 := hz p
                have s1 : (p : Int) < (List.length (α := List Int) L : Int) → (0 ≤ (p : Int) ∧ (p : Int) < (List.length (α := Int) tt : Int)) := fun h => ⟨by omega, by omega⟩
                have s2 : (p : Int) < (List.length (α := List Int) L : Int) → Int.toNat (p : Int) < List.length (α := Int) tt := fun h => by omega
                conv => whnf
                refine vcCode_sound T_okW GLc _ _ _ _ _ ?_
                conv => whnf
                repeat (refine V_step T_okW GLc rfl ?_; conv => whnf)
                repeat (any_goals (first
                  | (refine V_step T_okW GLc rfl ?_; conv => whnf)
                  | (refine V_drawN T_okW GLc mixed (by kernel_rfl) ?_; conv => whnf)
                  | (refine bcond_split (fun hc => ?_) (fun hc => ?_) <;> (try simp only [decide_eq_true_eq, decide_eq_false_iff_not, Bool.not_eq_true', Bool.not_eq_false', Bool.and_eq_true, Bool.or_eq_true, Bool.and_eq_false_imp, Bool.or_eq_false_iff, ne_eq, Decidable.not_not] at hc) <;> conv => whnf)
                  | (intro ysK hysK; have hysl := congrArg List.length hysK; (try simp only [List.length_set, List.length_append, List.length_cons, List.length_nil, List.length_take, List.length_drop, List.length_replicate] at hysl); conv => whnf)
                  | (intro bK hbK; have hbl := congrArg ByteArray.size hbK; conv => whnf)
                  | (intro sK hsK; conv => whnf)
                  | (refine And.intro (by first | (first | exact True.intro | exact s1 (by assumption) | exact s2 (by assumption) | omega | (simp only [Rng]; omega)) | exact True.intro | exact ⟨rfl, True.intro, fun _ _ => rfl⟩ | exact Nat.le_of_ble_eq_true rfl | (refine ⟨by (try simp only [List.length_cons, List.length_nil]); omega, Int.le_trans (Int.mul_le_mul_of_nonneg_left (show (TInfo.bytes _ : Int) ≤ 64 from Int.ofNat_le.2 (Nat.le_of_ble_eq_true rfl)) (by omega)) (by (try simp only [List.length_cons, List.length_nil]); omega)⟩)) ?_; conv => whnf)))
                · exact absurd (hzp (by assumption)) hc
                · clear s1 s2
                  refine ⟨p + 1, by omega, by omega, ?_⟩
                  clear hmk hrep hrp2 hS hY hT hrow0 hz hzp
                  conv => whnf
                  refine ⟨?_, by (conv => whnf); repeat (first | exact True.intro | (refine And.intro rfl ?_; conv => whnf)), by (conv => whnf); repeat (first | exact True.intro | (refine And.intro (by first | rfl | (subst_vars; rfl)) ?_; conv => whnf)), rfl, rfl, rfl, rfl, rfl, rfl, rfl, Nat.le_of_ble_eq_true rfl, Nat.le_of_ble_eq_true rfl⟩
                  conv => whnf
                  repeat (first | exact True.intro | (refine And.intro (by first | rfl | ((conv => whnf); exact congrArg (AVal.int .i64) (by omega)) | ((conv => whnf); exact congrArg (AVal.int .i64) (by simp only [Int.natCast_add, Int.natCast_one]; omega)) | ((conv => whnf); exact congrArg (AVal.irow _) (by first | omega | assumption | (simp only; omega)))) ?_; conv => whnf))
                · clear s1 s2
                  refine ⟨i + 1, by omega, by omega, ?_⟩
                  clear hmk hrep hrp2 hS hY hT hrow0 hz hzp
                  conv => whnf
                  refine ⟨?_, by (conv => whnf); repeat (first | exact True.intro | (refine And.intro rfl ?_; conv => whnf)), by (conv => whnf); repeat (first | exact True.intro | (refine And.intro (by first | rfl | (subst_vars; rfl)) ?_; conv => whnf)), rfl, rfl, rfl, rfl, rfl, rfl, rfl, Nat.le_of_ble_eq_true rfl, Nat.le_of_ble_eq_true rfl⟩
                  conv => whnf
                  repeat (first | exact True.intro | (refine And.intro (by first | rfl | ((conv => whnf); exact congrArg (AVal.int .i64) (by omega)) | ((conv => whnf); exact congrArg (AVal.int .i64) (by simp only [Int.natCast_add, Int.natCast_one]; omega)) | ((conv => whnf); exact congrArg (AVal.irow _) (by first | omega | assumption | (simp only; omega)))) ?_; conv => whnf))
        · exact leaf0 rfl rfl rfl
      · exact leaf0 rfl rfl rfl
      · refine V_loopH (γ := Nat) (fun i => i = 0) (fun i => 0)
          (fun i => [(20, .int .i64 i)]) (fun _ => []) (fun _ => []) 0 rfl ?_ ?_
        · clear hNn hrow0 hsq hrow
          conv => whnf
          refine ⟨?_, by (conv => whnf); repeat (first | exact True.intro | (refine And.intro rfl ?_; conv => whnf)), by (conv => whnf); repeat (first | exact True.intro | (refine And.intro (by first | rfl | (subst_vars; rfl)) ?_; conv => whnf)), rfl, rfl, rfl, rfl, rfl, rfl, rfl, Nat.le_of_ble_eq_true rfl, Nat.le_of_ble_eq_true rfl⟩
          conv => whnf
          repeat (first | exact True.intro | (refine And.intro (by first | rfl | ((conv => whnf); exact congrArg (AVal.int .i64) (by omega)) | ((conv => whnf); exact congrArg (AVal.int .i64) (by simp only [Int.natCast_add, Int.natCast_one]; omega)) | ((conv => whnf); exact congrArg (AVal.irow _) (by first | omega | assumption | (simp only; omega)))) ?_; conv => whnf))
        rintro i i1
        conv => whnf
        refine vcCode_sound T_okW GLc _ _ _ _ _ ?_
        conv => whnf
        repeat (refine V_step T_okW GLc rfl ?_; conv => whnf)
        refine bcond_split (fun hc => ?_) (fun hc => ?_) <;> conv => whnf
        · have hc2 : (i : Int) < (List.length (α := List Int) L : Int) := of_decide_eq_true hc
          omega
        repeat (any_goals (first
          | (refine V_step T_okW GLc rfl ?_; conv => whnf)
          | (refine V_drawN T_okW GLc mixed (by kernel_rfl) ?_; conv => whnf)
          | (refine bcond_split (fun hc => ?_) (fun hc => ?_) <;> (try simp only [decide_eq_true_eq, decide_eq_false_iff_not, Bool.not_eq_true', Bool.not_eq_false', Bool.and_eq_true, Bool.or_eq_true, Bool.and_eq_false_imp, Bool.or_eq_false_iff, ne_eq, Decidable.not_not] at hc) <;> conv => whnf)
          | (intro ysK hysK; have hysl := congrArg List.length hysK; (try simp only [List.length_set, List.length_append, List.length_cons, List.length_nil, List.length_take, List.length_drop, List.length_replicate] at hysl); conv => whnf)
          | (intro bK hbK; have hbl := congrArg ByteArray.size hbK; conv => whnf)
          | (intro sK hsK; conv => whnf)
          | (refine And.intro (by first | (first | exact True.intro | omega) | exact True.intro | exact ⟨rfl, True.intro, fun _ _ => rfl⟩ | exact Nat.le_of_ble_eq_true rfl | (refine ⟨by (try simp only [List.length_cons, List.length_nil]); omega, Int.le_trans (Int.mul_le_mul_of_nonneg_left (show (TInfo.bytes _ : Int) ≤ 64 from Int.ofNat_le.2 (Nat.le_of_ble_eq_true rfl)) (by omega)) (by (try simp only [List.length_cons, List.length_nil]); omega)⟩)) ?_; conv => whnf)))
        exact leaf0 rfl rfl rfl
end Go.Proofs.Ytadlnnjgocknhaa.Fw
-- %intro
-- %wrap
