/- Contracts: the largest class. -/
import Derived.Test.YtllagpbbbdekiacT10
namespace Go.Proofs.Ytllagpbbbdekiac.Fw
open Go Go.RowKit
set_option linter.unusedVariables false
set_option linter.unusedSimpArgs false
set_option maxRecDepth 100000
set_option maxHeartbeats 2000000
def bigG (L : List (List Int)) (g : Nat) : Int := (L.take g).foldl (fun m r => max m (r.length : Int)) 0
theorem bigG_next (L : List (List Int)) {g : Nat} (h : g < L.length) : bigG L (g + 1) = max (bigG L g) ((L.getD g []).length : Int) := by
  unfold bigG
  rw [List.take_add_one, List.foldl_append, List.getElem?_eq_getElem h, List.getD_eq_getElem?_getD, List.getElem?_eq_getElem h]; rfl
open Classical in
@[irreducible] noncomputable def lcR (t u : Ang) (n : Int) : Int × Int := if IsA t ∧ IsA u then (if OkN n then (bigG (cls2 t u n) (cls2 t u n).length, 0) else (0, 2)) else (0, 1)
theorem lcR_i {t u : Ang} {n : Int} (h : ¬ (IsA t ∧ IsA u)) : lcR t u n = (0, 1) := by unfold lcR; rw [if_neg h]
theorem lcR_r {t u : Ang} {n : Int} (h : IsA t ∧ IsA u) (h2 : ¬ OkN n) : lcR t u n = (0, 2) := by unfold lcR; rw [if_pos h, if_neg h2]
theorem lcR_t {t u : Ang} {n : Int} (h : IsA t ∧ IsA u) (h2 : OkN n) : lcR t u n = (bigG (cls2 t u n) (cls2 t u n).length, 0) := by unfold lcR; rw [if_pos h, if_pos h2]
theorem joc_zero {t u : Ang} {n : Int} (h : (jocR t u n).2 = 0) : (IsA t ∧ IsA u) ∧ OkN n := by
  by_cases h1 : IsA t ∧ IsA u
  · by_cases h2 : OkN n
    · exact ⟨h1, h2⟩
    · rw [jocR_r h1 h2] at h; cases h
  · rw [jocR_i h1] at h; cases h
theorem joc_lc {t u : Ang} {n : Int} (h : (jocR t u n).2 ≠ 0) : lcR t u n = (0, (jocR t u n).2) := by
  by_cases h1 : IsA t ∧ IsA u
  · by_cases h2 : OkN n
    · rw [jocR_t h1 h2] at h; exact absurd rfl h
    · rw [jocR_r h1 h2, lcR_r h1 h2]
  · rw [jocR_i h1, lcR_i h1]
def lenIC : PCtr := fun _ rg _ vals k => match vals with
  | [.row i] => rowC iT1 (rg i) fun xs => True ∧ k [] (.int .i64 (List.length (α := Int) xs))
  | _ => False
theorem lenI_ok : PCtrOk Try.prog 42 lenIC where
  enter := enter_ok Try.func42 (by kernel_rfl) rfl
  calls := by
    intro hg rg lr vals k h
    unfold lenIC at h
    split at h
    case h_2 => exact h.elim
    rename_i i
    obtain ⟨e, own, xs, hi, h⟩ : ∃ e own, ∃ (xs : List Int), _ := rowC_inv h
    have hk := h.2
    refine ⟨_, _, hk, fun A w hB hR => ?_⟩
    refine enter T_ok .nil Try.func42 rfl (K := (· < w.heap.size)) (fun _ h => h) (A := A.pick [] [i]) (vals := [.row 0]) (n0 := 0) (b0 := 0) (rows := [some ⟨iT1, e, false, xs⟩]) (hp := []) rfl (Nat.zero_le _) no_box rfl (one_row (hR i _ hi)) rfl rfl (Nat.le_of_ble_eq_true rfl) ?_
    conv => whnf
    repeat (refine V_step T_ok .nil rfl ?_; conv => whnf)
    all_goals exact leaf0 rfl rfl rfl
def lcC : PCtr := fun _ _ lr vals k => match vals with
  | [.agg [.int .i64 a, .int .i64 b], .agg [.int .i64 c, .int .i64 d], .int .i64 n] => True ∧ ∀ q : Int × Int, q = lcR (a, b) (c, d) n → k [] (.tup [.int .i64 q.1, .int .i64 q.2])
  | _ => False
abbrev GLcl := (GOk.cons isParts_ok (GOk.cons pcode_ok (GOk.cons joined_ok (GOk.cons lenI_ok .nil))))
theorem lc_code {t u : Ang} {n : Int} (hc : ¬ cdP t u (1 ≤ n ∧ n ≤ 63) = 0) : lcR t u n = (0, cdP t u (1 ≤ n ∧ n ≤ 63)) := by
  by_cases h1 : IsA t ∧ IsA u
  · have h2 : ¬ OkN n := fun h => hc (cdP_0.2 ⟨h1, h⟩)
    have e1 := (code2 t u (decide (OkN n))).2.2 h1 (decide_eq_false h2)
    simp only [decide_eq_true_iff] at e1
    rw [lcR_r h1 h2]
    exact congrArg (fun z => ((0 : Int), z)) e1.symm
  · have e1 := (code2 t u (decide (OkN n))).2.1 h1
    simp only [decide_eq_true_iff] at e1
    rw [lcR_i h1]
    exact congrArg (fun z => ((0 : Int), z)) e1.symm
theorem lc_codeB {t u : Ang} {n : Int} (hc : ¬ cdP t u (1 ≤ n ∧ n ≤ 63) = 0) : lcR t u n = (0, if [t, u].all allAY = true then (if decide (1 ≤ n ∧ n ≤ 63) = true then (0 : Int) else 2) else 1) := by
  rw [lc_code hc]
  simp only [decide_eq_true_iff]
theorem lc_leaf {q : Int × Int} {y z : Int} (h : q = (y, z)) : AVal.tup [.int .i64 y, .int .i64 z] = .tup [.int .i64 q.1, .int .i64 q.2] := by rw [h]
theorem lc_ok : PCtrOk Try.prog 15 lcC where
  enter := enter_ok Try.func15 (by kernel_rfl) rfl
  calls := by
    intro hg rg lr vals k h
    unfold lcC at h
    split at h
    case h_2 => exact h.elim
    rename_i a b c d n
    obtain ⟨_, hk⟩ := h
    replace hk := hk _ rfl
    refine ⟨_, _, hk, fun A w _ _ => ?_⟩
    refine enter T_ok GLcl Try.func15 rfl (K := (· < w.heap.size)) (fun _ h => h) (A := A) (n0 := 0) (b0 := 0) (rows := []) (hp := []) rfl (Nat.zero_le _) (fun k r h => by cases h) rfl (fun k r h => by cases h) rfl rfl (Nat.le_of_ble_eq_true rfl) ?_
    conv => whnf
    repeat (refine V_step T_ok GLcl rfl ?_; conv => whnf)
    repeat (any_goals (first
      | (refine V_step T_ok GLcl rfl ?_; conv => whnf)
      | (refine V_drawN T_ok GLcl mixed (by kernel_rfl) ?_; conv => whnf)
      | (refine bcond_split (fun hc => ?_) (fun hc => ?_) <;> (try simp only [decide_eq_true_eq, decide_eq_false_iff_not, Bool.not_eq_true', Bool.not_eq_false', Bool.and_eq_true, Bool.or_eq_true, Bool.and_eq_false_imp, Bool.or_eq_false_iff, ne_eq, Decidable.not_not] at hc) <;> conv => whnf)
      | (intro ysK hysK; have hysl := congrArg List.length hysK; (try simp only [List.length_set, List.length_append, List.length_cons, List.length_nil, List.length_take, List.length_drop, List.length_replicate] at hysl); conv => whnf)
      | (intro bK hbK; have hbl := congrArg ByteArray.size hbK; conv => whnf)
      | (intro sK hsK; conv => whnf)
      | (refine And.intro (by first | (first | exact True.intro | exact code2P.1 (by assumption) | (simp only [Rng]; omega)) | exact True.intro | exact ⟨rfl, True.intro, fun _ _ => rfl⟩ | exact Nat.le_of_ble_eq_true rfl | (refine ⟨by (try simp only [List.length_cons, List.length_nil]); omega, Int.le_trans (Int.mul_le_mul_of_nonneg_left (show (TInfo.bytes _ : Int) ≤ 64 from Int.ofNat_le.2 (Nat.le_of_ble_eq_true rfl)) (by omega)) (by (try simp only [List.length_cons, List.length_nil]); omega)⟩)) ?_; conv => whnf)))
    · exact leaf0 rfl (lc_leaf (lc_codeB hc)) rfl
    · have h0 := (cdP_0 (P := 1 ≤ n ∧ n ≤ 63)).1 hc
      have hsm := (cls2_small (a, b) (c, d) h0.2).1
      rw [← hysK] at hsm
      refine V_loopH (γ := Nat × Int) (fun g => g.1 ≤ List.length (α := TyC.α rT1) ysK ∧ g.2 = bigG ysK g.1) (fun g => List.length (α := TyC.α rT1) ysK - g.1) (fun g => [(26, .int .i64 g.1), (9, .int .i64 g.2)]) (fun _ => []) (fun _ => []) (0, 0) ⟨Nat.zero_le _, rfl⟩ ?_ ?_
      · conv => whnf
        refine ⟨?_, by (conv => whnf); repeat (first | exact True.intro | (refine And.intro rfl ?_; conv => whnf)), by (conv => whnf); repeat (first | exact True.intro | (refine And.intro (by first | rfl | (subst_vars; rfl)) ?_; conv => whnf)), rfl, rfl, rfl, rfl, rfl, rfl, rfl, Nat.le_of_ble_eq_true rfl, Nat.le_of_ble_eq_true rfl⟩
        conv => whnf
        repeat (first | exact True.intro | (refine And.intro (by first | rfl | ((conv => whnf); exact congrArg (AVal.int .i64) (by omega)) | ((conv => whnf); exact congrArg (AVal.int .i64) (by simp only [Int.natCast_add, Int.natCast_one]; omega)) | ((conv => whnf); exact congrArg (AVal.irow _) (by first | omega | assumption | (simp only; omega)))) ?_; conv => whnf))
      · rintro ⟨g, m⟩ ⟨hg, hm⟩
        simp only at hg hm
        have hl' : (List.length (α := TyC.α rT1) ysK : Int) ≤ 63 := by have : List.length (α := TyC.α rT1) ysK ≤ 63 := hsm; omega
        conv => whnf
        refine vcCode_sound T_ok GLcl _ _ _ _ _ ?_
        conv => whnf
        repeat (refine V_step T_ok GLcl rfl ?_; conv => whnf)
        repeat (any_goals (first
          | (refine V_step T_ok GLcl rfl ?_; conv => whnf)
          | (refine V_drawA T_ok GLcl mixed (by kernel_rfl) ?_; conv => whnf)
          | (refine bcond_split (fun hc => ?_) (fun hc => ?_) <;> (try simp only [decide_eq_true_eq, decide_eq_false_iff_not, Bool.not_eq_true', Bool.not_eq_false', Bool.and_eq_true, Bool.or_eq_true, Bool.and_eq_false_imp, Bool.or_eq_false_iff, ne_eq, Decidable.not_not] at hc) <;> conv => whnf)
          | (intro ysK hysK; have hysl := congrArg List.length hysK; (try simp only [List.length_set, List.length_append, List.length_cons, List.length_nil, List.length_take, List.length_drop, List.length_replicate] at hysl); conv => whnf)
          | (intro bK hbK; have hbl := congrArg ByteArray.size hbK; conv => whnf)
          | (intro sK hsK; conv => whnf)
          | (refine And.intro (by first | (first | exact True.intro | omega | (simp only [Rng]; omega)) | exact True.intro | exact ⟨rfl, True.intro, fun _ _ => rfl⟩ | exact Nat.le_of_ble_eq_true rfl | (refine ⟨by (try simp only [List.length_cons, List.length_nil]); omega, Int.le_trans (Int.mul_le_mul_of_nonneg_left (show (TInfo.bytes _ : Int) ≤ 64 from Int.ofNat_le.2 (Nat.le_of_ble_eq_true rfl)) (by omega)) (by (try simp only [List.length_cons, List.length_nil]); omega)⟩)) ?_; conv => whnf)))
        · have hlt : g < List.length (α := List Int) ysK := by
            have : g < List.length (α := TyC.α rT1) ysK := by omega
            exact this
          refine ⟨(g + 1, if (List.length (α := Int) (List.getD (α := List Int) ysK g []) : Int) > m then (List.length (α := Int) (List.getD (α := List Int) ysK g []) : Int) else m), ⟨by simp only; omega, by simp only; rw [bigG_next _ hlt, ← hm]; exact mx_eq _ _⟩, by simp only; omega, ?_⟩
          conv => whnf
          refine ⟨?_, by (conv => whnf); repeat (first | exact True.intro | (refine And.intro rfl ?_; conv => whnf)), by (conv => whnf); repeat (first | exact True.intro | (refine And.intro (by first | rfl | (subst_vars; rfl)) ?_; conv => whnf)), rfl, rfl, rfl, rfl, rfl, rfl, rfl, Nat.le_of_ble_eq_true rfl, Nat.le_of_ble_eq_true rfl⟩
          conv => whnf
          repeat (first | exact True.intro | (refine And.intro (by first | rfl | ((conv => whnf); exact congrArg (AVal.int .i64) (by omega)) | ((conv => whnf); exact congrArg (AVal.int .i64) (by simp only [Int.natCast_add, Int.natCast_one]; omega)) | ((conv => whnf); exact congrArg (AVal.irow _) (by first | omega | assumption | (simp only; omega)))) ?_; conv => whnf))
        · have hgl : g = List.length (α := TyC.α rT1) ysK := by omega
          refine leaf0 rfl (lc_leaf ((lcR_t h0.1 h0.2).trans ?_)) rfl
          rw [hm, hgl, ← hysK]
abbrev GSlc := (GOk.cons sJoc_ok .nil)
theorem sLc_ok : PCtrOk Try.prog 16 lcC where
  enter := enter_ok Try.func16 (by kernel_rfl) rfl
  calls := by
    intro hg rg lr vals k h
    unfold lcC at h
    split at h
    case h_2 => exact h.elim
    rename_i a b c d n
    obtain ⟨_, hk⟩ := h
    replace hk := hk _ rfl
    refine ⟨_, _, hk, fun A w _ _ => ?_⟩
    refine enter T_ok GSlc Try.func16 rfl (K := (· < w.heap.size)) (fun _ h => h) (A := A) (n0 := 0) (b0 := 0) (rows := []) (hp := []) rfl (Nat.zero_le _) (fun k r h => by cases h) rfl (fun k r h => by cases h) rfl rfl (Nat.le_of_ble_eq_true rfl) ?_
    conv => whnf
    repeat (refine V_step T_ok GSlc rfl ?_; conv => whnf)
    repeat (any_goals (first
      | (refine V_step T_ok GSlc rfl ?_; conv => whnf)
      | (refine V_drawN T_ok GSlc mixed (by kernel_rfl) ?_; conv => whnf)
      | (refine bcond_split (fun hc => ?_) (fun hc => ?_) <;> (try simp only [decide_eq_true_eq, decide_eq_false_iff_not, Bool.not_eq_true', Bool.not_eq_false', Bool.and_eq_true, Bool.or_eq_true, Bool.and_eq_false_imp, Bool.or_eq_false_iff, ne_eq, Decidable.not_not] at hc) <;> conv => whnf)
      | (intro ysK hysK; have hysl := congrArg List.length hysK; (try simp only [List.length_set, List.length_append, List.length_cons, List.length_nil, List.length_take, List.length_drop, List.length_replicate] at hysl); conv => whnf)
      | (intro bK hbK; have hbl := congrArg ByteArray.size hbK; conv => whnf)
      | (intro sK hsK; conv => whnf)
      | (refine And.intro (by first | (first | exact True.intro | (simp only [Rng]; omega)) | exact True.intro | exact ⟨rfl, True.intro, fun _ _ => rfl⟩ | exact Nat.le_of_ble_eq_true rfl | (refine ⟨by (try simp only [List.length_cons, List.length_nil]); omega, Int.le_trans (Int.mul_le_mul_of_nonneg_left (show (TInfo.bytes _ : Int) ≤ 64 from Int.ofNat_le.2 (Nat.le_of_ble_eq_true rfl)) (by omega)) (by (try simp only [List.length_cons, List.length_nil]); omega)⟩)) ?_; conv => whnf)))
    · rw [hsK] at hc
      exact leaf0 rfl (by rw [hsK]; exact lc_leaf (joc_lc hc)) rfl
    · have hs2 : sK = jocR (a, b) (c, d) n := hsK
      have h0 : (IsA (a, b) ∧ IsA (c, d)) ∧ OkN n := joc_zero (by rw [← hs2]; exact hc)
      have hs3 : sK.1 = cls2 (a, b) (c, d) n := by rw [hs2, jocR_t h0.1 h0.2]
      have hsm := (cls2_small (a, b) (c, d) h0.2).1
      rw [← hs3] at hsm
      refine V_loopH (γ := Nat × Int) (fun g => g.1 ≤ List.length (α := TyC.α rT1) sK.1 ∧ g.2 = bigG sK.1 g.1) (fun g => List.length (α := TyC.α rT1) sK.1 - g.1) (fun g => [(11, .int .i64 g.1), (10, .int .i64 g.2)]) (fun _ => []) (fun _ => []) (0, 0) ⟨Nat.zero_le _, rfl⟩ ?_ ?_
      · conv => whnf
        refine ⟨?_, by (conv => whnf); repeat (first | exact True.intro | (refine And.intro rfl ?_; conv => whnf)), by (conv => whnf); repeat (first | exact True.intro | (refine And.intro (by first | rfl | (subst_vars; rfl)) ?_; conv => whnf)), rfl, rfl, rfl, rfl, rfl, rfl, rfl, Nat.le_of_ble_eq_true rfl, Nat.le_of_ble_eq_true rfl⟩
        conv => whnf
        repeat (first | exact True.intro | (refine And.intro (by first | rfl | ((conv => whnf); exact congrArg (AVal.int .i64) (by omega)) | ((conv => whnf); exact congrArg (AVal.int .i64) (by simp only [Int.natCast_add, Int.natCast_one]; omega)) | ((conv => whnf); exact congrArg (AVal.irow _) (by first | omega | assumption | (simp only; omega)))) ?_; conv => whnf))
      · rintro ⟨g, m⟩ ⟨hg, hm⟩
        simp only at hg hm
        have hl' : (List.length (α := TyC.α rT1) sK.1 : Int) ≤ 63 := by have : List.length (α := TyC.α rT1) sK.1 ≤ 63 := hsm; omega
        conv => whnf
        refine vcCode_sound T_ok GSlc _ _ _ _ _ ?_
        conv => whnf
        repeat (refine V_step T_ok GSlc rfl ?_; conv => whnf)
        repeat (any_goals (first
          | (refine V_step T_ok GSlc rfl ?_; conv => whnf)
          | (refine V_drawA T_ok GSlc mixed (by kernel_rfl) ?_; conv => whnf)
          | (refine bcond_split (fun hc => ?_) (fun hc => ?_) <;> (try simp only [decide_eq_true_eq, decide_eq_false_iff_not, Bool.not_eq_true', Bool.not_eq_false', Bool.and_eq_true, Bool.or_eq_true, Bool.and_eq_false_imp, Bool.or_eq_false_iff, ne_eq, Decidable.not_not] at hc) <;> conv => whnf)
          | (intro ysK hysK; have hysl := congrArg List.length hysK; (try simp only [List.length_set, List.length_append, List.length_cons, List.length_nil, List.length_take, List.length_drop, List.length_replicate] at hysl); conv => whnf)
          | (intro bK hbK; have hbl := congrArg ByteArray.size hbK; conv => whnf)
          | (intro sK hsK; conv => whnf)
          | (refine And.intro (by first | (first | exact True.intro | omega | (simp only [Rng]; omega)) | exact True.intro | exact ⟨rfl, True.intro, fun _ _ => rfl⟩ | exact Nat.le_of_ble_eq_true rfl | (refine ⟨by (try simp only [List.length_cons, List.length_nil]); omega, Int.le_trans (Int.mul_le_mul_of_nonneg_left (show (TInfo.bytes _ : Int) ≤ 64 from Int.ofNat_le.2 (Nat.le_of_ble_eq_true rfl)) (by omega)) (by (try simp only [List.length_cons, List.length_nil]); omega)⟩)) ?_; conv => whnf)))
        · have hlt : g < List.length (α := List Int) sK.1 := by
            have : g < List.length (α := TyC.α rT1) sK.1 := by omega
            exact this
          refine ⟨(g + 1, if (List.length (α := Int) (List.getD (α := List Int) sK.1 g []) : Int) > m then (List.length (α := Int) (List.getD (α := List Int) sK.1 g []) : Int) else m), ⟨by simp only; omega, by simp only; rw [bigG_next _ hlt, ← hm]; exact mx_eq _ _⟩, by simp only; omega, ?_⟩
          conv => whnf
          refine ⟨?_, by (conv => whnf); repeat (first | exact True.intro | (refine And.intro rfl ?_; conv => whnf)), by (conv => whnf); repeat (first | exact True.intro | (refine And.intro (by first | rfl | (subst_vars; rfl)) ?_; conv => whnf)), rfl, rfl, rfl, rfl, rfl, rfl, rfl, Nat.le_of_ble_eq_true rfl, Nat.le_of_ble_eq_true rfl⟩
          conv => whnf
          repeat (first | exact True.intro | (refine And.intro (by first | rfl | ((conv => whnf); exact congrArg (AVal.int .i64) (by omega)) | ((conv => whnf); exact congrArg (AVal.int .i64) (by simp only [Int.natCast_add, Int.natCast_one]; omega)) | ((conv => whnf); exact congrArg (AVal.irow _) (by first | omega | assumption | (simp only; omega)))) ?_; conv => whnf))
        · have hgl : g = List.length (α := TyC.α rT1) sK.1 := by omega
          refine leaf0 rfl (lc_leaf ((lcR_t h0.1 h0.2).trans ?_)) rfl
          rw [hm, hgl, ← hs3]
end Go.Proofs.Ytllagpbbbdekiac.Fw
