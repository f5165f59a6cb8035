/- Contracts: the reference's pair of an angle; partners. -/
import Derived.Test.YtlplngafncobkabQ1
namespace Go.Proofs.Ytlplngafncobkab.Fw
open Go Go.RowKit
set_option linter.unusedVariables false
set_option linter.unusedSimpArgs false
set_option maxRecDepth 100000
set_option maxHeartbeats 2000000

theorem perS_rng {a : Ang} (h : IsA a) : (2 ≤ perS a ∧ perS a ≤ 8) ↔ (2 ≤ perI a ∧ perI a ≤ 8) := by
  rcases per_eq h with ⟨h3, h4⟩ | ⟨h3, h4⟩
  · rw [h3]
  · omega
theorem okX.perS {a : Ang} (h : okX a) : perS a = perI a := by
  have h2 := h.2
  rcases per_eq h.1 with ⟨h3, h4⟩ | ⟨h3, h4⟩
  · exact h3
  · omega
def codeC : PCtr := fun _ _ _ vals k => match vals with
  | [.agg [.int .i64 n, .int .i64 d]] => True ∧ k [] (.int .i64 (prCode (n, d)))
  | _ => False
abbrev GSC := GOk.cons sIs_ok (GOk.cons sPer_ok (GOk.cons sIn_ok .nil))
theorem sCode_ok : PCtrOk Try.prog 65 codeC where
  enter := enter_ok Try.func65 (by kernel_rfl) rfl
  calls := by
    intro hg rg lr vals k h
    unfold codeC at h
    split at h
    case h_2 => exact h.elim
    rename_i n d
    obtain ⟨_, hk⟩ := h
    refine ⟨_, _, hk, fun A w _ _ => ?_⟩
    refine enter T_ok GSC Try.func65 rfl (K := (· < w.heap.size)) (fun _ h => h) (A := A) (n0 := 0) (b0 := 0) (rows := []) (hp := []) rfl (Nat.zero_le _) (fun k r h => by cases h) rfl (fun k r h => by cases h) rfl rfl (Nat.le_of_ble_eq_true rfl) ?_
    conv => whnf
    repeat (refine V_step T_ok GSC rfl ?_; conv => whnf)
    repeat (any_goals (first
      | (refine V_step T_ok GSC rfl ?_; conv => whnf)
      | (refine V_drawA T_ok GSC mixed (by kernel_rfl) ?_; conv => whnf)
      | (refine bcond_split (fun hc => ?_) (fun hc => ?_) <;> (try simp only [decide_eq_true_eq, decide_eq_false_iff_not, Bool.not_eq_true', Bool.not_eq_false', Bool.and_eq_true, Bool.or_eq_true, Bool.and_eq_false_imp, Bool.or_eq_false_iff, ne_eq, Decidable.not_not] at hc) <;> conv => whnf)
      | (intro ysK hysK; have hysl := congrArg List.length hysK; (try simp only [List.length_set, List.length_append, List.length_cons, List.length_nil, List.length_take, List.length_drop, List.length_replicate] at hysl); conv => whnf)
      | (refine And.intro (by first | (first | exact True.intro | (with_reducible assumption)) | exact True.intro | exact Nat.le_of_ble_eq_true rfl | (refine ⟨by (try simp only [List.length_cons, List.length_nil]); omega, Int.le_trans (Int.mul_le_mul_of_nonneg_left (show (TInfo.bytes _ : Int) ≤ 64 from Int.ofNat_le.2 (Nat.le_of_ble_eq_true rfl)) (by omega)) (by (try simp only [List.length_cons, List.length_nil]); omega)⟩)) ?_; conv => whnf)))
    · refine leaf0 rfl (congrArg (AVal.int .i64) ?_) rfl
      rw [prCode, if_neg hc]
    · rename_i ha
      refine leaf0 rfl (congrArg (AVal.int .i64) ?_) rfl
      rw [prCode, if_pos ha, if_neg (fun h => hc ((perS_rng ha).2 h))]
    · rename_i ha
      refine leaf0 rfl (congrArg (AVal.int .i64) ?_) rfl
      rw [prCode, if_pos ha, if_pos ((perS_rng ha).1 hc)]

theorem find_at {α : Type} {p : α → Bool} {d : α} {xs : List α} {n : Nat} (h1 : n < xs.length) (h2 : p (xs.getD n d) = true) (h3 : ∀ i, i < n → p (xs.getD i d) = false) : xs.find? p = some (xs.getD n d) :=
  find_of h1 h2 fun x hx => by
    obtain ⟨i, hi, rfl⟩ := List.mem_iff_getElem.1 hx
    have hi' : i < n := by simp at hi; omega
    have := h3 i hi'
    rw [List.getD_eq_getElem?_getD, List.getElem?_eq_getElem (by omega)] at this
    rw [List.getElem_take]
    exact this
def sPairC : PCtr := fun _ _ _ vals k => match vals with
  | [.agg [.int .i64 n, .int .i64 d]] => okX (n, d) ∧ k [] (lV (prOf (n, d)))
  | _ => False
abbrev GSP := GOk.cons sPer_ok (GOk.cons sPairs_ok .nil)
theorem sPair_ok : PCtrOk Try.prog 66 sPairC where
  enter := enter_ok Try.func66 (by kernel_rfl) rfl
  calls := by
    intro hg rg lr vals k h
    unfold sPairC at h
    split at h
    case h_2 => exact h.elim
    rename_i n d
    obtain ⟨hx, hk⟩ := h
    refine ⟨_, _, hk, fun A w _ _ => ?_⟩
    refine enter T_ok GSP Try.func66 rfl (K := (· < w.heap.size)) (fun _ h => h) (A := A) (n0 := 0) (b0 := 0) (rows := []) (hp := []) rfl (Nat.zero_le _) (fun k r h => by cases h) rfl (fun k r h => by cases h) rfl rfl (Nat.le_of_ble_eq_true rfl) ?_
    conv => whnf
    repeat (refine V_step T_ok GSP rfl ?_; conv => whnf)
    have hn := hx.2
    have hS := hx.perS
    have hlen := prN_len (m := (perI (n, d)).toNat - 1) (by omega)
    have hf := find_all hx
    repeat (any_goals (first
      | (refine V_step T_ok GSP rfl ?_; conv => whnf)
      | (refine V_drawA T_ok GSP mixed (by kernel_rfl) ?_; conv => whnf)
      | (refine bcond_split (fun hc => ?_) (fun hc => ?_) <;> (try simp only [decide_eq_true_eq, decide_eq_false_iff_not, Bool.not_eq_true', Bool.not_eq_false', Bool.and_eq_true, Bool.or_eq_true, Bool.and_eq_false_imp, Bool.or_eq_false_iff, ne_eq, Decidable.not_not] at hc) <;> conv => whnf)
      | (intro ysK hysK; have hysl := congrArg List.length hysK; (try simp only [List.length_set, List.length_append, List.length_cons, List.length_nil, List.length_take, List.length_drop, List.length_replicate] at hysl); conv => whnf)
      | (refine And.intro (by first | (first | exact True.intro | exact hx.1 | omega) | exact True.intro | exact Nat.le_of_ble_eq_true rfl | (refine ⟨by (try simp only [List.length_cons, List.length_nil]); omega, Int.le_trans (Int.mul_le_mul_of_nonneg_left (show (TInfo.bytes _ : Int) ≤ 64 from Int.ofNat_le.2 (Nat.le_of_ble_eq_true rfl)) (by omega)) (by (try simp only [List.length_cons, List.length_nil]); omega)⟩)) ?_; conv => whnf)))
    rw [hS]
    obtain ⟨zs, hZ⟩ : ∃ zs, prN ((perI (n, d)).toNat - 1) = zs := ⟨_, rfl⟩
    rw [hZ] at hlen hf ⊢
    refine V_loopH (γ := Nat) (fun j => j ≤ zs.length ∧ ∀ i, i < j → hasE (n, d) (zs.getD i lT.dflt) = false) (fun j => zs.length - j)
      (fun j => [(4, .int .i64 j)]) (fun _ => []) (fun _ => []) 0 ⟨Nat.zero_le _, fun i h => absurd h (Nat.not_lt_zero _)⟩ ?_ ?_
    · conv => whnf
      refine ⟨?_, by (conv => whnf); repeat (first | exact True.intro | (refine And.intro rfl ?_; conv => whnf)), by (conv => whnf); repeat (first | exact True.intro | (refine And.intro (by first | rfl | (subst_vars; rfl)) ?_; conv => whnf)), rfl, rfl, rfl, rfl, rfl, rfl, rfl, Nat.le_of_ble_eq_true rfl, Nat.le_of_ble_eq_true rfl⟩
      conv => whnf
      repeat (first | exact True.intro | (refine And.intro (by first | rfl | ((conv => whnf); exact congrArg (AVal.int .i64) (by omega)) | ((conv => whnf); exact congrArg (AVal.int .i64) (by simp only [Int.natCast_add, Int.natCast_one]; omega))) ?_; conv => whnf))
    · rintro j ⟨h1, h2⟩
      conv => whnf
      refine vcCode_sound T_ok GSP _ _ _ _ _ ?_
      conv => whnf
      repeat (refine V_step T_ok GSP rfl ?_; conv => whnf)
      repeat (any_goals (first
        | (refine V_step T_ok GSP rfl ?_; conv => whnf)
        | (refine V_drawA T_ok GSP mixed (by kernel_rfl) ?_; conv => whnf)
        | (refine bcond_split (fun hc => ?_) (fun hc => ?_) <;> (try simp only [decide_eq_true_eq, decide_eq_false_iff_not, Bool.not_eq_true', Bool.not_eq_false', Bool.and_eq_true, Bool.or_eq_true, Bool.and_eq_false_imp, Bool.or_eq_false_iff, ne_eq, Decidable.not_not] at hc) <;> conv => whnf)
        | (intro ysK hysK; have hysl := congrArg List.length hysK; (try simp only [List.length_set, List.length_append, List.length_cons, List.length_nil, List.length_take, List.length_drop, List.length_replicate] at hysl); conv => whnf)
        | (refine And.intro (by first | exact True.intro | (with_reducible assumption) | omega | (simp only [Rng]; omega) | exact Nat.le_of_ble_eq_true rfl | exact True.intro | exact Nat.le_of_ble_eq_true rfl | (refine ⟨by (try simp only [List.length_cons, List.length_nil]); omega, Int.le_trans (Int.mul_le_mul_of_nonneg_left (show (TInfo.bytes _ : Int) ≤ 64 from Int.ofNat_le.2 (Nat.le_of_ble_eq_true rfl)) (by omega)) (by (try simp only [List.length_cons, List.length_nil]); omega)⟩)) ?_; conv => whnf)))
      · rename_i hl
        have hl : (j : Int) < (zs.length : Nat) := hl
        have hh : hasE (n, d) (zs.getD j lT.dflt) = true := decide_eq_true (.inl (Prod.ext hc.1 hc.2))
        have hg := find_at (by omega) hh h2
        rw [hf] at hg
        exact leaf0 rfl (congrArg lV (Option.some.inj hg).symm) rfl
      · rename_i hl hc0
        have hl : (j : Int) < (zs.length : Nat) := hl
        have hh : hasE (n, d) (zs.getD j lT.dflt) = true := decide_eq_true (.inr (Prod.ext hc.1 hc.2))
        have hg := find_at (by omega) hh h2
        rw [hf] at hg
        exact leaf0 rfl (congrArg lV (Option.some.inj hg).symm) rfl
      · rename_i hl hc0
        have hl : (j : Int) < (zs.length : Nat) := hl
        refine ⟨j + 1, ⟨by omega, fun i hi => ?_⟩, by omega, ?_⟩
        · rcases Nat.lt_or_ge i j with h | h
          · exact h2 i h
          · obtain rfl : i = j := by omega
            exact decide_eq_false (fun h => h.elim (fun h => hc0 (congrArg Prod.fst h) (congrArg Prod.snd h)) (fun h => hc (congrArg Prod.fst h) (congrArg Prod.snd h)))
        · conv => whnf
          refine ⟨?_, by (conv => whnf); repeat (first | exact True.intro | (refine And.intro rfl ?_; conv => whnf)), by (conv => whnf); repeat (first | exact True.intro | (refine And.intro (by first | rfl | (subst_vars; rfl)) ?_; conv => whnf)), rfl, rfl, rfl, rfl, rfl, rfl, rfl, Nat.le_of_ble_eq_true rfl, Nat.le_of_ble_eq_true rfl⟩
          conv => whnf
          repeat (first | exact True.intro | (refine And.intro (by first | rfl | ((conv => whnf); exact congrArg (AVal.int .i64) (by omega)) | ((conv => whnf); exact congrArg (AVal.int .i64) (by simp only [Int.natCast_add, Int.natCast_one]; omega))) ?_; conv => whnf))
      · have hl : ¬ (j : Int) < (zs.length : Nat) := hc
        have := List.find?_some hf
        obtain ⟨i, hi, he⟩ := List.mem_iff_getElem.1 (List.mem_of_find?_eq_some hf)
        have h3 := h2 i (by omega)
        rw [List.getD_eq_getElem?_getD, List.getElem?_eq_getElem hi] at h3
        rw [show (some zs[i]).getD lT.dflt = zs[i] from rfl, he] at h3
        rw [h3] at this; cases this

abbrev GSPr := GOk.cons sCode_ok (GOk.cons sPair_ok .nil)
theorem sPr_ok : PCtrOk Try.prog 30 prC where
  enter := enter_ok Try.func30 (by kernel_rfl) rfl
  calls := by
    intro hg rg lr vals k h
    unfold prC at h
    split at h
    case h_2 => exact h.elim
    rename_i n d
    obtain ⟨_, hk⟩ := h
    refine ⟨_, _, hk, fun A w _ _ => ?_⟩
    refine enter T_ok GSPr Try.func30 rfl (K := (· < w.heap.size)) (fun _ h => h) (A := A) (n0 := 0) (b0 := 0) (rows := []) (hp := []) rfl (Nat.zero_le _) (fun k r h => by cases h) rfl (fun k r h => by cases h) rfl rfl (Nat.le_of_ble_eq_true rfl) ?_
    conv => whnf
    repeat (refine V_step T_ok GSPr rfl ?_; conv => whnf)
    repeat (any_goals (first
      | (refine V_step T_ok GSPr rfl ?_; conv => whnf)
      | (refine V_drawA T_ok GSPr mixed (by kernel_rfl) ?_; conv => whnf)
      | (refine bcond_split (fun hc => ?_) (fun hc => ?_) <;> (try simp only [decide_eq_true_eq, decide_eq_false_iff_not, Bool.not_eq_true', Bool.not_eq_false', Bool.and_eq_true, Bool.or_eq_true, Bool.and_eq_false_imp, Bool.or_eq_false_iff, ne_eq, Decidable.not_not] at hc) <;> conv => whnf)
      | (intro ysK hysK; have hysl := congrArg List.length hysK; (try simp only [List.length_set, List.length_append, List.length_cons, List.length_nil, List.length_take, List.length_drop, List.length_replicate] at hysl); conv => whnf)
      | (refine And.intro (by first | (first | exact True.intro | exact (prCode_ok _).1 (by assumption)) | exact True.intro | exact Nat.le_of_ble_eq_true rfl | (refine ⟨by (try simp only [List.length_cons, List.length_nil]); omega, Int.le_trans (Int.mul_le_mul_of_nonneg_left (show (TInfo.bytes _ : Int) ≤ 64 from Int.ofNat_le.2 (Nat.le_of_ble_eq_true rfl)) (by omega)) (by (try simp only [List.length_cons, List.length_nil]); omega)⟩)) ?_; conv => whnf)))
    · have hb : ¬ okX (n, d) := fun h => hc ((prCode_ok _).2 h)
      refine leaf0 rfl ?_ rfl
      rw [prOf_bad hb]; rfl
    · refine leaf0 rfl ?_ rfl
      rw [hc]

/-! ### partners -/
def parOf (x : Ang) : Ang := if prCode x = 0 then (if (prOf x).1 = x then (prOf x).2 else (prOf x).1) else (0, 0)
def parC : PCtr := fun _ _ _ vals k => match vals with
  | [.agg [.int .i64 n, .int .i64 d]] => True ∧ k [] (.tup [aV (parOf (n, d)), .int .i64 (prCode (n, d))])
  | _ => False
theorem par_ok : PCtrOk Try.prog 33 parC where
  enter := enter_ok Try.func33 (by kernel_rfl) rfl
  calls := by
    intro hg rg lr vals k h
    unfold parC at h
    split at h
    case h_2 => exact h.elim
    rename_i n d
    obtain ⟨_, hk⟩ := h
    refine ⟨_, _, hk, fun A w _ _ => ?_⟩
    refine enter T_ok (GOk.cons pr_ok .nil) Try.func33 rfl (K := (· < w.heap.size)) (fun _ h => h) (A := A) (n0 := 0) (b0 := 0) (rows := []) (hp := []) rfl (Nat.zero_le _) (fun k r h => by cases h) rfl (fun k r h => by cases h) rfl rfl (Nat.le_of_ble_eq_true rfl) ?_
    conv => whnf
    repeat (refine V_step T_ok (GOk.cons pr_ok .nil) rfl ?_; conv => whnf)
    repeat (any_goals (first
      | (refine V_step T_ok (GOk.cons pr_ok .nil) rfl ?_; conv => whnf)
      | (refine V_drawA T_ok (GOk.cons pr_ok .nil) mixed (by kernel_rfl) ?_; conv => whnf)
      | (refine bcond_split (fun hc => ?_) (fun hc => ?_) <;> (try simp only [decide_eq_true_eq, decide_eq_false_iff_not, Bool.not_eq_true', Bool.not_eq_false', Bool.and_eq_true, Bool.or_eq_true, Bool.and_eq_false_imp, Bool.or_eq_false_iff, ne_eq, Decidable.not_not] at hc) <;> conv => whnf)
      | (intro ysK hysK; have hysl := congrArg List.length hysK; (try simp only [List.length_set, List.length_append, List.length_cons, List.length_nil, List.length_take, List.length_drop, List.length_replicate] at hysl); conv => whnf)
      | (refine And.intro (by first | exact True.intro | (with_reducible assumption) | omega | (simp only [Rng]; omega) | exact Nat.le_of_ble_eq_true rfl | exact True.intro | exact Nat.le_of_ble_eq_true rfl | (refine ⟨by (try simp only [List.length_cons, List.length_nil]); omega, Int.le_trans (Int.mul_le_mul_of_nonneg_left (show (TInfo.bytes _ : Int) ≤ 64 from Int.ofNat_le.2 (Nat.le_of_ble_eq_true rfl)) (by omega)) (by (try simp only [List.length_cons, List.length_nil]); omega)⟩)) ?_; conv => whnf)))
    · exact leaf0 rfl (by rw [parOf, if_neg hc] <;> rfl) rfl
    · rename_i h0
      exact leaf0 rfl (by rw [parOf, if_pos h0, if_pos (Prod.ext hc.1 hc.2), h0] <;> rfl) rfl
    · rename_i h0
      exact leaf0 rfl (by rw [parOf, if_pos h0, if_neg (fun h => hc (congrArg Prod.fst h) (congrArg Prod.snd h)), h0] <;> rfl) rfl
theorem sPar_ok : PCtrOk Try.prog 32 parC where
  enter := enter_ok Try.func32 (by kernel_rfl) rfl
  calls := by
    intro hg rg lr vals k h
    unfold parC at h
    split at h
    case h_2 => exact h.elim
    rename_i n d
    obtain ⟨_, hk⟩ := h
    refine ⟨_, _, hk, fun A w _ _ => ?_⟩
    refine enter T_ok (GOk.cons sPr_ok .nil) Try.func32 rfl (K := (· < w.heap.size)) (fun _ h => h) (A := A) (n0 := 0) (b0 := 0) (rows := []) (hp := []) rfl (Nat.zero_le _) (fun k r h => by cases h) rfl (fun k r h => by cases h) rfl rfl (Nat.le_of_ble_eq_true rfl) ?_
    conv => whnf
    repeat (refine V_step T_ok (GOk.cons sPr_ok .nil) rfl ?_; conv => whnf)
    repeat (any_goals (first
      | (refine V_step T_ok (GOk.cons sPr_ok .nil) rfl ?_; conv => whnf)
      | (refine V_drawA T_ok (GOk.cons sPr_ok .nil) mixed (by kernel_rfl) ?_; conv => whnf)
      | (refine bcond_split (fun hc => ?_) (fun hc => ?_) <;> (try simp only [decide_eq_true_eq, decide_eq_false_iff_not, Bool.not_eq_true', Bool.not_eq_false', Bool.and_eq_true, Bool.or_eq_true, Bool.and_eq_false_imp, Bool.or_eq_false_iff, ne_eq, Decidable.not_not] at hc) <;> conv => whnf)
      | (intro ysK hysK; have hysl := congrArg List.length hysK; (try simp only [List.length_set, List.length_append, List.length_cons, List.length_nil, List.length_take, List.length_drop, List.length_replicate] at hysl); conv => whnf)
      | (refine And.intro (by first | exact True.intro | (with_reducible assumption) | omega | (simp only [Rng]; omega) | exact Nat.le_of_ble_eq_true rfl | exact True.intro | exact Nat.le_of_ble_eq_true rfl | (refine ⟨by (try simp only [List.length_cons, List.length_nil]); omega, Int.le_trans (Int.mul_le_mul_of_nonneg_left (show (TInfo.bytes _ : Int) ≤ 64 from Int.ofNat_le.2 (Nat.le_of_ble_eq_true rfl)) (by omega)) (by (try simp only [List.length_cons, List.length_nil]); omega)⟩)) ?_; conv => whnf)))
    · exact leaf0 rfl (by rw [parOf, if_neg hc] <;> rfl) rfl
    · rename_i h0
      exact leaf0 rfl (by rw [parOf, if_pos h0, if_pos (Prod.ext hc.1 hc.2), h0] <;> rfl) rfl
    · rename_i h0
      exact leaf0 rfl (by rw [parOf, if_pos h0, if_neg (fun h => hc (congrArg Prod.fst h) (congrArg Prod.snd h)), h0] <;> rfl) rfl

/-! ### the laws -/
def eqPC : PCtr := fun _ _ _ vals k => match vals with
  | [.agg [.int .i64 n, .int .i64 d, .int .i64 m, .int .i64 e], .agg [.int .i64 n', .int .i64 d', .int .i64 m', .int .i64 e']] => True ∧ k [] (.bool (decide ((((n, d), (m, e)) : Lf) = ((n', d'), (m', e')))))
  | _ => False
theorem eqPair_ok : PCtrOk Try.prog 25 eqPC where
  enter := enter_ok Try.func25 (by kernel_rfl) rfl
  calls := by
    intro hg rg lr vals k h
    unfold eqPC at h
    split at h
    case h_2 => exact h.elim
    rename_i n d m e n' d' m' e'
    obtain ⟨_, hk⟩ := h
    refine ⟨_, _, hk, fun A w _ _ => ?_⟩
    refine enter T_ok (GOk.cons eqAngle_ok .nil) Try.func25 rfl (K := (· < w.heap.size)) (fun _ h => h) (A := A) (n0 := 0) (b0 := 0) (rows := []) (hp := []) rfl (Nat.zero_le _) (fun k r h => by cases h) rfl (fun k r h => by cases h) rfl rfl (Nat.le_of_ble_eq_true rfl) ?_
    conv => whnf
    repeat (refine V_step T_ok (GOk.cons eqAngle_ok .nil) rfl ?_; conv => whnf)
    repeat (any_goals (first
      | (refine V_step T_ok (GOk.cons eqAngle_ok .nil) rfl ?_; conv => whnf)
      | (refine V_drawA T_ok (GOk.cons eqAngle_ok .nil) mixed (by kernel_rfl) ?_; conv => whnf)
      | (refine bcond_split (fun hc => ?_) (fun hc => ?_) <;> (try simp only [decide_eq_true_eq, decide_eq_false_iff_not, Bool.not_eq_true', Bool.not_eq_false', Bool.and_eq_true, Bool.or_eq_true, Bool.and_eq_false_imp, Bool.or_eq_false_iff, ne_eq, Decidable.not_not] at hc) <;> conv => whnf)
      | (intro ysK hysK; have hysl := congrArg List.length hysK; (try simp only [List.length_set, List.length_append, List.length_cons, List.length_nil, List.length_take, List.length_drop, List.length_replicate] at hysl); conv => whnf)
      | (refine And.intro (by first | exact True.intro | (with_reducible assumption) | omega | (simp only [Rng]; omega) | exact Nat.le_of_ble_eq_true rfl | exact True.intro | exact Nat.le_of_ble_eq_true rfl | (refine ⟨by (try simp only [List.length_cons, List.length_nil]); omega, Int.le_trans (Int.mul_le_mul_of_nonneg_left (show (TInfo.bytes _ : Int) ≤ 64 from Int.ofNat_le.2 (Nat.le_of_ble_eq_true rfl)) (by omega)) (by (try simp only [List.length_cons, List.length_nil]); omega)⟩)) ?_; conv => whnf)))
    all_goals refine leaf0 rfl (congrArg AVal.bool ?_) rfl
    all_goals (simp only [Prod.mk.injEq] at *; simp [*])
def lawAC : PCtr := fun _ _ _ vals k => match vals with
  | [.agg [.int .i64 n, .int .i64 d]] => True ∧ k [] (.bool true)
  | _ => False
theorem lawPr_ok : PCtrOk Try.prog 8 lawAC where
  enter := enter_ok Try.func8 (by kernel_rfl) rfl
  calls := by
    intro hg rg lr vals k h
    unfold lawAC at h
    split at h
    case h_2 => exact h.elim
    rename_i n d
    obtain ⟨_, hk⟩ := h
    refine ⟨_, _, hk, fun A w _ _ => ?_⟩
    refine enter T_ok (GOk.cons toAngle_ok (GOk.cons sPr_ok (GOk.cons pr_ok (GOk.cons eqPair_ok .nil)))) Try.func8 rfl (K := (· < w.heap.size)) (fun _ h => h) (A := A) (n0 := 0) (b0 := 0) (rows := []) (hp := []) rfl (Nat.zero_le _) (fun k r h => by cases h) rfl (fun k r h => by cases h) rfl rfl (Nat.le_of_ble_eq_true rfl) ?_
    conv => whnf
    repeat (refine V_step T_ok (GOk.cons toAngle_ok (GOk.cons sPr_ok (GOk.cons pr_ok (GOk.cons eqPair_ok .nil)))) rfl ?_; conv => whnf)
    repeat (any_goals (first
      | (refine V_step T_ok (GOk.cons toAngle_ok (GOk.cons sPr_ok (GOk.cons pr_ok (GOk.cons eqPair_ok .nil)))) rfl ?_; conv => whnf)
      | (refine V_drawA T_ok (GOk.cons toAngle_ok (GOk.cons sPr_ok (GOk.cons pr_ok (GOk.cons eqPair_ok .nil)))) mixed (by kernel_rfl) ?_; conv => whnf)
      | (refine bcond_split (fun hc => ?_) (fun hc => ?_) <;> (try simp only [decide_eq_true_eq, decide_eq_false_iff_not, Bool.not_eq_true', Bool.not_eq_false', Bool.and_eq_true, Bool.or_eq_true, Bool.and_eq_false_imp, Bool.or_eq_false_iff, ne_eq, Decidable.not_not] at hc) <;> conv => whnf)
      | (intro ysK hysK; have hysl := congrArg List.length hysK; (try simp only [List.length_set, List.length_append, List.length_cons, List.length_nil, List.length_take, List.length_drop, List.length_replicate] at hysl); conv => whnf)
      | (refine And.intro (by first | exact True.intro | (with_reducible assumption) | omega | (simp only [Rng]; omega) | exact Nat.le_of_ble_eq_true rfl | exact True.intro | exact Nat.le_of_ble_eq_true rfl | (refine ⟨by (try simp only [List.length_cons, List.length_nil]); omega, Int.le_trans (Int.mul_le_mul_of_nonneg_left (show (TInfo.bytes _ : Int) ≤ 64 from Int.ofNat_le.2 (Nat.le_of_ble_eq_true rfl)) (by omega)) (by (try simp only [List.length_cons, List.length_nil]); omega)⟩)) ?_; conv => whnf)))
    all_goals first
      | exact leaf0 rfl rfl rfl
      | (simp at hc; done)
      | (exact absurd trivial hc)
theorem lawPar_ok : PCtrOk Try.prog 9 lawAC where
  enter := enter_ok Try.func9 (by kernel_rfl) rfl
  calls := by
    intro hg rg lr vals k h
    unfold lawAC at h
    split at h
    case h_2 => exact h.elim
    rename_i n d
    obtain ⟨_, hk⟩ := h
    refine ⟨_, _, hk, fun A w _ _ => ?_⟩
    refine enter T_ok (GOk.cons toAngle_ok (GOk.cons sPar_ok (GOk.cons par_ok (GOk.cons eqAngle_ok .nil)))) Try.func9 rfl (K := (· < w.heap.size)) (fun _ h => h) (A := A) (n0 := 0) (b0 := 0) (rows := []) (hp := []) rfl (Nat.zero_le _) (fun k r h => by cases h) rfl (fun k r h => by cases h) rfl rfl (Nat.le_of_ble_eq_true rfl) ?_
    conv => whnf
    repeat (refine V_step T_ok (GOk.cons toAngle_ok (GOk.cons sPar_ok (GOk.cons par_ok (GOk.cons eqAngle_ok .nil)))) rfl ?_; conv => whnf)
    repeat (any_goals (first
      | (refine V_step T_ok (GOk.cons toAngle_ok (GOk.cons sPar_ok (GOk.cons par_ok (GOk.cons eqAngle_ok .nil)))) rfl ?_; conv => whnf)
      | (refine V_drawA T_ok (GOk.cons toAngle_ok (GOk.cons sPar_ok (GOk.cons par_ok (GOk.cons eqAngle_ok .nil)))) mixed (by kernel_rfl) ?_; conv => whnf)
      | (refine bcond_split (fun hc => ?_) (fun hc => ?_) <;> (try simp only [decide_eq_true_eq, decide_eq_false_iff_not, Bool.not_eq_true', Bool.not_eq_false', Bool.and_eq_true, Bool.or_eq_true, Bool.and_eq_false_imp, Bool.or_eq_false_iff, ne_eq, Decidable.not_not] at hc) <;> conv => whnf)
      | (intro ysK hysK; have hysl := congrArg List.length hysK; (try simp only [List.length_set, List.length_append, List.length_cons, List.length_nil, List.length_take, List.length_drop, List.length_replicate] at hysl); conv => whnf)
      | (refine And.intro (by first | exact True.intro | (with_reducible assumption) | omega | (simp only [Rng]; omega) | exact Nat.le_of_ble_eq_true rfl | exact True.intro | exact Nat.le_of_ble_eq_true rfl | (refine ⟨by (try simp only [List.length_cons, List.length_nil]); omega, Int.le_trans (Int.mul_le_mul_of_nonneg_left (show (TInfo.bytes _ : Int) ≤ 64 from Int.ofNat_le.2 (Nat.le_of_ble_eq_true rfl)) (by omega)) (by (try simp only [List.length_cons, List.length_nil]); omega)⟩)) ?_; conv => whnf)))
    all_goals first
      | exact leaf0 rfl rfl rfl
      | (simp at hc; done)
      | (exact absurd trivial hc)
end Go.Proofs.Ytlplngafncobkab.Fw
