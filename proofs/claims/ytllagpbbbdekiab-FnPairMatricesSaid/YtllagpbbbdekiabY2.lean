/- Contracts: steps of a pair. -/
import Derived.Test.YtllagpbbbdekiabY1
namespace Go.Proofs.Ytllagpbbbdekiab.Fw
open Go Go.RowKit
set_option linter.unusedVariables false
set_option linter.unusedSimpArgs false
set_option maxRecDepth 100000
set_option maxHeartbeats 2000000
def stepR (a : List (List Int)) (v : List Int) : Nat → List Int
  | 0 => v
  | s + 1 => rowM (stepR a v s) a a.length a.length
def stepsL (a : List (List Int)) (v : List Int) (k : Nat) : List (List Int) := (List.range (k + 1)).map (stepR a v)
structure StOk (a : List (List Int)) (v : List Int) : Prop where
  len : a.length ≤ 1000
  nn : ∀ r ∈ a, Nn 2 r
  sq : ∀ r ∈ a, r.length = a.length
  vl : v.length = a.length
  vn : Nn 1 v
theorem stepR_len {a : List (List Int)} {v : List Int} (h : StOk a v) : ∀ s, (stepR a v s).length = a.length
  | 0 => h.vl
  | s + 1 => rowM_len _ _ _ _
theorem stepR_nn {a : List (List Int)} {v : List Int} (h : StOk a v) : ∀ s, Nn (2 ^ s) (stepR a v s)
  | 0 => h.vn
  | s + 1 => by
    have ih := stepR_nn h s
    have := mulM_nn (a := [stepR a v s]) (b := a) (w := a.length) (s := 2 ^ s) (fun r hr => by simp at hr; rw [hr]; exact ih) (fun r hr => by simp at hr; rw [hr]; exact stepR_len h s) h.nn h.sq _ (List.mem_singleton.2 rfl)
    rw [Int.pow_succ, Int.mul_comm (2 ^ s) 2]
    have e : rowM (stepR a v s) a a.length (stepR a v s).length = stepR a v (s + 1) := by rw [stepR_len h s]; rfl
    rw [← e]; exact this
theorem step_ok {a : List (List Int)} {v : List Int} (h : StOk a v) {s : Nat} (hs : s ≤ 40) : PrOk [stepR a v s] a a.length :=
  prOk_nn (s := 2 ^ s) (by simp) h.len h.len (fun r hr => by simp at hr; rw [hr]; exact stepR_nn h s) (fun r hr => by simp at hr; rw [hr]; exact stepR_len h s) h.nn h.sq (by have := pow40 s hs; omega)
theorem mulM_one (x : List Int) (a : List (List Int)) (w : Nat) : mulM [x] a w = [rowM x a w x.length] := rfl
theorem stepsL_len (a : List (List Int)) (v : List Int) (k : Nat) : (stepsL a v k).length = k + 1 := by simp [stepsL]
theorem stepsL_last (a : List (List Int)) (v : List Int) (k : Nat) : (stepsL a v k).getD k [] = stepR a v k := by
  unfold stepsL; rw [List.getD_eq_getElem?_getD, List.getElem?_map, List.getElem?_range (by omega)]; rfl
theorem stepsL_snoc (a : List (List Int)) (v : List Int) (k : Nat) : stepsL a v k ++ [stepR a v (k + 1)] = stepsL a v (k + 1) := by
  unfold stepsL; rw [List.range_succ (n := k + 1), List.map_append]; rfl
def stepsC : MCtr := fun hg rg lr vals k => match vals with
  | [.row i, .row j, .int .i64 q] => rowC rT (rg i) fun a => rowO iT (rg j) fun e v => (¬ j = i ∧ e = 2 ∧ StOk a v ∧ 0 ≤ q ∧ q ≤ 20) ∧ k [(j, none)] [⟨rT, 43, true, stepsL a v q.toNat⟩] (.row lr)
  | _ => False
def flSt : Nat → Bool := fun i => Nat.beq i 1000009
theorem flSt_ok : ∀ i, i < 1000 → flSt i = false := fun i h => by
  unfold flSt
  cases hb : Nat.beq i 1000009 with
  | false => rfl
  | true => have := Nat.eq_of_beq_eq_true hb; omega
abbrev GSt := (GOk.cons prod1_ok .nil)
theorem steps_ok : MCtrOk Try.prog 52 stepsC where
  enter := enter_ok Try.func52 (by kernel_rfl) rfl
  calls := by
    intro hg rg lr vals k h
    unfold stepsC at h
    split at h
    case h_2 => exact h.elim
    rename_i i j q
    obtain ⟨e1, own1, a, hi, h⟩ : ∃ e own, ∃ (xs : List (List Int)), _ := rowC_inv h
    obtain ⟨e, v, hj, h⟩ : ∃ e, ∃ (xs : List Int), _ := rowO_inv h
    obtain ⟨⟨hne, rfl, hst, hq⟩, hk⟩ := h
    refine ⟨_, _, _, hk, (ups_one hj rfl (fun r' hr' => by cases hr')), fun A w hM => ?_⟩
    have hO : One rg [j, i] [some ⟨iT, 2, true, v⟩, some ⟨rT, e1, false, a⟩] j ⟨iT, 2, true, v⟩ := ⟨rfl, hj, rfl, rfl, fun q r hq ho => by
      match q, hq with
      | 0, hq => rfl
      | 1, hq => cases hq; cases ho
      | q + 2, hq => simp [nthj] at hq⟩
    refine enterMF T_ok GSt Try.func52 rfl flSt flSt_ok (w := w) (A := A.pick [] [j, i]) (vals := [.row 1, .row 0, .int .i64 q]) (n0 := 1) (b0 := 0) (rows := [some ⟨iT, 2, true, v⟩, some ⟨rT, e1, false, a⟩]) (hp := []) rfl (Nat.zero_le _) (Nat.le_add_left _ _) (hM.pick [] [j, i] [] [some ⟨iT, 2, true, v⟩, some ⟨rT, e1, false, a⟩] (fun i9 cs h9 => by simp [nthj] at h9) (fun i9 r h9 => by
      match i9, h9 with
      | 0, h9 => cases h9; exact ⟨_, hj, .inl rfl⟩
      | 1, h9 => cases h9; exact ⟨_, hi, .inr rfl⟩
      | i9 + 2, h9 => simp [nthj] at h9) (fun i9 j9 r r' h9 h8 hij ho => by
      have h0 : i9 = 0 := hO.only i9 r h9 ho
      subst h0
      match j9, h8 with
      | 0, h8 => exact absurd rfl hij
      | 1, h8 => exact hne
      | j9 + 2, h8 => simp [nthj] at h8)) rfl rfl rfl (Nat.le_of_ble_eq_true rfl) ?_
    conv => whnf
    repeat (refine V_step T_ok GSt rfl ?_; conv => whnf)
    obtain ⟨K, rfl⟩ : ∃ K : Nat, q = (K : Int) := ⟨q.toNat, by omega⟩
    have hst : StOk a v := hst
    have hal := hst.len
    have hhd : List.length (α := Int) (@List.getD (List Int) a 0 []) = List.length (α := List Int) a := by
      have := hst.sq
      cases a with
      | nil => rfl
      | cons r l => exact this r (by simp)
    refine V_loopH (γ := Nat × List (List Int)) (fun g => g.1 ≤ K ∧ g.2 = stepsL a v g.1) (fun g => K - g.1)
      (fun g => [(1, .junk), (7, .row 2), (8, .junk), (9, .junk), (11, .int .i64 g.1)]) (fun _ => []) (fun g => [(2, some ⟨rT, 43, true, g.2⟩)]) (0, [v]) ⟨Nat.zero_le _, rfl⟩ ?_ ?_
    · conv => whnf
      refine ⟨?_, by (conv => whnf); repeat (first | exact True.intro | (refine And.intro rfl ?_; conv => whnf)), by (conv => whnf); repeat (first | exact True.intro | (refine And.intro (by first | rfl | (subst_vars; rfl)) ?_; conv => whnf)), rfl, rfl, rfl, rfl, rfl, rfl, rfl, Nat.le_of_ble_eq_true rfl, Nat.le_of_ble_eq_true rfl⟩
      conv => whnf
      repeat (first | exact True.intro | (refine And.intro (by first | rfl | ((conv => whnf); exact congrArg (AVal.int .i64) (by omega)) | ((conv => whnf); exact congrArg (AVal.int .i64) (by simp only [Int.natCast_add, Int.natCast_one]; omega)) | ((conv => whnf); exact congrArg (AVal.irow _) (by first | omega | assumption | (simp only; omega)))) ?_; conv => whnf))
    · rintro ⟨g, L⟩ ⟨h1, h2⟩
      simp only at h1 h2
      have hL : List.length (α := List Int) L = g + 1 := by rw [h2, stepsL_len]
      have hap : ∀ a b : Nat, a ≤ 5000 → b ≤ 5000 → ((a : Int) + (b : Int) ≤ 9223372036854775807 ∧ ((a : Int) + (b : Int)) * (ti43.bytes : Int) ≤ 140737488355328) := fun a b h1 h2 => by
        have hb : (ti43.bytes : Int) = 24 := rfl
        rw [hb]; omega
      have e0 : ((List.length (α := List Int) L : Int) - 1).toNat = g := by omega
      have hLg : List.getD (α := List Int) L (((List.length (α := List Int) L : Int) - 1).toNat) [] = stepR a v g := by rw [e0, h2, stepsL_last]
      have hpre : ((List.length (α := List Int) L : Int) - 1).toNat < List.length (α := List Int) L ∧ PrOk [List.getD (α := List Int) L (((List.length (α := List Int) L : Int) - 1).toNat) []] a (List.length (α := Int) (@List.getD (List Int) a 0 [])) := by
        refine ⟨by omega, ?_⟩
        rw [hLg, hhd]; exact step_ok hst (by omega)
      conv => whnf
      refine vcCode_sound T_ok GSt _ _ _ _ _ ?_
      conv => whnf
      repeat (refine V_step T_ok GSt rfl ?_; conv => whnf)
      repeat (any_goals (first
        | (refine V_step T_ok GSt rfl ?_; conv => whnf)
        | (refine V_drawA T_ok GSt mixed (by kernel_rfl) ?_; conv => whnf)
        | (refine bcond_split (fun hc => ?_) (fun hc => ?_) <;> (try simp only [decide_eq_true_eq, decide_eq_false_iff_not, Bool.not_eq_true', Bool.not_eq_false', Bool.and_eq_true, Bool.or_eq_true, Bool.and_eq_false_imp, Bool.or_eq_false_iff, ne_eq, Decidable.not_not] at hc) <;> conv => whnf)
        | (intro ysK hysK; have hysl := congrArg List.length hysK; (try simp only [List.length_set, List.length_append, List.length_cons, List.length_nil, List.length_take, List.length_drop, List.length_replicate] at hysl); conv => whnf)
        | (refine And.intro (by first | (first | exact True.intro | with_reducible exact hpre | (simp only [Rng]; omega) | omega) | exact True.intro | exact ⟨rfl, True.intro, fun _ _ => rfl⟩ | exact Nat.le_of_ble_eq_true rfl | (refine ⟨by (try simp only [List.length_cons, List.length_nil]); omega, Int.le_trans (Int.mul_le_mul_of_nonneg_left (show (TInfo.bytes _ : Int) ≤ 64 from Int.ofNat_le.2 (Nat.le_of_ble_eq_true rfl)) (by omega)) (by (try simp only [List.length_cons, List.length_nil]); omega)⟩)) ?_; conv => whnf)))
      · have hP : ysK = [stepR a v (g + 1)] := by
          have hy : ysK = mulM [List.getD (α := List Int) L (((List.length (α := List Int) L : Int) - 1).toNat) []] a (List.length (α := Int) (@List.getD (List Int) a 0 [])) := hysK
          rw [hy, hLg, hhd, mulM_one, stepR_len hst]; rfl
        have hPl : List.length (α := List Int) ysK = 1 := by rw [hP]; rfl
        clear hysK hysl
        obtain ⟨P, hPP⟩ : ∃ P, ysK = P := ⟨_, rfl⟩
        rw [hPP] at hP hPl ⊢
        clear hPP ysK
        repeat (any_goals (first
          | (refine V_step T_ok GSt rfl ?_; conv => whnf)
          | (refine V_drawA T_ok GSt mixed (by kernel_rfl) ?_; conv => whnf)
          | (refine bcond_split (fun hc => ?_) (fun hc => ?_) <;> (try simp only [decide_eq_true_eq, decide_eq_false_iff_not, Bool.not_eq_true', Bool.not_eq_false', Bool.and_eq_true, Bool.or_eq_true, Bool.and_eq_false_imp, Bool.or_eq_false_iff, ne_eq, Decidable.not_not] at hc) <;> conv => whnf)
          | (intro ysK hysK; have hysl := congrArg List.length hysK; (try simp only [List.length_set, List.length_append, List.length_cons, List.length_nil, List.length_take, List.length_drop, List.length_replicate] at hysl); conv => whnf)
          | (refine And.intro (by first | (first | exact True.intro | (simp only [Rng]; omega) | omega | (simp only [Int.toNat_zero]; omega) | exact hap _ _ (by omega) (by simp only [List.length_cons, List.length_nil]; omega)) | exact True.intro | exact ⟨rfl, True.intro, fun _ _ => rfl⟩ | exact Nat.le_of_ble_eq_true rfl | (refine ⟨by (try simp only [List.length_cons, List.length_nil]); omega, Int.le_trans (Int.mul_le_mul_of_nonneg_left (show (TInfo.bytes _ : Int) ≤ 64 from Int.ofNat_le.2 (Nat.le_of_ble_eq_true rfl)) (by omega)) (by (try simp only [List.length_cons, List.length_nil]); omega)⟩)) ?_; conv => whnf)))
        have hY : ysK = stepsL a v (g + 1) := by
          have hy : ysK = L ++ [List.getD (α := List Int) P 0 []] := hysK
          rw [hy, hP, h2, ← stepsL_snoc]; rfl
        clear hysK hysl
        refine ⟨(g + 1, ysK), ⟨by simp only; omega, hY⟩, by simp only; omega, ?_⟩
        conv => whnf
        refine ⟨?_, by (conv => whnf); repeat (first | exact True.intro | (refine And.intro rfl ?_; conv => whnf)), by (conv => whnf); repeat (first | exact True.intro | (refine And.intro (by first | rfl | (subst_vars; rfl)) ?_; conv => whnf)), rfl, rfl, rfl, rfl, rfl, rfl, rfl, Nat.le_of_ble_eq_true rfl, Nat.le_of_ble_eq_true rfl⟩
        conv => whnf
        repeat (first | exact True.intro | (refine And.intro (by first | rfl | ((conv => whnf); exact congrArg (AVal.int .i64) (by omega)) | ((conv => whnf); exact congrArg (AVal.int .i64) (by simp only [Int.natCast_add, Int.natCast_one]; omega)) | ((conv => whnf); exact congrArg (AVal.irow _) (by first | omega | assumption | (simp only; omega)))) ?_; conv => whnf))
      · have hg : g = K := by
          have hc : ¬ (g : Int) < (K : Int) := hc
          omega
        have hY : stepsL a v (Int.toNat (K : Int)) = L := by rw [h2, hg]; rfl
        rw [hY]
        exact leafM1 hO 2 rfl rfl rfl (fun B C h => by simp [AVal.den, h])
end Go.Proofs.Ytllagpbbbdekiab.Fw
