/- Contracts of the reference: classes, by their names. -/
import Derived.Test.YtllagpbbbdekiacT6
namespace Go.Proofs.Ytllagpbbbdekiac.Fw
open Go Go.RowKit
set_option linter.unusedVariables false
set_option linter.unusedSimpArgs false
set_option maxRecDepth 100000
set_option maxHeartbeats 2000000
theorem rngI_next (n : Nat) : rngI (n + 1) = rngI n ++ [(n : Int)] := by unfold rngI; rw [List.range_succ, List.map_append]; rfl
noncomputable def ldrG (ts : List Ang) (n : Nat) : Nat → List Int
  | 0 => rngI n
  | g + 1 => canR n (ldrG ts n g) (qI (ts.getD g aT.dflt) (n : Int) (1 - 2 * (g : Int)))
theorem ldrG_can (ts : List Ang) (n : Nat) : ∀ g, Can n (ldrG ts n g)
  | 0 => rngI_can n
  | g + 1 => ex_can n _ _ (ldrG_can ts n g)
theorem ldr_one (t : Ang) (n : Int) : ldrG [t] n.toNat 1 = canR n.toNat (rngI n.toNat) (qI t (n.toNat : Int) 1) := rfl
theorem ldr_two (t u : Ang) (n : Int) : ldrG [t, u] n.toNat 2 = canR n.toNat (ldrG [t] n.toNat 1) (qI u (n.toNat : Int) (-1)) := rfl
theorem ldr_lab1 (t : Ang) {n : Int} (h : 0 ≤ n) : ldrG [t] n.toNat 1 = lab1 t n := by
  rw [ldr_one, Int.toNat_of_nonneg h]; rfl
theorem ldr_lab2 (t u : Ang) {n : Int} (h : 0 ≤ n) : ldrG [t, u] n.toNat 2 = lab2 t u n := by
  rw [ldr_two, ldr_lab1 t h, Int.toNat_of_nonneg h]; rfl
def ldrC : PCtr := fun _ rg lr vals k => match vals with
  | [.int .i64 n, .row i] => rowC aT (rg i) fun ts => (((∀ g, g < List.length (α := Ang) ts → IsA (List.getD (α := Ang) ts g aT.dflt)) ∧ List.length (α := Ang) ts ≤ 2) ∧ OkN n) ∧ ∀ ys : List Int, ys = ldrG ts n.toNat (List.length (α := Ang) ts) → k [⟨iT1, 2, true, ys⟩] (.tup [.row lr, .bool true])
  | _ => False
theorem joinL_fit {N : Nat} {c0 ys : List Int} {q : Nat → Sq} {qs : List Sq} (h : Can N c0) (e : qs = namG q N) (hy : ys = canR (List.length (α := Sq) qs) c0 (fun k => List.getD (α := Sq) qs k sT.dflt)) : ys = canR N c0 q := by
  subst e
  rw [hy, namG_len]
  exact canR_congr h fun k hk => namG_at q hk
theorem joinL_pre {N : Nat} {c0 : List Int} {q : Nat → Sq} {qs : List Sq} (h : Can N c0) (hN : N ≤ 63) (e : qs = namG q N) : Can (List.length (α := Sq) qs) c0 ∧ List.length (α := Sq) qs ≤ 63 := by
  subst e
  rw [namG_len]
  exact ⟨h, hN⟩
abbrev GLd := (GOk.cons its_ok (GOk.cons joinL_ok .nil))
theorem ldr_ok : PCtrOk Try.prog 30 ldrC where
  enter := enter_ok Try.func30 (by kernel_rfl) rfl
  calls := by
    intro hg rg lr vals k h
    unfold ldrC at h
    split at h
    case h_2 => exact h.elim
    rename_i n i
    obtain ⟨e, own, ts, hi, h⟩ : ∃ e own, ∃ (xs : List Ang), _ := rowC_inv h
    obtain ⟨⟨⟨hts, ht2⟩, hn1, hn2⟩, hk⟩ := h
    replace hk := hk _ rfl
    obtain ⟨N, rfl⟩ : ∃ N : Nat, n = (N : Int) := ⟨n.toNat, by omega⟩
    refine ⟨_, _, hk, fun A w hB hR => ?_⟩
    refine enter T_ok GLd Try.func30 rfl (K := (· < w.heap.size)) (fun _ h => h) (A := A.pick [] [i]) (vals := [.int .i64 (N : Int), .row 0]) (n0 := 0) (b0 := 0) (rows := [some ⟨aT, e, false, ts⟩]) (hp := []) rfl (Nat.zero_le _) no_box rfl (one_row (hR i _ hi)) rfl rfl (Nat.le_of_ble_eq_true rfl) ?_
    conv => whnf
    repeat (refine V_step T_ok GLd rfl ?_; conv => whnf)
    obtain ⟨M, hM⟩ : ∃ M, List.length (α := Ang) ts = M := ⟨_, rfl⟩
    have hMl : (List.length (α := TyC.α aT) ts : Int) = M := by rw [show List.length (α := TyC.α aT) ts = M from hM]
    rw [hM] at hts ht2
    have hb8 : (ti2.bytes : Int) = 8 := rfl
    repeat (any_goals (first
      | (refine V_step T_ok GLd rfl ?_; conv => whnf)
      | (refine V_drawA T_ok GLd mixed (by kernel_rfl) ?_; conv => whnf)
      | (refine bcond_split (fun hc => ?_) (fun hc => ?_) <;> (try simp only [decide_eq_true_eq, decide_eq_false_iff_not, Bool.not_eq_true', Bool.not_eq_false', Bool.and_eq_true, Bool.or_eq_true, Bool.and_eq_false_imp, Bool.or_eq_false_iff, ne_eq, Decidable.not_not] at hc) <;> conv => whnf)
      | (intro ysK hysK; have hysl := congrArg List.length hysK; (try simp only [List.length_set, List.length_append, List.length_cons, List.length_nil, List.length_take, List.length_drop, List.length_replicate] at hysl); conv => whnf)
      | (intro bK hbK; have hbl := congrArg ByteArray.size hbK; conv => whnf)
      | (intro sK hsK; conv => whnf)
      | (refine And.intro (by first | (first | exact True.intro | omega) | exact True.intro | exact ⟨rfl, True.intro, fun _ _ => rfl⟩ | exact Nat.le_of_ble_eq_true rfl | (refine ⟨by (try simp only [List.length_cons, List.length_nil]); omega, Int.le_trans (Int.mul_le_mul_of_nonneg_left (show (TInfo.bytes _ : Int) ≤ 64 from Int.ofNat_le.2 (Nat.le_of_ble_eq_true rfl)) (by omega)) (by (try simp only [List.length_cons, List.length_nil]); omega)⟩)) ?_; conv => whnf)))
    refine V_loopH (γ := Nat) (fun g => g ≤ N) (fun g => N - g) (fun g => [(7, .int .i64 g), (6, .row 1), (11, .junk)]) (fun _ => []) (fun g => [(1, some ⟨iT1, 2, true, rngI g⟩)]) 0 (Nat.zero_le _) ?_ ?_
    · conv => whnf
      refine ⟨?_, by (conv => whnf); repeat (first | exact True.intro | (refine And.intro rfl ?_; conv => whnf)), by (conv => whnf); repeat (first | exact True.intro | (refine And.intro (by first | rfl | (subst_vars; rfl)) ?_; conv => whnf)), rfl, rfl, rfl, rfl, rfl, rfl, rfl, Nat.le_of_ble_eq_true rfl, Nat.le_of_ble_eq_true rfl⟩
      conv => whnf
      repeat (first | exact True.intro | (refine And.intro (by first | rfl | ((conv => whnf); exact congrArg (AVal.int .i64) (by omega)) | ((conv => whnf); exact congrArg (AVal.int .i64) (by simp only [Int.natCast_add, Int.natCast_one]; omega)) | ((conv => whnf); exact congrArg (AVal.irow _) (by first | omega | assumption | (simp only; omega)))) ?_; conv => whnf))
    · rintro g hg
      have hln := rngI_len g
      conv => whnf
      refine vcCode_sound T_ok GLd _ _ _ _ _ ?_
      conv => whnf
      repeat (refine V_step T_ok GLd rfl ?_; conv => whnf)
      repeat (any_goals (first
        | (refine V_step T_ok GLd rfl ?_; conv => whnf)
        | (refine V_drawA T_ok GLd mixed (by kernel_rfl) ?_; conv => whnf)
        | (refine bcond_split (fun hc => ?_) (fun hc => ?_) <;> (try simp only [decide_eq_true_eq, decide_eq_false_iff_not, Bool.not_eq_true', Bool.not_eq_false', Bool.and_eq_true, Bool.or_eq_true, Bool.and_eq_false_imp, Bool.or_eq_false_iff, ne_eq, Decidable.not_not] at hc) <;> conv => whnf)
        | (intro ysK hysK; have hysl := congrArg List.length hysK; (try simp only [List.length_set, List.length_append, List.length_cons, List.length_nil, List.length_take, List.length_drop, List.length_replicate] at hysl); conv => whnf)
        | (intro bK hbK; have hbl := congrArg ByteArray.size hbK; conv => whnf)
        | (intro sK hsK; conv => whnf)
        | (refine And.intro (by first | (first | exact True.intro | omega | exact hapI (by rw [hb8]; omega) (by rw [hb8]; omega) _ _ (by rw [hln]; omega) (by simp only [List.length_cons, List.length_nil]; omega) | (simp only [Rng]; omega)) | exact True.intro | exact ⟨rfl, True.intro, fun _ _ => rfl⟩ | exact Nat.le_of_ble_eq_true rfl | (refine ⟨by (try simp only [List.length_cons, List.length_nil]); omega, Int.le_trans (Int.mul_le_mul_of_nonneg_left (show (TInfo.bytes _ : Int) ≤ 64 from Int.ofNat_le.2 (Nat.le_of_ble_eq_true rfl)) (by omega)) (by (try simp only [List.length_cons, List.length_nil]); omega)⟩)) ?_; conv => whnf)))
      · have hy : ysK = rngI (g + 1) := by rw [rngI_next]; exact hysK
        clear hysK hysl
        subst hy
        refine ⟨g + 1, by omega, by omega, ?_⟩
        conv => whnf
        refine ⟨?_, by (conv => whnf); repeat (first | exact True.intro | (refine And.intro rfl ?_; conv => whnf)), by (conv => whnf); repeat (first | exact True.intro | (refine And.intro (by first | rfl | (subst_vars; rfl)) ?_; conv => whnf)), rfl, rfl, rfl, rfl, rfl, rfl, rfl, Nat.le_of_ble_eq_true rfl, Nat.le_of_ble_eq_true rfl⟩
        conv => whnf
        repeat (first | exact True.intro | (refine And.intro (by first | rfl | ((conv => whnf); exact congrArg (AVal.int .i64) (by omega)) | ((conv => whnf); exact congrArg (AVal.int .i64) (by simp only [Int.natCast_add, Int.natCast_one]; omega)) | ((conv => whnf); exact congrArg (AVal.irow _) (by first | omega | assumption | (simp only; omega)))) ?_; conv => whnf))
      · obtain rfl : N = g := by omega
        refine V_loopH (γ := Nat) (fun g => g ≤ M) (fun g => M - g) (fun g => [(8, .int .i64 g), (6, .row 1)]) (fun _ => []) (fun g => [(1, some ⟨iT1, 2, true, ldrG ts N g⟩)]) 0 (Nat.zero_le _) ?_ ?_
        · conv => whnf
          refine ⟨?_, by (conv => whnf); repeat (first | exact True.intro | (refine And.intro rfl ?_; conv => whnf)), by (conv => whnf); repeat (first | exact True.intro | (refine And.intro (by first | rfl | (subst_vars; rfl)) ?_; conv => whnf)), rfl, rfl, rfl, rfl, rfl, rfl, rfl, Nat.le_of_ble_eq_true rfl, Nat.le_of_ble_eq_true rfl⟩
          conv => whnf
          repeat (first | exact True.intro | (refine And.intro (by first | rfl | ((conv => whnf); exact congrArg (AVal.int .i64) (by omega)) | ((conv => whnf); exact congrArg (AVal.int .i64) (by simp only [Int.natCast_add, Int.natCast_one]; omega)) | ((conv => whnf); exact congrArg (AVal.irow _) (by first | omega | assumption | (simp only; omega)))) ?_; conv => whnf))
        · rintro g hg
          have hcan := ldrG_can ts N g
          have hsg : g < M → (1 - 2 * (g : Int) = 1 ∨ 1 - 2 * (g : Int) = -1) := fun h => by omega
          conv => whnf
          refine vcCode_sound T_ok GLd _ _ _ _ _ ?_
          conv => whnf
          repeat (refine V_step T_ok GLd rfl ?_; conv => whnf)
          repeat (any_goals (first
            | (refine V_step T_ok GLd rfl ?_; conv => whnf)
            | (refine V_drawA T_ok GLd mixed (by kernel_rfl) ?_; conv => whnf)
            | (refine bcond_split (fun hc => ?_) (fun hc => ?_) <;> (try simp only [decide_eq_true_eq, decide_eq_false_iff_not, Bool.not_eq_true', Bool.not_eq_false', Bool.and_eq_true, Bool.or_eq_true, Bool.and_eq_false_imp, Bool.or_eq_false_iff, ne_eq, Decidable.not_not] at hc) <;> conv => whnf)
            | (intro ysK hysK; have hysl := congrArg List.length hysK; (try simp only [List.length_set, List.length_append, List.length_cons, List.length_nil, List.length_take, List.length_drop, List.length_replicate] at hysl); conv => whnf)
            | (intro bK hbK; have hbl := congrArg ByteArray.size hbK; conv => whnf)
            | (intro sK hsK; conv => whnf)
            | (refine And.intro (by first | (first | exact True.intro | omega | exact ⟨⟨hts g (by omega), hn1, hn2⟩, hsg (by omega)⟩ | exact joinL_pre hcan (by omega) hysK | (simp only [Rng]; omega)) | exact True.intro | exact ⟨rfl, True.intro, fun _ _ => rfl⟩ | exact Nat.le_of_ble_eq_true rfl | (refine ⟨by (try simp only [List.length_cons, List.length_nil]); omega, Int.le_trans (Int.mul_le_mul_of_nonneg_left (show (TInfo.bytes _ : Int) ≤ 64 from Int.ofNat_le.2 (Nat.le_of_ble_eq_true rfl)) (by omega)) (by (try simp only [List.length_cons, List.length_nil]); omega)⟩)) ?_; conv => whnf)))
          · have hgM : g < M := by omega
            rename_i yq hyq _
            have hy : ysK = ldrG ts N (g + 1) := joinL_fit hcan hyq hysK
            clear hysK
            subst hy
            refine ⟨g + 1, by omega, by omega, ?_⟩
            conv => whnf
            refine ⟨?_, by (conv => whnf); repeat (first | exact True.intro | (refine And.intro rfl ?_; conv => whnf)), by (conv => whnf); repeat (first | exact True.intro | (refine And.intro (by first | rfl | (subst_vars; rfl)) ?_; conv => whnf)), rfl, rfl, rfl, rfl, rfl, rfl, rfl, Nat.le_of_ble_eq_true rfl, Nat.le_of_ble_eq_true rfl⟩
            conv => whnf
            repeat (first | exact True.intro | (refine And.intro (by first | rfl | ((conv => whnf); exact congrArg (AVal.int .i64) (by omega)) | ((conv => whnf); exact congrArg (AVal.int .i64) (by simp only [Int.natCast_add, Int.natCast_one]; omega)) | ((conv => whnf); exact congrArg (AVal.irow _) (by first | omega | assumption | (simp only; omega)))) ?_; conv => whnf))
          · obtain rfl : M = g := by omega
            exact leaf1 1 rfl rfl (congrArg (fun ys => (⟨iT1, 2, true, ys⟩ : Row)) (by rw [Int.toNat_natCast, hM])) rfl (fun B C h => by simp [AVal.den, dens, h])
theorem allIs {ts : List Ang} : (ts.all allAY = true) ↔ ∀ g, g < ts.length → IsA (ts.getD g aT.dflt) := by
  induction ts with
  | nil => simp
  | cons t ts ih =>
    rw [List.all_cons, Bool.and_eq_true, ih]
    constructor
    · rintro ⟨h1, h2⟩ g hg
      cases g with
      | zero => exact of_decide_eq_true h1
      | succ g => exact h2 g (by simp only [List.length_cons] at hg; omega)
    · intro h
      exact ⟨decide_eq_true (h 0 (by simp)), fun g hg => h (g + 1) (by simp only [List.length_cons]; omega)⟩
def codeLC : PCtr := fun hg rg _ vals k => match vals with
  | [.int .i64 n, .row i] => rowC aT (rg i) fun xs => List.length (α := Ang) xs ≤ 1000 ∧ k [] (.int .i64 (if (xs : List Ang).all allAY = true then (if 1 ≤ n ∧ n ≤ 63 then 0 else 2) else 1))
  | _ => False
abbrev GLc := (GOk.cons sIs_ok (GOk.cons sIn_ok .nil))
theorem codeL_ok : PCtrOk Try.prog 29 codeLC where
  enter := enter_ok Try.func29 (by kernel_rfl) rfl
  calls := by
    intro hg rg lr vals k h
    unfold codeLC at h
    split at h
    case h_2 => exact h.elim
    rename_i n i
    obtain ⟨e, own, xs, hi, h⟩ : ∃ e own, ∃ (xs : List Ang), _ := rowC_inv h
    obtain ⟨hl, hk⟩ := h
    refine ⟨_, _, hk, fun A w hB hR => ?_⟩
    refine enter T_ok GLc Try.func29 rfl (K := (· < w.heap.size)) (fun _ h => h) (A := A.pick [] [i]) (vals := [.int .i64 n, .row 0]) (n0 := 0) (b0 := 0) (rows := [some ⟨aT, e, false, xs⟩]) (hp := []) rfl (Nat.zero_le _) no_box rfl (one_row (hR i _ hi)) rfl rfl (Nat.le_of_ble_eq_true rfl) ?_
    conv => whnf
    repeat (refine V_step T_ok GLc rfl ?_; conv => whnf)
    obtain ⟨M, hM⟩ : ∃ M, List.length (α := Ang) xs = M := ⟨_, rfl⟩
    have hMl : (List.length (α := TyC.α aT) xs : Int) = M := by rw [show List.length (α := TyC.α aT) xs = M from hM]
    rw [hM] at hl
    repeat (any_goals (first
      | (refine V_step T_ok GLc rfl ?_; conv => whnf)
      | (refine V_drawA T_ok GLc mixed (by kernel_rfl) ?_; conv => whnf)
      | (refine bcond_split (fun hc => ?_) (fun hc => ?_) <;> (try simp only [decide_eq_true_eq, decide_eq_false_iff_not, Bool.not_eq_true', Bool.not_eq_false', Bool.and_eq_true, Bool.or_eq_true, Bool.and_eq_false_imp, Bool.or_eq_false_iff, ne_eq, Decidable.not_not] at hc) <;> conv => whnf)
      | (intro ysK hysK; have hysl := congrArg List.length hysK; (try simp only [List.length_set, List.length_append, List.length_cons, List.length_nil, List.length_take, List.length_drop, List.length_replicate] at hysl); conv => whnf)
      | (intro bK hbK; have hbl := congrArg ByteArray.size hbK; conv => whnf)
      | (intro sK hsK; conv => whnf)
      | (refine And.intro (by first | (first | exact True.intro | omega) | exact True.intro | exact ⟨rfl, True.intro, fun _ _ => rfl⟩ | exact Nat.le_of_ble_eq_true rfl | (refine ⟨by (try simp only [List.length_cons, List.length_nil]); omega, Int.le_trans (Int.mul_le_mul_of_nonneg_left (show (TInfo.bytes _ : Int) ≤ 64 from Int.ofNat_le.2 (Nat.le_of_ble_eq_true rfl)) (by omega)) (by (try simp only [List.length_cons, List.length_nil]); omega)⟩)) ?_; conv => whnf)))
    refine V_loopH (γ := Nat) (fun g => g ≤ M ∧ ∀ i, i < g → IsA (List.getD (α := Ang) xs i aT.dflt)) (fun g => M - g) (fun g => [(5, .int .i64 g)]) (fun _ => []) (fun _ => []) 0 ⟨Nat.zero_le _, fun i hi => absurd hi (Nat.not_lt_zero _)⟩ ?_ ?_
    · conv => whnf
      refine ⟨?_, by (conv => whnf); repeat (first | exact True.intro | (refine And.intro rfl ?_; conv => whnf)), by (conv => whnf); repeat (first | exact True.intro | (refine And.intro (by first | rfl | (subst_vars; rfl)) ?_; conv => whnf)), rfl, rfl, rfl, rfl, rfl, rfl, rfl, Nat.le_of_ble_eq_true rfl, Nat.le_of_ble_eq_true rfl⟩
      conv => whnf
      repeat (first | exact True.intro | (refine And.intro (by first | rfl | ((conv => whnf); exact congrArg (AVal.int .i64) (by omega)) | ((conv => whnf); exact congrArg (AVal.int .i64) (by simp only [Int.natCast_add, Int.natCast_one]; omega)) | ((conv => whnf); exact congrArg (AVal.irow _) (by first | omega | assumption | (simp only; omega)))) ?_; conv => whnf))
    · rintro g ⟨hg, hall⟩
      conv => whnf
      refine vcCode_sound T_ok GLc _ _ _ _ _ ?_
      conv => whnf
      repeat (refine V_step T_ok GLc rfl ?_; conv => whnf)
      repeat (any_goals (first
        | (refine V_step T_ok GLc rfl ?_; conv => whnf)
        | (refine V_drawA T_ok GLc mixed (by kernel_rfl) ?_; conv => whnf)
        | (refine bcond_split (fun hc => ?_) (fun hc => ?_) <;> (try simp only [decide_eq_true_eq, decide_eq_false_iff_not, Bool.not_eq_true', Bool.not_eq_false', Bool.and_eq_true, Bool.or_eq_true, Bool.and_eq_false_imp, Bool.or_eq_false_iff, ne_eq, Decidable.not_not] at hc) <;> conv => whnf)
        | (intro ysK hysK; have hysl := congrArg List.length hysK; (try simp only [List.length_set, List.length_append, List.length_cons, List.length_nil, List.length_take, List.length_drop, List.length_replicate] at hysl); conv => whnf)
        | (intro bK hbK; have hbl := congrArg ByteArray.size hbK; conv => whnf)
        | (intro sK hsK; conv => whnf)
        | (refine And.intro (by first | (first | exact True.intro | omega | (simp only [Rng]; omega)) | exact True.intro | exact ⟨rfl, True.intro, fun _ _ => rfl⟩ | exact Nat.le_of_ble_eq_true rfl | (refine ⟨by (try simp only [List.length_cons, List.length_nil]); omega, Int.le_trans (Int.mul_le_mul_of_nonneg_left (show (TInfo.bytes _ : Int) ≤ 64 from Int.ofNat_le.2 (Nat.le_of_ble_eq_true rfl)) (by omega)) (by (try simp only [List.length_cons, List.length_nil]); omega)⟩)) ?_; conv => whnf)))
      · have h1 : (xs : List Ang).all allAY ≠ true := fun h => hc (allIs.1 h g (by rw [hM]; omega))
        exact leaf0 rfl (congrArg (AVal.int .i64) (by rw [if_neg h1])) rfl
      · refine ⟨g + 1, ⟨by omega, fun i hi => ?_⟩, by omega, ?_⟩
        · rcases Nat.lt_or_ge i g with h | h
          · exact hall i h
          · obtain rfl : i = g := by omega
            exact hc
        conv => whnf
        refine ⟨?_, by (conv => whnf); repeat (first | exact True.intro | (refine And.intro rfl ?_; conv => whnf)), by (conv => whnf); repeat (first | exact True.intro | (refine And.intro (by first | rfl | (subst_vars; rfl)) ?_; conv => whnf)), rfl, rfl, rfl, rfl, rfl, rfl, rfl, Nat.le_of_ble_eq_true rfl, Nat.le_of_ble_eq_true rfl⟩
        conv => whnf
        repeat (first | exact True.intro | (refine And.intro (by first | rfl | ((conv => whnf); exact congrArg (AVal.int .i64) (by omega)) | ((conv => whnf); exact congrArg (AVal.int .i64) (by simp only [Int.natCast_add, Int.natCast_one]; omega)) | ((conv => whnf); exact congrArg (AVal.irow _) (by first | omega | assumption | (simp only; omega)))) ?_; conv => whnf))
      · have hMg : M = g := by omega
        subst hMg
        rename_i hin
        have h1 : (xs : List Ang).all allAY = true := allIs.2 (by rw [hM]; exact hall)
        exact leaf0 rfl (congrArg (AVal.int .i64) (by rw [if_pos h1, if_neg hin])) rfl
      · have hMg : M = g := by omega
        subst hMg
        rename_i hin
        have h1 : (xs : List Ang).all allAY = true := allIs.2 (by rw [hM]; exact hall)
        exact leaf0 rfl (congrArg (AVal.int .i64) (by rw [if_pos h1, if_pos hin])) rfl
theorem clsG_len2 (n : Nat) (c : List Int) (g : Nat) : (clsG n c g).length ≤ g := by
  unfold clsG
  rw [List.length_map]
  exact Nat.le_trans (List.length_filter_le _ _) (by simp)
theorem ownL_len2 (c : List Int) (g h : Nat) : (ownL c g h).length ≤ h := by
  unfold ownL
  rw [List.length_map]
  exact Nat.le_trans (List.length_filter_le _ _) (by simp)
def listsC : PCtr := fun _ rg lr vals k => match vals with
  | [.row i] => rowC iT1 (rg i) fun c => (Can (List.length (α := Int) c) c ∧ List.length (α := Int) c ≤ 63) ∧ ∀ ys : List (List Int), ys = clsL (List.length (α := Int) c) c → k [⟨rT1, 41, true, ys⟩] (.row lr)
  | _ => False
theorem lists_ok : PCtrOk Try.prog 31 listsC where
  enter := enter_ok Try.func31 (by kernel_rfl) rfl
  calls := by
    intro hg rg lr vals k h
    unfold listsC at h
    split at h
    case h_2 => exact h.elim
    rename_i i
    obtain ⟨e, own, c, hi, h⟩ : ∃ e own, ∃ (xs : List Int), _ := rowC_inv h
    obtain ⟨⟨hC, h63⟩, hk⟩ := h
    replace hk := hk _ rfl
    refine ⟨_, _, hk, fun A w hB hR => ?_⟩
    refine enter T_ok .nil Try.func31 rfl (K := (· < w.heap.size)) (fun _ h => h) (A := A.pick [] [i]) (vals := [.row 0]) (n0 := 0) (b0 := 0) (rows := [some ⟨iT1, e, false, c⟩]) (hp := []) rfl (Nat.zero_le _) no_box rfl (one_row (hR i _ hi)) rfl rfl (Nat.le_of_ble_eq_true rfl) ?_
    conv => whnf
    repeat (refine V_step T_ok .nil rfl ?_; conv => whnf)
    obtain ⟨N, hN⟩ : ∃ N, List.length (α := Int) c = N := ⟨_, rfl⟩
    have hNl : (List.length (α := TyC.α iT1) c : Int) = N := by rw [show List.length (α := TyC.α iT1) c = N from hN]
    rw [hN] at hC h63
    have hb8 : (ti2.bytes : Int) = 8 := rfl
    have hb24 : (ti41.bytes : Int) = 24 := rfl
    repeat (any_goals (first
      | (refine V_step T_ok .nil rfl ?_; conv => whnf)
      | (refine V_drawA T_ok .nil mixed (by kernel_rfl) ?_; conv => whnf)
      | (refine bcond_split (fun hc => ?_) (fun hc => ?_) <;> (try simp only [decide_eq_true_eq, decide_eq_false_iff_not, Bool.not_eq_true', Bool.not_eq_false', Bool.and_eq_true, Bool.or_eq_true, Bool.and_eq_false_imp, Bool.or_eq_false_iff, ne_eq, Decidable.not_not] at hc) <;> conv => whnf)
      | (intro ysK hysK; have hysl := congrArg List.length hysK; (try simp only [List.length_set, List.length_append, List.length_cons, List.length_nil, List.length_take, List.length_drop, List.length_replicate] at hysl); conv => whnf)
      | (intro bK hbK; have hbl := congrArg ByteArray.size hbK; conv => whnf)
      | (intro sK hsK; conv => whnf)
      | (refine And.intro (by first | (first | exact True.intro | omega) | exact True.intro | exact ⟨rfl, True.intro, fun _ _ => rfl⟩ | exact Nat.le_of_ble_eq_true rfl | (refine ⟨by (try simp only [List.length_cons, List.length_nil]); omega, Int.le_trans (Int.mul_le_mul_of_nonneg_left (show (TInfo.bytes _ : Int) ≤ 64 from Int.ofNat_le.2 (Nat.le_of_ble_eq_true rfl)) (by omega)) (by (try simp only [List.length_cons, List.length_nil]); omega)⟩)) ?_; conv => whnf)))
    refine V_loopH (γ := Nat) (fun g => g ≤ N) (fun g => N - g) (fun g => [(4, .int .i64 g), (3, .row 1), (7, .junk)]) (fun _ => []) (fun g => [(1, some ⟨rT1, 41, true, clsG N c g⟩)]) 0 (Nat.zero_le _) ?_ ?_
    · conv => whnf
      refine ⟨?_, by (conv => whnf); repeat (first | exact True.intro | (refine And.intro rfl ?_; conv => whnf)), by (conv => whnf); repeat (first | exact True.intro | (refine And.intro (by first | rfl | (subst_vars; rfl)) ?_; conv => whnf)), rfl, rfl, rfl, rfl, rfl, rfl, rfl, Nat.le_of_ble_eq_true rfl, Nat.le_of_ble_eq_true rfl⟩
      conv => whnf
      repeat (first | exact True.intro | (refine And.intro (by first | rfl | ((conv => whnf); exact congrArg (AVal.int .i64) (by omega)) | ((conv => whnf); exact congrArg (AVal.int .i64) (by simp only [Int.natCast_add, Int.natCast_one]; omega)) | ((conv => whnf); exact congrArg (AVal.irow _) (by first | omega | assumption | (simp only; omega)))) ?_; conv => whnf))
    · rintro g hg
      have hgl := clsG_len2 N c g
      conv => whnf
      refine vcCode_sound T_ok .nil _ _ _ _ _ ?_
      conv => whnf
      repeat (refine V_step T_ok .nil rfl ?_; conv => whnf)
      repeat (any_goals (first
        | (refine V_step T_ok .nil rfl ?_; conv => whnf)
        | (refine V_drawA T_ok .nil mixed (by kernel_rfl) ?_; conv => whnf)
        | (refine bcond_split (fun hc => ?_) (fun hc => ?_) <;> (try simp only [decide_eq_true_eq, decide_eq_false_iff_not, Bool.not_eq_true', Bool.not_eq_false', Bool.and_eq_true, Bool.or_eq_true, Bool.and_eq_false_imp, Bool.or_eq_false_iff, ne_eq, Decidable.not_not] at hc) <;> conv => whnf)
        | (intro ysK hysK; have hysl := congrArg List.length hysK; (try simp only [List.length_set, List.length_append, List.length_cons, List.length_nil, List.length_take, List.length_drop, List.length_replicate] at hysl); conv => whnf)
        | (intro bK hbK; have hbl := congrArg ByteArray.size hbK; conv => whnf)
        | (intro sK hsK; conv => whnf)
        | (refine And.intro (by first | (first | exact True.intro | omega | (simp only [Rng]; omega)) | exact True.intro | exact ⟨rfl, True.intro, fun _ _ => rfl⟩ | exact Nat.le_of_ble_eq_true rfl | (refine ⟨by (try simp only [List.length_cons, List.length_nil]); omega, Int.le_trans (Int.mul_le_mul_of_nonneg_left (show (TInfo.bytes _ : Int) ≤ 64 from Int.ofNat_le.2 (Nat.le_of_ble_eq_true rfl)) (by omega)) (by (try simp only [List.length_cons, List.length_nil]); omega)⟩)) ?_; conv => whnf)))
      · have hgN : g < N := by omega
        have h1 : ¬ lab c g = (g : Int) := hc
        have hy : clsG N c g = clsG N c (g + 1) := by rw [clsG_next, if_neg h1]
        refine ⟨g + 1, by omega, by omega, ?_⟩
        rw [hy]
        conv => whnf
        refine ⟨?_, by (conv => whnf); repeat (first | exact True.intro | (refine And.intro rfl ?_; conv => whnf)), by (conv => whnf); repeat (first | exact True.intro | (refine And.intro (by first | rfl | (subst_vars; rfl)) ?_; conv => whnf)), rfl, rfl, rfl, rfl, rfl, rfl, rfl, Nat.le_of_ble_eq_true rfl, Nat.le_of_ble_eq_true rfl⟩
        conv => whnf
        repeat (first | exact True.intro | (refine And.intro (by first | rfl | ((conv => whnf); exact congrArg (AVal.int .i64) (by omega)) | ((conv => whnf); exact congrArg (AVal.int .i64) (by simp only [Int.natCast_add, Int.natCast_one]; omega)) | ((conv => whnf); exact congrArg (AVal.irow _) (by first | omega | assumption | (simp only; omega)))) ?_; conv => whnf))
      · have hgN : g < N := by omega
        have hlab : lab c g = (g : Int) := hc
        refine V_loopH (γ := Nat) (fun h => g ≤ h ∧ h ≤ N) (fun h => N - h) (fun h => [(6, .int .i64 h), (5, .row 2), (20, .junk)]) (fun _ => []) (fun h => [(2, some ⟨iT1, 2, true, ownL c g h⟩)]) g ⟨Nat.le_refl _, hg⟩ ?_ ?_
        · have hy := ownL_low hC (g := g) g (Nat.le_refl _) hg
          rw [hy]
          conv => whnf
          refine ⟨?_, by (conv => whnf); repeat (first | exact True.intro | (refine And.intro rfl ?_; conv => whnf)), by (conv => whnf); repeat (first | exact True.intro | (refine And.intro (by first | rfl | (subst_vars; rfl)) ?_; conv => whnf)), rfl, rfl, rfl, rfl, rfl, rfl, rfl, Nat.le_of_ble_eq_true rfl, Nat.le_of_ble_eq_true rfl⟩
          conv => whnf
          repeat (first | exact True.intro | (refine And.intro (by first | rfl | ((conv => whnf); exact congrArg (AVal.int .i64) (by omega)) | ((conv => whnf); exact congrArg (AVal.int .i64) (by simp only [Int.natCast_add, Int.natCast_one]; omega)) | ((conv => whnf); exact congrArg (AVal.irow _) (by first | omega | assumption | (simp only; omega)))) ?_; conv => whnf))
        · rintro h ⟨hh1, hh2⟩
          have hol := ownL_len2 c g h
          conv => whnf
          refine vcCode_sound T_ok .nil _ _ _ _ _ ?_
          conv => whnf
          repeat (refine V_step T_ok .nil rfl ?_; conv => whnf)
          repeat (any_goals (first
            | (refine V_step T_ok .nil rfl ?_; conv => whnf)
            | (refine V_drawA T_ok .nil mixed (by kernel_rfl) ?_; conv => whnf)
            | (refine bcond_split (fun hc => ?_) (fun hc => ?_) <;> (try simp only [decide_eq_true_eq, decide_eq_false_iff_not, Bool.not_eq_true', Bool.not_eq_false', Bool.and_eq_true, Bool.or_eq_true, Bool.and_eq_false_imp, Bool.or_eq_false_iff, ne_eq, Decidable.not_not] at hc) <;> conv => whnf)
            | (intro ysK hysK; have hysl := congrArg List.length hysK; (try simp only [List.length_set, List.length_append, List.length_cons, List.length_nil, List.length_take, List.length_drop, List.length_replicate] at hysl); conv => whnf)
            | (intro bK hbK; have hbl := congrArg ByteArray.size hbK; conv => whnf)
            | (intro sK hsK; conv => whnf)
            | (refine And.intro (by first | (first | exact True.intro | omega | exact hapI (by rw [hb8]; omega) (by rw [hb8]; omega) _ _ (Nat.le_trans hol (by omega)) (by simp only [List.length_cons, List.length_nil]; omega) | exact hapI (by rw [hb24]; omega) (by rw [hb24]; omega) _ _ (Nat.le_trans hgl (by omega)) (by simp only [List.length_cons, List.length_nil]; omega) | (simp only [Rng]; omega)) | exact True.intro | exact ⟨rfl, True.intro, fun _ _ => rfl⟩ | exact Nat.le_of_ble_eq_true rfl | (refine ⟨by (try simp only [List.length_cons, List.length_nil]); omega, Int.le_trans (Int.mul_le_mul_of_nonneg_left (show (TInfo.bytes _ : Int) ≤ 64 from Int.ofNat_le.2 (Nat.le_of_ble_eq_true rfl)) (by omega)) (by (try simp only [List.length_cons, List.length_nil]); omega)⟩)) ?_; conv => whnf)))
          · have h1 : lab c h = (g : Int) := hc
            have hy : ysK = ownL c g (h + 1) := by rw [ownL_next, if_pos h1]; exact hysK
            clear hysK hysl
            subst hy
            refine ⟨h + 1, ⟨by omega, by omega⟩, by omega, ?_⟩
            conv => whnf
            refine ⟨?_, by (conv => whnf); repeat (first | exact True.intro | (refine And.intro rfl ?_; conv => whnf)), by (conv => whnf); repeat (first | exact True.intro | (refine And.intro (by first | rfl | (subst_vars; rfl)) ?_; conv => whnf)), rfl, rfl, rfl, rfl, rfl, rfl, rfl, Nat.le_of_ble_eq_true rfl, Nat.le_of_ble_eq_true rfl⟩
            conv => whnf
            repeat (first | exact True.intro | (refine And.intro (by first | rfl | ((conv => whnf); exact congrArg (AVal.int .i64) (by omega)) | ((conv => whnf); exact congrArg (AVal.int .i64) (by simp only [Int.natCast_add, Int.natCast_one]; omega)) | ((conv => whnf); exact congrArg (AVal.irow _) (by first | omega | assumption | (simp only; omega)))) ?_; conv => whnf))
          · have h1 : ¬ lab c h = (g : Int) := hc
            have hy : ownL c g h = ownL c g (h + 1) := by rw [ownL_next, if_neg h1]
            refine ⟨h + 1, ⟨by omega, by omega⟩, by omega, ?_⟩
            rw [hy]
            conv => whnf
            refine ⟨?_, by (conv => whnf); repeat (first | exact True.intro | (refine And.intro rfl ?_; conv => whnf)), by (conv => whnf); repeat (first | exact True.intro | (refine And.intro (by first | rfl | (subst_vars; rfl)) ?_; conv => whnf)), rfl, rfl, rfl, rfl, rfl, rfl, rfl, Nat.le_of_ble_eq_true rfl, Nat.le_of_ble_eq_true rfl⟩
            conv => whnf
            repeat (first | exact True.intro | (refine And.intro (by first | rfl | ((conv => whnf); exact congrArg (AVal.int .i64) (by omega)) | ((conv => whnf); exact congrArg (AVal.int .i64) (by simp only [Int.natCast_add, Int.natCast_one]; omega)) | ((conv => whnf); exact congrArg (AVal.irow _) (by first | omega | assumption | (simp only; omega)))) ?_; conv => whnf))
          · obtain rfl : N = h := by omega
            have hy : ysK = clsG N c (g + 1) := by rw [clsG_next, if_pos hlab]; exact hysK
            clear hysK hysl
            subst hy
            refine ⟨g + 1, by omega, by omega, ?_⟩
            conv => whnf
            refine ⟨?_, by (conv => whnf); repeat (first | exact True.intro | (refine And.intro rfl ?_; conv => whnf)), by (conv => whnf); repeat (first | exact True.intro | (refine And.intro (by first | rfl | (subst_vars; rfl)) ?_; conv => whnf)), rfl, rfl, rfl, rfl, rfl, rfl, rfl, Nat.le_of_ble_eq_true rfl, Nat.le_of_ble_eq_true rfl⟩
            conv => whnf
            repeat (first | exact True.intro | (refine And.intro (by first | rfl | ((conv => whnf); exact congrArg (AVal.int .i64) (by omega)) | ((conv => whnf); exact congrArg (AVal.int .i64) (by simp only [Int.natCast_add, Int.natCast_one]; omega)) | ((conv => whnf); exact congrArg (AVal.irow _) (by first | omega | assumption | (simp only; omega)))) ?_; conv => whnf))
      · obtain rfl : N = g := by omega
        exact leaf1 1 rfl rfl (congrArg (fun ys => (⟨rT1, 41, true, ys⟩ : Row)) (by rw [hN]; rfl)) rfl (fun B C h => by simp [AVal.den, h])
abbrev GSl := (GOk.cons codeL_ok (GOk.cons ldr_ok (GOk.cons lists_ok .nil)))
theorem one_pre {t : Ang} {n : Int} (h : IsA t ∧ OkN n) : ((∀ g, g < [t].length → IsA ([t].getD g aT.dflt)) ∧ [t].length ≤ 2) ∧ OkN n :=
  ⟨⟨fun g hg => by obtain rfl : g = 0 := by simpa using hg
                   exact h.1, by simp⟩, h.2⟩
theorem two_pre {t u : Ang} {n : Int} (h : (IsA t ∧ IsA u) ∧ OkN n) : ((∀ g, g < [t, u].length → IsA ([t, u].getD g aT.dflt)) ∧ [t, u].length ≤ 2) ∧ OkN n :=
  ⟨⟨fun g hg => by
      have hg' : g < 2 := hg
      rcases (show g = 0 ∨ g = 1 by omega) with rfl | rfl
      · exact h.1.1
      · exact h.1.2, by simp⟩, h.2⟩
theorem lists_pre {ts : List Ang} {n : Int} {g : Nat} {c : List Int} (hn : OkN n) (h : c = ldrG ts n.toNat g) : Can (List.length (α := Int) c) c ∧ List.length (α := Int) c ≤ 63 := by
  have hC := ldrG_can ts n.toNat g
  rw [← h] at hC
  have h1 := hC.len
  rw [h1]
  exact ⟨hC, by have := hn.2; omega⟩
theorem lists_one {t : Ang} {n : Int} {c : List Int} {ys : List (List Int)} (hn : OkN n) (h : c = ldrG [t] n.toNat [t].length) (hy : ys = clsL (List.length (α := Int) c) c) : ys = cls1 t n := by
  have hC := ldrG_can [t] n.toNat [t].length
  rw [← h] at hC
  rw [hy, hC.len, h]
  unfold cls1
  rw [← ldr_lab1 t (by have := hn.1; omega)]; rfl
theorem lists_two {t u : Ang} {n : Int} {c : List Int} {ys : List (List Int)} (hn : OkN n) (h : c = ldrG [t, u] n.toNat [t, u].length) (hy : ys = clsL (List.length (α := Int) c) c) : ys = cls2 t u n := by
  have hC := ldrG_can [t, u] n.toNat [t, u].length
  rw [← h] at hC
  rw [hy, hC.len, h]
  unfold cls2
  rw [← ldr_lab2 t u (by have := hn.1; omega)]; rfl
theorem sClo_ok : PCtrOk Try.prog 7 cloC where
  enter := enter_ok Try.func7 (by kernel_rfl) rfl
  calls := by
    intro hg rg lr vals k h
    unfold cloC at h
    split at h
    case h_2 => exact h.elim
    rename_i a b n
    obtain ⟨_, hk⟩ := h
    replace hk := hk _ rfl
    refine ⟨_, _, hk, fun A w _ _ => ?_⟩
    refine enter T_ok GSl Try.func7 rfl (K := (· < w.heap.size)) (fun _ h => h) (A := A) (n0 := 0) (b0 := 0) (rows := []) (hp := []) rfl (Nat.zero_le _) (fun k r h => by cases h) rfl (fun k r h => by cases h) rfl rfl (Nat.le_of_ble_eq_true rfl) ?_
    conv => whnf
    repeat (refine V_step T_ok GSl rfl ?_; conv => whnf)
    repeat (any_goals (first
      | (refine V_step T_ok GSl rfl ?_; conv => whnf)
      | (refine V_drawN T_ok GSl mixed (by kernel_rfl) ?_; conv => whnf)
      | (refine bcond_split (fun hc => ?_) (fun hc => ?_) <;> (try simp only [decide_eq_true_eq, decide_eq_false_iff_not, Bool.not_eq_true', Bool.not_eq_false', Bool.and_eq_true, Bool.or_eq_true, Bool.and_eq_false_imp, Bool.or_eq_false_iff, ne_eq, Decidable.not_not] at hc) <;> conv => whnf)
      | (intro ysK hysK; have hysl := congrArg List.length hysK; (try simp only [List.length_set, List.length_append, List.length_cons, List.length_nil, List.length_take, List.length_drop, List.length_replicate] at hysl); conv => whnf)
      | (intro bK hbK; have hbl := congrArg ByteArray.size hbK; conv => whnf)
      | (intro sK hsK; conv => whnf)
      | (refine And.intro (by first | (first | exact True.intro | (simp only [List.length_cons, List.length_nil]; omega) | exact one_pre (code1P.1 (by assumption)) | exact lists_pre (code1P.1 (by assumption)).2 hysK) | exact True.intro | exact ⟨rfl, True.intro, fun _ _ => rfl⟩ | exact Nat.le_of_ble_eq_true rfl | (refine ⟨by (try simp only [List.length_cons, List.length_nil]); omega, Int.le_trans (Int.mul_le_mul_of_nonneg_left (show (TInfo.bytes _ : Int) ≤ 64 from Int.ofNat_le.2 (Nat.le_of_ble_eq_true rfl)) (by omega)) (by (try simp only [List.length_cons, List.length_nil]); omega)⟩)) ?_; conv => whnf)))
    · by_cases h1 : IsA (a, b)
      · have h2 : ¬ OkN n := fun h => hc (code1P.2 ⟨h1, h⟩)
        have e1 := (code1 (a, b) (decide (OkN n))).2.2 h1 (decide_eq_false h2)
        simp only [decide_eq_true_iff] at e1
        rw [cloR_r h1 h2]
        exact leafN rfl rfl (fun B C h => by simp only [AVal.den, dens, h]; exact congrArg (fun z => Value.tuple #[Value.slice none 0 0, Value.int .i64 z]) e1)
      · have e1 := (code1 (a, b) (decide (OkN n))).2.1 h1
        simp only [decide_eq_true_iff] at e1
        rw [cloR_i h1]
        exact leafN rfl rfl (fun B C h => by simp only [AVal.den, dens, h]; exact congrArg (fun z => Value.tuple #[Value.slice none 0 0, Value.int .i64 z]) e1)
    · obtain ⟨h1, h2⟩ := code1P.1 hc
      rename_i hld _
      rw [cloR_t h1 h2]
      exact leaf1 3 rfl rfl (congrArg (fun ys => (⟨rT1, 41, true, ys⟩ : Row)) (lists_one h2 hld hysK)) rfl (fun B C h => by simp [AVal.den, dens, h])
theorem sJoc_ok : PCtrOk Try.prog 11 jocC where
  enter := enter_ok Try.func11 (by kernel_rfl) rfl
  calls := by
    intro hg rg lr vals k h
    unfold jocC at h
    split at h
    case h_2 => exact h.elim
    rename_i a b c d n
    obtain ⟨_, hk⟩ := h
    replace hk := hk _ rfl
    refine ⟨_, _, hk, fun A w _ _ => ?_⟩
    refine enter T_ok GSl Try.func11 rfl (K := (· < w.heap.size)) (fun _ h => h) (A := A) (n0 := 0) (b0 := 0) (rows := []) (hp := []) rfl (Nat.zero_le _) (fun k r h => by cases h) rfl (fun k r h => by cases h) rfl rfl (Nat.le_of_ble_eq_true rfl) ?_
    conv => whnf
    repeat (refine V_step T_ok GSl rfl ?_; conv => whnf)
    repeat (any_goals (first
      | (refine V_step T_ok GSl rfl ?_; conv => whnf)
      | (refine V_drawN T_ok GSl mixed (by kernel_rfl) ?_; conv => whnf)
      | (refine bcond_split (fun hc => ?_) (fun hc => ?_) <;> (try simp only [decide_eq_true_eq, decide_eq_false_iff_not, Bool.not_eq_true', Bool.not_eq_false', Bool.and_eq_true, Bool.or_eq_true, Bool.and_eq_false_imp, Bool.or_eq_false_iff, ne_eq, Decidable.not_not] at hc) <;> conv => whnf)
      | (intro ysK hysK; have hysl := congrArg List.length hysK; (try simp only [List.length_set, List.length_append, List.length_cons, List.length_nil, List.length_take, List.length_drop, List.length_replicate] at hysl); conv => whnf)
      | (intro bK hbK; have hbl := congrArg ByteArray.size hbK; conv => whnf)
      | (intro sK hsK; conv => whnf)
      | (refine And.intro (by first | (first | exact True.intro | (simp only [List.length_cons, List.length_nil]; omega) | exact two_pre (code2P.1 (by assumption)) | exact lists_pre (code2P.1 (by assumption)).2 hysK) | exact True.intro | exact ⟨rfl, True.intro, fun _ _ => rfl⟩ | exact Nat.le_of_ble_eq_true rfl | (refine ⟨by (try simp only [List.length_cons, List.length_nil]); omega, Int.le_trans (Int.mul_le_mul_of_nonneg_left (show (TInfo.bytes _ : Int) ≤ 64 from Int.ofNat_le.2 (Nat.le_of_ble_eq_true rfl)) (by omega)) (by (try simp only [List.length_cons, List.length_nil]); omega)⟩)) ?_; conv => whnf)))
    · by_cases h1 : IsA (a, b) ∧ IsA (c, d)
      · have h2 : ¬ OkN n := fun h => hc (code2P.2 ⟨h1, h⟩)
        have e1 := (code2 (a, b) (c, d) (decide (OkN n))).2.2 h1 (decide_eq_false h2)
        simp only [decide_eq_true_iff] at e1
        rw [jocR_r h1 h2]
        exact leafN rfl rfl (fun B C h => by simp only [AVal.den, dens, h]; exact congrArg (fun z => Value.tuple #[Value.slice none 0 0, Value.int .i64 z]) e1)
      · have e1 := (code2 (a, b) (c, d) (decide (OkN n))).2.1 h1
        simp only [decide_eq_true_iff] at e1
        rw [jocR_i h1]
        exact leafN rfl rfl (fun B C h => by simp only [AVal.den, dens, h]; exact congrArg (fun z => Value.tuple #[Value.slice none 0 0, Value.int .i64 z]) e1)
    · obtain ⟨h1, h2⟩ := code2P.1 hc
      rename_i hld _
      rw [jocR_t h1 h2]
      exact leaf1 3 rfl rfl (congrArg (fun ys => (⟨rT1, 41, true, ys⟩ : Row)) (lists_two h2 hld hysK)) rfl (fun B C h => by simp [AVal.den, dens, h])
end Go.Proofs.Ytllagpbbbdekiac.Fw
