/- Contracts: which pairs are struck by SeparatedPairs; the search for the first of them. -/
import Derived.Test.YtllagpbbbdekiabX5
namespace Go.Proofs.Ytllagpbbbdekiab.Fw
open Go Go.RowKit
set_option linter.unusedVariables false
set_option linter.unusedSimpArgs false
set_option maxRecDepth 100000
set_option maxHeartbeats 2000000
theorem rows_x1 {A : Asg} {w : World} {c c' : TyC} {e e' : TypeId} {own own' : Bool} {xs : List c.α} {ys : List c'.α} (h : RowsAt w (A.rw 0) (A.inn 0) ⟨c, e, own, xs⟩) (h' : RowsAt w (A.rw 2) (A.inn 2) ⟨c', e', own', ys⟩) :
    ∀ k r, nthj [some ⟨c, e, false, xs⟩, none, some ⟨c', e', false, ys⟩] k = some r → r.own = false ∧ RowsAt w (A.rw k) (A.inn k) r := fun k r hk => by
  match k, hk with
  | 0, hk => cases hk; exact ⟨rfl, h.ro⟩
  | 1, hk => simp [nthj] at hk
  | 2, hk => cases hk; exact ⟨rfl, h'.ro⟩
  | i + 3, hk => simp [nthj] at hk
def PreS (xs : List Ang) (p : List Int) : Prop := (∀ x ∈ xs, IsA x) ∧ (1 ≤ p.getD 0 0 ∧ p.getD 0 0 ≤ (List.length (α := Ang) xs : Int)) ∧ (1 ≤ p.getD 1 0 ∧ p.getD 1 0 ≤ (List.length (α := Ang) xs : Int)) ∧ 2 ≤ List.length (α := Int) p ∧ List.length (α := Ang) xs ≤ 100
def sep2C : PCtr := fun hg rg _ vals k => match vals with
  | [.loc j 0, .row i] => boxRR (hg j) fun r s => rowC aT (rg r) fun xs => rowC iT (rg i) fun p => PreS xs p ∧ k [] (.bool (sepB xs p))
  | _ => False
theorem sep2_ok : PCtrOk Try.prog 35 sep2C where
  enter := enter_ok Try.func35 (by kernel_rfl) rfl
  calls := by
    intro hg rg lr vals k h
    unfold sep2C at h
    split at h
    case h_2 => exact h.elim
    rename_i j i
    obtain ⟨r, s, hj, h⟩ := boxRR_inv h
    obtain ⟨e, own, xs, hr, h⟩ : ∃ e own, ∃ (xs : List Ang), _ := rowC_inv h
    obtain ⟨e3, own3, p, hi, h⟩ : ∃ e own, ∃ (xs : List Int), _ := rowC_inv h
    obtain ⟨⟨hx, hp0, hp1, hpl, hxl⟩, hk⟩ := h
    refine ⟨_, _, hk, fun A w hB hR => ?_⟩
    refine enter T_ok (GOk.cons let_ok .nil) Try.func35 rfl (K := (· < w.heap.size)) (fun _ h => h) (A := A.pick [j] [r, s, i]) (vals := [.loc 0 0, .row 2]) (n0 := 0) (b0 := 1) (rows := [some ⟨aT, e, false, xs⟩, none, some ⟨iT, e3, false, p⟩]) (hp := [some [.row 0, .row 1]]) rfl (Nat.zero_le _) (one_box (hB j _ hj)) rfl (rows_x1 (hR r _ hr) (hR i _ hi)) rfl rfl (Nat.le_of_ble_eq_true rfl) ?_
    conv => whnf
    repeat (refine V_step T_ok (GOk.cons let_ok .nil) rfl ?_; conv => whnf)
    have hp0 : 1 ≤ p.getD 0 0 ∧ p.getD 0 0 ≤ (List.length (α := Int × Int) xs : Int) := hp0
    have hp1 : 1 ≤ p.getD 1 0 ∧ p.getD 1 0 ≤ (List.length (α := Int × Int) xs : Int) := hp1
    have hpl : 2 ≤ List.length (α := Int) p := hpl
    have hxl : List.length (α := Int × Int) xs ≤ 100 := hxl
    have q0 : p.getD (Int.toNat 0) iT.dflt = p.getD 0 0 := rfl
    have q1 : p.getD (Int.toNat 1) iT.dflt = p.getD 1 0 := rfl
    have hpl' : (List.length (α := TyC.α iT) p) = List.length p := rfl
    have hxl' : (List.length (α := TyC.α aT) xs) = List.length xs := rfl
    have a0 : IsA (xs.getD 0 (0, 0)) := hx _ (getD_mem (by omega))
    have a1 : IsA (xs.getD (p.getD 0 0 - 1).toNat (0, 0)) := hx _ (getD_mem (by omega))
    have a2 : IsA (xs.getD (p.getD 1 0 - 1).toNat (0, 0)) := hx _ (getD_mem (by omega))
    repeat (any_goals (first
      | (refine V_step T_ok (GOk.cons let_ok .nil) rfl ?_; conv => whnf)
      | (refine V_drawA T_ok (GOk.cons let_ok .nil) mixed (by kernel_rfl) ?_; conv => whnf)
      | (refine bcond_split (fun hc => ?_) (fun hc => ?_) <;> (try simp only [decide_eq_true_eq, decide_eq_false_iff_not, Bool.not_eq_true', Bool.not_eq_false', Bool.and_eq_true, Bool.or_eq_true, Bool.and_eq_false_imp, Bool.or_eq_false_iff, ne_eq, Decidable.not_not] at hc) <;> conv => whnf)
      | (intro ysK hysK; have hysl := congrArg List.length hysK; (try simp only [List.length_set, List.length_append, List.length_cons, List.length_nil, List.length_take, List.length_drop, List.length_replicate] at hysl); conv => whnf)
      | (refine And.intro (by first | (first | exact True.intro | exact ⟨a1, a0⟩ | exact ⟨a2, a0⟩ | (simp only [q0, q1, hpl', hxl', Rng]; omega) | omega) | exact True.intro | exact ⟨rfl, True.intro, fun _ _ => rfl⟩ | exact Nat.le_of_ble_eq_true rfl | (refine ⟨by (try simp only [List.length_cons, List.length_nil]); omega, Int.le_trans (Int.mul_le_mul_of_nonneg_left (show (TInfo.bytes _ : Int) ≤ 64 from Int.ofNat_le.2 (Nat.le_of_ble_eq_true rfl)) (by omega)) (by (try simp only [List.length_cons, List.length_nil]); omega)⟩)) ?_; conv => whnf)))
    · rename_i h5
      exact leaf0 rfl (congrArg AVal.bool (ap1 (x := xs.getD (p.getD 0 0 - 1).toNat (0, 0)) (y := xs.getD (p.getD 1 0 - 1).toNat (0, 0)) (t := xs.getD 0 (0, 0)) h5 hc)) rfl
    · exact leaf0 rfl (congrArg AVal.bool (ap2 (x := xs.getD (p.getD 0 0 - 1).toNat (0, 0)) (y := xs.getD (p.getD 1 0 - 1).toNat (0, 0)) (t := xs.getD 0 (0, 0)) hc)) rfl
    · exact leaf0 rfl (congrArg AVal.bool (ap3 (x := xs.getD (p.getD 0 0 - 1).toNat (0, 0)) (y := xs.getD (p.getD 1 0 - 1).toNat (0, 0)) (t := xs.getD 0 (0, 0)) hc)) rfl
def notS (xs : List Ang) (p : List Int) : Bool := !sepB xs p
def ds1C : PCtr := fun hg rg _ vals k => match vals with
  | [.row i, .loc q 0] => boxP (hg q) fun j => boxRR (hg j) fun r s => rowC aT (rg r) fun xs => rowC iT (rg i) fun p => PreS xs p ∧ k [] (.bool (notS xs p))
  | _ => False
theorem ds1_ok : PCtrOk Try.prog 34 ds1C where
  enter := enter_ok Try.func34 (by kernel_rfl) rfl
  calls := by
    intro hg rg lr vals k h
    unfold ds1C at h
    split at h
    case h_2 => exact h.elim
    rename_i i q
    obtain ⟨j, hq, h⟩ := boxP_inv h
    obtain ⟨r, s, hj, h⟩ := boxRR_inv h
    obtain ⟨e, own, xs, hr, h⟩ : ∃ e own, ∃ (xs : List Ang), _ := rowC_inv h
    obtain ⟨e3, own3, p, hi, h⟩ : ∃ e own, ∃ (xs : List Int), _ := rowC_inv h
    obtain ⟨hpre, hk⟩ := h
    refine ⟨_, _, hk, fun A w hB hR => ?_⟩
    refine enter T_ok (GOk.cons sep2_ok .nil) Try.func34 rfl (K := (· < w.heap.size)) (fun _ h => h) (A := A.pick [q, j] [r, s, i]) (vals := [.row 2, .loc 0 0]) (n0 := 0) (b0 := 2) (rows := [some ⟨aT, e, false, xs⟩, none, some ⟨iT, e3, false, p⟩]) (hp := [some [.loc 1 0], some [.row 0, .row 1]]) rfl (Nat.zero_le _) (two_boxes (hB q _ hq) (hB j _ hj)) rfl (rows_x1 (hR r _ hr) (hR i _ hi)) rfl rfl (Nat.le_of_ble_eq_true rfl) ?_
    conv => whnf
    repeat (refine V_step T_ok (GOk.cons sep2_ok .nil) rfl ?_; conv => whnf)
    repeat (any_goals (first
      | (refine V_step T_ok (GOk.cons sep2_ok .nil) rfl ?_; conv => whnf)
      | (refine V_drawA T_ok (GOk.cons sep2_ok .nil) mixed (by kernel_rfl) ?_; conv => whnf)
      | (refine bcond_split (fun hc => ?_) (fun hc => ?_) <;> (try simp only [decide_eq_true_eq, decide_eq_false_iff_not, Bool.not_eq_true', Bool.not_eq_false', Bool.and_eq_true, Bool.or_eq_true, Bool.and_eq_false_imp, Bool.or_eq_false_iff, ne_eq, Decidable.not_not] at hc) <;> conv => whnf)
      | (intro ysK hysK; have hysl := congrArg List.length hysK; (try simp only [List.length_set, List.length_append, List.length_cons, List.length_nil, List.length_take, List.length_drop, List.length_replicate] at hysl); conv => whnf)
      | (refine And.intro (by first | (first | exact True.intro | exact hpre) | exact True.intro | exact ⟨rfl, True.intro, fun _ _ => rfl⟩ | exact Nat.le_of_ble_eq_true rfl | (refine ⟨by (try simp only [List.length_cons, List.length_nil]); omega, Int.le_trans (Int.mul_le_mul_of_nonneg_left (show (TInfo.bytes _ : Int) ≤ 64 from Int.ofNat_le.2 (Nat.le_of_ble_eq_true rfl)) (by omega)) (by (try simp only [List.length_cons, List.length_nil]); omega)⟩)) ?_; conv => whnf)))
    all_goals exact leaf0 rfl rfl rfl
theorem rows_x2 {A : Asg} {w : World} {c c' : TyC} {e e' : TypeId} {own own' : Bool} {xs : List c.α} {ys : List c'.α} (h : RowsAt w (A.rw 0) (A.inn 0) ⟨c, e, own, xs⟩) (h' : RowsAt w (A.rw 1) (A.inn 1) ⟨c', e', own', ys⟩) :
    ∀ k r, nthj [some ⟨c, e, false, xs⟩, some ⟨c', e', false, ys⟩, none] k = some r → r.own = false ∧ RowsAt w (A.rw k) (A.inn k) r := fun k r hk => by
  match k, hk with
  | 0, hk => cases hk; exact ⟨rfl, h.ro⟩
  | 1, hk => cases hk; exact ⟨rfl, h'.ro⟩
  | 2, hk => simp [nthj] at hk
  | i + 3, hk => simp [nthj] at hk
def dsxC : PCtr := fun hg rg _ vals k => match vals with
  | [.row i, .fn f [] [.loc q 0]] => isF f 34 (boxP (hg q) fun j => boxRR (hg j) fun r s => rowC rT (rg i) fun prs => rowC aT (rg r) fun xs => (∀ p ∈ (prs : List (List Int)), PreS xs p) ∧ k [] (.int .i64 (idxP (α := List Int) (notS xs) prs)))
  | _ => False
theorem dsx_ok : PCtrOk Try.prog 63 dsxC where
  enter := enter_ok Try.func63 (by kernel_rfl) rfl
  calls := by
    intro hg rg lr vals k h
    unfold dsxC at h
    split at h
    case h_2 => exact h.elim
    rename_i i f q
    obtain ⟨rfl, h⟩ := isF_inv h
    obtain ⟨j, hq, h⟩ := boxP_inv h
    obtain ⟨r, s, hj, h⟩ := boxRR_inv h
    obtain ⟨e2, own2, prs, hi, h⟩ : ∃ e own, ∃ (xs : List (List Int)), _ := rowC_inv h
    obtain ⟨e, own, xs, hr, h⟩ : ∃ e own, ∃ (xs : List Ang), _ := rowC_inv h
    obtain ⟨hpre, hk⟩ := h
    refine ⟨_, _, hk, fun A w hB hR => ?_⟩
    refine enter T_ok (GOk.cons ds1_ok .nil) Try.func63 rfl (K := (· < w.heap.size)) (fun _ h => h) (A := A.pick [q, j] [i, r, s]) (vals := [.row 0, .fn 34 [] [.loc 0 0]]) (n0 := 0) (b0 := 2) (rows := [some ⟨rT, e2, false, prs⟩, some ⟨aT, e, false, xs⟩, none]) (hp := [some [.loc 1 0], some [.row 1, .row 2]]) rfl (Nat.zero_le _) (two_boxes (hB q _ hq) (hB j _ hj)) rfl (rows_x2 (hR i _ hi) (hR r _ hr)) rfl rfl (Nat.le_of_ble_eq_true rfl) ?_
    conv => whnf
    repeat (refine V_step T_ok (GOk.cons ds1_ok .nil) rfl ?_; conv => whnf)
    have hcap' : (@List.length (List Int) prs : Int) ≤ 9223372036854775807 := by
      have h1 := (hR i _ hi).len
      have h2 := (hR i _ hi).cap
      have h3 := (hR i _ hi).max
      simp only at h1
      have : maxLen = 9223372036854775807 := rfl
      have h1 : (A.rw i).len = @List.length (List Int) prs := h1
      omega
    have hpre : ∀ n : Nat, (n : Int) < (@List.length (List Int) prs : Int) → PreS xs (@List.getD (List Int) prs n []) := fun n hn => hpre _ (getD_mem (by omega))
    refine V_loopH (γ := Nat) (fun n => n ≤ List.length (α := List Int) prs ∧ ∀ j, j < n → notS xs (prs.getD j []) = false) (fun n => List.length (α := List Int) prs - n)
      (fun n => [(8, .int .i64 n)]) (fun _ => []) (fun _ => []) 0 ⟨Nat.zero_le _, fun j h => absurd h (Nat.not_lt_zero _)⟩ ?_ ?_
    · conv => whnf
      refine ⟨?_, by (conv => whnf); repeat (first | exact True.intro | (refine And.intro rfl ?_; conv => whnf)), by (conv => whnf); repeat (first | exact True.intro | (refine And.intro (by first | rfl | (subst_vars; rfl)) ?_; conv => whnf)), rfl, rfl, rfl, rfl, rfl, rfl, rfl, Nat.le_of_ble_eq_true rfl, Nat.le_of_ble_eq_true rfl⟩
      conv => whnf
      repeat (first | exact True.intro | (refine And.intro (by first | rfl | ((conv => whnf); exact congrArg (AVal.int .i64) (by omega)) | ((conv => whnf); exact congrArg (AVal.int .i64) (by simp only [Int.natCast_add, Int.natCast_one]; omega)) | ((conv => whnf); exact congrArg (AVal.irow _) (by first | omega | assumption | (simp only; omega)))) ?_; conv => whnf))
    · rintro n ⟨h1, h2⟩
      conv => whnf
      refine vcCode_sound T_ok (GOk.cons ds1_ok .nil) _ _ _ _ _ ?_
      conv => whnf
      repeat (refine V_step T_ok (GOk.cons ds1_ok .nil) rfl ?_; conv => whnf)
      repeat (any_goals (first
        | (refine V_step T_ok (GOk.cons ds1_ok .nil) rfl ?_; conv => whnf)
        | (refine V_drawA T_ok (GOk.cons ds1_ok .nil) mixed (by kernel_rfl) ?_; conv => whnf)
        | (refine bcond_split (fun hc => ?_) (fun hc => ?_) <;> (try simp only [decide_eq_true_eq, decide_eq_false_iff_not, Bool.not_eq_true', Bool.not_eq_false', Bool.and_eq_true, Bool.or_eq_true, Bool.and_eq_false_imp, Bool.or_eq_false_iff, ne_eq, Decidable.not_not] at hc) <;> conv => whnf)
        | (intro ysK hysK; have hysl := congrArg List.length hysK; (try simp only [List.length_set, List.length_append, List.length_cons, List.length_nil, List.length_take, List.length_drop, List.length_replicate] at hysl); conv => whnf)
        | (refine And.intro (by first | (first | exact True.intro | exact hpre n (by assumption) | omega | (simp only [Rng]; omega)) | exact True.intro | exact ⟨rfl, True.intro, fun _ _ => rfl⟩ | exact Nat.le_of_ble_eq_true rfl | (refine ⟨by (try simp only [List.length_cons, List.length_nil]); omega, Int.le_trans (Int.mul_le_mul_of_nonneg_left (show (TInfo.bytes _ : Int) ≤ 64 from Int.ofNat_le.2 (Nat.le_of_ble_eq_true rfl)) (by omega)) (by (try simp only [List.length_cons, List.length_nil]); omega)⟩)) ?_; conv => whnf)))
      · rename_i hc0
        have hl : (n : Int) < (List.length (α := List Int) prs : Nat) := hc0
        exact leaf0 rfl (congrArg (AVal.int .i64) (idxP_found (notS xs) prs n [] (by omega) h2 hc).symm) rfl
      · rename_i hc0
        have hl : (n : Int) < (List.length (α := List Int) prs : Nat) := hc0
        refine ⟨n + 1, ⟨by omega, fun j hj => ?_⟩, by omega, ?_⟩
        · rcases Nat.lt_or_ge j n with h | h
          · exact h2 j h
          · obtain rfl : j = n := by omega
            exact hc
        · conv => whnf
          refine ⟨?_, by (conv => whnf); repeat (first | exact True.intro | (refine And.intro rfl ?_; conv => whnf)), by (conv => whnf); repeat (first | exact True.intro | (refine And.intro (by first | rfl | (subst_vars; rfl)) ?_; conv => whnf)), rfl, rfl, rfl, rfl, rfl, rfl, rfl, Nat.le_of_ble_eq_true rfl, Nat.le_of_ble_eq_true rfl⟩
          conv => whnf
          repeat (first | exact True.intro | (refine And.intro (by first | rfl | ((conv => whnf); exact congrArg (AVal.int .i64) (by omega)) | ((conv => whnf); exact congrArg (AVal.int .i64) (by simp only [Int.natCast_add, Int.natCast_one]; omega)) | ((conv => whnf); exact congrArg (AVal.irow _) (by first | omega | assumption | (simp only; omega)))) ?_; conv => whnf))
      · have hl : ¬ (n : Int) < (List.length (α := List Int) prs : Nat) := hc
        exact leaf0 rfl (congrArg (AVal.int .i64) (idxP_none (notS xs) prs [] (fun j hj => h2 j (by omega))).symm) rfl
end Go.Proofs.Ytllagpbbbdekiab.Fw
