/- Contracts: the program's ray pairs of a period. -/
import Derived.Test.YtlplngafncobkabP1
namespace Go.Proofs.Ytlplngafncobkab.Fw
open Go Go.RowKit
set_option linter.unusedVariables false
set_option linter.unusedSimpArgs false
set_option maxRecDepth 100000
set_option maxHeartbeats 2000000

def perNot (n : Int) (p : Lf) : Bool := !decide (perI p.1 = n)
def poC : PCtr := fun hg rg _ vals k => match vals with
  | [.agg [.int .i64 n, .int .i64 d, .int .i64 m, .int .i64 e], .loc qn0 0] => boxI (hg qn0) fun n0 => ((True) ∧ IsL ((n, d), (m, e))) ∧ k [] (.bool (perNot n0 ((n, d), (m, e))))
  | _ => False
theorem po_ok : PCtrOk Try.prog 98 poC where
  enter := enter_ok Try.func98 (by kernel_rfl) rfl
  calls := by
    intro hg rg lr vals k h
    unfold poC at h
    split at h
    case h_2 => exact h.elim
    rename_i n d m e qn0
    obtain ⟨n0, hqn0, h⟩ := boxI_inv h
    obtain ⟨⟨hE, hx⟩, hk⟩ := h
    refine ⟨_, _, hk, fun A w hB hR => ?_⟩
    refine enter T_ok (GOk.cons per_ok .nil) Try.func98 rfl (K := (· < w.heap.size)) (fun _ h => h) (A := A.pick [qn0] []) (vals := [.agg [.int .i64 n, .int .i64 d, .int .i64 m, .int .i64 e], .loc 0 0]) (n0 := 0) (b0 := 1) (rows := []) (hp := [some [.int .i64 n0]]) rfl (Nat.zero_le _) (fun i9 cs h9 => by
      match i9, h9 with
      | 0, h9 => cases h9; exact box_lt (hB qn0 _ hqn0)
      | i9 + 1, h9 => simp [nthj] at h9) rfl no_row rfl rfl (Nat.le_of_ble_eq_true rfl) ?_
    conv => whnf
    repeat (refine V_step T_ok (GOk.cons per_ok .nil) rfl ?_; conv => whnf)

    repeat (any_goals (first
      | (refine V_step T_ok (GOk.cons per_ok .nil) rfl ?_; conv => whnf)
      | (refine V_drawA T_ok (GOk.cons per_ok .nil) mixed (by kernel_rfl) ?_; conv => whnf)
      | (refine bcond_split (fun hc => ?_) (fun hc => ?_) <;> (try simp only [decide_eq_true_eq, decide_eq_false_iff_not, Bool.not_eq_true', Bool.not_eq_false', Bool.and_eq_true, Bool.or_eq_true, Bool.and_eq_false_imp, Bool.or_eq_false_iff, ne_eq, Decidable.not_not] at hc) <;> conv => whnf)
      | (intro ysK hysK; have hysl := congrArg List.length hysK; (try simp only [List.length_set, List.length_append, List.length_cons, List.length_nil, List.length_take, List.length_drop, List.length_replicate] at hysl); conv => whnf)
      | (refine And.intro (by first | (first | exact True.intro | exact hx.1) | exact True.intro | exact Nat.le_of_ble_eq_true rfl | (refine ⟨by (try simp only [List.length_cons, List.length_nil]); omega, Int.le_trans (Int.mul_le_mul_of_nonneg_left (show (TInfo.bytes _ : Int) ≤ 64 from Int.ofNat_le.2 (Nat.le_of_ble_eq_true rfl)) (by omega)) (by (try simp only [List.length_cons, List.length_nil]); omega)⟩)) ?_; conv => whnf)))
    all_goals exact leaf0 rfl rfl rfl

def poxC : PCtr := fun hg rg _ vals k => match vals with
  | [.row i, .fn f [] [.loc qn0 0]] => isF f 98 (rowC lT (rg i) fun xs => boxI (hg qn0) fun n0 => ((True) ∧ ∀ x ∈ (xs : List Lf), IsL x) ∧ k [] (.int .i64 (idxP (α := Lf) (perNot n0) xs)))
  | _ => False
theorem pox_ok : PCtrOk Try.prog 68 poxC where
  enter := enter_ok Try.func68 (by kernel_rfl) rfl
  calls := by
    intro hg rg lr vals k h
    unfold poxC at h
    split at h
    case h_2 => exact h.elim
    rename_i i f qn0
    obtain ⟨rfl, h⟩ := isF_inv h
    obtain ⟨e, own, xs, hi, h⟩ : ∃ e own, ∃ (xs : List Lf), _ := rowC_inv h
    obtain ⟨n0, hqn0, h⟩ := boxI_inv h
    obtain ⟨⟨hE, hx⟩, hk⟩ := h
    refine ⟨_, _, hk, fun A w hB hR => ?_⟩
    refine enter T_ok (GOk.cons po_ok .nil) Try.func68 rfl (K := (· < w.heap.size)) (fun _ h => h) (A := A.pick [qn0] [i]) (vals := [.row 0, .fn 98 [] [.loc 0 0]]) (n0 := 0) (b0 := 1) (rows := [some ⟨lT, e, false, xs⟩]) (hp := [some [.int .i64 n0]]) rfl (Nat.zero_le _) (fun i9 cs h9 => by
      match i9, h9 with
      | 0, h9 => cases h9; exact box_lt (hB qn0 _ hqn0)
      | i9 + 1, h9 => simp [nthj] at h9) rfl (fun i9 r h9 => by
      match i9, h9 with
      | 0, h9 => cases h9; exact ⟨rfl, RowsAt.ro (hR i _ hi)⟩
      | i9 + 1, h9 => simp [nthj] at h9) rfl rfl (Nat.le_of_ble_eq_true rfl) ?_
    conv => whnf
    repeat (refine V_step T_ok (GOk.cons po_ok .nil) rfl ?_; conv => whnf)
    have hcap' : (@List.length (TyC.α lT) xs : Int) ≤ 9223372036854775807 := by
      have h1 := (hR i _ hi).len
      have h2 := (hR i _ hi).cap
      have h3 := (hR i _ hi).max
      simp only at h1
      have : maxLen = 9223372036854775807 := rfl
      omega
    have hcap : (xs.length : Int) ≤ 9223372036854775807 := hcap'
    have hx' : ∀ n : Nat, (n : Int) < (List.length (α := Lf) xs : Nat) → IsL (xs.getD n lT.dflt) := fun n hn => hx _ (getD_mem (by omega))
    refine V_loopH (γ := Nat) (fun n => n ≤ xs.length ∧ ∀ j, j < n → (perNot n0) (xs.getD j lT.dflt) = false) (fun n => xs.length - n)
      (fun n => [(8, .int .i64 n)]) (fun _ => []) (fun _ => []) 0 ⟨Nat.zero_le _, fun j h => absurd h (Nat.not_lt_zero _)⟩ ?_ ?_
    · conv => whnf
      refine ⟨?_, by (conv => whnf); repeat (first | exact True.intro | (refine And.intro rfl ?_; conv => whnf)), by (conv => whnf); repeat (first | exact True.intro | (refine And.intro (by first | rfl | (subst_vars; rfl)) ?_; conv => whnf)), rfl, rfl, rfl, rfl, rfl, rfl, rfl, Nat.le_of_ble_eq_true rfl, Nat.le_of_ble_eq_true rfl⟩
      conv => whnf
      repeat (first | exact True.intro | (refine And.intro (by first | rfl | ((conv => whnf); exact congrArg (AVal.int .i64) (by omega)) | ((conv => whnf); exact congrArg (AVal.int .i64) (by simp only [Int.natCast_add, Int.natCast_one]; omega))) ?_; conv => whnf))
    · rintro n ⟨h1, h2⟩
      conv => whnf
      refine vcCode_sound T_ok (GOk.cons po_ok .nil) _ _ _ _ _ ?_
      conv => whnf
      repeat (refine V_step T_ok (GOk.cons po_ok .nil) rfl ?_; conv => whnf)
      repeat (any_goals (first
        | (refine V_step T_ok (GOk.cons po_ok .nil) rfl ?_; conv => whnf)
        | (refine V_drawA T_ok (GOk.cons po_ok .nil) mixed (by kernel_rfl) ?_; conv => whnf)
        | (refine bcond_split (fun hc => ?_) (fun hc => ?_) <;> (try simp only [decide_eq_true_eq, decide_eq_false_iff_not, Bool.not_eq_true', Bool.not_eq_false', Bool.and_eq_true, Bool.or_eq_true, Bool.and_eq_false_imp, Bool.or_eq_false_iff, ne_eq, Decidable.not_not] at hc) <;> conv => whnf)
        | (intro ysK hysK; have hysl := congrArg List.length hysK; (try simp only [List.length_set, List.length_append, List.length_cons, List.length_nil, List.length_take, List.length_drop, List.length_replicate] at hysl); conv => whnf)
        | (refine And.intro (by first | (first | exact True.intro | omega | (simp only [Rng]; omega) | exact ⟨hE, hx' n (by assumption)⟩) | exact True.intro | exact Nat.le_of_ble_eq_true rfl | (refine ⟨by (try simp only [List.length_cons, List.length_nil]); omega, Int.le_trans (Int.mul_le_mul_of_nonneg_left (show (TInfo.bytes _ : Int) ≤ 64 from Int.ofNat_le.2 (Nat.le_of_ble_eq_true rfl)) (by omega)) (by (try simp only [List.length_cons, List.length_nil]); omega)⟩)) ?_; conv => whnf)))
      · rename_i hc0
        have hl : (n : Int) < (xs.length : Nat) := hc0
        exact leaf0 rfl (congrArg (AVal.int .i64) (idxP_found (perNot n0) xs n lT.dflt (by omega) h2 hc).symm) rfl
      · rename_i hc0
        have hl : (n : Int) < (xs.length : Nat) := hc0
        refine ⟨n + 1, ⟨by omega, fun j hj => ?_⟩, by omega, ?_⟩
        · rcases Nat.lt_or_ge j n with h | h
          · exact h2 j h
          · obtain rfl : j = n := by omega
            exact hc
        · conv => whnf
          refine ⟨?_, by (conv => whnf); repeat (first | exact True.intro | (refine And.intro rfl ?_; conv => whnf)), by (conv => whnf); repeat (first | exact True.intro | (refine And.intro (by first | rfl | (subst_vars; rfl)) ?_; conv => whnf)), rfl, rfl, rfl, rfl, rfl, rfl, rfl, Nat.le_of_ble_eq_true rfl, Nat.le_of_ble_eq_true rfl⟩
          conv => whnf
          repeat (first | exact True.intro | (refine And.intro (by first | rfl | ((conv => whnf); exact congrArg (AVal.int .i64) (by omega)) | ((conv => whnf); exact congrArg (AVal.int .i64) (by simp only [Int.natCast_add, Int.natCast_one]; omega))) ?_; conv => whnf))
      · have hl : ¬ (n : Int) < (xs.length : Nat) := hc
        exact leaf0 rfl (congrArg (AVal.int .i64) (idxP_none (perNot n0) xs lT.dflt (fun j hj => h2 j (by omega))).symm) rfl


def podC : MCtr := fun hg rg lr vals k => match vals with
  | [.row i, .fn f [] [.loc qn0 0]] => isF f 98 (rowO lT (rg i) fun e xs => boxI (hg qn0) fun n0 => ((True) ∧ ∀ x ∈ (xs : List Lf), IsL x) ∧ k [(i, none)] [⟨lT, e, true, (xs : List Lf).filter (fun x => !(perNot n0) x)⟩] (.row lr))
  | _ => False
theorem pod_ok : MCtrOk Try.prog 77 podC where
  enter := enter_ok Try.func77 (by kernel_rfl) rfl
  calls := by
    intro hg rg lr vals k h
    unfold podC at h
    split at h
    case h_2 => exact h.elim
    rename_i i f qn0
    obtain ⟨rfl, h⟩ := isF_inv h
    obtain ⟨e, xs, hi, h⟩ : ∃ e, ∃ (xs : List Lf), _ := rowO_inv h
    obtain ⟨n0, hqn0, h⟩ := boxI_inv h
    obtain ⟨hH, hk⟩ := h

    obtain ⟨hE, hx⟩ := hH
    refine ⟨_, _, _, hk, (ups_one hi rfl (fun r' hr' => by cases hr')), fun A w hM => ?_⟩
    have hO : One rg [i] [some ⟨lT, e, true, xs⟩] i ⟨lT, e, true, xs⟩ := ⟨rfl, hi, rfl, rfl, fun q r hq ho => by
      match q, hq with
      | 0, hq => rfl
      | q + 1, hq => simp [nthj] at hq⟩
    refine enterM T_ok (GOk.cons pox_ok (GOk.cons po_ok .nil)) Try.func77 rfl (w := w) (A := A.pick [qn0] [i]) (vals := [.row 0, .fn 98 [] [.loc 0 0]]) (n0 := 1) (b0 := 1) (rows := [some ⟨lT, e, true, xs⟩]) (hp := [some [.int .i64 n0]]) rfl (Nat.le_add_left _ _) (hM.pick [qn0] [i] [some [.int .i64 n0]] [some ⟨lT, e, true, xs⟩] (fun i9 cs h9 => by
      match i9, h9 with
      | 0, h9 => cases h9; exact ⟨_, hqn0, rfl⟩
      | i9 + 1, h9 => simp [nthj] at h9) (fun i9 r h9 => by
      match i9, h9 with
      | 0, h9 => cases h9; exact ⟨_, hi, .inl rfl⟩
      | i9 + 1, h9 => simp [nthj] at h9) (fun i9 j9 r r' h9 h8 hij ho => by
      have h0 : i9 = 0 := hO.only i9 r h9 ho
      subst h0
      match j9, h8 with
      | 0, h8 => exact absurd rfl hij
      | j9 + 1, h8 => simp [nthj] at h8)) rfl rfl rfl (Nat.le_of_ble_eq_true rfl) ?_
    conv => whnf
    repeat (refine V_step T_ok (GOk.cons pox_ok (GOk.cons po_ok .nil)) rfl ?_; conv => whnf)
    have hcap : (List.length (α := Lf) xs : Int) ≤ 9223372036854775807 := by
      have h1 := (hM.row i _ hi).1.len
      have h2 := (hM.row i _ hi).1.cap
      have h3 := (hM.row i _ hi).1.max
      simp only at h1
      have : maxLen = 9223372036854775807 := rfl
      omega
    have hx' : ∀ n : Nat, n < (List.length (α := Lf) xs : Nat) → IsL (xs.getD n lT.dflt) := fun n hn => hx _ (getD_mem hn)
    have hd := idxP_cases (perNot n0) lT.dflt xs
    have hd2 := idxP_ge (perNot n0) xs
    repeat (any_goals (first
      | (refine V_step T_ok (GOk.cons pox_ok (GOk.cons po_ok .nil)) rfl ?_; conv => whnf)
      | (refine V_drawA T_ok (GOk.cons pox_ok (GOk.cons po_ok .nil)) mixed (by kernel_rfl) ?_; conv => whnf)
      | (refine bcond_split (fun hc => ?_) (fun hc => ?_) <;> (try simp only [decide_eq_true_eq, decide_eq_false_iff_not, Bool.not_eq_true', Bool.not_eq_false', Bool.and_eq_true, Bool.or_eq_true, Bool.and_eq_false_imp, Bool.or_eq_false_iff, ne_eq, Decidable.not_not] at hc) <;> conv => whnf)
      | (intro ysK hysK; have hysl := congrArg List.length hysK; (try simp only [List.length_set, List.length_append, List.length_cons, List.length_nil, List.length_take, List.length_drop, List.length_replicate] at hysl); conv => whnf)
      | (refine And.intro (by first | (first | exact ⟨hE, hx⟩ | exact True.intro | (simp only [Rng]; omega) | omega) | exact True.intro | exact Nat.le_of_ble_eq_true rfl | (refine ⟨by (try simp only [List.length_cons, List.length_nil]); omega, Int.le_trans (Int.mul_le_mul_of_nonneg_left (show (TInfo.bytes _ : Int) ≤ 64 from Int.ofNat_le.2 (Nat.le_of_ble_eq_true rfl)) (by omega)) (by (try simp only [List.length_cons, List.length_nil]); omega)⟩)) ?_; conv => whnf)))
    · -- none
      have hall : ∀ x ∈ xs, (perNot n0) x = false := by
        rcases hd with ⟨_, h2⟩ | ⟨n, h1, _⟩
        · exact h2
        · have hc' : idxP (perNot n0) xs = -1 := hc
          omega
      refine leafM1 hO 0 rfl ?_ rfl (fun B C h => by simp [AVal.den, h])
      rw [List.filter_eq_self.2 fun x hx => by rw [hall x hx]; rfl]
    · have hc' : ¬ idxP (perNot n0) xs = -1 := hc
      obtain ⟨nD, hn1, hn2, hn3, hn4⟩ : ∃ n : Nat, idxP (perNot n0) xs = (n : Int) ∧ n < xs.length ∧ (perNot n0) (xs.getD n lT.dflt) = true ∧ ∀ x ∈ xs.take n, (perNot n0) x = false := by
        rcases hd with ⟨h1, _⟩ | h
        · exact absurd h1 hc'
        · exact h
      clear hd
      refine V_loopH (γ := (Nat × Nat) × List Lf) (fun g => (g.1.1 < g.1.2 ∧ g.1.2 ≤ xs.length) ∧ g.2.length = xs.length ∧ g.2.take g.1.1 = (xs.take g.1.2).filter (fun x => !(perNot n0) x) ∧ ∀ q, g.1.2 ≤ q → g.2.getD q lT.dflt = xs.getD q lT.dflt) (fun g => xs.length - g.1.2)
        (fun g => [(5, .int .i64 g.1.1), (6, .int .i64 g.1.2)]) (fun _ => []) (fun g => [(0, some ⟨lT, e, true, g.2⟩)]) ((nD, nD + 1), xs) ⟨⟨Nat.lt_succ_self _, hn2⟩, rfl, (del_first hn2 hn3 hn4).symm, fun _ _ => rfl⟩ ?_ ?_
      · conv => whnf
        refine ⟨?_, by (conv => whnf); repeat (first | exact True.intro | (refine And.intro rfl ?_; conv => whnf)), by (conv => whnf); repeat (first | exact True.intro | (refine And.intro (by first | rfl | (subst_vars; rfl)) ?_; conv => whnf)), rfl, rfl, rfl, rfl, rfl, rfl, rfl, Nat.le_of_ble_eq_true rfl, Nat.le_of_ble_eq_true rfl⟩
        conv => whnf
        repeat (first | exact True.intro | (refine And.intro (by first | rfl | ((conv => whnf); exact congrArg (AVal.int .i64) (by omega)) | ((conv => whnf); exact congrArg (AVal.int .i64) (by simp only [Int.natCast_add, Int.natCast_one]; omega))) ?_; conv => whnf))
      · rintro ⟨⟨iD, jD⟩, yD⟩ ⟨⟨h1, h2⟩, hlen, htk, hdr⟩
        simp only at h1 h2 hlen htk hdr
        have hy : ∀ q : Nat, (q : Int) < (List.length (α := Lf) yD : Nat) → jD ≤ q → IsL (yD.getD q lT.dflt) := fun q hq hle => by rw [hdr q hle]; exact hx' q (by omega)
        conv => whnf
        refine vcCode_sound T_ok (GOk.cons pox_ok (GOk.cons po_ok .nil)) _ _ _ _ _ ?_
        conv => whnf
        repeat (refine V_step T_ok (GOk.cons pox_ok (GOk.cons po_ok .nil)) rfl ?_; conv => whnf)
        repeat (any_goals (first
          | (refine V_step T_ok (GOk.cons pox_ok (GOk.cons po_ok .nil)) rfl ?_; conv => whnf)
          | (refine V_drawA T_ok (GOk.cons pox_ok (GOk.cons po_ok .nil)) mixed (by kernel_rfl) ?_; conv => whnf)
          | (refine bcond_split (fun hc => ?_) (fun hc => ?_) <;> (try simp only [decide_eq_true_eq, decide_eq_false_iff_not, Bool.not_eq_true', Bool.not_eq_false', Bool.and_eq_true, Bool.or_eq_true, Bool.and_eq_false_imp, Bool.or_eq_false_iff, ne_eq, Decidable.not_not] at hc) <;> conv => whnf)
          | (intro ysK hysK; have hysl := congrArg List.length hysK; (try simp only [List.length_set, List.length_append, List.length_cons, List.length_nil, List.length_take, List.length_drop, List.length_replicate] at hysl); conv => whnf)
          | (refine And.intro (by first | (first | exact True.intro | omega | (simp only [Rng]; omega) | exact ⟨hE, hy jD (by assumption) (Nat.le_refl _)⟩) | exact True.intro | exact Nat.le_of_ble_eq_true rfl | (refine ⟨by (try simp only [List.length_cons, List.length_nil]); omega, Int.le_trans (Int.mul_le_mul_of_nonneg_left (show (TInfo.bytes _ : Int) ≤ 64 from Int.ofNat_le.2 (Nat.le_of_ble_eq_true rfl)) (by omega)) (by (try simp only [List.length_cons, List.length_nil]); omega)⟩)) ?_; conv => whnf)))
        · -- it stays
          rename_i hjD
          have hjD : (jD : Int) < (List.length (α := Lf) yD : Nat) := hjD
          have hp : (perNot n0) (xs.getD jD lT.dflt) = false := by rw [← hdr jD (Nat.le_refl _)]; exact hc
          have hyK : ysK = yD.set iD (xs.getD jD lT.dflt) := by rw [← hdr jD (Nat.le_refl _)]; exact hysK
          refine ⟨((iD + 1, jD + 1), ysK), ⟨⟨by simp only; omega, by simp only; omega⟩, by rw [hyK]; simp only [List.length_set]; exact hlen, ?_, fun q hq => ?_⟩, by simp only; omega, ?_⟩
          · simp only
            rw [hyK, take_set (by omega), del_step (d := lT.dflt) (by omega), htk, hp]; rfl
          · simp only at hq ⊢
            rw [hyK, List.getD_eq_getElem?_getD, List.getElem?_set_ne (by omega), ← List.getD_eq_getElem?_getD]
            exact hdr q (by omega)
          · conv => whnf
            refine ⟨?_, by (conv => whnf); repeat (first | exact True.intro | (refine And.intro rfl ?_; conv => whnf)), by (conv => whnf); repeat (first | exact True.intro | (refine And.intro (by first | rfl | (subst_vars; rfl)) ?_; conv => whnf)), rfl, rfl, rfl, rfl, rfl, rfl, rfl, Nat.le_of_ble_eq_true rfl, Nat.le_of_ble_eq_true rfl⟩
            conv => whnf
            repeat (first | exact True.intro | (refine And.intro (by first | rfl | ((conv => whnf); exact congrArg (AVal.int .i64) (by omega)) | ((conv => whnf); exact congrArg (AVal.int .i64) (by simp only [Int.natCast_add, Int.natCast_one]; omega))) ?_; conv => whnf))
        · -- it goes
          rename_i hjD
          have hjD : (jD : Int) < (List.length (α := Lf) yD : Nat) := hjD
          have hp : (perNot n0) (xs.getD jD lT.dflt) = true := by rw [← hdr jD (Nat.le_refl _)]; exact hc
          refine ⟨((iD, jD + 1), yD), ⟨⟨by simp only; omega, by simp only; omega⟩, hlen, ?_, fun q hq => hdr q (by simp only at hq; omega)⟩, by simp only; omega, ?_⟩
          · simp only
            rw [del_step (d := lT.dflt) (by omega), htk, hp]; simp
          · conv => whnf
            refine ⟨?_, by (conv => whnf); repeat (first | exact True.intro | (refine And.intro rfl ?_; conv => whnf)), by (conv => whnf); repeat (first | exact True.intro | (refine And.intro (by first | rfl | (subst_vars; rfl)) ?_; conv => whnf)), rfl, rfl, rfl, rfl, rfl, rfl, rfl, Nat.le_of_ble_eq_true rfl, Nat.le_of_ble_eq_true rfl⟩
            conv => whnf
            repeat (first | exact True.intro | (refine And.intro (by first | rfl | ((conv => whnf); exact congrArg (AVal.int .i64) (by omega)) | ((conv => whnf); exact congrArg (AVal.int .i64) (by simp only [Int.natCast_add, Int.natCast_one]; omega))) ?_; conv => whnf))
        · have hge : ¬ (jD : Int) < (List.length (α := Lf) yD : Nat) := hc
          have hj : jD = xs.length := by omega
          have hlK : ysK.length = yD.length := by
            have hyK : ysK = yD.take iD ++ (List.replicate (yD.length - iD) lT.dflt ++ yD.drop (iD + (yD.length - iD))) := hysK
            rw [hyK]; simp; omega
          have hT : ysK.take iD = (xs : List Lf).filter (fun x => !(perNot n0) x) := by
            have hyK : ysK = yD.take iD ++ (List.replicate (yD.length - iD) lT.dflt ++ yD.drop (iD + (yD.length - iD))) := hysK
            rw [hyK, List.take_append_of_le_length (by simp; omega), List.take_take, Nat.min_self, htk, hj, List.take_length]
          refine leafMV (xs := ysK) hO 0 iD rfl rfl (by omega) hT (fun B C h => ?_)
          simp [AVal.den, h, TyC.sz] <;> rfl


/-- So many of the angles of a period. -/
def angsK (n g : Nat) : List Ang := ((List.range g).map fun k : Nat => ofQ (k : Int) (2 ^ n - 1)).filter fun a => decide (perI a = n)
theorem angsK_len (n g : Nat) : (angsK n g).length ≤ g := by
  refine Nat.le_trans (List.length_filter_le ..) ?_
  simp
theorem angsK_succ (n g : Nat) : angsK n (g + 1) = angsK n g ++ (if perI (ofQ (g : Int) (2 ^ n - 1)) = n then [ofQ (g : Int) (2 ^ n - 1)] else []) := by
  unfold angsK
  rw [List.range_succ, List.map_append, List.filter_append]
  congr 1
  by_cases h : perI (ofQ (g : Int) (2 ^ n - 1)) = n <;> simp [h]
def angsOfC : PCtr := fun _ _ lr vals k => match vals with
  | [.int .i64 n] => (1 ≤ n ∧ n ≤ 8) ∧ k [⟨aT, 27, true, angsN n.toNat⟩] (.vw lr 0 (angsN n.toNat).length 2)
  | _ => False
abbrev GAP := GOk.cons angle_ok (GOk.cons per_ok .nil)
theorem angsOf_ok : PCtrOk Try.prog 112 angsOfC where
  enter := enter_ok Try.func112 (by kernel_rfl) rfl
  calls := by
    intro hg rg lr vals k h
    unfold angsOfC at h
    split at h
    case h_2 => exact h.elim
    rename_i n
    obtain ⟨hn, hk⟩ := h
    refine ⟨_, _, hk, fun A w _ _ => ?_⟩
    refine enter T_ok GAP Try.func112 rfl (K := (· < w.heap.size)) (fun _ h => h) (A := A) (n0 := 0) (b0 := 0) (rows := []) (hp := []) rfl (Nat.zero_le _) (fun k r h => by cases h) rfl (fun k r h => by cases h) rfl rfl (Nat.le_of_ble_eq_true rfl) ?_
    conv => whnf
    repeat (refine V_step T_ok GAP rfl ?_; conv => whnf)
    obtain ⟨N, rfl⟩ : ∃ N : Nat, n = (N : Int) := ⟨n.toNat, by omega⟩
    have hp := pow_rng (n := N) (by omega) (by omega)
    have hD : (1 : Int) * 2 ^ N - 1 = 2 ^ N - 1 := by rw [Int.one_mul]
    have hA : ∀ g : Int, IsA (ofQ g (1 * 2 ^ N - 1)) := fun g => by rw [hD]; exact ofQ_isA _ _ hp.1 (by omega)
    have hDr : 1 ≤ (1 : Int) * 2 ^ N - 1 ∧ (1 : Int) * 2 ^ N - 1 ≤ 255 := by rw [hD]; exact hp
    have hDt : 1 ≤ (1 : Int) * 2 ^ (N : Int).toNat - 1 ∧ (1 : Int) * 2 ^ (N : Int).toNat - 1 ≤ 255 := hDr
    repeat (any_goals (first
      | (refine V_step T_ok GAP rfl ?_; conv => whnf)
      | (refine V_drawA T_ok GAP mixed (by kernel_rfl) ?_; conv => whnf)
      | (refine bcond_split (fun hc => ?_) (fun hc => ?_) <;> (try simp only [decide_eq_true_eq, decide_eq_false_iff_not, Bool.not_eq_true', Bool.not_eq_false', Bool.and_eq_true, Bool.or_eq_true, Bool.and_eq_false_imp, Bool.or_eq_false_iff, ne_eq, Decidable.not_not] at hc) <;> conv => whnf)
      | (intro ysK hysK; have hysl := congrArg List.length hysK; (try simp only [List.length_set, List.length_append, List.length_cons, List.length_nil, List.length_take, List.length_drop, List.length_replicate] at hysl); conv => whnf)
      | (refine And.intro (by first | (first | exact True.intro | omega | (simp only [Rng]; omega) | (simp only [Rng, Int.toNat_natCast]; omega)) | exact True.intro | exact Nat.le_of_ble_eq_true rfl | (refine ⟨by (try simp only [List.length_cons, List.length_nil]); omega, Int.le_trans (Int.mul_le_mul_of_nonneg_left (show (TInfo.bytes _ : Int) ≤ 64 from Int.ofNat_le.2 (Nat.le_of_ble_eq_true rfl)) (by omega)) (by (try simp only [List.length_cons, List.length_nil]); omega)⟩)) ?_; conv => whnf)))
    refine V_loopP (γ := Nat) (fun g => (g : Int) ≤ 2 ^ N - 1) (fun g => (2 ^ N - 1 : Int).toNat - g)
      (fun g => [(3, .row 0), (11, .int .i64 g)]) (fun _ => []) (fun _ => []) (fun g => [some ⟨aT, 27, true, angsK N g⟩]) 0 (by omega) ?_ ?_
    · conv => whnf
      refine ⟨?_, by (conv => whnf); repeat (first | exact True.intro | (refine And.intro rfl ?_; conv => whnf)), by (conv => whnf); repeat (first | exact True.intro | (refine And.intro (by first | rfl | (subst_vars; rfl)) ?_; conv => whnf)), rfl, rfl, rfl, rfl, rfl, rfl, rfl, Nat.le_of_ble_eq_true rfl, Nat.le_of_ble_eq_true rfl⟩
      conv => whnf
      repeat (first | exact True.intro | (refine And.intro (by first | rfl | ((conv => whnf); exact congrArg (AVal.int .i64) (by omega)) | ((conv => whnf); exact congrArg (AVal.int .i64) (by simp only [Int.natCast_add, Int.natCast_one]; omega))) ?_; conv => whnf))
    · rintro g hg1
      have hlen := angsK_len N g
      have hl2 : (List.length (α := Int × Int) (angsK N g) : Int) ≤ 255 := by omega
      conv => whnf
      refine vcCode_sound T_ok GAP _ _ _ _ _ ?_
      conv => whnf
      repeat (refine V_step T_ok GAP rfl ?_; conv => whnf)
      repeat (any_goals (first
        | (refine V_step T_ok GAP rfl ?_; conv => whnf)
        | (refine V_drawA T_ok GAP mixed (by kernel_rfl) ?_; conv => whnf)
        | (refine bcond_split (fun hc => ?_) (fun hc => ?_) <;> (try simp only [decide_eq_true_eq, decide_eq_false_iff_not, Bool.not_eq_true', Bool.not_eq_false', Bool.and_eq_true, Bool.or_eq_true, Bool.and_eq_false_imp, Bool.or_eq_false_iff, ne_eq, Decidable.not_not] at hc) <;> conv => whnf)
        | (intro ysK hysK; have hysl := congrArg List.length hysK; (try simp only [List.length_set, List.length_append, List.length_cons, List.length_nil, List.length_take, List.length_drop, List.length_replicate] at hysl); conv => whnf)
        | (refine And.intro (by first | (first | exact True.intro | omega | (simp only [Rng]; omega) | exact hA _ | (have hq : (g : Int) < 1 * 2 ^ (N : Int).toNat - 1 := (by assumption); exact ⟨⟨by omega, by omega⟩, by omega, by omega⟩)) | exact True.intro | exact Nat.le_of_ble_eq_true rfl | (refine ⟨by (try simp only [List.length_cons, List.length_nil]); omega, Int.le_trans (Int.mul_le_mul_of_nonneg_left (show (TInfo.bytes _ : Int) ≤ 64 from Int.ofNat_le.2 (Nat.le_of_ble_eq_true rfl)) (by omega)) (by (try simp only [List.length_cons, List.length_nil]); omega)⟩)) ?_; conv => whnf)))
      · rename_i hg2
        have hg2 : (g : Int) < 1 * 2 ^ N - 1 := hg2
        have hpe : perI (ofQ g (2 ^ N - 1)) = N := by rw [← hD]; exact hc
        have hK : ysK = angsK N (g + 1) := by
          rw [angsK_succ, if_pos hpe, ← hD]; exact hysK
        subst hK
        refine ⟨g + 1, by omega, by omega, ?_⟩
        conv => whnf
        refine ⟨?_, by (conv => whnf); repeat (first | exact True.intro | (refine And.intro rfl ?_; conv => whnf)), by (conv => whnf); repeat (first | exact True.intro | (refine And.intro (by first | rfl | (subst_vars; rfl)) ?_; conv => whnf)), rfl, rfl, rfl, rfl, rfl, rfl, rfl, Nat.le_of_ble_eq_true rfl, Nat.le_of_ble_eq_true rfl⟩
        conv => whnf
        repeat (first | exact True.intro | (refine And.intro (by first | rfl | ((conv => whnf); exact congrArg (AVal.int .i64) (by omega)) | ((conv => whnf); exact congrArg (AVal.int .i64) (by simp only [Int.natCast_add, Int.natCast_one]; omega))) ?_; conv => whnf))
      · rename_i hg2
        have hg2 : (g : Int) < 1 * 2 ^ N - 1 := hg2
        have hpe : ¬ perI (ofQ g (2 ^ N - 1)) = N := by rw [← hD]; exact hc
        have hK : angsK N g = angsK N (g + 1) := by
          rw [angsK_succ, if_neg hpe, List.append_nil]
        refine ⟨g + 1, by omega, by omega, ?_⟩
        rw [← hK]
        conv => whnf
        refine ⟨?_, by (conv => whnf); repeat (first | exact True.intro | (refine And.intro rfl ?_; conv => whnf)), by (conv => whnf); repeat (first | exact True.intro | (refine And.intro (by first | rfl | (subst_vars; rfl)) ?_; conv => whnf)), rfl, rfl, rfl, rfl, rfl, rfl, rfl, Nat.le_of_ble_eq_true rfl, Nat.le_of_ble_eq_true rfl⟩
        conv => whnf
        repeat (first | exact True.intro | (refine And.intro (by first | rfl | ((conv => whnf); exact congrArg (AVal.int .i64) (by omega)) | ((conv => whnf); exact congrArg (AVal.int .i64) (by simp only [Int.natCast_add, Int.natCast_one]; omega))) ?_; conv => whnf))
      · have hg2 : ¬ (g : Int) < 1 * 2 ^ N - 1 := hc
        have hK : angsK N g = angsN N := by
          have e1 := @pow_cast N
          rw [show g = 2 ^ N - 1 by omega]; rfl
        refine leaf1W 0 rfl rfl (by rw [hK]; rfl) rfl (fun B C h1 h2 => ?_)
        show (B.rw 0).val = ((C.rw lr).view 0 _ 2).val
        rw [view_all _ _ _ h2, h1]

end Go.Proofs.Ytlplngafncobkab.Fw
