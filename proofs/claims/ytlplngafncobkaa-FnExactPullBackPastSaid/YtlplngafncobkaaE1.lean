/- Contracts: halves of angles, leaves that arise when a leaf is pulled back. -/
import Derived.Test.YtlplngafncobkaaD3
import Derived.Test.YtlplngafncobkaaM6
namespace Go.Proofs.Ytlplngafncobkaa.Fw
open Go Go.RowKit
set_option linter.unusedVariables false
set_option linter.unusedSimpArgs false
set_option maxRecDepth 100000
set_option maxHeartbeats 2000000

/-- Only what came in. -/
theorem leafS {P : Program} {w : World} {K : Nat → Prop} {r0 : Nat → Hdr} {n0 b0 : Nat} {A : Asg} {lr : Nat} {hp : List (Option (List AVal))} {rows : List (Option Row)} {u v : AVal} (hK : K = (· < w.heap.size))
    (huv : ∀ B : Asg, (∀ j, j < n0 → B.rw j = r0 j) → u.den B = v.den A) :
    Leaf ⟨P, w, K, r0, n0, b0⟩ (CPost A lr [] v w) hp rows u := ⟨fun B w' hm => by
  subst hK
  refine ⟨[], ?_, hm.kept.below, newRows_nil⟩
  rw [setRws_nil, huv B (fun j hj => hm.args j hj)]⟩

/-- Two new rows. -/
theorem leaf2 {P : Program} {w : World} {K : Nat → Prop} {r0 : Nat → Hdr} {n0 b0 : Nat} {A : Asg} {lr : Nat} {hp : List (Option (List AVal))} {rows : List (Option Row)} {u v : AVal} {r1 r1' r2 r2' : Row} (k1 k2 : Nat) (hne : k1 ≠ k2) (hK : K = (· < w.heap.size))
    (hk1 : nthj rows k1 = some r1) (e1 : r1 = r1') (ho1 : r1.own = true) (hk2 : nthj rows k2 = some r2) (e2 : r2 = r2') (ho2 : r2.own = true)
    (huv : ∀ B C : Asg, B.rw k1 = C.rw lr → B.rw k2 = C.rw (lr + 1) → u.den B = v.den C) :
    Leaf ⟨P, w, K, r0, n0, b0⟩ (CPost A lr [r1', r2'] v w) hp rows u := ⟨fun B w' hm => by
  subst hK; subst e1; subst e2
  obtain ⟨a1, a2⟩ := hm.row k1 r1 hk1
  obtain ⟨a3, a4⟩ := a2 ho1
  obtain ⟨b1, b2⟩ := hm.row k2 r2 hk2
  obtain ⟨b3, b4⟩ := b2 ho2
  refine ⟨[⟨B.rw k1, B.inn k1⟩, ⟨B.rw k2, B.inn k2⟩], ?_, hm.kept.below, newRows_two ho1 a3 (fun b hb => by have := a4 b hb; simp only at this; omega) ho2 b3 (fun b hb => by have := b4 b hb; simp only at this; omega) (fun b hb => hm.rr k1 k2 r1 r2 b hk1 hk2 hne ho1 hb)⟩
  have s1 := (setRws_in A lr [⟨B.rw k1, B.inn k1⟩, ⟨B.rw k2, B.inn k2⟩] 0 _ rfl).1
  have s2 := (setRws_in A lr [⟨B.rw k1, B.inn k1⟩, ⟨B.rw k2, B.inn k2⟩] 1 _ rfl).1
  rw [Nat.add_zero] at s1
  rw [huv B (A.setRws lr [⟨B.rw k1, B.inn k1⟩, ⟨B.rw k2, B.inn k2⟩]) s1.symm s2.symm]⟩

def halvesC : PCtr := fun _ _ _ vals k => match vals with
  | [.agg [.int .i64 n, .int .i64 d]] => Sm (n, d) ∧ k [] (.tup [aV (halfA (n, d)), aV (half2A (n, d))])
  | _ => False
theorem halves_ok : PCtrOk Try.prog 139 halvesC where
  enter := enter_ok Try.func139 (by kernel_rfl) rfl
  calls := by
    intro hg rg lr vals k h
    unfold halvesC at h
    split at h
    case h_2 => exact h.elim
    rename_i n d
    obtain ⟨hn, hk⟩ := h
    refine ⟨_, _, hk, fun A w _ _ => ?_⟩
    refine enter T_ok (GOk.cons angle_ok .nil) Try.func139 rfl (K := (· < w.heap.size)) (fun _ h => h) (A := A) (n0 := 0) (b0 := 0) (rows := []) (hp := []) rfl (Nat.zero_le _) (fun k r h => by cases h) rfl (fun k r h => by cases h) rfl rfl (Nat.le_of_ble_eq_true rfl) ?_
    conv => whnf
    repeat (refine V_step T_ok (GOk.cons angle_ok .nil) rfl ?_; conv => whnf)
    obtain ⟨⟨h1, h2⟩, ⟨h3, h4⟩⟩ := hn
    simp only at h1 h2 h3 h4
    repeat (any_goals (first
      | (refine V_step T_ok (GOk.cons angle_ok .nil) rfl ?_; conv => whnf)
      | (refine V_drawA T_ok (GOk.cons angle_ok .nil) mixed (by kernel_rfl) ?_; conv => whnf)
      | (refine bcond_split (fun hc => ?_) (fun hc => ?_) <;> (try simp only [decide_eq_true_eq, decide_eq_false_iff_not, Bool.not_eq_true', Bool.not_eq_false', Bool.and_eq_true, Bool.or_eq_true, Bool.and_eq_false_imp, Bool.or_eq_false_iff, ne_eq, Decidable.not_not] at hc) <;> conv => whnf)
      | (intro ysK hysK; have hysl := congrArg List.length hysK; (try simp only [List.length_set, List.length_append, List.length_cons, List.length_nil] at hysl); conv => whnf)
      | (refine And.intro (by first | (first | exact True.intro | omega | (simp only [Rng]; omega)) | exact True.intro | exact Nat.le_of_ble_eq_true rfl | (refine ⟨by (try simp only [List.length_cons, List.length_nil]); omega, Int.le_trans (Int.mul_le_mul_of_nonneg_left (show (TInfo.bytes _ : Int) ≤ 64 from Int.ofNat_le.2 (Nat.le_of_ble_eq_true rfl)) (by omega)) (by (try simp only [List.length_cons, List.length_nil]); omega)⟩)) ?_; conv => whnf)))
    all_goals exact leaf0 rfl rfl rfl

def twoC : PCtr := fun _ _ lr vals k => match vals with
  | [.agg [.int .i64 n, .int .i64 d, .int .i64 m, .int .i64 e], .agg [.int .i64 n', .int .i64 d', .int .i64 m', .int .i64 e']] =>
    (BdL ((n, d), (m, e)) ∧ BdL ((n', d'), (m', e'))) ∧ k [⟨lT, 27, true, twoL ((n, d), (m, e)) ((n', d'), (m', e'))⟩] (.row lr)
  | _ => False
theorem two_ok : PCtrOk Try.prog 158 twoC where
  enter := enter_ok Try.func158 (by kernel_rfl) rfl
  calls := by
    intro hg rg lr vals k h
    unfold twoC at h
    split at h
    case h_2 => exact h.elim
    rename_i n d m e n' d' m' e'
    obtain ⟨⟨h1, h2⟩, hk⟩ := h
    refine ⟨_, _, hk, fun A w _ _ => ?_⟩
    refine enter T_ok (GOk.cons cmpL_ok .nil) Try.func158 rfl (K := (· < w.heap.size)) (fun _ h => h) (A := A) (n0 := 0) (b0 := 0) (rows := []) (hp := []) rfl (Nat.zero_le _) (fun k r h => by cases h) rfl (fun k r h => by cases h) rfl rfl (Nat.le_of_ble_eq_true rfl) ?_
    conv => whnf
    repeat (refine V_step T_ok (GOk.cons cmpL_ok .nil) rfl ?_; conv => whnf)
    repeat (any_goals (first
      | (refine V_step T_ok (GOk.cons cmpL_ok .nil) rfl ?_; conv => whnf)
      | (refine V_drawA T_ok (GOk.cons cmpL_ok .nil) mixed (by kernel_rfl) ?_; conv => whnf)
      | (refine bcond_split (fun hc => ?_) (fun hc => ?_) <;> (try simp only [decide_eq_true_eq, decide_eq_false_iff_not, Bool.not_eq_true', Bool.not_eq_false', Bool.and_eq_true, Bool.or_eq_true, Bool.and_eq_false_imp, Bool.or_eq_false_iff, ne_eq, Decidable.not_not] at hc) <;> conv => whnf)
      | (intro ysK hysK; have hysl := congrArg List.length hysK; (try simp only [List.length_set, List.length_append, List.length_cons, List.length_nil] at hysl); conv => whnf)
      | (refine And.intro (by first | (first | exact True.intro | exact ⟨h1, h2⟩) | exact True.intro | exact Nat.le_of_ble_eq_true rfl | (refine ⟨by (try simp only [List.length_cons, List.length_nil]); omega, Int.le_trans (Int.mul_le_mul_of_nonneg_left (show (TInfo.bytes _ : Int) ≤ 64 from Int.ofNat_le.2 (Nat.le_of_ble_eq_true rfl)) (by omega)) (by (try simp only [List.length_cons, List.length_nil]); omega)⟩)) ?_; conv => whnf)))
    · refine leaf1 0 rfl rfl (by rw [twoL, if_pos hc]) rfl (fun B C h => ?_)
      simp [AVal.den, dens, h]
    · refine leaf1 0 rfl rfl (by rw [twoL, if_neg hc]) rfl (fun B C h => ?_)
      simp [AVal.den, dens, h]

def limL1C : PCtr := fun _ _ _ vals k => match vals with
  | [.agg [.int .i64 n, .int .i64 d, .int .i64 m, .int .i64 e]] => True ∧ k [] (.bool (decide (LimL ((n, d), (m, e)))))
  | _ => False
theorem limL1_ok : PCtrOk Try.prog 161 limL1C where
  enter := enter_ok Try.func161 (by kernel_rfl) rfl
  calls := by
    intro hg rg lr vals k h
    unfold limL1C at h
    split at h
    case h_2 => exact h.elim
    rename_i n d m e
    obtain ⟨_, hk⟩ := h
    refine ⟨_, _, hk, fun A w _ _ => ?_⟩
    refine enter T_ok .nil Try.func161 rfl (K := (· < w.heap.size)) (fun _ h => h) (A := A) (n0 := 0) (b0 := 0) (rows := []) (hp := []) rfl (Nat.zero_le _) (fun k r h => by cases h) rfl (fun k r h => by cases h) rfl rfl (Nat.le_of_ble_eq_true rfl) ?_
    conv => whnf
    repeat (refine V_step T_ok .nil rfl ?_; conv => whnf)
    repeat (any_goals (first
      | (refine V_step T_ok .nil rfl ?_; conv => whnf)
      | (refine V_drawA T_ok .nil mixed (by kernel_rfl) ?_; conv => whnf)
      | (refine bcond_split (fun hc => ?_) (fun hc => ?_) <;> (try simp only [decide_eq_true_eq, decide_eq_false_iff_not, Bool.not_eq_true', Bool.not_eq_false', Bool.and_eq_true, Bool.or_eq_true, Bool.and_eq_false_imp, Bool.or_eq_false_iff, ne_eq, Decidable.not_not] at hc) <;> conv => whnf)
      | (intro ysK hysK; have hysl := congrArg List.length hysK; (try simp only [List.length_set, List.length_append, List.length_cons, List.length_nil] at hysl); conv => whnf)
      | (refine And.intro (by first | exact True.intro | (with_reducible assumption) | omega | (simp only [Rng]; omega) | exact Nat.le_of_ble_eq_true rfl | exact True.intro | exact Nat.le_of_ble_eq_true rfl | (refine ⟨by (try simp only [List.length_cons, List.length_nil]); omega, Int.le_trans (Int.mul_le_mul_of_nonneg_left (show (TInfo.bytes _ : Int) ≤ 64 from Int.ofNat_le.2 (Nat.le_of_ble_eq_true rfl)) (by omega)) (by (try simp only [List.length_cons, List.length_nil]); omega)⟩)) ?_; conv => whnf)))
    all_goals refine leaf0 rfl (congrArg AVal.bool ?_) rfl
    all_goals (simp only [LimL]; grind)

/-- The opposite, as a Bool. -/
def limAN (a : Lf) : Bool := !decide (LimL a)
def limA1C : PCtr := fun hg _ _ vals k => match vals with
  | [.agg [.int .i64 n, .int .i64 d, .int .i64 m, .int .i64 e], .loc j 0] => boxF (hg j) 161 (k [] (.bool (limAN ((n, d), (m, e)))))
  | _ => False

theorem limA1_ok : PCtrOk Try.prog 155 limA1C where
  enter := enter_ok Try.func155 (by kernel_rfl) rfl
  calls := by
    intro hg rg lr vals k h
    unfold limA1C at h
    split at h
    case h_2 => exact h.elim
    rename_i n d m e j
    obtain ⟨hj, hk⟩ := boxF_inv h
    refine ⟨_, _, hk, fun A w hB hR => ?_⟩
    refine enter T_ok (GOk.cons limL1_ok .nil) Try.func155 rfl (K := (· < w.heap.size)) (fun _ h => h) (A := A.pick [j] []) (vals := [.agg [.int .i64 n, .int .i64 d, .int .i64 m, .int .i64 e], .loc 0 0]) (n0 := 0) (b0 := 1) (rows := []) (hp := [some [.fn 161 [] []]]) rfl (Nat.zero_le _) (one_box (hB j _ hj)) rfl no_row rfl rfl (Nat.le_of_ble_eq_true rfl) ?_
    conv => whnf
    repeat (refine V_step T_ok (GOk.cons limL1_ok .nil) rfl ?_; conv => whnf)
    repeat (any_goals (first
      | (refine V_step T_ok (GOk.cons limL1_ok .nil) rfl ?_; conv => whnf)
      | (refine V_drawA T_ok (GOk.cons limL1_ok .nil) mixed (by kernel_rfl) ?_; conv => whnf)
      | (refine bcond_split (fun hc => ?_) (fun hc => ?_) <;> (try simp only [decide_eq_true_eq, decide_eq_false_iff_not, Bool.not_eq_true', Bool.not_eq_false', Bool.and_eq_true, Bool.or_eq_true, Bool.and_eq_false_imp, Bool.or_eq_false_iff, ne_eq, Decidable.not_not] at hc) <;> conv => whnf)
      | (intro ysK hysK; have hysl := congrArg List.length hysK; (try simp only [List.length_set, List.length_append, List.length_cons, List.length_nil] at hysl); conv => whnf)
      | (refine And.intro (by first | exact True.intro | (with_reducible assumption) | omega | (simp only [Rng]; omega) | exact Nat.le_of_ble_eq_true rfl | exact True.intro | exact Nat.le_of_ble_eq_true rfl | (refine ⟨by (try simp only [List.length_cons, List.length_nil]); omega, Int.le_trans (Int.mul_le_mul_of_nonneg_left (show (TInfo.bytes _ : Int) ≤ 64 from Int.ofNat_le.2 (Nat.le_of_ble_eq_true rfl)) (by omega)) (by (try simp only [List.length_cons, List.length_nil]); omega)⟩)) ?_; conv => whnf)))
    all_goals exact leaf0 rfl rfl rfl

def limAxC : PCtr := fun hg rg _ vals k => match vals with
  | [.row i, .fn 155 [] [.loc j 0]] => rowC lT (rg i) fun xs => boxF (hg j) 161 (k [] (.int .i64 (idxP limAN xs)))
  | _ => False

theorem limAx_ok : PCtrOk Try.prog 159 limAxC where
  enter := enter_ok Try.func159 (by kernel_rfl) rfl
  calls := by
    intro hg rg lr vals k h
    unfold limAxC at h
    split at h
    case h_2 => exact h.elim
    rename_i i j
    obtain ⟨e, own, xs, hi, h⟩ : ∃ e own, ∃ (xs : List Lf), _ := rowC_inv h
    obtain ⟨hj, hk⟩ := boxF_inv h
    refine ⟨_, _, hk, fun A w hB hR => ?_⟩
    refine enter T_ok (GOk.cons limA1_ok .nil) Try.func159 rfl (K := (· < w.heap.size)) (fun _ h => h) (A := A.pick [j] [i]) (vals := [.row 0, .fn 155 [] [.loc 0 0]]) (n0 := 0) (b0 := 1) (rows := [some ⟨lT, e, false, xs⟩]) (hp := [some [.fn 161 [] []]]) rfl (Nat.zero_le _) (one_box (hB j _ hj)) rfl (one_row (hR i _ hi)) rfl rfl (Nat.le_of_ble_eq_true rfl) ?_
    conv => whnf
    repeat (refine V_step T_ok (GOk.cons limA1_ok .nil) rfl ?_; conv => whnf)
    have hcap' : (@List.length (TyC.α lT) xs : Int) ≤ 9223372036854775807 := by
      have h1 := (hR i _ hi).len
      have h2 := (hR i _ hi).cap
      have h3 := (hR i _ hi).max
      simp only at h1
      have : maxLen = 9223372036854775807 := rfl
      omega
    have hcap : (xs.length : Int) ≤ 9223372036854775807 := hcap'
    refine V_loopH (γ := Nat) (fun n => n ≤ xs.length ∧ ∀ j, j < n → limAN (xs.getD j lT.dflt) = false) (fun n => xs.length - n)
      (fun n => [(8, .int .i64 n)]) (fun _ => []) (fun _ => []) 0 ⟨Nat.zero_le _, fun j h => absurd h (Nat.not_lt_zero _)⟩ ?_ ?_
    · conv => whnf
      refine ⟨?_, by (conv => whnf); repeat (first | exact True.intro | (refine And.intro rfl ?_; conv => whnf)), by (conv => whnf); repeat (first | exact True.intro | (refine And.intro (by first | rfl | (subst_vars; rfl)) ?_; conv => whnf)), rfl, rfl, rfl, rfl, rfl, rfl, rfl, Nat.le_of_ble_eq_true rfl, Nat.le_of_ble_eq_true rfl⟩
      conv => whnf
      repeat (first | exact True.intro | (refine And.intro (by first | rfl | ((conv => whnf); exact congrArg (AVal.int .i64) (by omega)) | ((conv => whnf); exact congrArg (AVal.int .i64) (by simp only [Int.natCast_add, Int.natCast_one]; omega))) ?_; conv => whnf))
    · rintro n ⟨h1, h2⟩
      conv => whnf
      refine vcCode_sound T_ok (GOk.cons limA1_ok .nil) _ _ _ _ _ ?_
      conv => whnf
      repeat (refine V_step T_ok (GOk.cons limA1_ok .nil) rfl ?_; conv => whnf)
      repeat (any_goals (first
        | (refine V_step T_ok (GOk.cons limA1_ok .nil) rfl ?_; conv => whnf)
        | (refine V_drawA T_ok (GOk.cons limA1_ok .nil) mixed (by kernel_rfl) ?_; conv => whnf)
        | (refine bcond_split (fun hc => ?_) (fun hc => ?_) <;> (try simp only [decide_eq_true_eq, decide_eq_false_iff_not, Bool.not_eq_true', Bool.not_eq_false', Bool.and_eq_true, Bool.or_eq_true, Bool.and_eq_false_imp, Bool.or_eq_false_iff, ne_eq, Decidable.not_not] at hc) <;> conv => whnf)
        | (intro ysK hysK; have hysl := congrArg List.length hysK; (try simp only [List.length_set, List.length_append, List.length_cons, List.length_nil] at hysl); conv => whnf)
        | (refine And.intro (by first | (first | exact True.intro | omega | (simp only [Rng]; omega)) | exact True.intro | exact Nat.le_of_ble_eq_true rfl | (refine ⟨by (try simp only [List.length_cons, List.length_nil]); omega, Int.le_trans (Int.mul_le_mul_of_nonneg_left (show (TInfo.bytes _ : Int) ≤ 64 from Int.ofNat_le.2 (Nat.le_of_ble_eq_true rfl)) (by omega)) (by (try simp only [List.length_cons, List.length_nil]); omega)⟩)) ?_; conv => whnf)))
      · rename_i hc0
        have hl : (n : Int) < (xs.length : Nat) := hc0
        exact leaf0 rfl (congrArg (AVal.int .i64) (idxP_found limAN xs n lT.dflt (by omega) h2 hc).symm) rfl
      · rename_i hc0
        have hl : (n : Int) < (xs.length : Nat) := hc0
        refine ⟨n + 1, ⟨by omega, fun j hj => ?_⟩, by omega, ?_⟩
        · rcases Nat.lt_or_ge j n with h | h
          · exact h2 j h
          · obtain rfl : j = n := by omega
            exact hc
        · conv => whnf
          refine ⟨?_, by (conv => whnf); repeat (first | exact True.intro | (refine And.intro rfl ?_; conv => whnf)), by (conv => whnf); repeat (first | exact True.intro | (refine And.intro (by first | rfl | (subst_vars; rfl)) ?_; conv => whnf)), rfl, rfl, rfl, rfl, rfl, rfl, rfl, Nat.le_of_ble_eq_true rfl, Nat.le_of_ble_eq_true rfl⟩
          conv => whnf
          repeat (first | exact True.intro | (refine And.intro (by first | rfl | ((conv => whnf); exact congrArg (AVal.int .i64) (by omega)) | ((conv => whnf); exact congrArg (AVal.int .i64) (by simp only [Int.natCast_add, Int.natCast_one]; omega))) ?_; conv => whnf))
      · have hl : ¬ (n : Int) < (xs.length : Nat) := hc
        exact leaf0 rfl (congrArg (AVal.int .i64) (idxP_none limAN xs lT.dflt (fun j hj => h2 j (by omega))).symm) rfl

def limAcC : PCtr := fun hg rg _ vals k => match vals with
  | [.row i, .fn 155 [] [.loc j 0]] => rowC lT (rg i) fun xs => boxF (hg j) 161 (k [] (.bool (xs.any limAN)))
  | _ => False

theorem limAc_ok : PCtrOk Try.prog 110 limAcC where
  enter := enter_ok Try.func110 (by kernel_rfl) rfl
  calls := by
    intro hg rg lr vals k h
    unfold limAcC at h
    split at h
    case h_2 => exact h.elim
    rename_i i j
    obtain ⟨e, own, xs, hi, h⟩ : ∃ e own, ∃ (xs : List Lf), _ := rowC_inv h
    obtain ⟨hj, hk⟩ := boxF_inv h
    refine ⟨_, _, hk, fun A w hB hR => ?_⟩
    refine enter T_ok (GOk.cons limAx_ok .nil) Try.func110 rfl (K := (· < w.heap.size)) (fun _ h => h) (A := A.pick [j] [i]) (vals := [.row 0, .fn 155 [] [.loc 0 0]]) (n0 := 0) (b0 := 1) (rows := [some ⟨lT, e, false, xs⟩]) (hp := [some [.fn 161 [] []]]) rfl (Nat.zero_le _) (one_box (hB j _ hj)) rfl (one_row (hR i _ hi)) rfl rfl (Nat.le_of_ble_eq_true rfl) ?_
    conv => whnf
    repeat (refine V_step T_ok (GOk.cons limAx_ok .nil) rfl ?_; conv => whnf)
    all_goals exact leaf0 rfl (congrArg AVal.bool (idxP_any limAN xs)) rfl

def limAY (a : Lf) : Bool := decide (LimL a)
theorem limA_any (xs : List Lf) : (!xs.any limAN) = xs.all limAY := by
  induction xs with
  | nil => rfl
  | cons x l ih => simp only [List.any_cons, List.all_cons, ← ih, limAN, limAY, Bool.not_or, Bool.not_not]
def limAC : PCtr := fun hg rg _ vals k => match vals with
  | [.row i, .fn f [] []] => rowC lT (rg i) fun xs => isF f 161 (k [] (.bool (xs.all limAY)))
  | _ => False

theorem limA_ok : PCtrOk Try.prog 97 limAC where
  enter := enter_ok Try.func97 (by kernel_rfl) rfl
  calls := by
    intro hg rg lr vals k h
    unfold limAC at h
    split at h
    case h_2 => exact h.elim
    rename_i i f
    obtain ⟨e, own, xs, hi, h⟩ : ∃ e own, ∃ (xs : List Lf), _ := rowC_inv h
    obtain ⟨rfl, hk⟩ := isF_inv h
    refine ⟨_, _, hk, fun A w hB hR => ?_⟩
    refine enter T_ok (GOk.cons limAc_ok .nil) Try.func97 rfl (K := (· < w.heap.size)) (fun _ h => h) (A := A.pick [] [i]) (vals := [.row 0, .fn 161 [] []]) (n0 := 0) (b0 := 0) (rows := [some ⟨lT, e, false, xs⟩]) (hp := []) rfl (Nat.zero_le _) no_box rfl (one_row (hR i _ hi)) rfl rfl (Nat.le_of_ble_eq_true rfl) ?_
    conv => whnf
    repeat (refine V_step T_ok (GOk.cons limAc_ok .nil) rfl ?_; conv => whnf)
    all_goals exact leaf0 rfl (congrArg AVal.bool (limA_any xs)) rfl



def limitedC : PCtr := fun _ rg _ vals k => match vals with
  | [.row i] => rowC lT (rg i) fun xs => bcond ((xs : List Lf).all limAY) (k [] (.tup [.row i, .int .i64 0])) (k [] (.tup [.raw (.slice none 0 0), .int .i64 3]))
  | _ => False
theorem limited_ok : PCtrOk Try.prog 112 limitedC where
  enter := enter_ok Try.func112 (by kernel_rfl) rfl
  calls := by
    intro hg rg lr vals k h
    unfold limitedC at h
    split at h
    case h_2 => exact h.elim
    rename_i i
    obtain ⟨e, own, xs, hi, h⟩ : ∃ e own, ∃ (xs : List Lf), _ := rowC_inv h
    have hk : ∃ v, k [] v ∧ v = if (xs : List Lf).all limAY = true then .tup [.row i, .int .i64 0] else .tup [.raw (.slice none 0 0), .int .i64 3] := by
      cases hb : (xs : List Lf).all limAY with
      | true => rw [hb] at h; exact ⟨_, h, rfl⟩
      | false => rw [hb] at h; exact ⟨_, h, by simp⟩
    obtain ⟨v, hk, hv⟩ := hk
    refine ⟨_, _, hk, fun A w hB hR => ?_⟩
    refine enter T_ok (GOk.cons limA_ok .nil) Try.func112 rfl (K := (· < w.heap.size)) (fun _ h => h) (A := A.pick [] [i]) (vals := [.row 0]) (n0 := 1) (b0 := 0) (rows := [some ⟨lT, e, false, xs⟩]) (hp := []) rfl (Nat.le_refl _) no_box rfl (one_row (hR i _ hi)) rfl rfl (Nat.le_of_ble_eq_true rfl) ?_
    conv => whnf
    repeat (refine V_step T_ok (GOk.cons limA_ok .nil) rfl ?_; conv => whnf)
    repeat (any_goals (first
      | (refine V_step T_ok (GOk.cons limA_ok .nil) rfl ?_; conv => whnf)
      | (refine V_drawA T_ok (GOk.cons limA_ok .nil) mixed (by kernel_rfl) ?_; conv => whnf)
      | (refine bcond_split (fun hc => ?_) (fun hc => ?_) <;> (try simp only [decide_eq_true_eq, decide_eq_false_iff_not, Bool.not_eq_true', Bool.not_eq_false', Bool.and_eq_true, Bool.or_eq_true, Bool.and_eq_false_imp, Bool.or_eq_false_iff, ne_eq, Decidable.not_not] at hc) <;> conv => whnf)
      | (intro ysK hysK; have hysl := congrArg List.length hysK; (try simp only [List.length_set, List.length_append, List.length_cons, List.length_nil] at hysl); conv => whnf)
      | (refine And.intro (by first | exact True.intro | (with_reducible assumption) | omega | (simp only [Rng]; omega) | exact Nat.le_of_ble_eq_true rfl | exact True.intro | exact Nat.le_of_ble_eq_true rfl | (refine ⟨by (try simp only [List.length_cons, List.length_nil]); omega, Int.le_trans (Int.mul_le_mul_of_nonneg_left (show (TInfo.bytes _ : Int) ≤ 64 from Int.ofNat_le.2 (Nat.le_of_ble_eq_true rfl)) (by omega)) (by (try simp only [List.length_cons, List.length_nil]); omega)⟩)) ?_; conv => whnf)))
    · have hc : (xs : List Lf).all limAY = false := hc
      rw [hc] at hv
      subst hv
      exact leafS rfl fun B h => rfl
    · have hc : (xs : List Lf).all limAY = true := hc
      rw [hc] at hv
      subst hv
      refine leafS rfl fun B h => ?_
      have h0 := h 0 Nat.zero_lt_one
      simp [AVal.den, dens, h0, Asg.pick, nthN]

/-- A box with a leaf. -/
def boxLf (o : Option (List AVal)) (X : Lf → Prop) : Prop := match o with | some [.int .i64 a, .int .i64 b, .int .i64 c, .int .i64 d] => X ((a, b), (c, d)) | _ => False
theorem boxLf_inv {o : Option (List AVal)} {X : Lf → Prop} (h : boxLf o X) : ∃ l : Lf, o = some [.int .i64 l.1.1, .int .i64 l.1.2, .int .i64 l.2.1, .int .i64 l.2.2] ∧ X l := by
  unfold boxLf at h
  split at h
  · exact ⟨_, rfl, h⟩
  · exact h.elim

def isEndC : PCtr := fun hg _ _ vals k => match vals with
  | [.agg [.int .i64 n, .int .i64 d], .loc j 0] => boxLf (hg j) fun l => True ∧ k [] (.bool (decide ((n, d) = l.1 ∨ (n, d) = l.2)))
  | _ => False
theorem isEnd_ok : PCtrOk Try.prog 107 isEndC where
  enter := enter_ok Try.func107 (by kernel_rfl) rfl
  calls := by
    intro hg rg lr vals k h
    unfold isEndC at h
    split at h
    case h_2 => exact h.elim
    rename_i n d j
    obtain ⟨l, hj, h⟩ := boxLf_inv h
    have hk := h.2
    refine ⟨_, _, hk, fun A w hB hR => ?_⟩
    refine enter T_ok .nil Try.func107 rfl (K := (· < w.heap.size)) (fun _ h => h) (A := A.pick [j] []) (vals := [.agg [.int .i64 n, .int .i64 d], .loc 0 0]) (n0 := 0) (b0 := 1) (rows := []) (hp := [some [.int .i64 l.1.1, .int .i64 l.1.2, .int .i64 l.2.1, .int .i64 l.2.2]]) rfl (Nat.zero_le _) (one_box (hB j _ hj)) rfl no_row rfl rfl (Nat.le_of_ble_eq_true rfl) ?_
    conv => whnf
    repeat (refine V_step T_ok .nil rfl ?_; conv => whnf)
    repeat (any_goals (first
      | (refine V_step T_ok .nil rfl ?_; conv => whnf)
      | (refine V_drawA T_ok .nil mixed (by kernel_rfl) ?_; conv => whnf)
      | (refine bcond_split (fun hc => ?_) (fun hc => ?_) <;> (try simp only [decide_eq_true_eq, decide_eq_false_iff_not, Bool.not_eq_true', Bool.not_eq_false', Bool.and_eq_true, Bool.or_eq_true, Bool.and_eq_false_imp, Bool.or_eq_false_iff, ne_eq, Decidable.not_not] at hc) <;> conv => whnf)
      | (intro ysK hysK; have hysl := congrArg List.length hysK; (try simp only [List.length_set, List.length_append, List.length_cons, List.length_nil] at hysl); conv => whnf)
      | (refine And.intro (by first | exact True.intro | (with_reducible assumption) | omega | (simp only [Rng]; omega) | exact Nat.le_of_ble_eq_true rfl | exact True.intro | exact Nat.le_of_ble_eq_true rfl | (refine ⟨by (try simp only [List.length_cons, List.length_nil]); omega, Int.le_trans (Int.mul_le_mul_of_nonneg_left (show (TInfo.bytes _ : Int) ≤ 64 from Int.ofNat_le.2 (Nat.le_of_ble_eq_true rfl)) (by omega)) (by (try simp only [List.length_cons, List.length_nil]); omega)⟩)) ?_; conv => whnf)))
    all_goals refine leaf0 rfl (congrArg AVal.bool ?_) rfl
    all_goals (simp only [Prod.ext_iff] at *; grind)

end Go.Proofs.Ytlplngafncobkaa.Fw
