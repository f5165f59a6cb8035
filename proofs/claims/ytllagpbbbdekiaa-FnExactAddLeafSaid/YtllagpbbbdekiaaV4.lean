/- Contracts, the reference: majors of a minor leaf, whether pairs are free, which is shorter. -/
import Derived.Test.YtllagpbbbdekiaaV3
import Derived.Test.YtllagpbbbdekiaaE9
namespace Go.Proofs.Ytllagpbbbdekiaa.Fw
open Go Go.RowKit
set_option linter.unusedVariables false
set_option linter.unusedSimpArgs false
set_option maxRecDepth 100000
set_option maxHeartbeats 2000000

@[irreducible] def smO (m : Lf) : List Lf × Int := if (sfR m).2 = true then (if (sfR m).1 = 0 then (sMajO m, 0) else ([], 5)) else ([], 3)
theorem smO_3 {m : Lf} (h : (sfR m).2 = false) : smO m = ([], 3) := by unfold smO; rw [h]; rfl
theorem smO_5 {m : Lf} (h : (sfR m).2 = true) (h2 : ¬ (sfR m).1 = 0) : smO m = ([], 5) := by unfold smO; rw [if_pos h, if_neg h2]
theorem smO_0 {m : Lf} (h : (sfR m).2 = true) (h2 : (sfR m).1 = 0) : smO m = (sMajO m, 0) := by unfold smO; rw [if_pos h, if_pos h2]
def smC : PCtr := fun _ _ lr vals k => match vals with
  | [.agg [.int .i64 n, .int .i64 d, .int .i64 m, .int .i64 e]] => IsL ((n, d), (m, e)) ∧ ∀ q : List Lf × Int, q = smO ((n, d), (m, e)) → k [⟨lT, 31, true, q.1⟩] (.tup [.row lr, .int .i64 q.2])
  | _ => False
abbrev GSm := GOk.cons sf_ok (GOk.cons sMajors_ok .nil)
theorem sm_ok : PCtrOk Try.prog 22 smC where
  enter := enter_ok Try.func22 (by kernel_rfl) rfl
  calls := by
    intro hg rg lr vals k h
    unfold smC at h
    split at h
    case h_2 => exact h.elim
    rename_i n d m e
    obtain ⟨hl, hk⟩ := h
    replace hk := hk _ rfl
    refine ⟨_, _, hk, fun A w _ _ => ?_⟩
    refine enter T_ok GSm Try.func22 rfl (K := (· < w.heap.size)) (fun _ h => h) (A := A) (n0 := 0) (b0 := 0) (rows := []) (hp := []) rfl (Nat.zero_le _) (fun k r h => by cases h) rfl (fun k r h => by cases h) rfl rfl (Nat.le_of_ble_eq_true rfl) ?_
    conv => whnf
    repeat (refine V_step T_ok GSm rfl ?_; conv => whnf)
    repeat (any_goals (first
      | (refine V_step T_ok GSm rfl ?_; conv => whnf)
      | (refine V_drawA T_ok GSm mixed (by kernel_rfl) ?_; conv => whnf)
      | (refine bcond_split (fun hc => ?_) (fun hc => ?_) <;> (try simp only [decide_eq_true_eq, decide_eq_false_iff_not, Bool.not_eq_true', Bool.not_eq_false', Bool.and_eq_true, Bool.or_eq_true, Bool.and_eq_false_imp, Bool.or_eq_false_iff, ne_eq, Decidable.not_not] at hc) <;> conv => whnf)
      | (intro ysK hysK; have hysl := congrArg List.length hysK; (try simp only [List.length_set, List.length_append, List.length_cons, List.length_nil, List.length_take, List.length_drop, List.length_replicate] at hysl); conv => whnf)
      | (intro bK hbK; have hbl := congrArg ByteArray.size hbK; conv => whnf)
      | (intro sK hsK; conv => whnf)
      | (refine And.intro (by first | (first | exact True.intro | exact hl) | exact True.intro | exact ⟨rfl, True.intro, fun _ _ => rfl⟩ | exact Nat.le_of_ble_eq_true rfl | (refine ⟨by (try simp only [List.length_cons, List.length_nil]); omega, Int.le_trans (Int.mul_le_mul_of_nonneg_left (show (TInfo.bytes _ : Int) ≤ 64 from Int.ofNat_le.2 (Nat.le_of_ble_eq_true rfl)) (by omega)) (by (try simp only [List.length_cons, List.length_nil]); omega)⟩)) ?_; conv => whnf)))
    · subst hsK
      exact leafN rfl (by rw [smO_3 hc]) (fun B C h => by rw [smO_3 hc]; simp [AVal.den, dens, h, Hdr.val])
    · subst hsK
      have h0 : (sfR ((n, d), (m, e))).2 = true := by assumption
      exact leafN rfl (by rw [smO_5 h0 hc]) (fun B C h => by rw [smO_5 h0 hc]; simp [AVal.den, dens, h, Hdr.val])
    · subst hsK
      have h0 : (sfR ((n, d), (m, e))).2 = true := by assumption
      subst hysK
      exact leaf1 0 rfl rfl (by rw [smO_0 h0 hc]) rfl (fun B C h => by rw [smO_0 h0 hc]; simp [AVal.den, dens, h])
def frB (xs ys : List Lf) : Bool := (List.range 2).all fun i => (List.range 2).all fun j => !sCrossL (xs.getD i lT.dflt) (ys.getD j lT.dflt)
theorem frB_yes {xs ys : List Lf} (h : ∀ i, i < 2 → ∀ j, j < 2 → sCrossL (xs.getD i lT.dflt) (ys.getD j lT.dflt) = false) : frB xs ys = true := by
  unfold frB
  rw [List.all_eq_true]
  intro i hi
  rw [List.all_eq_true]
  intro j hj
  rw [h i (List.mem_range.1 hi) j (List.mem_range.1 hj)]; rfl
theorem frB_no {xs ys : List Lf} {i j : Nat} (hi : i < 2) (hj : j < 2) (h : sCrossL (xs.getD i lT.dflt) (ys.getD j lT.dflt) = true) : frB xs ys = false := by
  cases hf : frB xs ys with
  | false => rfl
  | true =>
    unfold frB at hf
    have h1 := List.all_eq_true.1 (List.all_eq_true.1 hf i (List.mem_range.2 hi)) j (List.mem_range.2 hj)
    rw [h] at h1; cases h1
def frC : PCtr := fun _ rg _ vals k => match vals with
  | [.row i, .row j] => rowC lT (rg i) fun xs => rowC lT (rg j) fun ys => ((List.length (α := Lf) xs = 2 ∧ ∀ x ∈ (xs : List Lf), SmL x) ∧ List.length (α := Lf) ys = 2 ∧ ∀ x ∈ (ys : List Lf), SmL x) ∧ k [] (.bool (frB xs ys))
  | _ => False
abbrev GFr := GOk.cons sCrossL_ok .nil
theorem fr_ok : PCtrOk Try.prog 52 frC where
  enter := enter_ok Try.func52 (by kernel_rfl) rfl
  calls := by
    intro hg rg lr vals k h
    unfold frC at h
    split at h
    case h_2 => exact h.elim
    rename_i i j
    obtain ⟨e, own, xs, hi, h⟩ : ∃ e own, ∃ (xs : List Lf), _ := rowC_inv h
    obtain ⟨e2, own2, ys, hj, h⟩ : ∃ e own, ∃ (xs : List Lf), _ := rowC_inv h
    obtain ⟨⟨⟨hx, hxs⟩, hy, hys⟩, hk⟩ := h
    refine ⟨_, _, hk, fun A w hB hR => ?_⟩
    refine enter T_ok GFr Try.func52 rfl (K := (· < w.heap.size)) (fun _ h => h) (A := A.pick [] [i, j]) (vals := [.row 0, .row 1]) (n0 := 0) (b0 := 0) (rows := [some ⟨lT, e, false, xs⟩, some ⟨lT, e2, false, ys⟩]) (hp := []) rfl (Nat.zero_le _) no_box rfl (two_rows (hR i _ hi) (hR j _ hj)) rfl rfl (Nat.le_of_ble_eq_true rfl) ?_
    conv => whnf
    repeat (refine V_step T_ok GFr rfl ?_; conv => whnf)
    have hx : List.length (α := Lf) xs = 2 := hx
    have hy : List.length (α := Lf) ys = 2 := hy
    have bx : ∀ n : Nat, n < 2 → BdL (List.getD (α := Lf) xs n lT.dflt) := fun n h => (hxs _ (getD_mem (by omega))).bd
    have b2 : ∀ n : Nat, n < 2 → BdL (List.getD (α := Lf) ys n lT.dflt) := fun n h => (hys _ (getD_mem (by omega))).bd
    refine V_loopH (γ := Nat) (fun n => n ≤ 2 ∧ ∀ i, i < n → ∀ j, j < 2 → sCrossL (List.getD (α := Lf) xs i lT.dflt) (List.getD (α := Lf) ys j lT.dflt) = false) (fun n => 2 - n)
      (fun n => [(5, .int .i64 n)]) (fun _ => []) (fun _ => []) 0 ⟨Nat.zero_le _, fun i h => absurd h (Nat.not_lt_zero _)⟩ ?_ ?_
    · conv => whnf
      refine ⟨?_, by (conv => whnf); repeat (first | exact True.intro | (refine And.intro rfl ?_; conv => whnf)), by (conv => whnf); repeat (first | exact True.intro | (refine And.intro (by first | rfl | (subst_vars; rfl)) ?_; conv => whnf)), rfl, rfl, rfl, rfl, rfl, rfl, rfl, Nat.le_of_ble_eq_true rfl, Nat.le_of_ble_eq_true rfl⟩
      conv => whnf
      repeat (first | exact True.intro | (refine And.intro (by first | rfl | ((conv => whnf); exact congrArg (AVal.int .i64) (by omega)) | ((conv => whnf); exact congrArg (AVal.int .i64) (by simp only [Int.natCast_add, Int.natCast_one]; omega)) | ((conv => whnf); exact congrArg (AVal.irow _) (by first | omega | assumption | (simp only; omega)))) ?_; conv => whnf))
    · rintro n ⟨n1, n2⟩
      conv => whnf
      refine vcCode_sound T_ok GFr _ _ _ _ _ ?_
      conv => whnf
      repeat (refine V_step T_ok GFr rfl ?_; conv => whnf)
      repeat (any_goals (first
        | (refine V_step T_ok GFr rfl ?_; conv => whnf)
        | (refine V_drawA T_ok GFr mixed (by kernel_rfl) ?_; conv => whnf)
        | (refine bcond_split (fun hc => ?_) (fun hc => ?_) <;> (try simp only [decide_eq_true_eq, decide_eq_false_iff_not, Bool.not_eq_true', Bool.not_eq_false', Bool.and_eq_true, Bool.or_eq_true, Bool.and_eq_false_imp, Bool.or_eq_false_iff, ne_eq, Decidable.not_not] at hc) <;> conv => whnf)
        | (intro ysK hysK; have hysl := congrArg List.length hysK; (try simp only [List.length_set, List.length_append, List.length_cons, List.length_nil, List.length_take, List.length_drop, List.length_replicate] at hysl); conv => whnf)
        | (intro bK hbK; have hbl := congrArg ByteArray.size hbK; conv => whnf)
        | (intro sK hsK; conv => whnf)
        | (refine And.intro (by first | (first | exact True.intro | omega | (simp only [Rng]; omega)) | exact True.intro | exact ⟨rfl, True.intro, fun _ _ => rfl⟩ | exact Nat.le_of_ble_eq_true rfl | (refine ⟨by (try simp only [List.length_cons, List.length_nil]); omega, Int.le_trans (Int.mul_le_mul_of_nonneg_left (show (TInfo.bytes _ : Int) ≤ 64 from Int.ofNat_le.2 (Nat.le_of_ble_eq_true rfl)) (by omega)) (by (try simp only [List.length_cons, List.length_nil]); omega)⟩)) ?_; conv => whnf)))
      · have hn2 : n < 2 := by
          have hc : (n : Int) < 2 := hc
          omega
        have x0 : (0 : Int) ≤ n ∧ (n : Int) < (List.length (α := Lf) xs : Int) := by omega
        have y0 : Int.toNat (n : Int) < List.length (α := Lf) xs := by omega
        refine V_loopH (γ := Nat) (fun c => c ≤ 2 ∧ ∀ j, j < c → sCrossL (List.getD (α := Lf) xs n lT.dflt) (List.getD (α := Lf) ys j lT.dflt) = false) (fun c => 2 - c)
          (fun c => [(6, .int .i64 c)]) (fun _ => []) (fun _ => []) 0 ⟨Nat.zero_le _, fun i h => absurd h (Nat.not_lt_zero _)⟩ ?_ ?_
        · clear bx b2 hxs hys n2
          conv => whnf
          refine ⟨?_, by (conv => whnf); repeat (first | exact True.intro | (refine And.intro rfl ?_; conv => whnf)), by (conv => whnf); repeat (first | exact True.intro | (refine And.intro (by first | rfl | (subst_vars; rfl)) ?_; conv => whnf)), rfl, rfl, rfl, rfl, rfl, rfl, rfl, Nat.le_of_ble_eq_true rfl, Nat.le_of_ble_eq_true rfl⟩
          conv => whnf
          repeat (first | exact True.intro | (refine And.intro (by first | rfl | ((conv => whnf); exact congrArg (AVal.int .i64) (by omega)) | ((conv => whnf); exact congrArg (AVal.int .i64) (by simp only [Int.natCast_add, Int.natCast_one]; omega)) | ((conv => whnf); exact congrArg (AVal.irow _) (by first | omega | assumption | (simp only; omega)))) ?_; conv => whnf))
        · rintro c ⟨c1, c2⟩
          have x1 : (c : Int) < 2 → (0 : Int) ≤ c ∧ (c : Int) < (List.length (α := Lf) ys : Int) := fun h => by omega
          have y1 : (c : Int) < 2 → Int.toNat (c : Int) < List.length (α := Lf) ys := fun h => by omega
          have z1 : (c : Int) < 2 → BdL (List.getD (α := Lf) xs (Int.toNat (n : Int)) lT.dflt) ∧ BdL (List.getD (α := Lf) ys (Int.toNat (c : Int)) lT.dflt) := fun h => ⟨bx n hn2, b2 c (by omega)⟩
          have r1 : (c : Int) < 2 → Rng .i64 ((c : Int) + 1) := fun h => by simp only [Rng]; omega
          have r2 : Rng .i64 ((n : Int) + 1) := by simp only [Rng]; omega
          conv => whnf
          refine vcCode_sound T_ok GFr _ _ _ _ _ ?_
          conv => whnf
          repeat (refine V_step T_ok GFr rfl ?_; conv => whnf)
          repeat (any_goals (first
            | (refine V_step T_ok GFr rfl ?_; conv => whnf)
            | (refine V_drawA T_ok GFr mixed (by kernel_rfl) ?_; conv => whnf)
            | (refine bcond_split (fun hc => ?_) (fun hc => ?_) <;> (try simp only [decide_eq_true_eq, decide_eq_false_iff_not, Bool.not_eq_true', Bool.not_eq_false', Bool.and_eq_true, Bool.or_eq_true, Bool.and_eq_false_imp, Bool.or_eq_false_iff, ne_eq, Decidable.not_not] at hc) <;> conv => whnf)
            | (intro ysK hysK; have hysl := congrArg List.length hysK; (try simp only [List.length_set, List.length_append, List.length_cons, List.length_nil, List.length_take, List.length_drop, List.length_replicate] at hysl); conv => whnf)
            | (intro bK hbK; have hbl := congrArg ByteArray.size hbK; conv => whnf)
            | (intro sK hsK; conv => whnf)
            | (refine And.intro (by first | (first | exact True.intro | exact x0 | exact y0 | exact x1 (by assumption) | exact y1 (by assumption) | exact z1 (by assumption) | exact r1 (by assumption) | exact r2) | exact True.intro | exact ⟨rfl, True.intro, fun _ _ => rfl⟩ | exact Nat.le_of_ble_eq_true rfl | (refine ⟨by (try simp only [List.length_cons, List.length_nil]); omega, Int.le_trans (Int.mul_le_mul_of_nonneg_left (show (TInfo.bytes _ : Int) ≤ 64 from Int.ofNat_le.2 (Nat.le_of_ble_eq_true rfl)) (by omega)) (by (try simp only [List.length_cons, List.length_nil]); omega)⟩)) ?_; conv => whnf)))
          · have hlt : (c : Int) < 2 := by assumption
            exact leaf0 rfl (congrArg AVal.bool (frB_no (i := n) (j := c) hn2 (by omega) hc).symm) rfl
          · have hlt : (c : Int) < 2 := by assumption
            refine ⟨c + 1, ⟨by omega, fun j hj => ?_⟩, by omega, ?_⟩
            · rcases Nat.lt_or_ge j c with h | h
              · exact c2 j h
              · obtain rfl : j = c := by omega
                exact hc
            · clear bx b2 hxs hys n2 z1
              conv => whnf
              refine ⟨?_, by (conv => whnf); repeat (first | exact True.intro | (refine And.intro rfl ?_; conv => whnf)), by (conv => whnf); repeat (first | exact True.intro | (refine And.intro (by first | rfl | (subst_vars; rfl)) ?_; conv => whnf)), rfl, rfl, rfl, rfl, rfl, rfl, rfl, Nat.le_of_ble_eq_true rfl, Nat.le_of_ble_eq_true rfl⟩
              conv => whnf
              repeat (first | exact True.intro | (refine And.intro (by first | rfl | ((conv => whnf); exact congrArg (AVal.int .i64) (by omega)) | ((conv => whnf); exact congrArg (AVal.int .i64) (by simp only [Int.natCast_add, Int.natCast_one]; omega)) | ((conv => whnf); exact congrArg (AVal.irow _) (by first | omega | assumption | (simp only; omega)))) ?_; conv => whnf))
          · have hlt : ¬ (c : Int) < 2 := by assumption
            refine ⟨n + 1, ⟨by omega, fun i hi j hj => ?_⟩, by omega, ?_⟩
            · rcases Nat.lt_or_ge i n with h | h
              · exact n2 i h j hj
              · obtain rfl : i = n := by omega
                exact c2 j (by omega)
            · clear bx b2 hxs hys n2 z1
              conv => whnf
              refine ⟨?_, by (conv => whnf); repeat (first | exact True.intro | (refine And.intro rfl ?_; conv => whnf)), by (conv => whnf); repeat (first | exact True.intro | (refine And.intro (by first | rfl | (subst_vars; rfl)) ?_; conv => whnf)), rfl, rfl, rfl, rfl, rfl, rfl, rfl, Nat.le_of_ble_eq_true rfl, Nat.le_of_ble_eq_true rfl⟩
              conv => whnf
              repeat (first | exact True.intro | (refine And.intro (by first | rfl | ((conv => whnf); exact congrArg (AVal.int .i64) (by omega)) | ((conv => whnf); exact congrArg (AVal.int .i64) (by simp only [Int.natCast_add, Int.natCast_one]; omega)) | ((conv => whnf); exact congrArg (AVal.irow _) (by first | omega | assumption | (simp only; omega)))) ?_; conv => whnf))
      · have hlt : ¬ (n : Int) < 2 := by assumption
        exact leaf0 rfl (congrArg AVal.bool (frB_yes fun i hi j hj => n2 i (by omega) j hj).symm) rfl
end Go.Proofs.Ytllagpbbbdekiaa.Fw
-- %intro
