/- Contracts: AddLeaf, the reference. -/
import Derived.Test.YtllagpbbbdekiaaB7
import Derived.Test.YtllagpbbbdekiaaFwFl
namespace Go.Proofs.Ytllagpbbbdekiaa.Fw
open Go Go.RowKit
set_option linter.unusedVariables false
set_option linter.unusedSimpArgs false
set_option maxRecDepth 100000
set_option maxHeartbeats 2000000

def sInsLC : MCtr := fun hg rg lr vals k => match vals with
  | [.row i, .agg [.int .i64 n, .int .i64 d, .int .i64 m, .int .i64 e']] => rowO lT (rg i) fun e xs => (e = 31 ∧ (∀ x ∈ (xs : List Lf), BdL x) ∧ BdL ((n, d), (m, e')) ∧ List.length (α := Lf) xs ≤ 1000) ∧ ∀ ys : List Lf, ys = putL xs ((n, d), (m, e')) → k [(i, none)] [⟨lT, 31, true, ys⟩] (.row lr)
  | _ => False
abbrev GSin := (GOk.cons sLessL_ok .nil)
theorem bytesLf : ti31.bytes = 32 := rfl
theorem sInsL_ok : MCtrOk Try.prog 31 sInsLC where
  enter := enter_ok Try.func31 (by kernel_rfl) rfl
  calls := by
    intro hg rg lr vals k h
    unfold sInsLC at h
    split at h
    case h_2 => exact h.elim
    rename_i i n d m e'
    obtain ⟨e, xs, hi, h⟩ : ∃ e, ∃ (xs : List Lf), _ := rowO_inv h
    obtain ⟨⟨rfl, hx, hl, hlen⟩, hk⟩ := h
    replace hk := hk _ rfl
    refine ⟨_, _, _, hk, (ups_one hi rfl (fun r' hr' => by cases hr')), fun A w hM => ?_⟩
    have hO := One.of hi rfl
    refine enterM T_ok GSin Try.func31 rfl (w := w) (A := A.pick [] [i]) (vals := [.row 0, .agg [.int .i64 n, .int .i64 d, .int .i64 m, .int .i64 e']]) (n0 := 1) (b0 := 0) (rows := [some ⟨lT, 31, true, xs⟩]) (hp := []) rfl (Nat.le_refl _) (hM.one hi) rfl rfl rfl (Nat.le_of_ble_eq_true rfl) ?_
    conv => whnf
    repeat (refine V_step T_ok GSin rfl ?_; conv => whnf)
    have hx : ∀ x ∈ (xs : List Lf), BdL x := hx
    have hlen : xs.length ≤ 1000 := hlen
    have hpl := posL_le xs ((n, d), (m, e'))
    have hg : ∀ j, j < xs.length → BdL (xs.getD j lT.dflt) ∧ BdL ((n, d), (m, e')) := fun j hj => ⟨hx _ (getD_mem hj), hl⟩
    refine V_loopH (γ := Nat) (fun a => a ≤ xs.length ∧ a ≤ posL xs ((n, d), (m, e'))) (fun a => xs.length - a)
      (fun a => [(5, .int .i64 a)]) (fun _ => []) (fun _ => []) 0 ⟨Nat.zero_le _, Nat.zero_le _⟩ ?_ ?_
    · clear hx hg
      conv => whnf
      refine ⟨?_, by (conv => whnf); repeat (first | exact True.intro | (refine And.intro rfl ?_; conv => whnf)), by (conv => whnf); repeat (first | exact True.intro | (refine And.intro (by first | rfl | (subst_vars; rfl)) ?_; conv => whnf)), rfl, rfl, rfl, rfl, rfl, rfl, rfl, Nat.le_of_ble_eq_true rfl, Nat.le_of_ble_eq_true rfl⟩
      conv => whnf
      repeat (first | exact True.intro | (refine And.intro (by first | rfl | ((conv => whnf); exact congrArg (AVal.int .i64) (by omega)) | ((conv => whnf); exact congrArg (AVal.int .i64) (by simp only [Int.natCast_add, Int.natCast_one]; omega)) | ((conv => whnf); exact congrArg (AVal.irow _) (by first | omega | assumption | (simp only; omega)))) ?_; conv => whnf))
    · rintro a ⟨h1, h2⟩
      conv => whnf
      refine vcCode_sound T_ok GSin _ _ _ _ _ ?_
      conv => whnf
      repeat (refine V_step T_ok GSin rfl ?_; conv => whnf)
      repeat (any_goals (first
        | (refine V_step T_ok GSin rfl ?_; conv => whnf)
        | (refine V_drawA T_ok GSin mixed (by kernel_rfl) ?_; conv => whnf)
        | (refine bcond_split (fun hc => ?_) (fun hc => ?_) <;> (try simp only [decide_eq_true_eq, decide_eq_false_iff_not, Bool.not_eq_true', Bool.not_eq_false', Bool.and_eq_true, Bool.or_eq_true, Bool.and_eq_false_imp, Bool.or_eq_false_iff, ne_eq, Decidable.not_not] at hc) <;> conv => whnf)
        | (intro ysK hysK; have hysl := congrArg List.length hysK; (try simp only [List.length_set, List.length_append, List.length_cons, List.length_nil, List.length_take, List.length_drop, List.length_replicate] at hysl); conv => whnf)
        | (intro bK hbK; have hbl := congrArg ByteArray.size hbK; conv => whnf)
        | (intro sK hsK; conv => whnf)
        | (refine And.intro (by first | (first | exact True.intro | omega | exact hg _ (by (have hl' : (a : Int) < (List.length (α := Lf) xs : Nat) := by assumption); show a < _; omega) | (simp only [Rng]; omega) | (simp only [List.length_cons, List.length_nil, List.length_drop, List.length_take]; exact ⟨by omega, by rw [bytesLf]; omega⟩)) | exact True.intro | exact ⟨rfl, True.intro, fun _ _ => rfl⟩ | exact Nat.le_of_ble_eq_true rfl | (refine ⟨by (try simp only [List.length_cons, List.length_nil]); omega, Int.le_trans (Int.mul_le_mul_of_nonneg_left (show (TInfo.bytes _ : Int) ≤ 64 from Int.ofNat_le.2 (Nat.le_of_ble_eq_true rfl)) (by omega)) (by (try simp only [List.length_cons, List.length_nil]); omega)⟩)) ?_; conv => whnf)))
      · rename_i hc0
        have hc0 : (a : Int) < (xs.length : Nat) := hc0
        have hc1 : sLessL (xs.getD a dL) ((n, d), (m, e')) = true := hc
        have hap : a < posL xs ((n, d), (m, e')) := by
          rcases Nat.eq_or_lt_of_le h2 with e | h
          · have := posL_at (xs := xs) (l := ((n, d), (m, e'))) (by omega)
            rw [← e, hc1] at this; cases this
          · exact h
        have e1 : (a : Int) + 1 = ((a + 1 : Nat) : Int) := rfl
        refine ⟨a + 1, ⟨by omega, hap⟩, by omega, ?_⟩
        clear hx hg
        conv => whnf
        refine ⟨?_, by (conv => whnf); repeat (first | exact True.intro | (refine And.intro rfl ?_; conv => whnf)), by (conv => whnf); repeat (first | exact True.intro | (refine And.intro (by first | rfl | (subst_vars; rfl)) ?_; conv => whnf)), rfl, rfl, rfl, rfl, rfl, rfl, rfl, Nat.le_of_ble_eq_true rfl, Nat.le_of_ble_eq_true rfl⟩
        conv => whnf
        repeat (first | exact True.intro | (refine And.intro (by first | rfl | ((conv => whnf); exact congrArg (AVal.int .i64) (by omega)) | ((conv => whnf); exact congrArg (AVal.int .i64) (by simp only [Int.natCast_add, Int.natCast_one]; omega)) | ((conv => whnf); exact congrArg (AVal.irow _) (by first | omega | assumption | (simp only; omega)))) ?_; conv => whnf))
      · rename_i hc0 hc1 hc2
        have hc1 : sLessL (xs.getD a dL) ((n, d), (m, e')) = false := hc1
        have hap : a = posL xs ((n, d), (m, e')) := by
          rcases Nat.eq_or_lt_of_le h2 with e | h
          · exact e
          · have := posL_lt h; rw [hc1] at this; cases this
        have hc0 : (a : Int) < (xs.length : Nat) := hc0
        have hy : putL xs ((n, d), (m, e')) = xs := by
          unfold putL
          rw [← hap]
          refine if_pos ⟨by omega, ?_⟩
          obtain ⟨⟨q1, q2⟩, q3, q4⟩ := hc
          exact Prod.ext (Prod.ext q1 q2) (Prod.ext q3 q4)
        exact leafM1 hO 0 rfl (by rw [hy]) rfl (fun B C h => by simp [AVal.den, h])
      · have hne : ¬ (posL xs ((n, d), (m, e')) < xs.length ∧ xs.getD (posL xs ((n, d), (m, e'))) dL = ((n, d), (m, e'))) := fun hh => by
          rename_i hc0 hc1 _ _ _ _ _ _ _
          have hc1 : sLessL (xs.getD a dL) ((n, d), (m, e')) = false := hc1
          have hap : a = posL xs ((n, d), (m, e')) := by
            rcases Nat.eq_or_lt_of_le h2 with e | h
            · exact e
            · have := posL_lt h; rw [hc1] at this; cases this
          rw [← hap] at hh
          have q := hh.2
          have q1 : xs.getD a lT.dflt = ((n, d), (m, e')) := q
          refine hc ⟨?_, ?_⟩ ?_ ?_
          · exact congrArg (fun z : Lf => z.1.1) q1
          · exact congrArg (fun z : Lf => z.1.2) q1
          · exact congrArg (fun z : Lf => z.2.1) q1
          · exact congrArg (fun z : Lf => z.2.2) q1
        rename_i hc0 hc1 _ y1 e1 _ y2 e2 _
        have hc1 : sLessL (xs.getD a dL) ((n, d), (m, e')) = false := hc1
        have hap : a = posL xs ((n, d), (m, e')) := by
          rcases Nat.eq_or_lt_of_le h2 with e | h
          · exact e
          · have := posL_lt h; rw [hc1] at this; cases this
        have hL : ysK = putL xs ((n, d), (m, e')) := by
          unfold putL
          rw [if_neg hne, hysK, e1, e2]
          show ([] ++ List.take (a - 0) (List.drop 0 xs)) ++ ([((n, d), (m, e'))] ++ List.take (xs.length - a) (List.drop a xs)) = _
          rw [← hap, List.nil_append, Nat.sub_zero, List.drop_zero, List.take_of_length_le (l := List.drop a xs) (by rw [List.length_drop]; exact Nat.le_refl _)]
        subst hL
        first
          | exact leafM1 hO 4 rfl rfl rfl (fun B C h => by simp [AVal.den, h])
          | exact leafM1 hO 3 rfl rfl rfl (fun B C h => by simp [AVal.den, h])
          | exact leafM1 hO 5 rfl rfl rfl (fun B C h => by simp [AVal.den, h])
      · rename_i hc0 hc1 _ _ _ _ _ _
        exact absurd hc0 hc
      · rename_i hc0 hc1
        exact absurd hc1 hc0
      · rename_i hc0 hc1 _ _ _ _ _ _
        exact absurd hc1 hc0
      · rename_i hc0 y1 e1 _ y2 e2 _
        have hc0 : ¬ (a : Int) < (xs.length : Nat) := hc0
        have hap : a = posL xs ((n, d), (m, e')) := by omega
        have hne : ¬ (posL xs ((n, d), (m, e')) < xs.length ∧ xs.getD (posL xs ((n, d), (m, e'))) dL = ((n, d), (m, e'))) := fun hh => by omega
        have hL : ysK = putL xs ((n, d), (m, e')) := by
          unfold putL
          rw [if_neg hne, hysK, e1, e2]
          show ([] ++ List.take (a - 0) (List.drop 0 xs)) ++ ([((n, d), (m, e'))] ++ List.take (xs.length - a) (List.drop a xs)) = _
          rw [← hap, List.nil_append, Nat.sub_zero, List.drop_zero, List.take_of_length_le (l := List.drop a xs) (by rw [List.length_drop]; exact Nat.le_refl _)]
        subst hL
        first
          | exact leafM1 hO 4 rfl rfl rfl (fun B C h => by simp [AVal.den, h])
          | exact leafM1 hO 3 rfl rfl rfl (fun B C h => by simp [AVal.den, h])
          | exact leafM1 hO 5 rfl rfl rfl (fun B C h => by simp [AVal.den, h])

abbrev GsAd := (GOk.cons sLam_ok (GOk.cons sIsL_ok (GOk.cons sCrossL_ok (GOk.mcons sInsL_ok .nil))))
theorem sAd_ok : PCtrOk Try.prog 13 adC where
  enter := enter_ok Try.func13 (by kernel_rfl) rfl
  calls := by
    intro hg rg lr vals k h
    unfold adC at h
    split at h
    case h_2 => exact h.elim
    rename_i i n d m e'
    obtain ⟨e, own, xs, hi, h⟩ : ∃ e own, ∃ (xs : List Lf), _ := rowC_inv h
    have hk := h.2 _ rfl
    refine ⟨_, _, hk, fun A w hB hR => ?_⟩
    refine enter T_ok GsAd Try.func13 rfl (K := (· < w.heap.size)) (fun _ h => h) (A := A.pick [] [i]) (vals := [.row 0, .agg [.int .i64 n, .int .i64 d, .int .i64 m, .int .i64 e']]) (n0 := 0) (b0 := 0) (rows := [some ⟨lT, e, false, xs⟩]) (hp := []) rfl (Nat.zero_le _) no_box rfl (one_row (hR i _ hi)) rfl rfl (Nat.le_of_ble_eq_true rfl) ?_
    conv => whnf
    repeat (refine V_step T_ok GsAd rfl ?_; conv => whnf)
    repeat (any_goals (first
      | (refine V_step T_ok GsAd rfl ?_; conv => whnf)
      | (refine V_drawN T_ok GsAd mixed (by kernel_rfl) ?_; conv => whnf)
      | (refine bcond_split (fun hc => ?_) (fun hc => ?_) <;> (try simp only [decide_eq_true_eq, decide_eq_false_iff_not, Bool.not_eq_true', Bool.not_eq_false', Bool.and_eq_true, Bool.or_eq_true, Bool.and_eq_false_imp, Bool.or_eq_false_iff, ne_eq, Decidable.not_not] at hc) <;> conv => whnf)
      | (intro ysK hysK; have hysl := congrArg List.length hysK; (try simp only [List.length_set, List.length_append, List.length_cons, List.length_nil, List.length_take, List.length_drop, List.length_replicate] at hysl); conv => whnf)
      | (intro bK hbK; have hbl := congrArg ByteArray.size hbK; conv => whnf)
      | (intro sK hsK; conv => whnf)
      | (refine And.intro (by first | (first | exact True.intro) | exact True.intro | exact ⟨rfl, True.intro, fun _ _ => rfl⟩ | exact Nat.le_of_ble_eq_true rfl | (refine ⟨by (try simp only [List.length_cons, List.length_nil]); omega, Int.le_trans (Int.mul_le_mul_of_nonneg_left (show (TInfo.bytes _ : Int) ≤ 64 from Int.ofNat_le.2 (Nat.le_of_ble_eq_true rfl)) (by omega)) (by (try simp only [List.length_cons, List.length_nil]); omega)⟩)) ?_; conv => whnf)))
    · have z := adO_1 (xs := xs) (l := ((n, d), (m, e'))) (fun h => by rw [lam_eq, hc] at h; cases h.1)
      exact leafN rfl (by rw [z]) (fun B C h => by rw [z]; simp [AVal.den, dens, h, Hdr.val])
    · have z := adO_1 (xs := xs) (l := ((n, d), (m, e'))) (fun h => hc h.2)
      exact leafN rfl (by rw [z]) (fun B C h => by rw [z]; simp [AVal.den, dens, h, Hdr.val])
    · rename_i hc0
      have hl : IsL ((n, d), (m, e')) := hc
      have hlam : lamL xs = true := by rw [lam_eq]; exact hc0
      have hL : ∀ x ∈ (xs : List Lf), IsL x := lam_all hlam
      have hlen : xs.length ≤ 200 := by
        have h0 := hlam
        unfold lamL at h0
        simp only [Bool.and_eq_true, decide_eq_true_eq] at h0
        exact h0.1
      have hg : ∀ j, j < xs.length → BdL (xs.getD j lT.dflt) ∧ BdL ((n, d), (m, e')) := fun j hj => ⟨(hL _ (getD_mem hj)).sm.bd, hl.sm.bd⟩
      have hpre : ∀ ys : List Lf, ys = [] ++ xs → (31 = 31 ∧ (∀ x ∈ ys, BdL x) ∧ BdL ((n, d), (m, e')) ∧ List.length (α := Lf) ys ≤ 1000) := fun ys h => by
        rw [h, List.nil_append]; exact ⟨rfl, fun x hx => (hL x hx).sm.bd, hl.sm.bd, by omega⟩
      refine V_loopH (γ := Nat) (fun a => a ≤ xs.length ∧ ∀ j, j < a → sCrossL (xs.getD j dL) ((n, d), (m, e')) = false) (fun a => xs.length - a)
        (fun a => [(6, .int .i64 a)]) (fun _ => []) (fun _ => []) 0 ⟨Nat.zero_le _, fun j h => absurd h (Nat.not_lt_zero _)⟩ ?_ ?_
      · clear hL hg hpre
        conv => whnf
        refine ⟨?_, by (conv => whnf); repeat (first | exact True.intro | (refine And.intro rfl ?_; conv => whnf)), by (conv => whnf); repeat (first | exact True.intro | (refine And.intro (by first | rfl | (subst_vars; rfl)) ?_; conv => whnf)), rfl, rfl, rfl, rfl, rfl, rfl, rfl, Nat.le_of_ble_eq_true rfl, Nat.le_of_ble_eq_true rfl⟩
        conv => whnf
        repeat (first | exact True.intro | (refine And.intro (by first | rfl | ((conv => whnf); exact congrArg (AVal.int .i64) (by omega)) | ((conv => whnf); exact congrArg (AVal.int .i64) (by simp only [Int.natCast_add, Int.natCast_one]; omega)) | ((conv => whnf); exact congrArg (AVal.irow _) (by first | omega | assumption | (simp only; omega)))) ?_; conv => whnf))
      · rintro a ⟨h1, h2⟩
        conv => whnf
        refine vcCode_sound T_ok GsAd _ _ _ _ _ ?_
        conv => whnf
        repeat (refine V_step T_ok GsAd rfl ?_; conv => whnf)
        refine bcond_split (fun hc => ?_) (fun hc => ?_) <;> (try simp only [decide_eq_true_eq, decide_eq_false_iff_not, Bool.not_eq_true', Bool.not_eq_false', Bool.and_eq_true, Bool.or_eq_true, Bool.and_eq_false_imp, Bool.or_eq_false_iff, ne_eq, Decidable.not_not] at hc) <;> conv => whnf
        · skip
          repeat (any_goals (first
            | (refine V_step T_ok GsAd rfl ?_; conv => whnf)
            | (refine V_drawN T_ok GsAd mixed (by kernel_rfl) ?_; conv => whnf)
            | (refine bcond_split (fun hc => ?_) (fun hc => ?_) <;> (try simp only [decide_eq_true_eq, decide_eq_false_iff_not, Bool.not_eq_true', Bool.not_eq_false', Bool.and_eq_true, Bool.or_eq_true, Bool.and_eq_false_imp, Bool.or_eq_false_iff, ne_eq, Decidable.not_not] at hc) <;> conv => whnf)
            | (intro ysK hysK; have hysl := congrArg List.length hysK; (try simp only [List.length_set, List.length_append, List.length_cons, List.length_nil, List.length_take, List.length_drop, List.length_replicate] at hysl); conv => whnf)
            | (intro bK hbK; have hbl := congrArg ByteArray.size hbK; conv => whnf)
            | (intro sK hsK; conv => whnf)
            | (refine And.intro (by first | (first | exact True.intro | omega | exact hg _ (by (have hl' : (a : Int) < (List.length (α := Lf) xs : Nat) := by assumption); show a < _; omega) | exact hpre _ (by assumption) | (simp only [Rng]; omega) | (simp only [List.length_nil]; exact ⟨by omega, by rw [bytesLf]; omega⟩)) | exact True.intro | exact ⟨rfl, True.intro, fun _ _ => rfl⟩ | exact Nat.le_of_ble_eq_true rfl | (refine ⟨by (try simp only [List.length_cons, List.length_nil]); omega, Int.le_trans (Int.mul_le_mul_of_nonneg_left (show (TInfo.bytes _ : Int) ≤ 64 from Int.ofNat_le.2 (Nat.le_of_ble_eq_true rfl)) (by omega)) (by (try simp only [List.length_cons, List.length_nil]); omega)⟩)) ?_; conv => whnf)))
          · rename_i ha
            have ha : (a : Int) < (xs.length : Nat) := ha
            have hcr : sCrossL (xs.getD a dL) ((n, d), (m, e')) = true := hc
            have hm : xs.getD a dL ∈ xs := getD_mem (by omega)
            have z := adO_5 (xs := xs) (l := ((n, d), (m, e'))) ⟨hlam, hl⟩ (List.any_eq_true.2 ⟨_, hm, by rw [cross_comm hl (hL _ hm)]; exact hcr⟩)
            exact leafN rfl (by rw [z]) (fun B C h => by rw [z]; simp [AVal.den, dens, h, Hdr.val])
          · rename_i ha
            have ha : (a : Int) < (xs.length : Nat) := ha
            have hcr : sCrossL (xs.getD a dL) ((n, d), (m, e')) = false := hc
            have e1 : (a : Int) + 1 = ((a + 1 : Nat) : Int) := rfl
            refine ⟨a + 1, ⟨by omega, fun j hj => ?_⟩, by omega, ?_⟩
            · rcases Nat.lt_or_ge j a with h | h
              · exact h2 j h
              · obtain rfl : j = a := by omega
                exact hcr
            · clear hL hg hpre
              conv => whnf
              refine ⟨?_, by (conv => whnf); repeat (first | exact True.intro | (refine And.intro rfl ?_; conv => whnf)), by (conv => whnf); repeat (first | exact True.intro | (refine And.intro (by first | rfl | (subst_vars; rfl)) ?_; conv => whnf)), rfl, rfl, rfl, rfl, rfl, rfl, rfl, Nat.le_of_ble_eq_true rfl, Nat.le_of_ble_eq_true rfl⟩
              conv => whnf
              repeat (first | exact True.intro | (refine And.intro (by first | rfl | ((conv => whnf); exact congrArg (AVal.int .i64) (by omega)) | ((conv => whnf); exact congrArg (AVal.int .i64) (by simp only [Int.natCast_add, Int.natCast_one]; omega)) | ((conv => whnf); exact congrArg (AVal.irow _) (by first | omega | assumption | (simp only; omega)))) ?_; conv => whnf))
        · skip
          repeat (any_goals (first
            | (refine V_step T_ok GsAd rfl ?_; conv => whnf)
            | (refine V_float T_ok GsAd mixed [false, true, false, true, false, false] [.row 0, .agg [.int .i64 n, .int .i64 d, .int .i64 m, .int .i64 e']] (by kernel_rfl) rfl ?_; conv => whnf)
            | (refine bcond_split (fun hc => ?_) (fun hc => ?_) <;> (try simp only [decide_eq_true_eq, decide_eq_false_iff_not, Bool.not_eq_true', Bool.not_eq_false', Bool.and_eq_true, Bool.or_eq_true, Bool.and_eq_false_imp, Bool.or_eq_false_iff, ne_eq, Decidable.not_not] at hc) <;> conv => whnf)
            | (intro ysK hysK; have hysl := congrArg List.length hysK; (try simp only [List.length_set, List.length_append, List.length_cons, List.length_nil, List.length_take, List.length_drop, List.length_replicate] at hysl); conv => whnf)
            | (intro bK hbK; have hbl := congrArg ByteArray.size hbK; conv => whnf)
            | (intro sK hsK; conv => whnf)
            | (refine And.intro (by first | (first | (first | exact True.intro | omega | exact hg _ (by (have hl' : (a : Int) < (List.length (α := Lf) xs : Nat) := by assumption); show a < _; omega) | exact hpre _ (by assumption) | (simp only [Rng]; omega) | (simp only [List.length_nil]; exact ⟨by omega, by rw [bytesLf]; omega⟩)) | ((conv => whnf); repeat (first | exact True.intro | (refine And.intro (by (conv => whnf) <;> rfl) ?_; (conv => whnf))))) | exact True.intro | exact ⟨rfl, True.intro, fun _ _ => rfl⟩ | exact Nat.le_of_ble_eq_true rfl | (refine ⟨by (try simp only [List.length_cons, List.length_nil]); omega, Int.le_trans (Int.mul_le_mul_of_nonneg_left (show (TInfo.bytes _ : Int) ≤ 64 from Int.ofNat_le.2 (Nat.le_of_ble_eq_true rfl)) (by omega)) (by (try simp only [List.length_cons, List.length_nil]); omega)⟩)) ?_; conv => whnf)))
          · rename_i ha y0 hy0 _
            have ha : ¬ (a : Int) < (xs.length : Nat) := ha
            have hc : 200 < (ysK.length : Int) := hc
            rw [hy0, List.nil_append] at hysK
            have hno : ¬ xs.any (crossL ((n, d), (m, e'))) = true := fun h => by
              obtain ⟨x, hx, hcx⟩ := List.any_eq_true.1 h
              obtain ⟨j, hj, rfl⟩ := List.mem_iff_getElem.1 hx
              have := h2 j (by omega)
              rw [List.getD_eq_getElem?_getD, List.getElem?_eq_getElem hj] at this
              rw [cross_comm hl (hL _ hx)] at hcx
              simp only [Option.getD_some] at this
              rw [hcx] at this; cases this
            have z := adO_3 ⟨hlam, hl⟩ hno (by rw [← hysK]; omega)
            exact leafN rfl (by rw [z]) (fun B C h => by rw [z]; simp [AVal.den, dens, h, Hdr.val])
          · rename_i ha y0 hy0 _
            have ha : ¬ (a : Int) < (xs.length : Nat) := ha
            have hc : ¬ 200 < (ysK.length : Int) := hc
            rw [hy0, List.nil_append] at hysK
            have hno : ¬ xs.any (crossL ((n, d), (m, e'))) = true := fun h => by
              obtain ⟨x, hx, hcx⟩ := List.any_eq_true.1 h
              obtain ⟨j, hj, rfl⟩ := List.mem_iff_getElem.1 hx
              have := h2 j (by omega)
              rw [List.getD_eq_getElem?_getD, List.getElem?_eq_getElem hj] at this
              rw [cross_comm hl (hL _ hx)] at hcx
              simp only [Option.getD_some] at this
              rw [hcx] at this; cases this
            have z := adO_0 ⟨hlam, hl⟩ hno (by rw [← hysK]; omega)
            have hy : ysK = (adO xs ((n, d), (m, e'))).1 := by rw [z]; exact hysK
            have hz2 : (adO xs ((n, d), (m, e'))).2 = 0 := by rw [z]
            subst hy
            first
              | exact leaf1 2 rfl rfl rfl rfl (fun B C h => by simp [AVal.den, dens, h, hz2])
              | exact leaf1 3 rfl rfl rfl rfl (fun B C h => by simp [AVal.den, dens, h, hz2])
              | exact leaf1 4 rfl rfl rfl rfl (fun B C h => by simp [AVal.den, dens, h, hz2])
end Go.Proofs.Ytllagpbbbdekiaa.Fw
-- %intro
