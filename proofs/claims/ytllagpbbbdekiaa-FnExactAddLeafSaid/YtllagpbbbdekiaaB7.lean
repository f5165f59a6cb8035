/- Contracts: put, AddLeaf, the program. -/
import Derived.Test.YtllagpbbbdekiaaB6
namespace Go.Proofs.Ytllagpbbbdekiaa.Fw
open Go Go.RowKit
set_option linter.unusedVariables false
set_option linter.unusedSimpArgs false
set_option maxRecDepth 100000
set_option maxHeartbeats 2000000

def putC : MCtr := fun hg rg lr vals k => match vals with
  | [.row i, .agg [.int .i64 n, .int .i64 d, .int .i64 m, .int .i64 e']] => rowO lT (rg i) fun e xs => (e = 31 ∧ lamL xs = true ∧ IsL ((n, d), (m, e'))) ∧ ∀ ys : List Lf, ys = putL xs ((n, d), (m, e')) → k [(i, none)] [⟨lT, 31, true, ys⟩] (.row lr)
  | _ => False
abbrev GPut := (GOk.cons bs_ok (GOk.mcons insv_ok .nil))
theorem put_ok : MCtrOk Try.prog 36 putC where
  enter := enter_ok Try.func36 (by kernel_rfl) rfl
  calls := by
    intro hg rg lr vals k h
    unfold putC at h
    split at h
    case h_2 => exact h.elim
    rename_i i n d m e'
    obtain ⟨e, xs, hi, h⟩ : ∃ e, ∃ (xs : List Lf), _ := rowO_inv h
    obtain ⟨⟨rfl, hlam, hl⟩, hk⟩ := h
    replace hk := hk _ rfl
    refine ⟨_, _, _, hk, (ups_one hi rfl (fun r' hr' => by cases hr')), fun A w hM => ?_⟩
    have hO := One.of hi rfl
    refine enterM T_ok GPut Try.func36 rfl (w := w) (A := A.pick [] [i]) (vals := [.row 0, .agg [.int .i64 n, .int .i64 d, .int .i64 m, .int .i64 e']]) (n0 := 1) (b0 := 0) (rows := [some ⟨lT, 31, true, xs⟩]) (hp := []) rfl (Nat.le_refl _) (hM.one hi) rfl rfl rfl (Nat.le_of_ble_eq_true rfl) ?_
    conv => whnf
    repeat (refine V_step T_ok GPut rfl ?_; conv => whnf)
    have hlam : lamL xs = true := hlam
    have hlen : xs.length ≤ 200 := by
      have h0 := hlam
      unfold lamL at h0
      simp only [Bool.and_eq_true, decide_eq_true_eq] at h0
      exact h0.1
    have hpl := posL_le xs ((n, d), (m, e'))
    have hins : ∀ z : Nat, z = posL xs ((n, d), (m, e')) → (0 ≤ (z : Int) ∧ (z : Int) ≤ (List.length (α := Lf) xs : Int)) ∧ (List.length (α := Lf) xs : Int) ≤ 1000 ∧ List.length (α := Lf) [((n, d), (m, e'))] = 1 := fun z hz => by
      subst hz; exact ⟨⟨by omega, by omega⟩, by omega, rfl⟩
    repeat (any_goals (first
      | (refine V_step T_ok GPut rfl ?_; conv => whnf)
      | (refine V_drawA T_ok GPut mixed (by kernel_rfl) ?_; conv => whnf)
      | (refine bcond_split (fun hc => ?_) (fun hc => ?_) <;> (try simp only [decide_eq_true_eq, decide_eq_false_iff_not, Bool.not_eq_true', Bool.not_eq_false', Bool.and_eq_true, Bool.or_eq_true, Bool.and_eq_false_imp, Bool.or_eq_false_iff, ne_eq, Decidable.not_not] at hc) <;> conv => whnf)
      | (intro ysK hysK; have hysl := congrArg List.length hysK; (try simp only [List.length_set, List.length_append, List.length_cons, List.length_nil, List.length_take, List.length_drop, List.length_replicate] at hysl); conv => whnf)
      | (intro bK hbK; have hbl := congrArg ByteArray.size hbK; conv => whnf)
      | (intro sK hsK; conv => whnf)
      | (refine And.intro (by first | (first | exact True.intro | exact ⟨hlam, hl⟩ | exact ⟨by decide, rfl, hins _ rfl⟩) | exact True.intro | exact ⟨rfl, True.intro, fun _ _ => rfl⟩ | exact Nat.le_of_ble_eq_true rfl | (refine ⟨by (try simp only [List.length_cons, List.length_nil]); omega, Int.le_trans (Int.mul_le_mul_of_nonneg_left (show (TInfo.bytes _ : Int) ≤ 64 from Int.ofNat_le.2 (Nat.le_of_ble_eq_true rfl)) (by omega)) (by (try simp only [List.length_cons, List.length_nil]); omega)⟩)) ?_; conv => whnf)))
    · have hth : thereB xs ((n, d), (m, e')) = true := hc
      have hy : putL xs ((n, d), (m, e')) = xs := by unfold putL; exact if_pos (of_decide_eq_true hth)
      exact leafM1 hO 0 rfl (by rw [hy]) rfl (fun B C h => by simp [AVal.den, h])
    · have hth : thereB xs ((n, d), (m, e')) = false := hc
      have hy : ysK = putL xs ((n, d), (m, e')) := by unfold putL; rw [if_neg (of_decide_eq_false hth)]; exact hysK
      exact leafM1 hO 2 rfl (by rw [hy]) rfl (fun B C h => by simp [AVal.den, h])

def adC : PCtr := fun _ rg lr vals k => match vals with
  | [.row i, .agg [.int .i64 n, .int .i64 d, .int .i64 m, .int .i64 e']] => rowC lT (rg i) fun xs => True ∧ ∀ q : List Lf × Int, q = adO xs ((n, d), (m, e')) → k [⟨lT, 31, true, q.1⟩] (.tup [.row lr, .int .i64 q.2])
  | _ => False
abbrev GAd := (GOk.cons lam_ok (GOk.cons isLeaf_ok (GOk.cons hasCross_ok (GOk.cons cln_ok (GOk.mcons put_ok .nil)))))
theorem ad_ok : PCtrOk Try.prog 15 adC where
  enter := enter_ok Try.func15 (by kernel_rfl) rfl
  calls := by
    intro hg rg lr vals k h
    unfold adC at h
    split at h
    case h_2 => exact h.elim
    rename_i i n d m e'
    obtain ⟨e, own, xs, hi, h⟩ : ∃ e own, ∃ (xs : List Lf), _ := rowC_inv h
    have hk := h.2 _ rfl
    refine ⟨_, _, hk, fun A w hB hR => ?_⟩
    refine enter T_ok GAd Try.func15 rfl (K := (· < w.heap.size)) (fun _ h => h) (A := A.pick [] [i]) (vals := [.row 0, .agg [.int .i64 n, .int .i64 d, .int .i64 m, .int .i64 e']]) (n0 := 0) (b0 := 0) (rows := [some ⟨lT, e, false, xs⟩]) (hp := []) rfl (Nat.zero_le _) no_box rfl (one_row (hR i _ hi)) rfl rfl (Nat.le_of_ble_eq_true rfl) ?_
    conv => whnf
    repeat (refine V_step T_ok GAd rfl ?_; conv => whnf)
    have hpre : lamL xs = true → IsL ((n, d), (m, e')) → (SmL ((n, d), (m, e')) ∧ ∀ x ∈ (xs : List Lf), SmL x) ∧ List.length (α := Lf) xs ≤ 1000 := fun h1 h2 => ⟨⟨h2.sm, fun x hx => (lam_all h1 x hx).sm⟩, by
      unfold lamL at h1
      simp only [Bool.and_eq_true, decide_eq_true_eq] at h1
      have := h1.1; omega⟩
    have hput : ∀ ys : List Lf, ys = xs → lamL xs = true → IsL ((n, d), (m, e')) → (31 = 31 ∧ lamL ys = true ∧ IsL ((n, d), (m, e'))) := fun ys hy h1 h2 => ⟨rfl, by rw [hy]; exact h1, h2⟩
    repeat (any_goals (first
      | (refine V_step T_ok GAd rfl ?_; conv => whnf)
      | (refine V_drawN T_ok GAd mixed (by kernel_rfl) ?_; conv => whnf)
      | (refine bcond_split (fun hc => ?_) (fun hc => ?_) <;> (try simp only [decide_eq_true_eq, decide_eq_false_iff_not, Bool.not_eq_true', Bool.not_eq_false', Bool.and_eq_true, Bool.or_eq_true, Bool.and_eq_false_imp, Bool.or_eq_false_iff, ne_eq, Decidable.not_not] at hc) <;> conv => whnf)
      | (intro ysK hysK; have hysl := congrArg List.length hysK; (try simp only [List.length_set, List.length_append, List.length_cons, List.length_nil, List.length_take, List.length_drop, List.length_replicate] at hysl); conv => whnf)
      | (intro bK hbK; have hbl := congrArg ByteArray.size hbK; conv => whnf)
      | (intro sK hsK; conv => whnf)
      | (refine And.intro (by first | (first | exact True.intro | exact (hpre (by assumption) (by assumption)).1 | exact (hpre (by assumption) (by assumption)).2 | exact hput _ (by assumption) (by assumption) (by assumption)) | exact True.intro | exact ⟨rfl, True.intro, fun _ _ => rfl⟩ | exact Nat.le_of_ble_eq_true rfl | (refine ⟨by (try simp only [List.length_cons, List.length_nil]); omega, Int.le_trans (Int.mul_le_mul_of_nonneg_left (show (TInfo.bytes _ : Int) ≤ 64 from Int.ofNat_le.2 (Nat.le_of_ble_eq_true rfl)) (by omega)) (by (try simp only [List.length_cons, List.length_nil]); omega)⟩)) ?_; conv => whnf)))
    · have z := adO_1 (xs := xs) (l := ((n, d), (m, e'))) (fun h => by rw [h.1] at hc; cases hc)
      exact leafN rfl (by rw [z]) (fun B C h => by rw [z]; simp [AVal.den, dens, h, Hdr.val])
    · have z := adO_1 (xs := xs) (l := ((n, d), (m, e'))) (fun h => hc h.2)
      exact leafN rfl (by rw [z]) (fun B C h => by rw [z]; simp [AVal.den, dens, h, Hdr.val])
    · have h1 : lamL xs = true ∧ IsL ((n, d), (m, e')) := ⟨by assumption, by assumption⟩
      have z := adO_5 h1 hc
      exact leafN rfl (by rw [z]) (fun B C h => by rw [z]; simp [AVal.den, dens, h, Hdr.val])
    · have h1 : lamL xs = true ∧ IsL ((n, d), (m, e')) := ⟨by assumption, by assumption⟩
      rename_i hcr y0 hy0 _
      have hc : 200 < (ysK.length : Int) := hc
      rw [hy0] at hysK
      have z := adO_3 h1 (by rw [hcr]; exact Bool.false_ne_true) (by rw [← hysK]; omega)
      exact leafN rfl (by rw [z]) (fun B C h => by rw [z]; simp [AVal.den, dens, h, Hdr.val])
    · have h1 : lamL xs = true ∧ IsL ((n, d), (m, e')) := ⟨by assumption, by assumption⟩
      rename_i hcr y0 hy0 _
      have hc : ¬ 200 < (ysK.length : Int) := hc
      rw [hy0] at hysK
      have z := adO_0 h1 (by rw [hcr]; exact Bool.false_ne_true) (by rw [← hysK]; omega)
      have hy : ysK = (adO xs ((n, d), (m, e'))).1 := by rw [z]; exact hysK
      have hz2 : (adO xs ((n, d), (m, e'))).2 = 0 := by rw [z]
      subst hy
      exact leaf1 2 rfl rfl rfl rfl (fun B C h => by simp [AVal.den, dens, h, hz2])
end Go.Proofs.Ytllagpbbbdekiaa.Fw
-- %intro
