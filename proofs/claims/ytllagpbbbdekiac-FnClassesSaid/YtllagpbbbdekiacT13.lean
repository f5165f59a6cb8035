/- Contracts: the images of the classes, by their names; the law. -/
import Derived.Test.YtllagpbbbdekiacT12
namespace Go.Proofs.Ytllagpbbbdekiac.Fw
open Go Go.RowKit
set_option linter.unusedVariables false
set_option linter.unusedSimpArgs false
set_option maxRecDepth 100000
set_option maxHeartbeats 2000000
noncomputable def imgA (t : Ang) (n : Int) : List Int := imgG (cls1 t n) n (cls1 t n).length
open Classical in
@[irreducible] noncomputable def ciR (t : Ang) (n : Int) : List Int × Int := if IsA t then (if OkN n then (imgA t n, 0) else ([], 2)) else ([], 1)
theorem ciR_i {t : Ang} {n : Int} (h : ¬ IsA t) : ciR t n = ([], 1) := by unfold ciR; rw [if_neg h]
theorem ciR_r {t : Ang} {n : Int} (h : IsA t) (h2 : ¬ OkN n) : ciR t n = ([], 2) := by unfold ciR; rw [if_pos h, if_neg h2]
theorem ciR_t {t : Ang} {n : Int} (h : IsA t) (h2 : OkN n) : ciR t n = (imgA t n, 0) := by unfold ciR; rw [if_pos h, if_pos h2]
theorem cls1_hd (t : Ang) {n : Int} (h : OkN n) : HdL (cls1 t n) := by
  unfold cls1
  exact clsL_hd (lab1_can t n) (by have := h.2; omega)
def ciC : PCtr := fun _ _ lr vals k => match vals with
  | [.agg [.int .i64 a, .int .i64 b], .int .i64 n] => True ∧ ∀ q : List Int × Int, q = ciR (a, b) n → k [⟨iT1, 2, true, q.1⟩] (.tup [.row lr, .int .i64 q.2])
  | _ => False
abbrev GCi := (GOk.cons isParts_ok (GOk.cons pcode_ok (GOk.cons clsOf_ok (GOk.cons imgs_ok .nil))))
theorem imgs_pre {t : Ang} {n : Int} {L : List (List Int)} (hn : OkN n) (h : L = cls1 t n) : HdL L ∧ OkN n := ⟨by rw [h]; exact cls1_hd t hn, hn⟩
theorem ci_ok : PCtrOk Try.prog 17 ciC where
  enter := enter_ok Try.func17 (by kernel_rfl) rfl
  calls := by
    intro hg rg lr vals k h
    unfold ciC at h
    split at h
    case h_2 => exact h.elim
    rename_i a b n
    obtain ⟨_, hk⟩ := h
    replace hk := hk _ rfl
    refine ⟨_, _, hk, fun A w _ _ => ?_⟩
    refine enter T_ok GCi Try.func17 rfl (K := (· < w.heap.size)) (fun _ h => h) (A := A) (n0 := 0) (b0 := 0) (rows := []) (hp := []) rfl (Nat.zero_le _) (fun k r h => by cases h) rfl (fun k r h => by cases h) rfl rfl (Nat.le_of_ble_eq_true rfl) ?_
    conv => whnf
    repeat (refine V_step T_ok GCi rfl ?_; conv => whnf)
    repeat (any_goals (first
      | (refine V_step T_ok GCi rfl ?_; conv => whnf)
      | (refine V_drawN T_ok GCi mixed (by kernel_rfl) ?_; conv => whnf)
      | (refine bcond_split (fun hc => ?_) (fun hc => ?_) <;> (try simp only [decide_eq_true_eq, decide_eq_false_iff_not, Bool.not_eq_true', Bool.not_eq_false', Bool.and_eq_true, Bool.or_eq_true, Bool.and_eq_false_imp, Bool.or_eq_false_iff, ne_eq, Decidable.not_not] at hc) <;> conv => whnf)
      | (intro ysK hysK; have hysl := congrArg List.length hysK; (try simp only [List.length_set, List.length_append, List.length_cons, List.length_nil, List.length_take, List.length_drop, List.length_replicate] at hysl); conv => whnf)
      | (intro bK hbK; have hbl := congrArg ByteArray.size hbK; conv => whnf)
      | (intro sK hsK; conv => whnf)
      | (refine And.intro (by first | (first | exact True.intro | exact code1P.1 (by assumption) | exact imgs_pre (code1P.1 (by assumption)).2 hysK) | exact True.intro | exact ⟨rfl, True.intro, fun _ _ => rfl⟩ | exact Nat.le_of_ble_eq_true rfl | (refine ⟨by (try simp only [List.length_cons, List.length_nil]); omega, Int.le_trans (Int.mul_le_mul_of_nonneg_left (show (TInfo.bytes _ : Int) ≤ 64 from Int.ofNat_le.2 (Nat.le_of_ble_eq_true rfl)) (by omega)) (by (try simp only [List.length_cons, List.length_nil]); omega)⟩)) ?_; conv => whnf)))
    · by_cases h1 : IsA (a, b)
      · have h2 : ¬ OkN n := fun h => hc (code1P.2 ⟨h1, h⟩)
        have e1 := (code1 (a, b) (decide (OkN n))).2.2 h1 (decide_eq_false h2)
        rw [ciR_r h1 h2]
        exact leafN rfl rfl (fun B C h => by simp only [AVal.den, dens, h]; exact congrArg (fun z => Value.tuple #[Value.slice none 0 0, Value.int .i64 z]) e1)
      · have e1 := (code1 (a, b) (decide (OkN n))).2.1 h1
        rw [ciR_i h1]
        exact leafN rfl rfl (fun B C h => by simp only [AVal.den, dens, h]; exact congrArg (fun z => Value.tuple #[Value.slice none 0 0, Value.int .i64 z]) e1)
    · obtain ⟨h1, h2⟩ := code1P.1 hc
      rename_i hL _
      rw [ciR_t h1 h2]
      exact leaf1 2 rfl rfl (congrArg (fun ys => (⟨iT1, 2, true, ys⟩ : Row)) (show ysK = imgA (a, b) n by rw [hysK, hL]; rfl)) rfl (fun B C h => by simp [AVal.den, dens, h])
abbrev GSci := (GOk.cons codeL_ok (GOk.cons ldr_ok (GOk.cons imgsS_ok .nil)))
theorem imgsS_pre {ts : List Ang} {n : Int} {g : Nat} {c : List Int} (hn : OkN n) (h : c = ldrG ts n.toNat g) : (Can (List.length (α := Int) c) c ∧ List.length (α := Int) c ≤ 63) ∧ List.length (α := Int) c ≠ 0 :=
  ⟨lists_pre hn h, by have := ldr_len hn h; have := hn.1; omega⟩
theorem imgsS_one {t : Ang} {n : Int} {c ys : List Int} (hn : OkN n) (h : c = ldrG [t] n.toNat [t].length) (hy : ys = imgG (clsL (List.length (α := Int) c) c) (List.length (α := Int) c) (clsL (List.length (α := Int) c) c).length) : ys = imgA t n := by
  have e1 : clsL (List.length (α := Int) c) c = cls1 t n := lists_one hn h rfl
  rw [hy, e1, ldr_len hn h]; rfl
theorem sCi_ok : PCtrOk Try.prog 18 ciC where
  enter := enter_ok Try.func18 (by kernel_rfl) rfl
  calls := by
    intro hg rg lr vals k h
    unfold ciC at h
    split at h
    case h_2 => exact h.elim
    rename_i a b n
    obtain ⟨_, hk⟩ := h
    replace hk := hk _ rfl
    refine ⟨_, _, hk, fun A w _ _ => ?_⟩
    refine enter T_ok GSci Try.func18 rfl (K := (· < w.heap.size)) (fun _ h => h) (A := A) (n0 := 0) (b0 := 0) (rows := []) (hp := []) rfl (Nat.zero_le _) (fun k r h => by cases h) rfl (fun k r h => by cases h) rfl rfl (Nat.le_of_ble_eq_true rfl) ?_
    conv => whnf
    repeat (refine V_step T_ok GSci rfl ?_; conv => whnf)
    repeat (any_goals (first
      | (refine V_step T_ok GSci rfl ?_; conv => whnf)
      | (refine V_drawN T_ok GSci mixed (by kernel_rfl) ?_; conv => whnf)
      | (refine bcond_split (fun hc => ?_) (fun hc => ?_) <;> (try simp only [decide_eq_true_eq, decide_eq_false_iff_not, Bool.not_eq_true', Bool.not_eq_false', Bool.and_eq_true, Bool.or_eq_true, Bool.and_eq_false_imp, Bool.or_eq_false_iff, ne_eq, Decidable.not_not] at hc) <;> conv => whnf)
      | (intro ysK hysK; have hysl := congrArg List.length hysK; (try simp only [List.length_set, List.length_append, List.length_cons, List.length_nil, List.length_take, List.length_drop, List.length_replicate] at hysl); conv => whnf)
      | (intro bK hbK; have hbl := congrArg ByteArray.size hbK; conv => whnf)
      | (intro sK hsK; conv => whnf)
      | (refine And.intro (by first | (first | exact True.intro | (simp only [List.length_cons, List.length_nil]; omega) | exact one_pre (code1P.1 (by assumption)) | exact imgsS_pre (code1P.1 (by assumption)).2 hysK) | exact True.intro | exact ⟨rfl, True.intro, fun _ _ => rfl⟩ | exact Nat.le_of_ble_eq_true rfl | (refine ⟨by (try simp only [List.length_cons, List.length_nil]); omega, Int.le_trans (Int.mul_le_mul_of_nonneg_left (show (TInfo.bytes _ : Int) ≤ 64 from Int.ofNat_le.2 (Nat.le_of_ble_eq_true rfl)) (by omega)) (by (try simp only [List.length_cons, List.length_nil]); omega)⟩)) ?_; conv => whnf)))
    · by_cases h1 : IsA (a, b)
      · have h2 : ¬ OkN n := fun h => hc (code1P.2 ⟨h1, h⟩)
        have e1 := (code1 (a, b) (decide (OkN n))).2.2 h1 (decide_eq_false h2)
        simp only [decide_eq_true_iff] at e1
        rw [ciR_r h1 h2]
        exact leafN rfl rfl (fun B C h => by simp only [AVal.den, dens, h]; exact congrArg (fun z => Value.tuple #[Value.slice none 0 0, Value.int .i64 z]) e1)
      · have e1 := (code1 (a, b) (decide (OkN n))).2.1 h1
        simp only [decide_eq_true_iff] at e1
        rw [ciR_i h1]
        exact leafN rfl rfl (fun B C h => by simp only [AVal.den, dens, h]; exact congrArg (fun z => Value.tuple #[Value.slice none 0 0, Value.int .i64 z]) e1)
    · obtain ⟨h1, h2⟩ := code1P.1 hc
      rename_i hld _
      rw [ciR_t h1 h2]
      exact leaf1 3 rfl rfl (congrArg (fun ys => (⟨iT1, 2, true, ys⟩ : Row)) (imgsS_one h2 hld hysK)) rfl (fun B C h => by simp [AVal.den, dens, h])
theorem ciR_len (t : Ang) (n : Int) : (ciR t n).1.length ≤ 63 := by
  by_cases h1 : IsA t
  · by_cases h2 : OkN n
    · rw [ciR_t h1 h2]
      have e1 := imgG_len (cls1 t n) n (cls1 t n).length
      have e2 := (cls1_small t h2).1
      simp only [imgA]
      omega
    · rw [ciR_r h1 h2]; exact Nat.zero_le _
  · rw [ciR_i h1]; exact Nat.zero_le _
theorem eqLI_self (x : List Int) : eqLI x x = true := decide_eq_true rfl
end Go.Proofs.Ytllagpbbbdekiac.Fw
