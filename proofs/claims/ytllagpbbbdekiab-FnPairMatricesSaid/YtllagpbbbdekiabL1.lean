/- Contracts: letters of angles. -/
import Derived.Test.YtllagpbbbdekiabO2
namespace Go.Proofs.Ytllagpbbbdekiab.Fw
open Go Go.RowKit
set_option linter.unusedVariables false
set_option linter.unusedSimpArgs false
set_option maxRecDepth 100000
set_option maxHeartbeats 2000000
def letA (x t : Ang) : Int :=
  if 2 * x.1 * t.2 = t.1 * x.2 ∨ 2 * x.1 * t.2 = t.1 * x.2 + x.2 * t.2 then 42
  else if t.1 * x.2 < 2 * x.1 * t.2 ∧ 2 * x.1 * t.2 < t.1 * x.2 + x.2 * t.2 then 49 else 48
theorem dbl_letter {x t : Ang} (hx : IsA x) (ht : IsA t) : doubleA x = t ↔ (2 * x.1 * t.2 = t.1 * x.2 ∨ 2 * x.1 * t.2 = t.1 * x.2 + x.2 * t.2) := by
  have hf := hx.f
  have hg := ht.f
  have hd : IsF (doubleA x) := (IsA.double hx).f
  have e1 : 2 * x.1 * t.2 = t.1 * x.2 ↔ 2 * vA x = vA t := by
    have := @div_eq_div (2 * x.1) x.2 t.1 t.2 hf.1 hg.1
    rw [← this, Rat.intCast_mul]
    unfold vA
    have h2 : ((2 : Int) : Rat) = 2 := by decide +kernel
    rw [h2]
    have := rne hf.1
    constructor <;> intro h <;> grind
  have e2 : 2 * x.1 * t.2 = t.1 * x.2 + x.2 * t.2 ↔ 2 * vA x = vA t + 1 := by
    have := @div_eq_div (2 * x.1) x.2 (t.1 + t.2) t.2 hf.1 hg.1
    rw [show t.1 * x.2 + x.2 * t.2 = (t.1 + t.2) * x.2 by rw [Int.add_mul, Int.mul_comm x.2], ← this, Rat.intCast_mul, Rat.intCast_add]
    unfold vA
    have h2 : ((2 : Int) : Rat) = 2 := by decide +kernel
    rw [h2]
    have := rne hf.1
    have := rne hg.1
    constructor <;> intro h <;> grind
  rw [eq_v hd hg, v_double hf, e1, e2]
  have h1 := v_rng hf
  have h2 := v_rng hg
  split <;> grind
def letC : PCtr := fun _ _ _ vals k => match vals with
  | [.agg [.int .i64 n, .int .i64 d], .agg [.int .i64 m, .int .i64 e]] => (IsA (n, d) ∧ IsA (m, e)) ∧ k [] (.int .u8 (letA (n, d) (m, e)))
  | _ => False
theorem let_ok : PCtrOk Try.prog 64 letC where
  enter := enter_ok Try.func64 (by kernel_rfl) rfl
  calls := by
    intro hg rg lr vals k h
    unfold letC at h
    split at h
    case h_2 => exact h.elim
    rename_i n d m e
    obtain ⟨⟨hx, ht⟩, hk⟩ := h
    refine ⟨_, _, hk, fun A w _ _ => ?_⟩
    refine enter T_ok .nil Try.func64 rfl (K := (· < w.heap.size)) (fun _ h => h) (A := A) (n0 := 0) (b0 := 0) (rows := []) (hp := []) rfl (Nat.zero_le _) (fun k r h => by cases h) rfl (fun k r h => by cases h) rfl rfl (Nat.le_of_ble_eq_true rfl) ?_
    conv => whnf
    repeat (refine V_step T_ok .nil rfl ?_; conv => whnf)
    obtain ⟨h1, h2⟩ := hx.bd
    obtain ⟨h3, h4⟩ := ht.bd
    have u1 := mulBd h1.1 h1.2 (by omega) h4.2
    have u2 := mulBd h3.1 h3.2 (by omega) h2.2
    have u3 := mulBd (by omega) h2.2 (by omega) h4.2
    simp only at h1 h2 h3 h4 u1 u2 u3
    have e3 : 2 * n * e = 2 * (n * e) := Int.mul_assoc 2 n e
    repeat (any_goals (first
      | (refine V_step T_ok .nil rfl ?_; conv => whnf)
      | (refine V_drawA T_ok .nil mixed (by kernel_rfl) ?_; conv => whnf)
      | (refine bcond_split (fun hc => ?_) (fun hc => ?_) <;> (try simp only [decide_eq_true_eq, decide_eq_false_iff_not, Bool.not_eq_true', Bool.not_eq_false', Bool.and_eq_true, Bool.or_eq_true, Bool.and_eq_false_imp, Bool.or_eq_false_iff, ne_eq, Decidable.not_not] at hc) <;> conv => whnf)
      | (intro ysK hysK; have hysl := congrArg List.length hysK; (try simp only [List.length_set, List.length_append, List.length_cons, List.length_nil, List.length_take, List.length_drop, List.length_replicate] at hysl); conv => whnf)
      | (refine And.intro (by first | (first | exact True.intro | omega | (simp only [Rng, e3]; omega) | (simp only [Rng]; omega)) | exact True.intro | exact ⟨rfl, True.intro, fun _ _ => rfl⟩ | exact Nat.le_of_ble_eq_true rfl | (refine ⟨by (try simp only [List.length_cons, List.length_nil]); omega, Int.le_trans (Int.mul_le_mul_of_nonneg_left (show (TInfo.bytes _ : Int) ≤ 64 from Int.ofNat_le.2 (Nat.le_of_ble_eq_true rfl)) (by omega)) (by (try simp only [List.length_cons, List.length_nil]); omega)⟩)) ?_; conv => whnf)))
    all_goals refine leaf0 rfl (congrArg (AVal.int .u8) ?_) rfl
    all_goals (unfold letA; simp only; (repeat' split) <;> first | rfl | omega)
theorem sLet_ok : PCtrOk Try.prog 65 letC where
  enter := enter_ok Try.func65 (by kernel_rfl) rfl
  calls := by
    intro hg rg lr vals k h
    unfold letC at h
    split at h
    case h_2 => exact h.elim
    rename_i n d m e
    obtain ⟨⟨hx, ht⟩, hk⟩ := h
    refine ⟨_, _, hk, fun A w _ _ => ?_⟩
    refine enter T_ok (GOk.cons sDouble_ok .nil) Try.func65 rfl (K := (· < w.heap.size)) (fun _ h => h) (A := A) (n0 := 0) (b0 := 0) (rows := []) (hp := []) rfl (Nat.zero_le _) (fun k r h => by cases h) rfl (fun k r h => by cases h) rfl rfl (Nat.le_of_ble_eq_true rfl) ?_
    conv => whnf
    repeat (refine V_step T_ok (GOk.cons sDouble_ok .nil) rfl ?_; conv => whnf)
    have hdl := dbl_letter hx ht
    have hbx : Bd (n, d) := hx.bd
    obtain ⟨h1, h2⟩ := hx.bd
    obtain ⟨h3, h4⟩ := ht.bd
    have u1 := mulBd h1.1 h1.2 (by omega) h4.2
    have u2 := mulBd h3.1 h3.2 (by omega) h2.2
    have u3 := mulBd (by omega) h2.2 (by omega) h4.2
    simp only at h1 h2 h3 h4 u1 u2 u3 hdl
    have e3 : 2 * n * e = 2 * (n * e) := Int.mul_assoc 2 n e
    have e4 : 2 * e * n = 2 * (n * e) := by rw [Int.mul_assoc, Int.mul_comm e n]
    have e5 : (m + e) * d = m * d + d * e := by rw [Int.add_mul, Int.mul_comm e d]
    repeat (any_goals (first
      | (refine V_step T_ok (GOk.cons sDouble_ok .nil) rfl ?_; conv => whnf)
      | (refine V_drawA T_ok (GOk.cons sDouble_ok .nil) mixed (by kernel_rfl) ?_; conv => whnf)
      | (refine bcond_split (fun hc => ?_) (fun hc => ?_) <;> (try simp only [decide_eq_true_eq, decide_eq_false_iff_not, Bool.not_eq_true', Bool.not_eq_false', Bool.and_eq_true, Bool.or_eq_true, Bool.and_eq_false_imp, Bool.or_eq_false_iff, ne_eq, Decidable.not_not] at hc) <;> conv => whnf)
      | (intro ysK hysK; have hysl := congrArg List.length hysK; (try simp only [List.length_set, List.length_append, List.length_cons, List.length_nil, List.length_take, List.length_drop, List.length_replicate] at hysl); conv => whnf)
      | (refine And.intro (by first | (first | exact True.intro | exact hbx | omega | (simp only [Rng, e4, e5]; omega) | (simp only [Rng]; omega)) | exact True.intro | exact ⟨rfl, True.intro, fun _ _ => rfl⟩ | exact Nat.le_of_ble_eq_true rfl | (refine ⟨by (try simp only [List.length_cons, List.length_nil]); omega, Int.le_trans (Int.mul_le_mul_of_nonneg_left (show (TInfo.bytes _ : Int) ≤ 64 from Int.ofNat_le.2 (Nat.le_of_ble_eq_true rfl)) (by omega)) (by (try simp only [List.length_cons, List.length_nil]); omega)⟩)) ?_; conv => whnf)))
    · refine leaf0 rfl (congrArg (AVal.int .u8) ?_) rfl
      exact (if_pos (hdl.1 (Prod.ext hc.1 hc.2))).symm
    · rename_i h7 h8
      have hn := fun h => let h9 := hdl.2 h; h7 (congrArg Prod.fst h9) (congrArg Prod.snd h9)
      refine leaf0 rfl (congrArg (AVal.int .u8) ?_) rfl
      exact ((if_neg hn).trans (if_pos ⟨by show m * d < 2 * n * e; omega, by show 2 * n * e < m * d + d * e; omega⟩)).symm
    · rename_i h7 h8
      have hn := fun h => let h9 := hdl.2 h; h7 (congrArg Prod.fst h9) (congrArg Prod.snd h9)
      refine leaf0 rfl (congrArg (AVal.int .u8) ?_) rfl
      exact ((if_neg hn).trans (if_neg (fun h => by have h9 : 2 * n * e < m * d + d * e := h.2; omega))).symm
    · rename_i h7
      have hn := fun h => let h9 := hdl.2 h; h7 (congrArg Prod.fst h9) (congrArg Prod.snd h9)
      refine leaf0 rfl (congrArg (AVal.int .u8) ?_) rfl
      exact ((if_neg hn).trans (if_neg (fun h => by have h9 : m * d < 2 * n * e := h.1; omega))).symm
end Go.Proofs.Ytllagpbbbdekiab.Fw
