/- Contracts: the reference's orbits of at most seven angles, separated pairs. -/
import Derived.Test.YtllagpbbbdekiabL1
namespace Go.Proofs.Ytllagpbbbdekiab.Fw
open Go Go.RowKit
set_option linter.unusedVariables false
set_option linter.unusedSimpArgs false
set_option maxRecDepth 100000
set_option maxHeartbeats 2000000
theorem let_3 (x t : Ang) : letA x t = 42 ∨ letA x t = 48 ∨ letA x t = 49 := by
  unfold letA; (repeat' split) <;> simp
def apB (x y t : Ang) : Bool := (decide (letA x t = 48) && decide (letA y t = 49)) || (decide (letA x t = 49) && decide (letA y t = 48))
def apC : PCtr := fun _ _ _ vals k => match vals with
  | [.agg [.int .i64 n, .int .i64 d], .agg [.int .i64 m, .int .i64 e], .agg [.int .i64 p, .int .i64 q]] => (IsA (n, d) ∧ IsA (m, e) ∧ IsA (p, q)) ∧ k [] (.bool (apB (n, d) (m, e) (p, q)))
  | _ => False
theorem sAp_ok : PCtrOk Try.prog 36 apC where
  enter := enter_ok Try.func36 (by kernel_rfl) rfl
  calls := by
    intro hg rg lr vals k h
    unfold apC at h
    split at h
    case h_2 => exact h.elim
    rename_i n d m e p q
    obtain ⟨⟨hx, hy, ht⟩, hk⟩ := h
    refine ⟨_, _, hk, fun A w _ _ => ?_⟩
    refine enter T_ok (GOk.cons sLet_ok .nil) Try.func36 rfl (K := (· < w.heap.size)) (fun _ h => h) (A := A) (n0 := 0) (b0 := 0) (rows := []) (hp := []) rfl (Nat.zero_le _) (fun k r h => by cases h) rfl (fun k r h => by cases h) rfl rfl (Nat.le_of_ble_eq_true rfl) ?_
    conv => whnf
    repeat (refine V_step T_ok (GOk.cons sLet_ok .nil) rfl ?_; conv => whnf)
    have e0 : apB (n, d) (m, e) (p, q) = ((decide (letA (n, d) (p, q) = 48) && decide (letA (m, e) (p, q) = 49)) || (decide (letA (n, d) (p, q) = 49) && decide (letA (m, e) (p, q) = 48))) := rfl
    rw [e0]
    clear e0
    repeat (any_goals (first
      | (refine V_step T_ok (GOk.cons sLet_ok .nil) rfl ?_; conv => whnf)
      | (refine V_drawA T_ok (GOk.cons sLet_ok .nil) mixed (by kernel_rfl) ?_; conv => whnf)
      | (refine bcond_split (fun hc => ?_) (fun hc => ?_) <;> (try simp only [decide_eq_true_eq, decide_eq_false_iff_not, Bool.not_eq_true', Bool.not_eq_false', Bool.and_eq_true, Bool.or_eq_true, Bool.and_eq_false_imp, Bool.or_eq_false_iff, ne_eq, Decidable.not_not] at hc) <;> conv => whnf)
      | (intro ysK hysK; have hysl := congrArg List.length hysK; (try simp only [List.length_set, List.length_append, List.length_cons, List.length_nil, List.length_take, List.length_drop, List.length_replicate] at hysl); conv => whnf)
      | (refine And.intro (by first | (first | exact True.intro | exact ⟨hx, ht⟩ | exact ⟨hy, ht⟩) | exact True.intro | exact ⟨rfl, True.intro, fun _ _ => rfl⟩ | exact Nat.le_of_ble_eq_true rfl | (refine ⟨by (try simp only [List.length_cons, List.length_nil]); omega, Int.le_trans (Int.mul_le_mul_of_nonneg_left (show (TInfo.bytes _ : Int) ≤ 64 from Int.ofNat_le.2 (Nat.le_of_ble_eq_true rfl)) (by omega)) (by (try simp only [List.length_cons, List.length_nil]); omega)⟩)) ?_; conv => whnf)))
    all_goals refine leaf0 rfl (congrArg AVal.bool ?_) rfl
    all_goals (generalize letA (n, d) (p, q) = u at *; generalize letA (m, e) (p, q) = v at *)
    all_goals (simp_all)
def ok8 (x : Ang) : Prop := orbB x = true ∧ ((orbX x).length : Int) ≤ 7
instance (x : Ang) : Decidable (ok8 x) := by unfold ok8; infer_instance
def orb8 (x : Ang) : List Ang := if IsA x ∧ ok8 x then orbX x else []
def orbN8 (x : Ang) : Int := if IsA x then (if ok8 x then 0 else 2) else 1
def orb8C : PCtr := fun _ _ lr vals k => match vals with
  | [.agg [.int .i64 n, .int .i64 d]] => True ∧ ∀ ys, ys = orb8 (n, d) → k [⟨aT, 25, true, ys⟩] (.tup [.row lr, .int .i64 (orbN8 (n, d))])
  | _ => False
abbrev GO8 := GOk.cons sIs_ok (GOk.cons sOrbit_ok .nil)
theorem sOrb8_ok : PCtrOk Try.prog 30 orb8C where
  enter := enter_ok Try.func30 (by kernel_rfl) rfl
  calls := by
    intro hg rg lr vals k h
    unfold orb8C at h
    split at h
    case h_2 => exact h.elim
    rename_i n d
    obtain ⟨_, hk⟩ := h
    replace hk := hk _ rfl
    refine ⟨_, _, hk, fun A w _ _ => ?_⟩
    refine enter T_ok GO8 Try.func30 rfl (K := (· < w.heap.size)) (fun _ h => h) (A := A) (n0 := 0) (b0 := 0) (rows := []) (hp := []) rfl (Nat.zero_le _) (fun k r h => by cases h) rfl (fun k r h => by cases h) rfl rfl (Nat.le_of_ble_eq_true rfl) ?_
    conv => whnf
    repeat (refine V_step T_ok GO8 rfl ?_; conv => whnf)
    repeat (any_goals (first
      | (refine V_step T_ok GO8 rfl ?_; conv => whnf)
      | (refine V_drawA T_ok GO8 mixed (by kernel_rfl) ?_; conv => whnf)
      | (refine bcond_split (fun hc => ?_) (fun hc => ?_) <;> (try simp only [decide_eq_true_eq, decide_eq_false_iff_not, Bool.not_eq_true', Bool.not_eq_false', Bool.and_eq_true, Bool.or_eq_true, Bool.and_eq_false_imp, Bool.or_eq_false_iff, ne_eq, Decidable.not_not] at hc) <;> conv => whnf)
      | (intro ysK hysK; have hysl := congrArg List.length hysK; (try simp only [List.length_set, List.length_append, List.length_cons, List.length_nil, List.length_take, List.length_drop, List.length_replicate] at hysl); conv => whnf)
      | (refine And.intro (by first | (first | exact True.intro | (with_reducible assumption)) | exact True.intro | exact ⟨rfl, True.intro, fun _ _ => rfl⟩ | exact Nat.le_of_ble_eq_true rfl | (refine ⟨by (try simp only [List.length_cons, List.length_nil]); omega, Int.le_trans (Int.mul_le_mul_of_nonneg_left (show (TInfo.bytes _ : Int) ≤ 64 from Int.ofNat_le.2 (Nat.le_of_ble_eq_true rfl)) (by omega)) (by (try simp only [List.length_cons, List.length_nil]); omega)⟩)) ?_; conv => whnf)))
    · refine leafN rfl (by rw [orb8, if_neg (fun h => hc h.1)]) (fun B C h => ?_)
      simp [AVal.den, dens, h, orbN8, hc, Hdr.val]
    · rename_i ha
      have hc : orbB (n, d) = false := hc
      have h8 : ¬ ok8 (n, d) := fun h => by have := h.1; rw [hc] at this; cases this
      refine leafN rfl (by rw [orb8, if_neg (fun h => h8 h.2)]) (fun B C h => ?_)
      simp [AVal.den, dens, h, orbN8, ha, h8, Hdr.val]
    · rename_i ha hb
      have hc : (7 : Int) < ((orbX (n, d)).length : Int) := hc
      have h8 : ¬ ok8 (n, d) := fun h => by have := h.2; omega
      refine leafN rfl (by rw [orb8, if_neg (fun h => h8 h.2)]) (fun B C h => ?_)
      simp [AVal.den, dens, h, orbN8, ha, h8, Hdr.val]
    · rename_i ha hb
      have hc : ¬ (7 : Int) < ((orbX (n, d)).length : Int) := hc
      have hb : orbB (n, d) = true := hb
      have h8 : ok8 (n, d) := ⟨hb, by omega⟩
      refine leaf1 0 rfl rfl (by rw [orb8, if_pos ⟨ha, h8⟩]) rfl (fun B C h => ?_)
      simp [AVal.den, dens, h, orbN8, ha, h8]
end Go.Proofs.Ytllagpbbbdekiab.Fw
