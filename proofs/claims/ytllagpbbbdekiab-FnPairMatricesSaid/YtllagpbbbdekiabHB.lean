/- The law of the longest leaf, walked. -/
import Derived.Test.YtllagpbbbdekiabHA
import Derived.Test.YtllagpbbbdekiabGE
namespace Go.Proofs.Ytllagpbbbdekiab.Fw
open Go Go.RowKit
set_option linter.unusedVariables false
set_option linter.unusedSimpArgs false
set_option maxRecDepth 100000
set_option maxHeartbeats 2000000
theorem PCtrOk.congr {P : Program} {f : FuncId} {c c' : PCtr} (h : PCtrOk P f c) (hc : ∀ hg rg lr vals k, c' hg rg lr vals k → c hg rg lr vals k) : PCtrOk P f c' where
  enter := h.enter
  calls := fun hg rg lr vals k h' => h.calls hg rg lr vals k (hc _ _ _ _ _ h')
end Go.Proofs.Ytllagpbbbdekiab.Fw
namespace Go.Proofs.Ytllagpbbbdekiab.Fw
open Go Go.RowKit
set_option linter.unusedVariables false
set_option linter.unusedSimpArgs false
set_option maxRecDepth 100000
set_option maxHeartbeats 2000000
theorem Sm.double {a : Ang} (h : Sm a) : Sm (doubleA a) := by
  have := ofQ_bd (2 * a.1) a.2 h.2.1
  unfold Sm at h
  unfold Sm doubleA
  omega
end Go.Proofs.Ytllagpbbbdekiab.Fw
namespace Go.Proofs.Ytllagpbbbdekiab.Fw
open Go Go.RowKit
set_option linter.unusedVariables false
set_option linter.unusedSimpArgs false
set_option maxRecDepth 100000
set_option maxHeartbeats 2000000
theorem sDouble_ok : PCtrOk Try.prog 62 doubleC where
  enter := enter_ok Try.func62 (by kernel_rfl) rfl
  calls := by
    intro hg rg lr vals k h
    unfold doubleC at h
    split at h
    case h_2 => exact h.elim
    rename_i n d
    obtain ⟨hn, hk⟩ := h
    refine ⟨_, _, hk, fun A w _ _ => ?_⟩
    refine enter T_ok (GOk.cons sOf_ok .nil) Try.func62 rfl (K := (· < w.heap.size)) (fun _ h => h) (A := A) (n0 := 0) (b0 := 0) (rows := []) (hp := []) rfl (Nat.zero_le _) (fun k r h => by cases h) rfl (fun k r h => by cases h) rfl rfl (Nat.le_of_ble_eq_true rfl) ?_
    conv => whnf
    repeat (refine V_step T_ok (GOk.cons sOf_ok .nil) rfl ?_; conv => whnf)
    obtain ⟨h1, h2⟩ := hn
    simp only at h1 h2
    repeat (any_goals (first
      | (refine V_step T_ok (GOk.cons sOf_ok .nil) rfl ?_; conv => whnf)
      | (refine V_drawA T_ok (GOk.cons sOf_ok .nil) mixed (by kernel_rfl) ?_; conv => whnf)
      | (refine bcond_split (fun hc => ?_) (fun hc => ?_) <;> (try simp only [decide_eq_true_eq, decide_eq_false_iff_not, Bool.not_eq_true', Bool.not_eq_false', Bool.and_eq_true, Bool.or_eq_true, Bool.and_eq_false_imp, Bool.or_eq_false_iff, ne_eq, Decidable.not_not] at hc) <;> conv => whnf)
      | (intro ysK hysK; have hysl := congrArg List.length hysK; (try simp only [List.length_set, List.length_append, List.length_cons, List.length_nil, List.length_take, List.length_drop, List.length_replicate] at hysl); conv => whnf)
      | (refine And.intro (by first | exact True.intro | (with_reducible assumption) | omega | (simp only [Rng]; omega) | exact Nat.le_of_ble_eq_true rfl | exact True.intro | exact ⟨rfl, True.intro, fun _ _ => rfl⟩ | exact Nat.le_of_ble_eq_true rfl | (refine ⟨by (try simp only [List.length_cons, List.length_nil]); omega, Int.le_trans (Int.mul_le_mul_of_nonneg_left (show (TInfo.bytes _ : Int) ≤ 64 from Int.ofNat_le.2 (Nat.le_of_ble_eq_true rfl)) (by omega)) (by (try simp only [List.length_cons, List.length_nil]); omega)⟩)) ?_; conv => whnf)))
    all_goals exact leaf0 rfl rfl rfl
end Go.Proofs.Ytllagpbbbdekiab.Fw
namespace Go.Proofs.Ytllagpbbbdekiab.Fw
open Go Go.RowKit
set_option linter.unusedVariables false
set_option linter.unusedSimpArgs false
set_option maxRecDepth 100000
set_option maxHeartbeats 2000000
end Go.Proofs.Ytllagpbbbdekiab.Fw
namespace Go.Proofs.Ytllagpbbbdekiab.Fw
set_option linter.unusedVariables false
set_option linter.unusedSimpArgs false
end Go.Proofs.Ytllagpbbbdekiab.Fw
namespace Go.Proofs.Ytllagpbbbdekiab.Fw
open Go Go.RowKit
set_option linter.unusedVariables false
set_option linter.unusedSimpArgs false
set_option maxRecDepth 100000
set_option maxHeartbeats 2000000
end Go.Proofs.Ytllagpbbbdekiab.Fw
namespace Go.Proofs.Ytllagpbbbdekiab.Fw
open Go Go.RowKit
set_option linter.unusedVariables false
set_option linter.unusedSimpArgs false
set_option maxRecDepth 100000
set_option maxHeartbeats 2000000
end Go.Proofs.Ytllagpbbbdekiab.Fw
namespace Go.Proofs.Ytllagpbbbdekiab.Fw
open Go Go.RowKit
set_option linter.unusedVariables false
set_option linter.unusedSimpArgs false
set_option maxRecDepth 100000
set_option maxHeartbeats 2000000
end Go.Proofs.Ytllagpbbbdekiab.Fw
namespace Go.Proofs.Ytllagpbbbdekiab.Fw
open Go Go.RowKit
set_option linter.unusedVariables false
set_option linter.unusedSimpArgs false
set_option maxRecDepth 100000
set_option maxHeartbeats 2000000
theorem ofQ_isA (n d : Int) (hd : 1 ≤ d) (h : d ≤ 8191) : IsA (ofQ n d) := by
  have h1 := ofQ_bd n d hd
  exact ⟨⟨h1.2.1, by omega⟩, h1.1, by rw [ofQ_gcd n d hd]; rfl⟩
theorem IsA.double {a : Ang} (h : IsA a) : IsA (doubleA a) := ofQ_isA _ _ h.1.1 h.1.2
end Go.Proofs.Ytllagpbbbdekiab.Fw
namespace Go.Proofs.Ytllagpbbbdekiab.Fw
set_option linter.unusedVariables false
set_option linter.unusedSimpArgs false
def vA (a : Ang) : Rat := (a.1 : Rat) / (a.2 : Rat)
def IsF (a : Ang) : Prop := 1 ≤ a.2 ∧ 0 ≤ a.1 ∧ a.1 < a.2 ∧ Int.gcd a.2 a.1 = 1
theorem IsA.f {a : Ang} (h : IsA a) : IsF a := ⟨h.1.1, h.2.1.1, by have := h.2.1.2; omega, by have := h.2.2; omega⟩
theorem ofQ_f (n d : Int) (hd : 1 ≤ d) : IsF (ofQ n d) := by
  have h := ofQ_bd n d hd
  exact ⟨h.2.1, h.1.1, by omega, ofQ_gcd n d hd⟩
theorem rpos {d : Int} (h : 1 ≤ d) : (0 : Rat) < (d : Rat) := Rat.intCast_pos.2 (by omega)
theorem div_lt_div {n d m e : Int} (hd : 1 ≤ d) (he : 1 ≤ e) : (n : Rat) / d < (m : Rat) / e ↔ n * e < m * d := by
  have h1 := rpos hd
  have h2 := rpos he
  rw [Rat.div_lt_iff h1, Rat.div_def, Rat.mul_assoc, Rat.mul_comm _ (d : Rat), ← Rat.mul_assoc, ← Rat.div_def, Rat.lt_div_iff h2, ← Rat.intCast_mul, ← Rat.intCast_mul, Rat.intCast_lt_intCast]
theorem div_eq_div {n d m e : Int} (hd : 1 ≤ d) (he : 1 ≤ e) : (n : Rat) / d = (m : Rat) / e ↔ n * e = m * d := by
  have h1 := @div_lt_div n d m e hd he
  have h2 := @div_lt_div m e n d he hd
  constructor
  · intro h; rw [h] at h1 h2
    have := Rat.lt_irrefl (a := (m : Rat) / e)
    have h3 := mt h1.2 this
    have h4 := mt h2.2 this
    omega
  · intro h
    have h3 : ¬ (n : Rat) / d < (m : Rat) / e := fun h' => by have := h1.1 h'; omega
    have h4 : ¬ (m : Rat) / e < (n : Rat) / d := fun h' => by have := h2.1 h'; omega
    grind
theorem eq_v {a b : Ang} (ha : IsF a) (hb : IsF b) : a = b ↔ vA a = vA b :=
  ⟨fun h => by rw [h], fun h => frac_eq ha.1 hb.1 ha.2.2.2 hb.2.2.2 ((div_eq_div ha.1 hb.1).1 h)⟩
theorem v_rng {a : Ang} (h : IsF a) : 0 ≤ vA a ∧ vA a < 1 := by
  have h1 : ¬ (vA a < ((0 : Int) : Rat) / ((1 : Int) : Rat)) := fun h' => by have := (div_lt_div h.1 (by omega)).1 h'; have := h.2.1; omega
  have h2 : vA a < ((1 : Int) : Rat) / ((1 : Int) : Rat) := (div_lt_div h.1 (by omega)).2 (by have := h.2.2.1; omega)
  have e0 : ((0 : Int) : Rat) / ((1 : Int) : Rat) = 0 := by decide +kernel
  have e1 : ((1 : Int) : Rat) / ((1 : Int) : Rat) = 1 := by decide +kernel
  rw [e0] at h1
  rw [e1] at h2
  grind
theorem v_ofQ (n d : Int) (hd : 1 ≤ d) : vA (ofQ n d) = ((n % d : Int) : Rat) / (d : Rat) :=
  (div_eq_div (ofQ_bd n d hd).2.1 hd).2 (ofQ_cross n d hd)
theorem rne {d : Int} (hd : 1 ≤ d) : (d : Rat) ≠ 0 := fun h => by have := rpos hd; rw [h] at this; exact Rat.lt_irrefl this
theorem v_ofQ_k (n d k : Int) (hd : 1 ≤ d) (h1 : k * d ≤ n) (h2 : n < (k + 1) * d) : vA (ofQ n d) = (n : Rat) / (d : Rat) - (k : Rat) := by
  rw [v_ofQ n d hd]
  have e : n % d = n - k * d := by
    rw [show n = n - k * d + k * d by omega, Int.add_mul_emod_self_right]
    rw [Int.add_mul] at h2
    rw [Int.emod_eq_of_lt (by omega) (by omega)]; omega
  have h := rne hd
  rw [e, Rat.intCast_sub, Rat.intCast_mul]
  grind
theorem v_double {a : Ang} (h : IsF a) : vA (doubleA a) = if vA a < 1 / 2 then 2 * vA a else 2 * vA a - 1 := by
  have hh : vA a < 1 / 2 ↔ a.1 * 2 < 1 * a.2 := by
    have := @div_lt_div a.1 a.2 1 2 h.1 (by omega)
    rw [show (((1 : Int) : Rat) / ((2 : Int) : Rat)) = 1 / 2 by decide +kernel] at this
    exact this
  have e : ((2 * a.1 : Int) : Rat) / (a.2 : Rat) = 2 * vA a := by
    unfold vA; rw [Rat.intCast_mul, Rat.div_def, Rat.div_def, Rat.mul_assoc]; rfl
  unfold doubleA
  have h0 := h.1
  have h2 := h.2.1
  have h3 := h.2.2.1
  split
  · rename_i h1
    rw [hh] at h1
    rw [v_ofQ_k (2 * a.1) a.2 0 h.1 (by omega) (by omega), e]
    grind
  · rename_i h1
    rw [hh] at h1
    rw [v_ofQ_k (2 * a.1) a.2 1 h.1 (by omega) (by omega), e]
    grind
theorem double_f {a : Ang} (ha : IsF a) : IsF (doubleA a) := ofQ_f _ _ ha.1
end Go.Proofs.Ytllagpbbbdekiab.Fw
namespace Go.Proofs.Ytllagpbbbdekiab.Fw
set_option linter.unusedVariables false
set_option linter.unusedSimpArgs false
def halfA (a : Ang) : Ang := ofQ a.1 (2 * a.2)
def half2A (a : Ang) : Ang := ofQ (a.1 + a.2) (2 * a.2)
def LimL (l : Lf) : Prop := l.1.2 ≤ 8191 ∧ l.2.2 ≤ 8191
instance (l : Lf) : Decidable (LimL l) := by unfold LimL; infer_instance
def IsFL (l : Lf) : Prop := IsF l.1 ∧ IsF l.2
theorem IsL.f {l : Lf} (h : IsL l) : IsFL l := ⟨h.1.f, h.2.1.f⟩
def okHalf (a : Ang) : Prop := (halfA a).2 ≤ 8191 ∧ (half2A a).2 ≤ 8191
instance (a : Ang) : Decidable (okHalf a) := by unfold okHalf; infer_instance
end Go.Proofs.Ytllagpbbbdekiab.Fw
namespace Go.Proofs.Ytllagpbbbdekiab.Fw
set_option linter.unusedVariables false
set_option linter.unusedSimpArgs false
def ShortL (l : Lf) : Prop := ¬ 0 < cmpA (sizeL l) (1, 3)
instance (l : Lf) : Decidable (ShortL l) := by unfold ShortL; infer_instance
end Go.Proofs.Ytllagpbbbdekiab.Fw
namespace Go.Proofs.Ytllagpbbbdekiab.Fw
set_option linter.unusedVariables false
set_option linter.unusedSimpArgs false
end Go.Proofs.Ytllagpbbbdekiab.Fw
