/- Contracts: what a minor leaf pulls back, both sides (under way). -/
import Derived.Test.YtllagpbbbdekiaaV4
namespace Go.Proofs.Ytllagpbbbdekiaa.Fw
open Go Go.RowKit
set_option linter.unusedVariables false
set_option linter.unusedSimpArgs false
set_option maxRecDepth 100000
set_option maxHeartbeats 2000000

theorem sDist_bd5 {a b : Ang} (ha : Sm a) (hb : Sm b) : Bd (sDistA a b) := by
  have u4 : 1 ≤ a.2 * b.2 := mulPos ha.2.1 hb.2.1
  have u3 : a.2 * b.2 ≤ 32768 * 32768 := Int.mul_le_mul ha.2.2 hb.2.2 (by have := hb.2.1; omega) (by decide)
  have b1 := ofQ_bd (b.1 * a.2 - a.1 * b.2) (a.2 * b.2) u4
  have b2 := ofQ_bd (-(ofQ (b.1 * a.2 - a.1 * b.2) (a.2 * b.2)).1) (ofQ (b.1 * a.2 - a.1 * b.2) (a.2 * b.2)).2 b1.2.1
  unfold sDistA
  split
  · unfold Bd; omega
  · unfold Bd; omega
def slB (xs ys : List Lf) : Bool := decide (lessA (sDistA (xs.getD 0 lT.dflt).1 (xs.getD 0 lT.dflt).2) (sDistA (ys.getD 0 lT.dflt).1 (ys.getD 0 lT.dflt).2))
def slC : PCtr := fun _ rg _ vals k => match vals with
  | [.row i, .row j] => rowC lT (rg i) fun xs => rowC lT (rg j) fun ys => ((List.length (α := Lf) xs = 2 ∧ ∀ x ∈ (xs : List Lf), SmL x) ∧ List.length (α := Lf) ys = 2 ∧ ∀ x ∈ (ys : List Lf), SmL x) ∧ k [] (.bool (slB xs ys))
  | _ => False
abbrev GSl := GOk.cons sDist_ok (GOk.cons sLess_ok .nil)
theorem sl_ok : PCtrOk Try.prog 53 slC where
  enter := enter_ok Try.func53 (by kernel_rfl) rfl
  calls := by
    intro hg rg lr vals k h
    unfold slC at h
    split at h
    case h_2 => exact h.elim
    rename_i i j
    obtain ⟨e, own, xs, hi, h⟩ : ∃ e own, ∃ (xs : List Lf), _ := rowC_inv h
    obtain ⟨e2, own2, ys, hj, h⟩ : ∃ e own, ∃ (xs : List Lf), _ := rowC_inv h
    obtain ⟨⟨⟨hx, hxs⟩, hy, hys⟩, hk⟩ := h
    refine ⟨_, _, hk, fun A w hB hR => ?_⟩
    refine enter T_ok GSl Try.func53 rfl (K := (· < w.heap.size)) (fun _ h => h) (A := A.pick [] [i, j]) (vals := [.row 0, .row 1]) (n0 := 0) (b0 := 0) (rows := [some ⟨lT, e, false, xs⟩, some ⟨lT, e2, false, ys⟩]) (hp := []) rfl (Nat.zero_le _) no_box rfl (two_rows (hR i _ hi) (hR j _ hj)) rfl rfl (Nat.le_of_ble_eq_true rfl) ?_
    conv => whnf
    repeat (refine V_step T_ok GSl rfl ?_; conv => whnf)
    have hx : List.length (α := Lf) xs = 2 := hx
    have hy : List.length (α := Lf) ys = 2 := hy
    have s0 : SmL (List.getD (α := Lf) xs (Int.toNat 0) lT.dflt) := hxs _ (getD_mem (by rw [hx]; decide))
    have s1 : SmL (List.getD (α := Lf) ys (Int.toNat 0) lT.dflt) := hys _ (getD_mem (by rw [hy]; decide))
    have x0 : (0 : Int) ≤ 0 ∧ (0 : Int) < (List.length (α := Lf) xs : Int) := by omega
    have x1 : (0 : Int) ≤ 0 ∧ (0 : Int) < (List.length (α := Lf) ys : Int) := by omega
    have y0 : Int.toNat 0 < List.length (α := Lf) xs := by rw [hx]; decide
    have y1 : Int.toNat 0 < List.length (α := Lf) ys := by rw [hy]; decide
    have b0 := sDist_bd5 s0.1 s0.2
    have b1 := sDist_bd5 s1.1 s1.2
    repeat (any_goals (first
      | (refine V_step T_ok GSl rfl ?_; conv => whnf)
      | (refine V_drawN T_ok GSl mixed (by kernel_rfl) ?_; conv => whnf)
      | (refine bcond_split (fun hc => ?_) (fun hc => ?_) <;> (try simp only [decide_eq_true_eq, decide_eq_false_iff_not, Bool.not_eq_true', Bool.not_eq_false', Bool.and_eq_true, Bool.or_eq_true, Bool.and_eq_false_imp, Bool.or_eq_false_iff, ne_eq, Decidable.not_not] at hc) <;> conv => whnf)
      | (intro ysK hysK; have hysl := congrArg List.length hysK; (try simp only [List.length_set, List.length_append, List.length_cons, List.length_nil, List.length_take, List.length_drop, List.length_replicate] at hysl); conv => whnf)
      | (intro bK hbK; have hbl := congrArg ByteArray.size hbK; conv => whnf)
      | (intro sK hsK; conv => whnf)
      | (refine And.intro (by first | (first | exact True.intro | exact x0 | exact x1 | exact y0 | exact y1 | exact s0 | exact s1 | exact ⟨b0, b1⟩) | exact True.intro | exact ⟨rfl, True.intro, fun _ _ => rfl⟩ | exact Nat.le_of_ble_eq_true rfl | (refine ⟨by (try simp only [List.length_cons, List.length_nil]); omega, Int.le_trans (Int.mul_le_mul_of_nonneg_left (show (TInfo.bytes _ : Int) ≤ 64 from Int.ofNat_le.2 (Nat.le_of_ble_eq_true rfl)) (by omega)) (by (try simp only [List.length_cons, List.length_nil]); omega)⟩)) ?_; conv => whnf)))
    all_goals exact leaf0 rfl rfl rfl
end Go.Proofs.Ytllagpbbbdekiaa.Fw
-- %intro
