/- The law of the longest leaf, walked. -/
import Derived.Test.YtlplngafncobkaaM3
namespace Go.Proofs.Ytlplngafncobkaa.Fw
open Go Go.RowKit
set_option linter.unusedVariables false
set_option linter.unusedSimpArgs false
set_option maxRecDepth 100000
set_option maxHeartbeats 2000000

theorem PCtrOk.congr {P : Program} {f : FuncId} {c c' : PCtr} (h : PCtrOk P f c) (hc : ∀ hg rg lr vals k, c' hg rg lr vals k → c hg rg lr vals k) : PCtrOk P f c' where
  enter := h.enter
  calls := fun hg rg lr vals k h' => h.calls hg rg lr vals k (hc _ _ _ _ _ h')

def lgF (xs : List Lf) : Lf := if lamL xs = true then (if xs = [] then dL else xs.foldl longerI (xs.getD 0 dL)) else dL
def lgC (xs : List Lf) : Int := if lamL xs = true then (if xs = [] then 5 else 0) else 1
theorem longestR_tup (xs : List Lf) : longestR xs = .tup [lV (lgF xs), .int .i64 (lgC xs)] := by
  unfold longestR lgF lgC
  split
  · split <;> rfl
  · rfl
def longC : PCtr := fun _ rg _ vals k => match vals with
  | [.row i] => rowC lT (rg i) fun xs => k [] (.tup [lV (lgF xs), .int .i64 (lgC xs)])
  | _ => False
theorem longI_ok : PCtrOk Try.prog 17 longC := longest_ok.congr fun hg rg lr vals k h => by
  unfold longC at h
  split at h
  case h_2 => exact h.elim
  rename_i i
  obtain ⟨e, own, xs, hi, h⟩ : ∃ e own, ∃ (xs : List Lf), _ := rowC_inv h
  show rowC lT (rg i) _
  rw [hi]
  exact ⟨trivial, by rw [longestR_tup]; exact h⟩
theorem longS_ok : PCtrOk Try.prog 15 longC := longestS_ok.congr fun hg rg lr vals k h => by
  unfold longC at h
  split at h
  case h_2 => exact h.elim
  rename_i i
  obtain ⟨e, own, xs, hi, h⟩ : ∃ e own, ∃ (xs : List Lf), _ := rowC_inv h
  show rowC lT (rg i) _
  rw [hi]
  exact ⟨trivial, by rw [← longest_eq, longestR_tup]; exact h⟩

def lawC : PCtr := fun _ rg _ vals k => match vals with
  | [.row i] => rowC lT (rg i) fun xs => True ∧ k [] (.bool true)
  | _ => False

abbrev GL := GOk.cons sz_ok (GOk.cons toLs_ok (GOk.cons longI_ok (GOk.cons longS_ok (GOk.cons eqLeaf_ok (GOk.cons eqLs_ok .nil)))))
theorem law_ok : PCtrOk Try.prog 3 lawC where
  enter := enter_ok Try.func3 (by kernel_rfl) rfl
  calls := by
    intro hg rg lr vals k h
    unfold lawC at h
    split at h
    case h_2 => exact h.elim
    rename_i i
    obtain ⟨e, own, xs, hi, h⟩ : ∃ e own, ∃ (xs : List Lf), _ := rowC_inv h
    have hk := h.2
    refine ⟨_, _, hk, fun A w hB hR => ?_⟩
    refine enter T_ok GL Try.func3 rfl (K := (· < w.heap.size)) (fun _ h => h) (A := A.pick [] [i]) (vals := [.row 0]) (n0 := 0) (b0 := 0) (rows := [some ⟨lT, e, false, xs⟩]) (hp := []) rfl (Nat.zero_le _) no_box rfl (one_row (hR i _ hi)) rfl rfl (Nat.le_of_ble_eq_true rfl) ?_
    conv => whnf
    repeat (refine V_step T_ok GL rfl ?_; conv => whnf)
    repeat (any_goals (first
      | (refine V_step T_ok GL rfl ?_; conv => whnf)
      | (refine V_drawA T_ok GL mixed (by kernel_rfl) ?_; conv => whnf)
      | (refine bcond_split (fun hc => ?_) (fun hc => ?_) <;> (try simp only [decide_eq_true_eq, decide_eq_false_iff_not, Bool.not_eq_true', Bool.not_eq_false', Bool.and_eq_true, Bool.or_eq_true, Bool.and_eq_false_imp, Bool.or_eq_false_iff, ne_eq, Decidable.not_not] at hc) <;> conv => whnf)
      | (intro ysK hysK; have hysl := congrArg List.length hysK; (try simp only [List.length_set, List.length_append, List.length_cons, List.length_nil] at hysl); conv => whnf)
      | (refine And.intro (by first | exact True.intro | (with_reducible assumption) | omega | (simp only [Rng]; omega) | exact Nat.le_of_ble_eq_true rfl | exact True.intro | exact Nat.le_of_ble_eq_true rfl | (refine ⟨by (try simp only [List.length_cons, List.length_nil]); omega, Int.le_trans (Int.mul_le_mul_of_nonneg_left (show (TInfo.bytes _ : Int) ≤ 64 from Int.ofNat_le.2 (Nat.le_of_ble_eq_true rfl)) (by omega)) (by (try simp only [List.length_cons, List.length_nil]); omega)⟩)) ?_; conv => whnf)))
    · exact leaf0 rfl rfl rfl
    · exact absurd trivial hc
    · exact absurd trivial hc
    · simp [eqLs] at hc
    · exact leaf0 rfl rfl rfl

end Go.Proofs.Ytlplngafncobkaa.Fw
