/- Contracts: a minor leaf that is asked for. -/
import Derived.Test.YtllagpbbbdekiaaE8
namespace Go.Proofs.Ytllagpbbbdekiaa.Fw
open Go Go.RowKit
set_option linter.unusedVariables false
set_option linter.unusedSimpArgs false
set_option maxRecDepth 100000
set_option maxHeartbeats 2000000

def miZ (c : Int) : Mi := ⟨((0, 0), (0, 0)), [], [], 0, c⟩
@[irreducible] def mlR (ok : Bool) (m : Lf) : Mi := if ok = true then (if (miR m).c = 0 then (if (miR m).f = 0 then miR m else miZ 5) else miZ (miR m).c) else miZ 1
theorem mlR_1 {ok : Bool} {m : Lf} (h : ok = false) : mlR ok m = miZ 1 := by unfold mlR; rw [h]; rfl
theorem mlR_2 {ok : Bool} {m : Lf} (h : ok = true) (h2 : ¬ (miR m).c = 0) : mlR ok m = miZ (miR m).c := by unfold mlR; rw [if_pos h, if_neg h2]
theorem mlR_3 {ok : Bool} {m : Lf} (h : ok = true) (h2 : (miR m).c = 0) (h3 : ¬ (miR m).f = 0) : mlR ok m = miZ 5 := by unfold mlR; rw [if_pos h, if_pos h2, if_neg h3]
theorem mlR_4 {ok : Bool} {m : Lf} (h : ok = true) (h2 : (miR m).c = 0) (h3 : (miR m).f = 0) : mlR ok m = miR m := by unfold mlR; rw [if_pos h, if_pos h2, if_pos h3]
theorem ifl {b : Bool} (h : (if b = true then (0 : Int) else 1) = 0) : b = true := by cases b <;> simp_all
theorem ifl' {b : Bool} (h : ¬ (if b = true then (0 : Int) else 1) = 0) : b = false := by cases b <;> simp_all
def mnlC : PCtr := fun _ rg lr vals k => match vals with
  | [.agg [.int .i64 n, .int .i64 d, .int .i64 m, .int .i64 e], .bool b, .row r] => rowC lT (rg r) fun xs => b = true ∧ ∀ q : Mi, q = mlR ((xs : List Lf).all allLY) ((n, d), (m, e)) → k [⟨lT, 31, true, q.i⟩, ⟨lT, 31, true, q.j⟩] (.tup [.agg [.int .i64 q.l.1.1, .int .i64 q.l.1.2, .int .i64 q.l.2.1, .int .i64 q.l.2.2, .row lr, .row (lr + 1), .int .i64 q.f], .int .i64 q.c])
  | _ => False
abbrev GMl := GOk.cons leavesCode_ok (GOk.cons isLeaf_ok (GOk.cons minor_ok .nil))
theorem mnl_ok : PCtrOk Try.prog 25 mnlC where
  enter := enter_ok Try.func25 (by kernel_rfl) rfl
  calls := by
    intro hg rg lr vals k h
    unfold mnlC at h
    split at h
    case h_2 => exact h.elim
    rename_i n d m e b r
    obtain ⟨e', own, xs, hr, h⟩ : ∃ e own, ∃ (xs : List Lf), _ := rowC_inv h
    obtain ⟨rfl, hk⟩ := h
    replace hk := hk _ rfl
    refine ⟨_, _, hk, fun A w hB hR => ?_⟩
    refine enter T_ok GMl Try.func25 rfl (K := (· < w.heap.size)) (fun _ h => h) (A := A.pick [] [r]) (vals := [.agg [.int .i64 n, .int .i64 d, .int .i64 m, .int .i64 e], .bool true, .row 0]) (n0 := 0) (b0 := 0) (rows := [some ⟨lT, e', false, xs⟩]) (hp := []) rfl (Nat.zero_le _) no_box rfl (one_row (hR r _ hr)) rfl rfl (Nat.le_of_ble_eq_true rfl) ?_
    conv => whnf
    repeat (refine V_step T_ok GMl rfl ?_; conv => whnf)
    repeat (any_goals (first
      | (refine V_step T_ok GMl rfl ?_; conv => whnf)
      | (refine V_drawN T_ok GMl mixed (by kernel_rfl) ?_; conv => whnf)
      | (refine bcond_split (fun hc => ?_) (fun hc => ?_) <;> (try simp only [decide_eq_true_eq, decide_eq_false_iff_not, Bool.not_eq_true', Bool.not_eq_false', Bool.and_eq_true, Bool.or_eq_true, Bool.and_eq_false_imp, Bool.or_eq_false_iff, ne_eq, Decidable.not_not] at hc) <;> conv => whnf)
      | (intro ysK hysK; have hysl := congrArg List.length hysK; (try simp only [List.length_set, List.length_append, List.length_cons, List.length_nil, List.length_take, List.length_drop, List.length_replicate] at hysl); conv => whnf)
      | (intro bK hbK; have hbl := congrArg ByteArray.size hbK; conv => whnf)
      | (intro sK hsK; conv => whnf)
      | (refine And.intro (by first | (first | exact True.intro) | exact True.intro | exact ⟨rfl, True.intro, fun _ _ => rfl⟩ | exact Nat.le_of_ble_eq_true rfl | (refine ⟨by (try simp only [List.length_cons, List.length_nil]); omega, Int.le_trans (Int.mul_le_mul_of_nonneg_left (show (TInfo.bytes _ : Int) ≤ 64 from Int.ofNat_le.2 (Nat.le_of_ble_eq_true rfl)) (by omega)) (by (try simp only [List.length_cons, List.length_nil]); omega)⟩)) ?_; conv => whnf)))
    · have hok := ifl' hc
      rw [mlR_1 hok]
      exact leafNN rfl rfl rfl (fun B C h h' => by simp [AVal.den, dens, h, h', Hdr.val, miZ, hok])
    all_goals
      have hok := ifl (by assumption)
      subst hsK
      first
        | (rw [mlR_2 hok hc]; exact leafNN rfl rfl rfl (fun B C h h' => by simp [AVal.den, dens, h, h', Hdr.val, miZ]))
        | (rw [mlR_3 hok (by assumption) hc]; exact leafNN rfl rfl rfl (fun B C h h' => by simp [AVal.den, dens, h, h', Hdr.val, miZ]))
        | (rw [mlR_4 hok (by assumption) hc]; exact leaf2 1 2 (by decide) rfl rfl rfl rfl rfl rfl rfl (fun B C h h' => by simp [AVal.den, dens, h, h', *]))
end Go.Proofs.Ytllagpbbbdekiaa.Fw
-- %intro
