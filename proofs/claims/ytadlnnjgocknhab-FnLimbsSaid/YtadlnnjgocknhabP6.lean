/- Contracts: the reference joins the pairs of a period. -/
import Derived.Test.YtadlnnjgocknhabP5
import Derived.Test.YtadlnnjgocknhabP3
namespace Go.Proofs.Ytadlnnjgocknhab.Fw
open Go Go.RowKit
set_option linter.unusedVariables false
set_option linter.unusedSimpArgs false
set_option maxRecDepth 100000
set_option maxHeartbeats 2000000
def sJoinC : MCtr := fun hg rg lr vals k => match vals with
  | [.row i, .int .i64 n] => rowO lT (rg i) fun e xs => ((2 ≤ n ∧ n ≤ 8) ∧ e = 28 ∧ (xs : List Lf) = prN (n.toNat - 2)) ∧ k [(i, none)] [⟨lT, 28, true, prN (n.toNat - 1)⟩] (.row lr)
  | _ => False
abbrev GSJ := GOk.cons sAngs_ok (GOk.cons sFree_ok .nil)
theorem sJoin_ok : MCtrOk Try.prog 133 sJoinC where
  enter := enter_ok Try.func133 (by kernel_rfl) rfl
  calls := by
    intro hg rg lr vals k h
    unfold sJoinC at h
    split at h
    case h_2 => exact h.elim
    rename_i i n
    obtain ⟨e, xs, hi, h⟩ : ∃ e, ∃ (xs : List Lf), _ := rowO_inv h
    obtain ⟨⟨hn, rfl, hx⟩, hk⟩ := h
    obtain ⟨m, rfl⟩ : ∃ m : Nat, n = ((m + 2 : Nat) : Int) := ⟨n.toNat - 2, by omega⟩
    have hx : xs = prN m := hx
    subst hx
    have hm : m < 7 := by omega
    refine ⟨_, _, _, hk, (ups_one hi rfl (fun r' hr' => by cases hr')), fun A w hM => ?_⟩
    have hO := One.of hi rfl
    have hst := JoO.start hm (prN_len (by omega))
    have hal := angs_len (m + 2) (by omega)
    have hasc := angs_asc (n := m + 2) (by omega) (by omega)
    refine enterM T_ok GSJ Try.func133 rfl (w := w) (A := A.pick [] [i]) (vals := [.row 0, .int .i64 ((m + 2 : Nat) : Int)]) (n0 := 1) (b0 := 0) (rows := [some ⟨lT, 28, true, prN m⟩]) (hp := []) rfl (Nat.le_refl _) (hM.one hi) rfl rfl rfl (Nat.le_of_ble_eq_true rfl) ?_
    conv => whnf
    repeat (refine V_step T_ok GSJ rfl ?_; conv => whnf)
    have hzl : (List.length (α := Int × Int) (angsN (((m + 2 : Nat) : Int)).toNat) : Int) ≤ 256 := by
      show (List.length (α := Int × Int) (angsN (m + 2)) : Int) ≤ 256
      omega
    repeat (any_goals (first
      | (refine V_step T_ok GSJ rfl ?_; conv => whnf)
      | (refine V_drawA T_ok GSJ mixed (by kernel_rfl) ?_; conv => whnf)
      | (refine bcond_split (fun hc => ?_) (fun hc => ?_) <;> (try simp only [decide_eq_true_eq, decide_eq_false_iff_not, Bool.not_eq_true', Bool.not_eq_false', Bool.and_eq_true, Bool.or_eq_true, Bool.and_eq_false_imp, Bool.or_eq_false_iff, ne_eq, Decidable.not_not] at hc) <;> conv => whnf)
      | (intro ysK hysK; have hysl := congrArg List.length hysK; (try simp only [List.length_set, List.length_append, List.length_cons, List.length_nil, List.length_take, List.length_drop, List.length_replicate] at hysl); conv => whnf)
      | (refine And.intro (by first | (first | exact True.intro | omega | (simp only [Rng]; omega) | (refine ⟨by omega, rfl, ?_, by omega⟩; have hb : (ti4.bytes : Int) = 1 := rfl; rw [hb]; omega)) | exact True.intro | exact ⟨rfl, True.intro, fun _ _ => rfl⟩ | exact Nat.le_of_ble_eq_true rfl | (refine ⟨by (try simp only [List.length_cons, List.length_nil]); omega, Int.le_trans (Int.mul_le_mul_of_nonneg_left (show (TInfo.bytes _ : Int) ≤ 64 from Int.ofNat_le.2 (Nat.le_of_ble_eq_true rfl)) (by omega)) (by (try simp only [List.length_cons, List.length_nil]); omega)⟩)) ?_; conv => whnf)))
    obtain ⟨zs, hZ⟩ : ∃ zs, angsN (m + 2) = zs := ⟨_, rfl⟩
    have hZ' : angsN (((m + 2 : Nat) : Int)).toNat = zs := hZ
    rw [hZ] at hst hal hasc
    simp only [hZ', hZ, Int.toNat_natCast]
    clear hzl
    have hzl : (List.length (α := Int × Int) zs : Int) ≤ 256 := by omega
    refine V_loopP (γ := Nat × (List Lf × List Bool)) (fun g => g.1 ≤ zs.length ∧ JoO (prN (m + 1)) zs g.2.1 g.2.2 g.1) (fun g => zs.length - g.1)
      (fun g => [(0, .row 3), (7, .int .i64 g.1)]) (fun _ => []) (fun g => [(0, none), (2, some ⟨.bool, 4, true, g.2.2⟩)]) (fun g => [some ⟨lT, 28, true, g.2.1⟩]) (0, (prN m, List.replicate zs.length false)) ⟨Nat.zero_le _, hst⟩ ?_ ?_
    · conv => whnf
      refine ⟨?_, by (conv => whnf); repeat (first | exact True.intro | (refine And.intro rfl ?_; conv => whnf)), by (conv => whnf); repeat (first | exact True.intro | (refine And.intro (by first | rfl | (subst_vars; rfl)) ?_; conv => whnf)), rfl, rfl, rfl, rfl, rfl, rfl, rfl, Nat.le_of_ble_eq_true rfl, Nat.le_of_ble_eq_true rfl⟩
      conv => whnf
      repeat (first | exact True.intro | (refine And.intro (by first | rfl | ((conv => whnf); exact congrArg (AVal.int .i64) (by omega)) | ((conv => whnf); exact congrArg (AVal.int .i64) (by simp only [Int.natCast_add, Int.natCast_one]; omega)) | ((conv => whnf); exact congrArg (AVal.irow _) (by first | omega | assumption | (simp only; omega)))) ?_; conv => whnf))
    · rintro ⟨i0, out, us⟩ ⟨hi0, hJ⟩
      simp only at hi0 hJ
      conv => whnf
      refine vcCode_sound T_ok GSJ _ _ _ _ _ ?_
      conv => whnf
      repeat (refine V_step T_ok GSJ rfl ?_; conv => whnf)
      have hjl := hJ.len
      have hjs := hJ.small
      repeat (any_goals (first
        | (refine V_step T_ok GSJ rfl ?_; conv => whnf)
        | (refine V_drawA T_ok GSJ mixed (by kernel_rfl) ?_; conv => whnf)
        | (refine bcond_split (fun hc => ?_) (fun hc => ?_) <;> (try simp only [decide_eq_true_eq, decide_eq_false_iff_not, Bool.not_eq_true', Bool.not_eq_false', Bool.and_eq_true, Bool.or_eq_true, Bool.and_eq_false_imp, Bool.or_eq_false_iff, ne_eq, Decidable.not_not] at hc) <;> conv => whnf)
        | (intro ysK hysK; have hysl := congrArg List.length hysK; (try simp only [List.length_set, List.length_append, List.length_cons, List.length_nil, List.length_take, List.length_drop, List.length_replicate] at hysl); conv => whnf)
        | (refine And.intro (by first | (first | exact True.intro | omega | (simp only [Rng]; omega)) | exact True.intro | exact ⟨rfl, True.intro, fun _ _ => rfl⟩ | exact Nat.le_of_ble_eq_true rfl | (refine ⟨by (try simp only [List.length_cons, List.length_nil]); omega, Int.le_trans (Int.mul_le_mul_of_nonneg_left (show (TInfo.bytes _ : Int) ≤ 64 from Int.ofNat_le.2 (Nat.le_of_ble_eq_true rfl)) (by omega)) (by (try simp only [List.length_cons, List.length_nil]); omega)⟩)) ?_; conv => whnf)))
      · have hl : (i0 : Int) < (zs.length : Int) := hc
        refine V_loopH (γ := Nat × (List Lf × List Bool)) (fun g => g.1 ≤ zs.length ∧ JoI (prN (m + 1)) zs g.2.1 g.2.2 i0 g.1) (fun g => zs.length - g.1)
          (fun g => [(0, .row 3), (8, .int .i64 g.1)]) (fun _ => []) (fun g => [(2, some ⟨.bool, 4, true, g.2.2⟩), (3, some ⟨lT, 28, true, g.2.1⟩)]) (i0 + 1, (out, us)) ⟨by omega, hJ.inner (by omega)⟩ ?_ ?_
        · conv => whnf
          refine ⟨?_, by (conv => whnf); repeat (first | exact True.intro | (refine And.intro rfl ?_; conv => whnf)), by (conv => whnf); repeat (first | exact True.intro | (refine And.intro (by first | rfl | (subst_vars; rfl)) ?_; conv => whnf)), rfl, rfl, rfl, rfl, rfl, rfl, rfl, Nat.le_of_ble_eq_true rfl, Nat.le_of_ble_eq_true rfl⟩
          conv => whnf
          repeat (first | exact True.intro | (refine And.intro (by first | rfl | ((conv => whnf); exact congrArg (AVal.int .i64) (by omega)) | ((conv => whnf); exact congrArg (AVal.int .i64) (by simp only [Int.natCast_add, Int.natCast_one]; omega)) | ((conv => whnf); exact congrArg (AVal.irow _) (by first | omega | assumption | (simp only; omega)))) ?_; conv => whnf))
        · rintro ⟨k0, o1, u1⟩ ⟨hk0, hI⟩
          simp only at hk0 hI
          have hil := hI.len
          have his := hI.small
          have hik := hI.ik
          have hbo : ∀ x ∈ o1, BdL x := fun x hx => (hI.isL x hx).sm.bd
          have hbd : ∀ j, j < zs.length → Bd (zs.getD j aT.dflt) := fun j hj => (hasc.isA _ (getD_mem hj)).bd
          conv => whnf
          refine vcCode_sound T_ok GSJ _ _ _ _ _ ?_
          conv => whnf
          repeat (refine V_step T_ok GSJ rfl ?_; conv => whnf)
          repeat (any_goals (first
            | (refine V_step T_ok GSJ rfl ?_; conv => whnf)
            | (refine V_drawA T_ok GSJ mixed (by kernel_rfl) ?_; conv => whnf)
            | (refine bcond_split (fun hc => ?_) (fun hc => ?_) <;> (try simp only [decide_eq_true_eq, decide_eq_false_iff_not, Bool.not_eq_true', Bool.not_eq_false', Bool.and_eq_true, Bool.or_eq_true, Bool.and_eq_false_imp, Bool.or_eq_false_iff, ne_eq, Decidable.not_not] at hc) <;> conv => whnf)
            | (intro ysK hysK; have hysl := congrArg List.length hysK; (try simp only [List.length_set, List.length_append, List.length_cons, List.length_nil, List.length_take, List.length_drop, List.length_replicate] at hysl); conv => whnf)
            | (refine And.intro (by first | (first | exact True.intro | omega | (simp only [Rng]; omega) | exact ⟨⟨hbd _ (by omega), hbd _ (by omega)⟩, hbo⟩) | exact True.intro | exact ⟨rfl, True.intro, fun _ _ => rfl⟩ | exact Nat.le_of_ble_eq_true rfl | (refine ⟨by (try simp only [List.length_cons, List.length_nil]); omega, Int.le_trans (Int.mul_le_mul_of_nonneg_left (show (TInfo.bytes _ : Int) ≤ 64 from Int.ofNat_le.2 (Nat.le_of_ble_eq_true rfl)) (by omega)) (by (try simp only [List.length_cons, List.length_nil]); omega)⟩)) ?_; conv => whnf)))
          · rename_i hc1 hc2 hc3 o2 ho2 ho3 u2 hu2 hu3
            simp only [Int.toNat_natCast] at hc hc2 hc3 ho2 hu2 hysK
            subst ho2 hu2 hysK
            refine ⟨(k0 + 1, (_, _)), ⟨by omega, hI.take hasc (by omega) hc2 hc3 hc⟩, by simp only; omega, ?_⟩
            conv => whnf
            refine ⟨?_, by (conv => whnf); repeat (first | exact True.intro | (refine And.intro rfl ?_; conv => whnf)), by (conv => whnf); repeat (first | exact True.intro | (refine And.intro (by first | rfl | (subst_vars; rfl)) ?_; conv => whnf)), rfl, rfl, rfl, rfl, rfl, rfl, rfl, Nat.le_of_ble_eq_true rfl, Nat.le_of_ble_eq_true rfl⟩
            conv => whnf
            repeat (first | exact True.intro | (refine And.intro (by first | rfl | ((conv => whnf); exact congrArg (AVal.int .i64) (by omega)) | ((conv => whnf); exact congrArg (AVal.int .i64) (by simp only [Int.natCast_add, Int.natCast_one]; omega)) | ((conv => whnf); exact congrArg (AVal.irow _) (by first | omega | assumption | (simp only; omega)))) ?_; conv => whnf))
          · rename_i hc1 hc2
            simp only [Int.toNat_natCast] at hc hc1 hc2
            refine ⟨(k0 + 1, (o1, u1)), ⟨by omega, hI.skip (by omega) (.inr hc)⟩, by simp only; omega, ?_⟩
            conv => whnf
            refine ⟨?_, by (conv => whnf); repeat (first | exact True.intro | (refine And.intro rfl ?_; conv => whnf)), by (conv => whnf); repeat (first | exact True.intro | (refine And.intro (by first | rfl | (subst_vars; rfl)) ?_; conv => whnf)), rfl, rfl, rfl, rfl, rfl, rfl, rfl, Nat.le_of_ble_eq_true rfl, Nat.le_of_ble_eq_true rfl⟩
            conv => whnf
            repeat (first | exact True.intro | (refine And.intro (by first | rfl | ((conv => whnf); exact congrArg (AVal.int .i64) (by omega)) | ((conv => whnf); exact congrArg (AVal.int .i64) (by simp only [Int.natCast_add, Int.natCast_one]; omega)) | ((conv => whnf); exact congrArg (AVal.irow _) (by first | omega | assumption | (simp only; omega)))) ?_; conv => whnf))
          · rename_i hc1
            simp only [Int.toNat_natCast] at hc hc1
            refine ⟨(k0 + 1, (o1, u1)), ⟨by omega, hI.skip (by omega) (.inl hc)⟩, by simp only; omega, ?_⟩
            conv => whnf
            refine ⟨?_, by (conv => whnf); repeat (first | exact True.intro | (refine And.intro rfl ?_; conv => whnf)), by (conv => whnf); repeat (first | exact True.intro | (refine And.intro (by first | rfl | (subst_vars; rfl)) ?_; conv => whnf)), rfl, rfl, rfl, rfl, rfl, rfl, rfl, Nat.le_of_ble_eq_true rfl, Nat.le_of_ble_eq_true rfl⟩
            conv => whnf
            repeat (first | exact True.intro | (refine And.intro (by first | rfl | ((conv => whnf); exact congrArg (AVal.int .i64) (by omega)) | ((conv => whnf); exact congrArg (AVal.int .i64) (by simp only [Int.natCast_add, Int.natCast_one]; omega)) | ((conv => whnf); exact congrArg (AVal.irow _) (by first | omega | assumption | (simp only; omega)))) ?_; conv => whnf))
          · simp only [Int.toNat_natCast] at hc
            refine ⟨(i0 + 1, (o1, u1)), ⟨by omega, hI.outer (.inr hc)⟩, by simp only; omega, ?_⟩
            conv => whnf
            refine ⟨?_, by (conv => whnf); repeat (first | exact True.intro | (refine And.intro rfl ?_; conv => whnf)), by (conv => whnf); repeat (first | exact True.intro | (refine And.intro (by first | rfl | (subst_vars; rfl)) ?_; conv => whnf)), rfl, rfl, rfl, rfl, rfl, rfl, rfl, Nat.le_of_ble_eq_true rfl, Nat.le_of_ble_eq_true rfl⟩
            conv => whnf
            repeat (first | exact True.intro | (refine And.intro (by first | rfl | ((conv => whnf); exact congrArg (AVal.int .i64) (by omega)) | ((conv => whnf); exact congrArg (AVal.int .i64) (by simp only [Int.natCast_add, Int.natCast_one]; omega)) | ((conv => whnf); exact congrArg (AVal.irow _) (by first | omega | assumption | (simp only; omega)))) ?_; conv => whnf))
          · refine ⟨(i0 + 1, (o1, u1)), ⟨by omega, hI.outer (.inl (by omega))⟩, by simp only; omega, ?_⟩
            conv => whnf
            refine ⟨?_, by (conv => whnf); repeat (first | exact True.intro | (refine And.intro rfl ?_; conv => whnf)), by (conv => whnf); repeat (first | exact True.intro | (refine And.intro (by first | rfl | (subst_vars; rfl)) ?_; conv => whnf)), rfl, rfl, rfl, rfl, rfl, rfl, rfl, Nat.le_of_ble_eq_true rfl, Nat.le_of_ble_eq_true rfl⟩
            conv => whnf
            repeat (first | exact True.intro | (refine And.intro (by first | rfl | ((conv => whnf); exact congrArg (AVal.int .i64) (by omega)) | ((conv => whnf); exact congrArg (AVal.int .i64) (by simp only [Int.natCast_add, Int.natCast_one]; omega)) | ((conv => whnf); exact congrArg (AVal.irow _) (by first | omega | assumption | (simp only; omega)))) ?_; conv => whnf))
      · have e1 : zs.length ≤ i0 := by omega
        have hd := hJ.done e1
        refine leafM1 hO 3 rfl ?_ rfl (fun B C h => ?_)
        · show (⟨lT, 28, true, out⟩ : Row) = _
          rw [hd]; rfl
        · simp [AVal.den, h]
end Go.Proofs.Ytadlnnjgocknhab.Fw
