/- Contracts: what is drawn from a code for characteristic polynomials. -/
import Derived.Test.YtadlnnjgocknhaaU3
import Derived.Test.YtadlnnjgocknhaaW7
namespace Go.Proofs.Ytadlnnjgocknhaa.Fw
open Go Go.RowKit
set_option linter.unusedVariables false
set_option linter.unusedSimpArgs false
set_option maxRecDepth 100000
set_option maxHeartbeats 2000000
theorem dPp_ok : RCtrOk Try.prog 23 dAngC where
  enter := enter_ok Try.func23 (by kernel_rfl) rfl
  calls := by
    intro hg rg lb lr vals k h
    unfold dAngC at h
    split at h
    case h_2 => exact h.elim
    rename_i i
    obtain ⟨e, own, code, hi, h⟩ : ∃ e own, ∃ (xs : List Int), _ := rowC_inv h
    obtain ⟨hb, hk⟩ := h
    intro A w hB hR
    refine enter T_okW GUf8 Try.func23 rfl (K := (· < w.heap.size)) (fun _ h => h) (A := A.pick [] [i]) (vals := [.row 0]) (n0 := 1) (b0 := 0) (rows := [some ⟨bT, e, false, code⟩]) (hp := []) rfl (Nat.le_of_ble_eq_true rfl) no_box rfl (one_row (hR i _ hi)) rfl rfl (Nat.le_of_ble_eq_true rfl) ?_
    conv => whnf
    repeat (refine V_step T_okW GUf8 rfl ?_; conv => whnf)
    repeat (any_goals (first
      | (refine V_step T_okW GUf8 rfl ?_; conv => whnf)
      | (refine V_drawN T_okW GUf8 mixed (by kernel_rfl) ?_; conv => whnf)
      | (refine bcond_split (fun hc => ?_) (fun hc => ?_) <;> (try simp only [decide_eq_true_eq, decide_eq_false_iff_not, Bool.not_eq_true', Bool.not_eq_false', Bool.and_eq_true, Bool.or_eq_true, Bool.and_eq_false_imp, Bool.or_eq_false_iff, ne_eq, Decidable.not_not] at hc) <;> conv => whnf)
      | (intro ysK hysK; have hysl := congrArg List.length hysK; (try simp only [List.length_set, List.length_append, List.length_cons, List.length_nil, List.length_take, List.length_drop, List.length_replicate] at hysl); conv => whnf)
      | (intro bK hbK; have hbl := congrArg ByteArray.size hbK; conv => whnf)
      | (intro sK hsK; conv => whnf)
      | (refine And.intro (by first | (first | exact True.intro | exact hb | exact ⟨Int.le_refl _, hb⟩ | exact ⟨hsK, hb⟩) | exact True.intro | exact ⟨rfl, True.intro, fun _ _ => rfl⟩ | exact Nat.le_of_ble_eq_true rfl | (refine ⟨by (try simp only [List.length_cons, List.length_nil]); omega, Int.le_trans (Int.mul_le_mul_of_nonneg_left (show (TInfo.bytes _ : Int) ≤ 64 from Int.ofNat_le.2 (Nat.le_of_ble_eq_true rfl)) (by omega)) (by (try simp only [List.length_cons, List.length_nil]); omega)⟩)) ?_; conv => whnf)))
    exact leafRc (hk sK.1 True.intro) (leaf0 rfl rfl rfl)
/-- Rows drawn. -/
def chOk (xs : List (List Int)) : Prop := xs.length ≤ 22 ∧ ∀ r ∈ xs, r.length ≤ 21
def dChC : BCtr := fun hg rg lb lr vals k => match vals with
  | [.row i] => rowC bT (rg i) fun code => Bts code ∧ ∀ xs : List (List Int), chOk xs → k none [⟨rT, 32, true, xs⟩] (.row lr)
  | _ => False
abbrev GUch := (GOk.rcons from_ok (GOk.xcons next_ok (GOk.xcons pick_ok .nil)))
theorem dCh_ok : RCtrOk Try.prog 19 dChC where
  enter := enter_ok Try.func19 (by kernel_rfl) rfl
  calls := by
    intro hg rg lb lr vals k h
    unfold dChC at h
    split at h
    case h_2 => exact h.elim
    rename_i i
    obtain ⟨e, own, code, hi, h⟩ : ∃ e own, ∃ (xs : List Int), _ := rowC_inv h
    obtain ⟨hb, hk⟩ := h
    intro A w hB hR
    refine enter T_okW GUch Try.func19 rfl (K := (· < w.heap.size)) (fun _ h => h) (A := A.pick [] [i]) (vals := [.row 0]) (n0 := 1) (b0 := 0) (rows := [some ⟨bT, e, false, code⟩]) (hp := []) rfl (Nat.le_of_ble_eq_true rfl) no_box rfl (one_row (hR i _ hi)) rfl rfl (Nat.le_of_ble_eq_true rfl) ?_
    conv => whnf
    repeat (refine V_step T_okW GUch rfl ?_; conv => whnf)
    repeat (any_goals (first
      | (refine V_step T_okW GUch rfl ?_; conv => whnf)
      | (refine V_drawN T_okW GUch mixed (by kernel_rfl) ?_; conv => whnf)
      | (refine bcond_split (fun hc => ?_) (fun hc => ?_) <;> (try simp only [decide_eq_true_eq, decide_eq_false_iff_not, Bool.not_eq_true', Bool.not_eq_false', Bool.and_eq_true, Bool.or_eq_true, Bool.and_eq_false_imp, Bool.or_eq_false_iff, ne_eq, Decidable.not_not] at hc) <;> conv => whnf)
      | (intro ysK hysK; have hysl := congrArg List.length hysK; (try simp only [List.length_set, List.length_append, List.length_cons, List.length_nil, List.length_take, List.length_drop, List.length_replicate] at hysl); conv => whnf)
      | (intro bK hbK; have hbl := congrArg ByteArray.size hbK; conv => whnf)
      | (intro sK hsK; conv => whnf)
      | (refine And.intro (by first | (first | exact True.intro | exact hb | exact ⟨Int.le_refl _, hb⟩ | exact ⟨hsK, hb⟩ | exact ⟨hsK.2, hb⟩ | omega | (simp only [List.length_cons, List.length_nil]; omega)) | exact True.intro | exact ⟨rfl, True.intro, fun _ _ => rfl⟩ | exact Nat.le_of_ble_eq_true rfl | (refine ⟨by (try simp only [List.length_cons, List.length_nil]); omega, Int.le_trans (Int.mul_le_mul_of_nonneg_left (show (TInfo.bytes _ : Int) ≤ 64 from Int.ofNat_le.2 (Nat.le_of_ble_eq_true rfl)) (by omega)) (by (try simp only [List.length_cons, List.length_nil]); omega)⟩)) ?_; conv => whnf)))
    have hm : 0 ≤ sK.1 ∧ sK.1 ≤ 21 := by
      have h1 := hsK.1
      simp only [List.mem_cons, List.not_mem_nil, or_false] at h1
      omega
    have hm' : sK.1 ≤ 21 ∧ 0 ≤ sK.1 := ⟨hm.2, hm.1⟩
    obtain ⟨R, hR'⟩ : ∃ R : Nat, sK.1 = (R : Int) := ⟨sK.1.toNat, by omega⟩
    have hR21 : R ≤ 21 := by omega
    rw [hR']
    have hs0 : 0 ≤ sK.2.1 := hsK.2
    have hmk : (0 ≤ (R : Int) ∧ (R : Int) = (R : Int) ∧ (ti64w.bytes : Int) * (R : Int) ≤ 281474976710656 ∧ (R : Int) ≤ 9223372036854775807) := by
      refine ⟨by omega, rfl, ?_, by omega⟩
      show (8 : Int) * (R : Int) ≤ _
      omega
    clear hm hm' hsK
    refine V_loopH (γ := Nat × (Int × Int) × List (List Int)) (fun g => g.1 ≤ R ∧ 0 ≤ g.2.1.1 ∧ g.2.2.length = g.1 ∧ ∀ r ∈ g.2.2, r.length = R) (fun g => R - g.1)
      (fun g => [(5, .row 2), (6, .int .i64 g.1), (17, .junk)]) (fun g => [(0, [.row 0, .int .i64 g.2.1.1, .int .u64 g.2.1.2])]) (fun g => [(2, some ⟨rT, 32, true, g.2.2⟩)]) (0, (sK.2.1, sK.2.2), []) ⟨Nat.zero_le _, hs0, rfl, fun r h => by cases h⟩ ?_ ?_
    · clear hmk
      conv => whnf
      refine ⟨?_, by (conv => whnf); repeat (first | exact True.intro | (refine And.intro rfl ?_; conv => whnf)), by (conv => whnf); repeat (first | exact True.intro | (refine And.intro (by first | rfl | (subst_vars; rfl)) ?_; conv => whnf)), rfl, rfl, rfl, rfl, rfl, rfl, rfl, Nat.le_of_ble_eq_true rfl, Nat.le_of_ble_eq_true rfl⟩
      conv => whnf
      repeat (first | exact True.intro | (refine And.intro (by first | rfl | ((conv => whnf); exact congrArg (AVal.int .i64) (by omega)) | ((conv => whnf); exact congrArg (AVal.int .i64) (by simp only [Int.natCast_add, Int.natCast_one]; omega)) | ((conv => whnf); exact congrArg (AVal.irow _) (by first | omega | assumption | (simp only; omega)))) ?_; conv => whnf))
    · rintro ⟨n, ⟨a, h⟩, L⟩ ⟨h1, h2, h3, h4⟩
      simp only at h1 h2 h3 h4
      have hd0 : ¬ (n : Int) < (R : Int) → 0 < (R : Int) → 0 < List.length (α := Int) (@List.getD (List Int) L 0 []) ∧ 0 < List.length (α := List Int) L := fun c1 c2 => by
        refine ⟨?_, by omega⟩
        rw [h4 _ (getD_mem (by omega))]; omega
      have hrl : List.length (α := Int) (List.replicate (R : Int).toNat (0 : Int)) = R := by rw [List.length_replicate]; omega
      conv => whnf
      refine vcCode_sound T_okW GUch _ _ _ _ _ ?_
      conv => whnf
      repeat (refine V_step T_okW GUch rfl ?_; conv => whnf)
      repeat (any_goals (first
        | (refine V_step T_okW GUch rfl ?_; conv => whnf)
        | (refine V_drawN T_okW GUch mixed (by kernel_rfl) ?_; conv => whnf)
        | (refine bcond_split (fun hc => ?_) (fun hc => ?_) <;> (try simp only [decide_eq_true_eq, decide_eq_false_iff_not, Bool.not_eq_true', Bool.not_eq_false', Bool.and_eq_true, Bool.or_eq_true, Bool.and_eq_false_imp, Bool.or_eq_false_iff, ne_eq, Decidable.not_not] at hc) <;> conv => whnf)
        | (intro ysK hysK; have hysl := congrArg List.length hysK; (try simp only [List.length_set, List.length_append, List.length_cons, List.length_nil, List.length_take, List.length_drop, List.length_replicate] at hysl); conv => whnf)
        | (intro bK hbK; have hbl := congrArg ByteArray.size hbK; conv => whnf)
        | (intro sK hsK; conv => whnf)
        | (refine And.intro (by first | (first | exact True.intro | exact hb | with_reducible exact hmk | with_reducible exact ⟨h2, hb⟩ | with_reducible exact ⟨hsK.2, hb⟩ | omega | (have z := hd0 (by assumption) (by assumption); clear hb hmk; omega) | (simp only [List.length_cons, List.length_nil]; omega)) | exact True.intro | exact ⟨rfl, True.intro, fun _ _ => rfl⟩ | exact Nat.le_of_ble_eq_true rfl | (refine ⟨by (try simp only [List.length_cons, List.length_nil]); omega, Int.le_trans (Int.mul_le_mul_of_nonneg_left (show (TInfo.bytes _ : Int) ≤ 64 from Int.ofNat_le.2 (Nat.le_of_ble_eq_true rfl)) (by omega)) (by (try simp only [List.length_cons, List.length_nil]); omega)⟩)) ?_; conv => whnf)))
      · have hn : n < R := by
          have hc : (n : Int) < (R : Int) := hc
          omega
        obtain ⟨C, hC⟩ : ∃ C : Nat, sK.1 = (C : Int) := ⟨sK.1.toNat, by omega⟩
        rw [hC]
        have hs2 : 0 ≤ sK.2.1 := hsK.2
        refine V_loopH (γ := Nat × (Int × Int) × List Int) (fun g => g.1 ≤ C ∧ 0 ≤ g.2.1.1 ∧ g.2.2.length = R) (fun g => g.1)
          (fun g => [(8, .int .i64 g.1)]) (fun g => [(0, [.row 0, .int .i64 g.2.1.1, .int .u64 g.2.1.2])]) (fun g => [(3, some ⟨iT, 2, true, g.2.2⟩)]) (C, (sK.2.1, sK.2.2), List.replicate (R : Int).toNat (0 : Int)) ⟨Nat.le_refl _, hs2, hrl⟩ ?_ ?_
        · clear hmk
          conv => whnf
          refine ⟨?_, by (conv => whnf); repeat (first | exact True.intro | (refine And.intro rfl ?_; conv => whnf)), by (conv => whnf); repeat (first | exact True.intro | (refine And.intro (by first | rfl | (subst_vars; rfl)) ?_; conv => whnf)), rfl, rfl, rfl, rfl, rfl, rfl, rfl, Nat.le_of_ble_eq_true rfl, Nat.le_of_ble_eq_true rfl⟩
          conv => whnf
          repeat (first | exact True.intro | (refine And.intro (by first | rfl | ((conv => whnf); exact congrArg (AVal.int .i64) (by omega)) | ((conv => whnf); exact congrArg (AVal.int .i64) (by simp only [Int.natCast_add, Int.natCast_one]; omega)) | ((conv => whnf); exact congrArg (AVal.irow _) (by first | omega | assumption | (simp only; omega)))) ?_; conv => whnf))
        · rintro ⟨c, ⟨a2, h2'⟩, M⟩ ⟨c1, c2, c3⟩
          simp only at c1 c2 c3
          conv => whnf
          refine vcCode_sound T_okW GUch _ _ _ _ _ ?_
          conv => whnf
          repeat (refine V_step T_okW GUch rfl ?_; conv => whnf)
          repeat (any_goals (first
            | (refine V_step T_okW GUch rfl ?_; conv => whnf)
            | (refine V_drawN T_okW GUch mixed (by kernel_rfl) ?_; conv => whnf)
            | (refine bcond_split (fun hc => ?_) (fun hc => ?_) <;> (try simp only [decide_eq_true_eq, decide_eq_false_iff_not, Bool.not_eq_true', Bool.not_eq_false', Bool.and_eq_true, Bool.or_eq_true, Bool.and_eq_false_imp, Bool.or_eq_false_iff, ne_eq, Decidable.not_not] at hc) <;> conv => whnf)
            | (intro ysK hysK; have hysl := congrArg List.length hysK; (try simp only [List.length_set, List.length_append, List.length_cons, List.length_nil, List.length_take, List.length_drop, List.length_replicate] at hysl); conv => whnf)
            | (intro bK hbK; have hbl := congrArg ByteArray.size hbK; conv => whnf)
            | (intro sK hsK; conv => whnf)
            | (refine And.intro (by first | (first | exact True.intro | exact hb | with_reducible exact ⟨c2, hb⟩ | omega) | exact True.intro | exact ⟨rfl, True.intro, fun _ _ => rfl⟩ | exact Nat.le_of_ble_eq_true rfl | (refine ⟨by (try simp only [List.length_cons, List.length_nil]); omega, Int.le_trans (Int.mul_le_mul_of_nonneg_left (show (TInfo.bytes _ : Int) ≤ 64 from Int.ofNat_le.2 (Nat.le_of_ble_eq_true rfl)) (by omega)) (by (try simp only [List.length_cons, List.length_nil]); omega)⟩)) ?_; conv => whnf)))
          · have hz : Int.toNat sK.1 < List.length (α := Int) M := by omega
            have hz1 : 0 ≤ sK.1 ∧ sK.1 < (List.length (α := Int) M : Int) := by omega
            have hc1 : 0 < (c : Int) := hc
            have ew : IntKind.i64.wrap ((c : Int) - 1) = (c : Int) - 1 := wrap_id (by omega) (by omega)
            repeat (any_goals (first
              | (refine V_step T_okW GUch rfl ?_; conv => whnf)
              | (refine V_drawN T_okW GUch mixed (by kernel_rfl) ?_; conv => whnf)
              | (refine bcond_split (fun hc => ?_) (fun hc => ?_) <;> (try simp only [decide_eq_true_eq, decide_eq_false_iff_not, Bool.not_eq_true', Bool.not_eq_false', Bool.and_eq_true, Bool.or_eq_true, Bool.and_eq_false_imp, Bool.or_eq_false_iff, ne_eq, Decidable.not_not] at hc) <;> conv => whnf)
              | (intro ysK hysK; have hysl := congrArg List.length hysK; (try simp only [List.length_set, List.length_append, List.length_cons, List.length_nil, List.length_take, List.length_drop, List.length_replicate] at hysl); conv => whnf)
              | (intro bK hbK; have hbl := congrArg ByteArray.size hbK; conv => whnf)
              | (intro sK hsK; conv => whnf)
              | (refine And.intro (by first | (first | exact True.intro | exact hb | exact hz1 | exact hz | omega) | exact True.intro | exact ⟨rfl, True.intro, fun _ _ => rfl⟩ | exact Nat.le_of_ble_eq_true rfl | (refine ⟨by (try simp only [List.length_cons, List.length_nil]); omega, Int.le_trans (Int.mul_le_mul_of_nonneg_left (show (TInfo.bytes _ : Int) ≤ 64 from Int.ofNat_le.2 (Nat.le_of_ble_eq_true rfl)) (by omega)) (by (try simp only [List.length_cons, List.length_nil]); omega)⟩)) ?_; conv => whnf)))
            refine ⟨(c - 1, (sK.2.1, sK.2.2), ysK), ⟨by simp only; omega, hsK.2, by simp only; omega⟩, by simp only; omega, ?_⟩
            conv => whnf
            refine ⟨?_, by (conv => whnf); repeat (first | exact True.intro | (refine And.intro rfl ?_; conv => whnf)), by (conv => whnf); repeat (first | exact True.intro | (refine And.intro (by first | rfl | (subst_vars; rfl)) ?_; conv => whnf)), rfl, rfl, rfl, rfl, rfl, rfl, rfl, Nat.le_of_ble_eq_true rfl, Nat.le_of_ble_eq_true rfl⟩
            conv => whnf
            repeat (first | exact True.intro | (refine And.intro (by first | rfl | ((conv => whnf); exact congrArg (AVal.int .i64) (by omega)) | ((conv => whnf); exact congrArg (AVal.int .i64) (by simp only [Int.natCast_add, Int.natCast_one]; omega)) | ((conv => whnf); exact congrArg (AVal.irow _) (by first | omega | assumption | (simp only; omega)))) ?_; conv => whnf))
          · have ew : IntKind.i64.wrap ((n : Int) + 1) = (n : Int) + 1 := wrap_id (by omega) (by omega)
            refine ⟨(n + 1, (a2, h2'), ysK), ⟨by simp only; omega, c2, by rw [hysK]; exact (List.length_append ..).trans (congrArg (· + 1) h3), fun r hr => ?_⟩, by simp only; omega, ?_⟩
            · rw [hysK] at hr
              rcases List.mem_append.1 hr with hr | hr
              · exact h4 r hr
              · obtain rfl := List.mem_singleton.1 hr
                exact c3
            · conv => whnf
              refine ⟨?_, by (conv => whnf); repeat (first | exact True.intro | (refine And.intro rfl ?_; conv => whnf)), by (conv => whnf); repeat (first | exact True.intro | (refine And.intro (by first | rfl | (subst_vars; rfl)) ?_; conv => whnf)), rfl, rfl, rfl, rfl, rfl, rfl, rfl, Nat.le_of_ble_eq_true rfl, Nat.le_of_ble_eq_true rfl⟩
              conv => whnf
              repeat (first | exact True.intro | (refine And.intro (by first | rfl | ((conv => whnf); exact congrArg (AVal.int .i64) (by omega)) | ((conv => whnf); exact congrArg (AVal.int .i64) (by simp only [Int.natCast_add, Int.natCast_one]; omega)) | ((conv => whnf); exact congrArg (AVal.irow _) (by first | omega | assumption | (simp only; omega)))) ?_; conv => whnf))
      · have hn : n = R := by
          have hc : ¬ (n : Int) < (R : Int) := by assumption
          omega
        have hR0 : 0 < (R : Int) := by assumption
        have hz : 0 < List.length (α := Int) (@List.getD (List Int) L (Int.toNat 0) []) ∧ Int.toNat 0 < List.length (α := List Int) L := by
          refine ⟨?_, by show 0 < _; omega⟩
          rw [h4 _ (getD_mem (by show 0 < _; omega))]; omega
        refine ⟨⟨Int.le_refl _, Int.ofNat_lt.2 hz.1, hz.2⟩, ?_⟩
        conv => whnf
        repeat (any_goals (first
          | (refine V_step T_okW GUch rfl ?_; conv => whnf)
          | (refine V_drawN T_okW GUch mixed (by kernel_rfl) ?_; conv => whnf)
          | (refine bcond_split (fun hc => ?_) (fun hc => ?_) <;> (try simp only [decide_eq_true_eq, decide_eq_false_iff_not, Bool.not_eq_true', Bool.not_eq_false', Bool.and_eq_true, Bool.or_eq_true, Bool.and_eq_false_imp, Bool.or_eq_false_iff, ne_eq, Decidable.not_not] at hc) <;> conv => whnf)
          | (intro ysK hysK; have hysl := congrArg List.length hysK; (try simp only [List.length_set, List.length_append, List.length_cons, List.length_nil, List.length_take, List.length_drop, List.length_replicate] at hysl); conv => whnf)
          | (intro bK hbK; have hbl := congrArg ByteArray.size hbK; conv => whnf)
          | (intro sK hsK; conv => whnf)
          | (refine And.intro (by first | (first | exact hz.1 | exact hz.2 | exact hz | exact ⟨hz.2, hz.1⟩ | exact ⟨Int.le_refl _, Int.ofNat_lt.2 hz.1, hz.2⟩) | exact True.intro | exact ⟨rfl, True.intro, fun _ _ => rfl⟩ | exact Nat.le_of_ble_eq_true rfl | (refine ⟨by (try simp only [List.length_cons, List.length_nil]); omega, Int.le_trans (Int.mul_le_mul_of_nonneg_left (show (TInfo.bytes _ : Int) ≤ 64 from Int.ofNat_le.2 (Nat.le_of_ble_eq_true rfl)) (by omega)) (by (try simp only [List.length_cons, List.length_nil]); omega)⟩)) ?_; conv => whnf)))
        refine leafRc (hk ysK ⟨?_, ?_⟩) (leaf1 2 rfl rfl rfl rfl (fun B C h => by simp [AVal.den, dens, h]))
        · rw [hysK]
          refine Nat.le_trans (Nat.le_of_eq List.length_set) ?_
          show L.length ≤ 22
          omega
        · intro r hr
          rw [hysK] at hr
          rcases List.mem_or_eq_of_mem_set hr with hr | hr
          · rw [h4 r hr]; exact hR21
          · rw [hr]
            refine Nat.le_trans (Nat.le_of_eq List.length_set) ?_
            show (L.getD 0 []).length ≤ 21
            rw [h4 _ (getD_mem (by omega))]; exact hR21
      · have hn : n = R := by
          have hc : ¬ (n : Int) < (R : Int) := by assumption
          omega
        refine leafRc (hk ysK ⟨?_, ?_⟩) (leaf1 4 rfl rfl rfl rfl (fun B C h => by simp [AVal.den, dens, h]))
        · rw [hysK]
          refine Nat.le_trans (Nat.le_of_eq (List.length_append ..)) ?_
          show L.length + 1 ≤ 22
          omega
        · intro r hr
          rw [hysK] at hr
          rcases List.mem_append.1 hr with hr | hr
          · rw [h4 r hr]; exact hR21
          · obtain rfl := List.mem_singleton.1 hr
            exact Nat.zero_le _
      · exact leafRc (hk L ⟨by omega, fun r hr => by rw [h4 r hr]; exact hR21⟩) (leaf1 2 rfl rfl rfl rfl (fun B C h => by simp [AVal.den, dens, h]))
      · exact leafRc (hk L ⟨by omega, fun r hr => by rw [h4 r hr]; exact hR21⟩) (leaf1 2 rfl rfl rfl rfl (fun B C h => by simp [AVal.den, dens, h]))
end Go.Proofs.Ytadlnnjgocknhaa.Fw
-- %intro
-- %wrap
