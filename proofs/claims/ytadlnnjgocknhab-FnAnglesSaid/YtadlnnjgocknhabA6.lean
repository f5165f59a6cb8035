/- The law of angles, walked. -/
import Derived.Test.YtadlnnjgocknhabA1
import Derived.Test.YtadlnnjgocknhabA4
import Derived.Test.YtadlnnjgocknhabA5
namespace Go.Proofs.Ytadlnnjgocknhab.Fw
open Go Go.RowKit
set_option linter.unusedVariables false
set_option linter.unusedSimpArgs false
set_option maxRecDepth 100000
set_option maxHeartbeats 4000000

theorem pdO_len (a : Ang) : (pdO a).1.length ≤ 2 := by
  by_cases hA : IsA a
  · by_cases hb : orbB a = true
    · rw [pdO_t hA hb]; exact Nat.le_refl _
    · rw [pdO_l hA hb]; exact Nat.zero_le _
  · rw [pdO_f hA]; exact Nat.zero_le _
theorem eqLA_self (x : List Ang) : eqLA x x = true := decide_eq_true rfl
theorem eqLN_self (x : List Int) : eqLN x x = true := decide_eq_true rfl
def lawFaC : PCtr := fun _ rg _ vals k => match vals with
  | [.row i] => rowC bT (rg i) fun code => Bts code ∧ k [] (.bool true)
  | _ => False
abbrev GFa := (GOk.cons big_ok (GOk.rcons dHv_ok (GOk.rcons dOb_ok (GOk.rcons dAd_ok (GOk.rcons dDi_ok (GOk.rcons dAo_ok (GOk.cons halO_ok (GOk.cons sHalO_ok (GOk.cons isAngle_ok (GOk.cons sIsAng_ok (GOk.cons dblO_ok (GOk.cons orO_ok (GOk.cons sOrO_ok (GOk.cons pdO_ok (GOk.cons sPdO_ok (GOk.cons ang5_ok (GOk.cons num5_ok (GOk.cons add_ok (GOk.cons sAddA_ok (GOk.cons disO_ok (GOk.cons sDisO_ok (GOk.cons angO_ok (GOk.cons sAngO_ok .nil)))))))))))))))))))))))
theorem lawFa_ok : PCtrOk Try.prog 4 lawFaC where
  enter := enter_ok Try.func4 (by kernel_rfl) rfl
  calls := by
    intro hg rg lr vals k h
    unfold lawFaC at h
    split at h
    case h_2 => exact h.elim
    rename_i i
    obtain ⟨e, own, code, hi, h⟩ : ∃ e own, ∃ (xs : List Int), _ := rowC_inv h
    obtain ⟨hb, hk⟩ := h
    refine ⟨_, _, hk, fun A w hB hR => ?_⟩
    refine enter T_ok GFa Try.func4 rfl (K := (· < w.heap.size)) (fun _ h => h) (A := A.pick [] [i]) (vals := [.row 0]) (n0 := 0) (b0 := 0) (rows := [some ⟨bT, e, false, code⟩]) (hp := []) rfl (Nat.zero_le _) no_box rfl (one_row (hR i _ hi)) rfl rfl (Nat.le_of_ble_eq_true rfl) ?_
    conv => whnf
    repeat (refine V_step T_ok GFa rfl ?_; conv => whnf)
    repeat (any_goals (first
      | (refine V_step T_ok GFa rfl ?_; conv => whnf)
      | (refine V_drawN T_ok GFa mixed (by kernel_rfl) ?_; conv => whnf)
      | (refine bcond_split (fun hc => ?_) (fun hc => ?_) <;> (try simp only [decide_eq_true_eq, decide_eq_false_iff_not, Bool.not_eq_true', Bool.not_eq_false', Bool.and_eq_true, Bool.or_eq_true, Bool.and_eq_false_imp, Bool.or_eq_false_iff, ne_eq, Decidable.not_not] at hc) <;> conv => whnf)
      | (intro ysK hysK; have hysl := congrArg List.length hysK; (try simp only [List.length_set, List.length_append, List.length_cons, List.length_nil, List.length_take, List.length_drop, List.length_replicate] at hysl); conv => whnf)
      | (intro bK hbK; have hbl := congrArg ByteArray.size hbK; conv => whnf)
      | (intro sK hsK; conv => whnf)
      | (refine And.intro (by first | (first | exact True.intro | exact hb) | exact True.intro | exact ⟨rfl, True.intro, fun _ _ => rfl⟩ | exact Nat.le_of_ble_eq_true rfl | (refine ⟨by (try simp only [List.length_cons, List.length_nil]); omega, Int.le_trans (Int.mul_le_mul_of_nonneg_left (show (TInfo.bytes _ : Int) ≤ 64 from Int.ofNat_le.2 (Nat.le_of_ble_eq_true rfl)) (by omega)) (by (try simp only [List.length_cons, List.length_nil]); omega)⟩)) ?_; conv => whnf)))
    · exact leaf0 rfl rfl rfl
    · rename_i x hx
      exact absurd (congrArg Prod.snd (hx.trans hsK.symm)) hc
    rename_i _ a _ x hx
    obtain ⟨an, ad⟩ := a
    have hx : x = halO (an, ad) := hx
    have hsK : sK = halO (an, ad) := hsK
    subst hx hsK
    have hl1 := halO_len (an, ad)
    have e1 := eqLA_self (halO (an, ad)).1
    repeat (any_goals (first
      | (refine V_step T_ok GFa rfl ?_; conv => whnf)
      | (refine V_drawN T_ok GFa mixed (by kernel_rfl) ?_; conv => whnf)
      | (refine bcond_split (fun hc => ?_) (fun hc => ?_) <;> (try simp only [decide_eq_true_eq, decide_eq_false_iff_not, Bool.not_eq_true', Bool.not_eq_false', Bool.and_eq_true, Bool.or_eq_true, Bool.and_eq_false_imp, Bool.or_eq_false_iff, ne_eq, Decidable.not_not] at hc) <;> conv => whnf)
      | (intro ysK hysK; have hysl := congrArg List.length hysK; (try simp only [List.length_set, List.length_append, List.length_cons, List.length_nil, List.length_take, List.length_drop, List.length_replicate] at hysl); conv => whnf)
      | (intro bK hbK; have hbl := congrArg ByteArray.size hbK; conv => whnf)
      | (intro sK hsK; conv => whnf)
      | (refine And.intro (by first | (first | exact True.intro | exact hb | exact ⟨by omega, by omega⟩) | exact True.intro | exact ⟨rfl, True.intro, fun _ _ => rfl⟩ | exact Nat.le_of_ble_eq_true rfl | (refine ⟨by (try simp only [List.length_cons, List.length_nil]); omega, Int.le_trans (Int.mul_le_mul_of_nonneg_left (show (TInfo.bytes _ : Int) ≤ 64 from Int.ofNat_le.2 (Nat.le_of_ble_eq_true rfl)) (by omega)) (by (try simp only [List.length_cons, List.length_nil]); omega)⟩)) ?_; conv => whnf)))
    · rw [e1] at hc; cases hc
    · simp at hc
    refine V_loopH (γ := Nat) (fun g => g ≤ List.length (α := Int × Int) (halO (an, ad)).1) (fun g => List.length (α := Int × Int) (halO (an, ad)).1 - g) (fun g => [(8, .int .i64 g)]) (fun _ => []) (fun _ => []) 0 (Nat.zero_le _) ?_ ?_
    · conv => whnf
      refine ⟨?_, by (conv => whnf); repeat (first | exact True.intro | (refine And.intro rfl ?_; conv => whnf)), by (conv => whnf); repeat (first | exact True.intro | (refine And.intro (by first | rfl | (subst_vars; rfl)) ?_; conv => whnf)), rfl, rfl, rfl, rfl, rfl, rfl, rfl, Nat.le_of_ble_eq_true rfl, Nat.le_of_ble_eq_true rfl⟩
      conv => whnf
      repeat (first | exact True.intro | (refine And.intro (by first | rfl | ((conv => whnf); exact congrArg (AVal.int .i64) (by omega)) | ((conv => whnf); exact congrArg (AVal.int .i64) (by simp only [Int.natCast_add, Int.natCast_one]; omega)) | ((conv => whnf); exact congrArg (AVal.irow _) (by first | omega | assumption | (simp only; omega)))) ?_; conv => whnf))
    rintro g hg
    have hdb : (g : Int) < (List.length (α := Int × Int) (halO (an, ad)).1 : Int) → dblO (List.getD (α := Int × Int) (halO (an, ad)).1 g (0, 0)) = ((an, ad), 0) := fun h => halO_dbl (by omega)
    conv => whnf
    refine vcCode_sound T_ok GFa _ _ _ _ _ ?_
    conv => whnf
    repeat (refine V_step T_ok GFa rfl ?_; conv => whnf)
    repeat (any_goals (first
      | (refine V_step T_ok GFa rfl ?_; conv => whnf)
      | (refine V_drawN T_ok GFa mixed (by kernel_rfl) ?_; conv => whnf)
      | (refine bcond_split (fun hc => ?_) (fun hc => ?_) <;> (try simp only [decide_eq_true_eq, decide_eq_false_iff_not, Bool.not_eq_true', Bool.not_eq_false', Bool.and_eq_true, Bool.or_eq_true, Bool.and_eq_false_imp, Bool.or_eq_false_iff, ne_eq, Decidable.not_not] at hc) <;> conv => whnf)
      | (intro ysK hysK; have hysl := congrArg List.length hysK; (try simp only [List.length_set, List.length_append, List.length_cons, List.length_nil, List.length_take, List.length_drop, List.length_replicate] at hysl); conv => whnf)
      | (intro bK hbK; have hbl := congrArg ByteArray.size hbK; conv => whnf)
      | (intro sK hsK; conv => whnf)
      | (refine And.intro (by first | (first | exact True.intro | exact hb | omega | (simp only [Rng]; omega)) | exact True.intro | exact ⟨rfl, True.intro, fun _ _ => rfl⟩ | exact Nat.le_of_ble_eq_true rfl | (refine ⟨by (try simp only [List.length_cons, List.length_nil]); omega, Int.le_trans (Int.mul_le_mul_of_nonneg_left (show (TInfo.bytes _ : Int) ≤ 64 from Int.ofNat_le.2 (Nat.le_of_ble_eq_true rfl)) (by omega)) (by (try simp only [List.length_cons, List.length_nil]); omega)⟩)) ?_; conv => whnf)))
    · have hs : sK = ((an, ad), 0) := hsK.trans (hdb (by assumption))
      rw [hs] at hc; exact absurd rfl hc
    · have hs : sK = ((an, ad), 0) := hsK.trans (hdb (by assumption))
      rw [hs] at hc; exact absurd rfl (hc rfl)
    · refine ⟨g + 1, by omega, by omega, ?_⟩
      conv => whnf
      refine ⟨?_, by (conv => whnf); repeat (first | exact True.intro | (refine And.intro rfl ?_; conv => whnf)), by (conv => whnf); repeat (first | exact True.intro | (refine And.intro (by first | rfl | (subst_vars; rfl)) ?_; conv => whnf)), rfl, rfl, rfl, rfl, rfl, rfl, rfl, Nat.le_of_ble_eq_true rfl, Nat.le_of_ble_eq_true rfl⟩
      conv => whnf
      repeat (first | exact True.intro | (refine And.intro (by first | rfl | ((conv => whnf); exact congrArg (AVal.int .i64) (by omega)) | ((conv => whnf); exact congrArg (AVal.int .i64) (by simp only [Int.natCast_add, Int.natCast_one]; omega)) | ((conv => whnf); exact congrArg (AVal.irow _) (by first | omega | assumption | (simp only; omega)))) ?_; conv => whnf))
    · rename_i o1 ho1 o2 ho2 p1 hp1
      exact absurd (congrArg Prod.snd (ho1.trans ho2.symm)) hc
    rename_i b _ o1 ho1 o2 ho2 p1 hp1
    obtain ⟨bn, bd⟩ := b
    have ho1 : o1 = orO (bn, bd) := ho1
    have ho2 : o2 = orO (bn, bd) := ho2
    have hp1 : p1 = pdO (bn, bd) := hp1
    have hsK : sK = pdO (bn, bd) := hsK
    subst ho1 ho2 hp1 hsK
    have hl2 := orO_len (bn, bd)
    have hl3 := pdO_len (bn, bd)
    have e2 := eqLA_self (orO (bn, bd)).1
    have e3 := eqLN_self (pdO (bn, bd)).1
    have e4 := orO_pd (bn, bd)
    repeat (any_goals (first
      | (refine V_step T_ok GFa rfl ?_; conv => whnf)
      | (refine V_drawN T_ok GFa mixed (by kernel_rfl) ?_; conv => whnf)
      | (refine bcond_split (fun hc => ?_) (fun hc => ?_) <;> (try simp only [decide_eq_true_eq, decide_eq_false_iff_not, Bool.not_eq_true', Bool.not_eq_false', Bool.and_eq_true, Bool.or_eq_true, Bool.and_eq_false_imp, Bool.or_eq_false_iff, ne_eq, Decidable.not_not] at hc) <;> conv => whnf)
      | (intro ysK hysK; have hysl := congrArg List.length hysK; (try simp only [List.length_set, List.length_append, List.length_cons, List.length_nil, List.length_take, List.length_drop, List.length_replicate] at hysl); conv => whnf)
      | (intro bK hbK; have hbl := congrArg ByteArray.size hbK; conv => whnf)
      | (intro sK hsK; conv => whnf)
      | (refine And.intro (by first | (first | exact True.intro | exact hb | exact ⟨by omega, by omega⟩) | exact True.intro | exact ⟨rfl, True.intro, fun _ _ => rfl⟩ | exact Nat.le_of_ble_eq_true rfl | (refine ⟨by (try simp only [List.length_cons, List.length_nil]); omega, Int.le_trans (Int.mul_le_mul_of_nonneg_left (show (TInfo.bytes _ : Int) ≤ 64 from Int.ofNat_le.2 (Nat.le_of_ble_eq_true rfl)) (by omega)) (by (try simp only [List.length_cons, List.length_nil]); omega)⟩)) ?_; conv => whnf)))
    · rw [e2] at hc; cases hc
    · exact absurd trivial hc
    · rw [e3] at hc; cases hc
    · exact absurd e4 hc
    · have hc : (orO (bn, bd)).2 = 0 := hc
      obtain ⟨hA, hbb⟩ := orO_0 hc
      obtain ⟨P, hP⟩ : ∃ P, orbP (bn, bd) = P := ⟨_, rfl⟩
      have f1 : (orO (bn, bd)).1 = orbX (bn, bd) := by rw [orO_t hA hbb]
      have f2 : (pdO (bn, bd)).1 = [(P : Int), (List.length (α := Int × Int) (orO (bn, bd)).1 : Int) - (P : Int)] := by rw [f1, pdO_t hA hbb, hP]
      have q0 : 0 < List.length (α := Int × Int) (orO (bn, bd)).1 ∧ P < List.length (α := Int × Int) (orO (bn, bd)).1 := by
        obtain ⟨m, g1, g2, g3, g4, g5, _⟩ := orb_len hbb
        have g2' : List.length (α := Int × Int) (orO (bn, bd)).1 = m := by rw [f1]; exact g2
        omega
      have q1 : List.length (α := Int) (pdO (bn, bd)).1 = 2 := by rw [f2]; rfl
      have q2 : List.getD (α := TyC.α iT) (pdO (bn, bd)).1 (Int.toNat 0) iT.dflt = (P : Int) := by rw [f2]; rfl
      have q3 : List.getD (α := TyC.α iT) (pdO (bn, bd)).1 (Int.toNat 1) iT.dflt = (List.length (α := Int × Int) (orO (bn, bd)).1 : Int) - (P : Int) := by rw [f2]; rfl
      have q4 : List.getD (α := TyC.α aT) (orO (bn, bd)).1 (Int.toNat 0) aT.dflt = (bn, bd) := by rw [f1]; exact orb_first hbb
      have q5 : ∀ g : Nat, g < List.length (α := Int × Int) (orO (bn, bd)).1 → dblO (List.getD (α := Int × Int) (orO (bn, bd)).1 g (0, 0)) = (List.getD (α := Int × Int) (orO (bn, bd)).1 (if g + 1 < List.length (α := Int × Int) (orO (bn, bd)).1 then g + 1 else P) (0, 0), 0) := fun g hg => by
        rw [f1] at hg ⊢
        rw [← hP]
        exact orb_next hA hbb hg
      repeat (any_goals (first
        | (refine V_step T_ok GFa rfl ?_; conv => whnf)
        | (refine V_drawN T_ok GFa mixed (by kernel_rfl) ?_; conv => whnf)
        | (refine bcond_split (fun hc => ?_) (fun hc => ?_) <;> (try simp only [decide_eq_true_eq, decide_eq_false_iff_not, Bool.not_eq_true', Bool.not_eq_false', Bool.and_eq_true, Bool.or_eq_true, Bool.and_eq_false_imp, Bool.or_eq_false_iff, ne_eq, Decidable.not_not] at hc) <;> conv => whnf)
        | (intro ysK hysK; have hysl := congrArg List.length hysK; (try simp only [List.length_set, List.length_append, List.length_cons, List.length_nil, List.length_take, List.length_drop, List.length_replicate] at hysl); conv => whnf)
        | (intro bK hbK; have hbl := congrArg ByteArray.size hbK; conv => whnf)
        | (intro sK hsK; conv => whnf)
        | (refine And.intro (by first | (first | exact True.intro | exact hb | omega | (simp only [Rng, q2, q3]; omega)) | exact True.intro | exact ⟨rfl, True.intro, fun _ _ => rfl⟩ | exact Nat.le_of_ble_eq_true rfl | (refine ⟨by (try simp only [List.length_cons, List.length_nil]); omega, Int.le_trans (Int.mul_le_mul_of_nonneg_left (show (TInfo.bytes _ : Int) ≤ 64 from Int.ofNat_le.2 (Nat.le_of_ble_eq_true rfl)) (by omega)) (by (try simp only [List.length_cons, List.length_nil]); omega)⟩)) ?_; conv => whnf)))
      · exact absurd (by rw [q2, q3]; omega) hc
      · exact absurd (congrArg Prod.snd q4) (hc (congrArg Prod.fst q4))
      refine V_loopH (γ := Nat) (fun g => g ≤ List.length (α := Int × Int) (orO (bn, bd)).1) (fun g => List.length (α := Int × Int) (orO (bn, bd)).1 - g) (fun g => [(20, .int .i64 g)]) (fun _ => []) (fun _ => []) 0 (Nat.zero_le _) ?_ ?_
      · conv => whnf
        refine ⟨?_, by (conv => whnf); repeat (first | exact True.intro | (refine And.intro rfl ?_; conv => whnf)), by (conv => whnf); repeat (first | exact True.intro | (refine And.intro (by first | rfl | (subst_vars; rfl)) ?_; conv => whnf)), rfl, rfl, rfl, rfl, rfl, rfl, rfl, Nat.le_of_ble_eq_true rfl, Nat.le_of_ble_eq_true rfl⟩
        conv => whnf
        repeat (first | exact True.intro | (refine And.intro (by first | rfl | ((conv => whnf); exact congrArg (AVal.int .i64) (by omega)) | ((conv => whnf); exact congrArg (AVal.int .i64) (by simp only [Int.natCast_add, Int.natCast_one]; omega)) | ((conv => whnf); exact congrArg (AVal.irow _) (by first | omega | assumption | (simp only; omega)))) ?_; conv => whnf))
      rintro g hg
      have q6 := q5 g
      conv => whnf
      refine vcCode_sound T_ok GFa _ _ _ _ _ ?_
      conv => whnf
      repeat (refine V_step T_ok GFa rfl ?_; conv => whnf)
      repeat (any_goals (first
        | (refine V_step T_ok GFa rfl ?_; conv => whnf)
        | (refine V_drawN T_ok GFa mixed (by kernel_rfl) ?_; conv => whnf)
        | (refine bcond_split (fun hc => ?_) (fun hc => ?_) <;> (try simp only [decide_eq_true_eq, decide_eq_false_iff_not, Bool.not_eq_true', Bool.not_eq_false', Bool.and_eq_true, Bool.or_eq_true, Bool.and_eq_false_imp, Bool.or_eq_false_iff, ne_eq, Decidable.not_not] at hc) <;> conv => whnf)
        | (intro ysK hysK; have hysl := congrArg List.length hysK; (try simp only [List.length_set, List.length_append, List.length_cons, List.length_nil, List.length_take, List.length_drop, List.length_replicate] at hysl); conv => whnf)
        | (intro bK hbK; have hbl := congrArg ByteArray.size hbK; conv => whnf)
        | (intro sK hsK; conv => whnf)
        | (refine And.intro (by first | (first | exact True.intro | exact hb | omega | (simp only [Rng, q2, q3]; omega) | (simp only [q2, q3]; omega)) | exact True.intro | exact ⟨rfl, True.intro, fun _ _ => rfl⟩ | exact Nat.le_of_ble_eq_true rfl | (refine ⟨by (try simp only [List.length_cons, List.length_nil]); omega, Int.le_trans (Int.mul_le_mul_of_nonneg_left (show (TInfo.bytes _ : Int) ≤ 64 from Int.ofNat_le.2 (Nat.le_of_ble_eq_true rfl)) (by omega)) (by (try simp only [List.length_cons, List.length_nil]); omega)⟩)) ?_; conv => whnf)))
      · have hs := hsK.trans (q6 (by omega))
        rw [hs] at hc; exact absurd rfl hc
      · have hs := hsK.trans (q6 (by omega))
        rw [if_pos (by omega)] at hs
        rw [hs] at hc; exact absurd rfl (hc rfl)
      · refine ⟨g + 1, by omega, by omega, ?_⟩
        conv => whnf
        refine ⟨?_, by (conv => whnf); repeat (first | exact True.intro | (refine And.intro rfl ?_; conv => whnf)), by (conv => whnf); repeat (first | exact True.intro | (refine And.intro (by first | rfl | (subst_vars; rfl)) ?_; conv => whnf)), rfl, rfl, rfl, rfl, rfl, rfl, rfl, Nat.le_of_ble_eq_true rfl, Nat.le_of_ble_eq_true rfl⟩
        conv => whnf
        repeat (first | exact True.intro | (refine And.intro (by first | rfl | ((conv => whnf); exact congrArg (AVal.int .i64) (by omega)) | ((conv => whnf); exact congrArg (AVal.int .i64) (by simp only [Int.natCast_add, Int.natCast_one]; omega)) | ((conv => whnf); exact congrArg (AVal.irow _) (by first | omega | assumption | (simp only; omega)))) ?_; conv => whnf))
      · have hs := hsK.trans (q6 (by omega))
        rw [hs] at hc; exact absurd rfl hc
      · have hs := hsK.trans (q6 (by omega))
        rw [if_neg (by omega)] at hs
        rw [hs] at hc
        simp only [q2, Int.toNat_natCast] at hc
        exact absurd rfl (hc rfl)
      · refine ⟨g + 1, by omega, by omega, ?_⟩
        conv => whnf
        refine ⟨?_, by (conv => whnf); repeat (first | exact True.intro | (refine And.intro rfl ?_; conv => whnf)), by (conv => whnf); repeat (first | exact True.intro | (refine And.intro (by first | rfl | (subst_vars; rfl)) ?_; conv => whnf)), rfl, rfl, rfl, rfl, rfl, rfl, rfl, Nat.le_of_ble_eq_true rfl, Nat.le_of_ble_eq_true rfl⟩
        conv => whnf
        repeat (first | exact True.intro | (refine And.intro (by first | rfl | ((conv => whnf); exact congrArg (AVal.int .i64) (by omega)) | ((conv => whnf); exact congrArg (AVal.int .i64) (by simp only [Int.natCast_add, Int.natCast_one]; omega)) | ((conv => whnf); exact congrArg (AVal.irow _) (by first | omega | assumption | (simp only; omega)))) ?_; conv => whnf))
      all_goals try subst_vars
      all_goals first
        | exact absurd rfl hc
        | exact absurd rfl (hc rfl)
        | (rw [addO_comm] at hc; first | exact absurd rfl hc | exact absurd rfl (hc rfl))
        | (rw [disO_comm] at hc; first | exact absurd rfl hc | exact absurd rfl (hc rfl))
        | exact leaf0 rfl rfl rfl
        | exact leaf0 rfl (congrArg AVal.bool (by simp)) rfl
        | skip
    all_goals try subst_vars
    all_goals first
      | exact absurd rfl hc
      | exact absurd rfl (hc rfl)
      | (rw [addO_comm] at hc; first | exact absurd rfl hc | exact absurd rfl (hc rfl))
      | (rw [disO_comm] at hc; first | exact absurd rfl hc | exact absurd rfl (hc rfl))
      | exact leaf0 rfl rfl rfl
      | exact leaf0 rfl (congrArg AVal.bool (by simp)) rfl
      | skip
end Go.Proofs.Ytadlnnjgocknhab.Fw
-- %intro
