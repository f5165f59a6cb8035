/- Contracts: limbs. -/
import Derived.Test.YtadlnnjgocknhabQ3
import Derived.Test.YtadlnnjgocknhabN5
namespace Go.Proofs.Ytadlnnjgocknhab.Fw
open Go Go.RowKit
set_option linter.unusedVariables false
set_option linter.unusedSimpArgs false
set_option maxRecDepth 100000
set_option maxHeartbeats 2000000
def arC : PCtr := fun _ _ _ vals k => match vals with
  | [.agg [.int .i64 n, .int .i64 d, .int .i64 m, .int .i64 e], .agg [.int .i64 p, .int .i64 q]] => (IsL ((n, d), (m, e)) ∧ IsA (p, q)) ∧ k [] (.bool (inW (p, q) ((n, d), (m, e))))
  | _ => False
theorem ar_ok : PCtrOk Try.prog 95 arC where
  enter := enter_ok Try.func95 (by kernel_rfl) rfl
  calls := by
    intro hg rg lr vals k h
    unfold arC at h
    split at h
    case h_2 => exact h.elim
    rename_i n d m e p q
    obtain ⟨⟨hl, hx⟩, hk⟩ := h
    refine ⟨_, _, hk, fun A w _ _ => ?_⟩
    refine enter T_ok (GOk.cons order_ok .nil) Try.func95 rfl (K := (· < w.heap.size)) (fun _ h => h) (A := A) (n0 := 0) (b0 := 0) (rows := []) (hp := []) rfl (Nat.zero_le _) (fun k r h => by cases h) rfl (fun k r h => by cases h) rfl rfl (Nat.le_of_ble_eq_true rfl) ?_
    conv => whnf
    repeat (refine V_step T_ok (GOk.cons order_ok .nil) rfl ?_; conv => whnf)
    have b1 := hl.1.bd
    have b2 := hl.2.1.bd
    have b3 := hx.bd
    have e := order_in hx hl
    repeat (any_goals (first
      | (refine V_step T_ok (GOk.cons order_ok .nil) rfl ?_; conv => whnf)
      | (refine V_drawA T_ok (GOk.cons order_ok .nil) mixed (by kernel_rfl) ?_; conv => whnf)
      | (refine bcond_split (fun hc => ?_) (fun hc => ?_) <;> (try simp only [decide_eq_true_eq, decide_eq_false_iff_not, Bool.not_eq_true', Bool.not_eq_false', Bool.and_eq_true, Bool.or_eq_true, Bool.and_eq_false_imp, Bool.or_eq_false_iff, ne_eq, Decidable.not_not] at hc) <;> conv => whnf)
      | (intro ysK hysK; have hysl := congrArg List.length hysK; (try simp only [List.length_set, List.length_append, List.length_cons, List.length_nil, List.length_take, List.length_drop, List.length_replicate] at hysl); conv => whnf)
      | (refine And.intro (by first | (first | exact True.intro | exact ⟨b1, b3, b2⟩ | exact ⟨hl.1.sm, hx.sm, hl.2.1.sm⟩) | exact True.intro | exact ⟨rfl, True.intro, fun _ _ => rfl⟩ | exact Nat.le_of_ble_eq_true rfl | (refine ⟨by (try simp only [List.length_cons, List.length_nil]); omega, Int.le_trans (Int.mul_le_mul_of_nonneg_left (show (TInfo.bytes _ : Int) ≤ 64 from Int.ofNat_le.2 (Nat.le_of_ble_eq_true rfl)) (by omega)) (by (try simp only [List.length_cons, List.length_nil]); omega)⟩)) ?_; conv => whnf)))
    all_goals exact leaf0 rfl (congrArg AVal.bool e) rfl
theorem fold_step {α β : Type} {f : β → α → β} {b : β} {d : α} {zs : List α} {j : Nat} (h : j < zs.length) : (zs.take (j + 1)).foldl f b = f ((zs.take j).foldl f b) (zs.getD j d) := by
  rw [List.take_add_one, List.foldl_append, List.getElem?_eq_getElem h, List.getD_eq_getElem?_getD, List.getElem?_eq_getElem h]
  rfl
theorem inEB_1 {x : Ang} {p : Lf} (h : p.1 = x) : inEB x p = true := by simp [inEB, h]
theorem inEB_2 {x : Ang} {p : Lf} (h : p.2 = x) : inEB x p = true := by simp [inEB, h]
theorem inEB_3 {x : Ang} {p : Lf} (h : inW x p = true) : inEB x p = true := by simp [inEB, h]
theorem inEB_no {x : Ang} {p : Lf} (h1 : p.1.1 = x.1 → ¬ p.1.2 = x.2) (h2 : p.2.1 = x.1 → ¬ p.2.2 = x.2) (h3 : inW x p = false) : ¬ inEB x p = true := by
  unfold inEB
  rw [h3, Bool.or_eq_true, Bool.or_eq_true, decide_eq_true_iff, decide_eq_true_iff]
  rintro ((h | h) | h)
  · cases h
  · exact h1 (congrArg Prod.fst h) (congrArg Prod.snd h)
  · exact h2 (congrArg Prod.fst h) (congrArg Prod.snd h)
theorem limF_y {x : Ang} {p q : Lf} (h : inEB x p = true) (hc : 0 < cmpA (widthA p) (widthA q)) : limF x (some q) p = some p := by
  have : widF p q < 0 := by unfold widF; rw [cmpA_neg]; exact (cmpA_more _ _).1 hc
  simp [limF, h, this]
theorem limF_n {x : Ang} {p q : Lf} (h : inEB x p = true) (hc : ¬ 0 < cmpA (widthA p) (widthA q)) : limF x (some q) p = some q := by
  have : ¬ widF p q < 0 := by unfold widF; rw [cmpA_neg]; exact fun h => hc ((cmpA_more _ _).2 h)
  simp [limF, h, this]
def lvO (b : Option Lf) : Lf := b.getD prZ
def limbC : PCtr := fun _ _ _ vals k => match vals with
  | [.agg [.int .i64 n, .int .i64 d]] => IsA (n, d) ∧ ∀ b, b = limO (n, d) → k [] (.tup [lV (lvO b), .bool b.isSome])
  | _ => False
abbrev GLi := GOk.cons upTo_ok (GOk.cons ar_ok (GOk.cons wid_ok (GOk.cons cmpA_ok .nil)))
theorem limb_ok : PCtrOk Try.prog 56 limbC where
  enter := enter_ok Try.func56 (by kernel_rfl) rfl
  calls := by
    intro hg rg lr vals k h
    unfold limbC at h
    split at h
    case h_2 => exact h.elim
    rename_i n d
    obtain ⟨hA, hk⟩ := h
    replace hk := hk _ rfl
    refine ⟨_, _, hk, fun A w _ _ => ?_⟩
    refine enter T_ok GLi Try.func56 rfl (K := (· < w.heap.size)) (fun _ h => h) (A := A) (n0 := 0) (b0 := 0) (rows := []) (hp := []) rfl (Nat.zero_le _) (fun k r h => by cases h) rfl (fun k r h => by cases h) rfl rfl (Nat.le_of_ble_eq_true rfl) ?_
    conv => whnf
    repeat (refine V_step T_ok GLi rfl ?_; conv => whnf)
    have hlen := prN_len (m := 7) (by omega)
    have hfg := lim_fg hA
    have hL := prN_isL (m := 7) (Nat.le_refl _)
    repeat (any_goals (first
      | (refine V_step T_ok GLi rfl ?_; conv => whnf)
      | (refine V_drawA T_ok GLi mixed (by kernel_rfl) ?_; conv => whnf)
      | (refine bcond_split (fun hc => ?_) (fun hc => ?_) <;> (try simp only [decide_eq_true_eq, decide_eq_false_iff_not, Bool.not_eq_true', Bool.not_eq_false', Bool.and_eq_true, Bool.or_eq_true, Bool.and_eq_false_imp, Bool.or_eq_false_iff, ne_eq, Decidable.not_not] at hc) <;> conv => whnf)
      | (intro ysK hysK; have hysl := congrArg List.length hysK; (try simp only [List.length_set, List.length_append, List.length_cons, List.length_nil, List.length_take, List.length_drop, List.length_replicate] at hysl); conv => whnf)
      | (refine And.intro (by first | exact True.intro | (with_reducible assumption) | omega | (simp only [Rng]; omega) | exact Nat.le_of_ble_eq_true rfl | exact True.intro | exact ⟨rfl, True.intro, fun _ _ => rfl⟩ | exact Nat.le_of_ble_eq_true rfl | (refine ⟨by (try simp only [List.length_cons, List.length_nil]); omega, Int.le_trans (Int.mul_le_mul_of_nonneg_left (show (TInfo.bytes _ : Int) ≤ 64 from Int.ofNat_le.2 (Nat.le_of_ble_eq_true rfl)) (by omega)) (by (try simp only [List.length_cons, List.length_nil]); omega)⟩)) ?_; conv => whnf)))
    have hZ' : prN ((8 : Int).toNat - 1) = prN 7 := rfl
    rw [hZ']
    generalize prN 7 = zs at *
    have hl8 : (List.length (α := Lf) zs : Int) ≤ 2000 := by omega
    refine V_loopH (γ := Nat × Option Lf) (fun g => g.1 ≤ zs.length ∧ g.2 = (zs.take g.1).foldl (limF (n, d)) none ∧ ∀ q, g.2 = some q → IsL q) (fun g => zs.length - g.1)
      (fun g => [(5, .bool g.2.isSome), (11, .int .i64 g.1)]) (fun g => [(2, [.int .i64 (lvO g.2).1.1, .int .i64 (lvO g.2).1.2, .int .i64 (lvO g.2).2.1, .int .i64 (lvO g.2).2.2])]) (fun _ => []) (0, none) ⟨Nat.zero_le _, rfl, fun _ h => by cases h⟩ ?_ ?_
    · conv => whnf
      refine ⟨?_, by (conv => whnf); repeat (first | exact True.intro | (refine And.intro rfl ?_; conv => whnf)), by (conv => whnf); repeat (first | exact True.intro | (refine And.intro (by first | rfl | (subst_vars; rfl)) ?_; conv => whnf)), rfl, rfl, rfl, rfl, rfl, rfl, rfl, Nat.le_of_ble_eq_true rfl, Nat.le_of_ble_eq_true rfl⟩
      conv => whnf
      repeat (first | exact True.intro | (refine And.intro (by first | rfl | ((conv => whnf); exact congrArg (AVal.int .i64) (by omega)) | ((conv => whnf); exact congrArg (AVal.int .i64) (by simp only [Int.natCast_add, Int.natCast_one]; omega)) | ((conv => whnf); exact congrArg (AVal.irow _) (by first | omega | assumption | (simp only; omega)))) ?_; conv => whnf))
    · rintro ⟨j, b⟩ ⟨h1, h2, h3⟩
      simp only at h1 h2 h3
      have hp : (j : Int) < (List.length (α := Lf) zs : Nat) → IsL (zs.getD j lT.dflt) := fun h => hL _ (getD_mem (by omega))
      have hst : ∀ b', (j : Int) < (List.length (α := Lf) zs : Nat) → b' = limF (n, d) ((zs.take j).foldl (limF (n, d)) none) (zs.getD j lT.dflt) → b' = (zs.take (j + 1)).foldl (limF (n, d)) none := fun b' h e => by rw [fold_step (d := lT.dflt) (by omega)]; exact e
      cases b
      · skip
        conv => whnf
        refine vcCode_sound T_ok GLi _ _ _ _ _ ?_
        conv => whnf
        repeat (refine V_step T_ok GLi rfl ?_; conv => whnf)
        repeat (any_goals (first
          | (refine V_step T_ok GLi rfl ?_; conv => whnf)
          | (refine V_drawA T_ok GLi mixed (by kernel_rfl) ?_; conv => whnf)
          | (refine bcond_split (fun hc => ?_) (fun hc => ?_) <;> (try simp only [decide_eq_true_eq, decide_eq_false_iff_not, Bool.not_eq_true', Bool.not_eq_false', Bool.and_eq_true, Bool.or_eq_true, Bool.and_eq_false_imp, Bool.or_eq_false_iff, ne_eq, Decidable.not_not] at hc) <;> conv => whnf)
          | (intro ysK hysK; have hysl := congrArg List.length hysK; (try simp only [List.length_set, List.length_append, List.length_cons, List.length_nil, List.length_take, List.length_drop, List.length_replicate] at hysl); conv => whnf)
          | (refine And.intro (by first | (first | exact True.intro | omega | (simp only [Rng]; omega) | exact ⟨hp (by assumption), hA⟩) | exact True.intro | exact ⟨rfl, True.intro, fun _ _ => rfl⟩ | exact Nat.le_of_ble_eq_true rfl | (refine ⟨by (try simp only [List.length_cons, List.length_nil]); omega, Int.le_trans (Int.mul_le_mul_of_nonneg_left (show (TInfo.bytes _ : Int) ≤ 64 from Int.ofNat_le.2 (Nat.le_of_ble_eq_true rfl)) (by omega)) (by (try simp only [List.length_cons, List.length_nil]); omega)⟩)) ?_; conv => whnf)))
        · rename_i hc0
          refine ⟨(j + 1, some (zs.getD j lT.dflt)), ⟨by have : (j : Int) < (zs.length : Nat) := hc0; omega, hst _ hc0 ?_, fun q h => by cases h; exact hp hc0⟩, by have : (j : Int) < (zs.length : Nat) := hc0; simp only; omega, ?_⟩
          · rw [← h2, limF, if_pos (inEB_1 (Prod.ext hc.1 hc.2))]
          · conv => whnf
            refine ⟨?_, by (conv => whnf); repeat (first | exact True.intro | (refine And.intro rfl ?_; conv => whnf)), by (conv => whnf); repeat (first | exact True.intro | (refine And.intro (by first | rfl | (subst_vars; rfl)) ?_; conv => whnf)), rfl, rfl, rfl, rfl, rfl, rfl, rfl, Nat.le_of_ble_eq_true rfl, Nat.le_of_ble_eq_true rfl⟩
            conv => whnf
            repeat (first | exact True.intro | (refine And.intro (by first | rfl | ((conv => whnf); exact congrArg (AVal.int .i64) (by omega)) | ((conv => whnf); exact congrArg (AVal.int .i64) (by simp only [Int.natCast_add, Int.natCast_one]; omega)) | ((conv => whnf); exact congrArg (AVal.irow _) (by first | omega | assumption | (simp only; omega)))) ?_; conv => whnf))
        · rename_i hc0 hc1
          refine ⟨(j + 1, some (zs.getD j lT.dflt)), ⟨by have : (j : Int) < (zs.length : Nat) := hc0; omega, hst _ hc0 ?_, fun q h => by cases h; exact hp hc0⟩, by have : (j : Int) < (zs.length : Nat) := hc0; simp only; omega, ?_⟩
          · rw [← h2, limF, if_pos (inEB_2 (Prod.ext hc.1 hc.2))]
          · conv => whnf
            refine ⟨?_, by (conv => whnf); repeat (first | exact True.intro | (refine And.intro rfl ?_; conv => whnf)), by (conv => whnf); repeat (first | exact True.intro | (refine And.intro (by first | rfl | (subst_vars; rfl)) ?_; conv => whnf)), rfl, rfl, rfl, rfl, rfl, rfl, rfl, Nat.le_of_ble_eq_true rfl, Nat.le_of_ble_eq_true rfl⟩
            conv => whnf
            repeat (first | exact True.intro | (refine And.intro (by first | rfl | ((conv => whnf); exact congrArg (AVal.int .i64) (by omega)) | ((conv => whnf); exact congrArg (AVal.int .i64) (by simp only [Int.natCast_add, Int.natCast_one]; omega)) | ((conv => whnf); exact congrArg (AVal.irow _) (by first | omega | assumption | (simp only; omega)))) ?_; conv => whnf))
        · rename_i hc0 hc1 hc2
          refine ⟨(j + 1, some (zs.getD j lT.dflt)), ⟨by have : (j : Int) < (zs.length : Nat) := hc0; omega, hst _ hc0 ?_, fun q h => by cases h; exact hp hc0⟩, by have : (j : Int) < (zs.length : Nat) := hc0; simp only; omega, ?_⟩
          · have hin : inEB (n, d) (zs.getD j lT.dflt) = true := inEB_3 hc
            rw [← h2, limF, if_pos hin]
          · conv => whnf
            refine ⟨?_, by (conv => whnf); repeat (first | exact True.intro | (refine And.intro rfl ?_; conv => whnf)), by (conv => whnf); repeat (first | exact True.intro | (refine And.intro (by first | rfl | (subst_vars; rfl)) ?_; conv => whnf)), rfl, rfl, rfl, rfl, rfl, rfl, rfl, Nat.le_of_ble_eq_true rfl, Nat.le_of_ble_eq_true rfl⟩
            conv => whnf
            repeat (first | exact True.intro | (refine And.intro (by first | rfl | ((conv => whnf); exact congrArg (AVal.int .i64) (by omega)) | ((conv => whnf); exact congrArg (AVal.int .i64) (by simp only [Int.natCast_add, Int.natCast_one]; omega)) | ((conv => whnf); exact congrArg (AVal.irow _) (by first | omega | assumption | (simp only; omega)))) ?_; conv => whnf))
        · rename_i hc0 hc1 hc2
          refine ⟨(j + 1, none), ⟨by have : (j : Int) < (zs.length : Nat) := hc0; omega, hst _ hc0 ?_, fun q h => by cases h⟩, by have : (j : Int) < (zs.length : Nat) := hc0; simp only; omega, ?_⟩
          · have hin : ¬ inEB (n, d) (zs.getD j lT.dflt) = true := inEB_no hc1 hc2 hc
            rw [← h2, limF, if_neg hin]
          · conv => whnf
            refine ⟨?_, by (conv => whnf); repeat (first | exact True.intro | (refine And.intro rfl ?_; conv => whnf)), by (conv => whnf); repeat (first | exact True.intro | (refine And.intro (by first | rfl | (subst_vars; rfl)) ?_; conv => whnf)), rfl, rfl, rfl, rfl, rfl, rfl, rfl, Nat.le_of_ble_eq_true rfl, Nat.le_of_ble_eq_true rfl⟩
            conv => whnf
            repeat (first | exact True.intro | (refine And.intro (by first | rfl | ((conv => whnf); exact congrArg (AVal.int .i64) (by omega)) | ((conv => whnf); exact congrArg (AVal.int .i64) (by simp only [Int.natCast_add, Int.natCast_one]; omega)) | ((conv => whnf); exact congrArg (AVal.irow _) (by first | omega | assumption | (simp only; omega)))) ?_; conv => whnf))
        · have hl : ¬ (j : Int) < (zs.length : Nat) := hc
          rw [List.take_of_length_le (by omega), hfg] at h2
          exact leaf0 rfl (by rw [← h2] <;> rfl) rfl
      · rename_i q
        have hq := h3 q rfl
        conv => whnf
        refine vcCode_sound T_ok GLi _ _ _ _ _ ?_
        conv => whnf
        repeat (refine V_step T_ok GLi rfl ?_; conv => whnf)
        repeat (any_goals (first
          | (refine V_step T_ok GLi rfl ?_; conv => whnf)
          | (refine V_drawA T_ok GLi mixed (by kernel_rfl) ?_; conv => whnf)
          | (refine bcond_split (fun hc => ?_) (fun hc => ?_) <;> (try simp only [decide_eq_true_eq, decide_eq_false_iff_not, Bool.not_eq_true', Bool.not_eq_false', Bool.and_eq_true, Bool.or_eq_true, Bool.and_eq_false_imp, Bool.or_eq_false_iff, ne_eq, Decidable.not_not] at hc) <;> conv => whnf)
          | (intro ysK hysK; have hysl := congrArg List.length hysK; (try simp only [List.length_set, List.length_append, List.length_cons, List.length_nil, List.length_take, List.length_drop, List.length_replicate] at hysl); conv => whnf)
          | (refine And.intro (by first | (first | exact True.intro | omega | (simp only [Rng]; omega) | exact ⟨hp (by assumption), hA⟩ | exact (hp (by assumption)).sm.bd | exact hq.sm.bd | exact ⟨(hp (by assumption)).sm.2.minus (hp (by assumption)).sm.1, hq.sm.2.minus hq.sm.1⟩) | exact True.intro | exact ⟨rfl, True.intro, fun _ _ => rfl⟩ | exact Nat.le_of_ble_eq_true rfl | (refine ⟨by (try simp only [List.length_cons, List.length_nil]); omega, Int.le_trans (Int.mul_le_mul_of_nonneg_left (show (TInfo.bytes _ : Int) ≤ 64 from Int.ofNat_le.2 (Nat.le_of_ble_eq_true rfl)) (by omega)) (by (try simp only [List.length_cons, List.length_nil]); omega)⟩)) ?_; conv => whnf)))
        · rename_i hc0 hcE
          have hin : inEB (n, d) (zs.getD j lT.dflt) = true := inEB_1 (Prod.ext hcE.1 hcE.2)
          refine ⟨(j + 1, some (zs.getD j lT.dflt)), ⟨by have : (j : Int) < (zs.length : Nat) := hc0; omega, hst _ hc0 ?_, fun q' h => by cases h; exact hp hc0⟩, by have : (j : Int) < (zs.length : Nat) := hc0; simp only; omega, ?_⟩
          · rw [← h2]; exact (limF_y hin hc).symm
          · conv => whnf
            refine ⟨?_, by (conv => whnf); repeat (first | exact True.intro | (refine And.intro rfl ?_; conv => whnf)), by (conv => whnf); repeat (first | exact True.intro | (refine And.intro (by first | rfl | (subst_vars; rfl)) ?_; conv => whnf)), rfl, rfl, rfl, rfl, rfl, rfl, rfl, Nat.le_of_ble_eq_true rfl, Nat.le_of_ble_eq_true rfl⟩
            conv => whnf
            repeat (first | exact True.intro | (refine And.intro (by first | rfl | ((conv => whnf); exact congrArg (AVal.int .i64) (by omega)) | ((conv => whnf); exact congrArg (AVal.int .i64) (by simp only [Int.natCast_add, Int.natCast_one]; omega)) | ((conv => whnf); exact congrArg (AVal.irow _) (by first | omega | assumption | (simp only; omega)))) ?_; conv => whnf))
        · rename_i hc0 hcE
          have hin : inEB (n, d) (zs.getD j lT.dflt) = true := inEB_1 (Prod.ext hcE.1 hcE.2)
          refine ⟨(j + 1, some (q)), ⟨by have : (j : Int) < (zs.length : Nat) := hc0; omega, hst _ hc0 ?_, fun q' h => by cases h; exact hq⟩, by have : (j : Int) < (zs.length : Nat) := hc0; simp only; omega, ?_⟩
          · rw [← h2]; exact (limF_n hin hc).symm
          · conv => whnf
            refine ⟨?_, by (conv => whnf); repeat (first | exact True.intro | (refine And.intro rfl ?_; conv => whnf)), by (conv => whnf); repeat (first | exact True.intro | (refine And.intro (by first | rfl | (subst_vars; rfl)) ?_; conv => whnf)), rfl, rfl, rfl, rfl, rfl, rfl, rfl, Nat.le_of_ble_eq_true rfl, Nat.le_of_ble_eq_true rfl⟩
            conv => whnf
            repeat (first | exact True.intro | (refine And.intro (by first | rfl | ((conv => whnf); exact congrArg (AVal.int .i64) (by omega)) | ((conv => whnf); exact congrArg (AVal.int .i64) (by simp only [Int.natCast_add, Int.natCast_one]; omega)) | ((conv => whnf); exact congrArg (AVal.irow _) (by first | omega | assumption | (simp only; omega)))) ?_; conv => whnf))
        · rename_i hc0 hc1 hcE
          have hin : inEB (n, d) (zs.getD j lT.dflt) = true := inEB_2 (Prod.ext hcE.1 hcE.2)
          refine ⟨(j + 1, some (zs.getD j lT.dflt)), ⟨by have : (j : Int) < (zs.length : Nat) := hc0; omega, hst _ hc0 ?_, fun q' h => by cases h; exact hp hc0⟩, by have : (j : Int) < (zs.length : Nat) := hc0; simp only; omega, ?_⟩
          · rw [← h2]; exact (limF_y hin hc).symm
          · conv => whnf
            refine ⟨?_, by (conv => whnf); repeat (first | exact True.intro | (refine And.intro rfl ?_; conv => whnf)), by (conv => whnf); repeat (first | exact True.intro | (refine And.intro (by first | rfl | (subst_vars; rfl)) ?_; conv => whnf)), rfl, rfl, rfl, rfl, rfl, rfl, rfl, Nat.le_of_ble_eq_true rfl, Nat.le_of_ble_eq_true rfl⟩
            conv => whnf
            repeat (first | exact True.intro | (refine And.intro (by first | rfl | ((conv => whnf); exact congrArg (AVal.int .i64) (by omega)) | ((conv => whnf); exact congrArg (AVal.int .i64) (by simp only [Int.natCast_add, Int.natCast_one]; omega)) | ((conv => whnf); exact congrArg (AVal.irow _) (by first | omega | assumption | (simp only; omega)))) ?_; conv => whnf))
        · rename_i hc0 hc1 hcE
          have hin : inEB (n, d) (zs.getD j lT.dflt) = true := inEB_2 (Prod.ext hcE.1 hcE.2)
          refine ⟨(j + 1, some (q)), ⟨by have : (j : Int) < (zs.length : Nat) := hc0; omega, hst _ hc0 ?_, fun q' h => by cases h; exact hq⟩, by have : (j : Int) < (zs.length : Nat) := hc0; simp only; omega, ?_⟩
          · rw [← h2]; exact (limF_n hin hc).symm
          · conv => whnf
            refine ⟨?_, by (conv => whnf); repeat (first | exact True.intro | (refine And.intro rfl ?_; conv => whnf)), by (conv => whnf); repeat (first | exact True.intro | (refine And.intro (by first | rfl | (subst_vars; rfl)) ?_; conv => whnf)), rfl, rfl, rfl, rfl, rfl, rfl, rfl, Nat.le_of_ble_eq_true rfl, Nat.le_of_ble_eq_true rfl⟩
            conv => whnf
            repeat (first | exact True.intro | (refine And.intro (by first | rfl | ((conv => whnf); exact congrArg (AVal.int .i64) (by omega)) | ((conv => whnf); exact congrArg (AVal.int .i64) (by simp only [Int.natCast_add, Int.natCast_one]; omega)) | ((conv => whnf); exact congrArg (AVal.irow _) (by first | omega | assumption | (simp only; omega)))) ?_; conv => whnf))
        · rename_i hc0 hc1 hc2 hcE
          have hin : inEB (n, d) (zs.getD j lT.dflt) = true := inEB_3 hcE
          refine ⟨(j + 1, some (zs.getD j lT.dflt)), ⟨by have : (j : Int) < (zs.length : Nat) := hc0; omega, hst _ hc0 ?_, fun q' h => by cases h; exact hp hc0⟩, by have : (j : Int) < (zs.length : Nat) := hc0; simp only; omega, ?_⟩
          · rw [← h2]; exact (limF_y hin hc).symm
          · conv => whnf
            refine ⟨?_, by (conv => whnf); repeat (first | exact True.intro | (refine And.intro rfl ?_; conv => whnf)), by (conv => whnf); repeat (first | exact True.intro | (refine And.intro (by first | rfl | (subst_vars; rfl)) ?_; conv => whnf)), rfl, rfl, rfl, rfl, rfl, rfl, rfl, Nat.le_of_ble_eq_true rfl, Nat.le_of_ble_eq_true rfl⟩
            conv => whnf
            repeat (first | exact True.intro | (refine And.intro (by first | rfl | ((conv => whnf); exact congrArg (AVal.int .i64) (by omega)) | ((conv => whnf); exact congrArg (AVal.int .i64) (by simp only [Int.natCast_add, Int.natCast_one]; omega)) | ((conv => whnf); exact congrArg (AVal.irow _) (by first | omega | assumption | (simp only; omega)))) ?_; conv => whnf))
        · rename_i hc0 hc1 hc2 hcE
          have hin : inEB (n, d) (zs.getD j lT.dflt) = true := inEB_3 hcE
          refine ⟨(j + 1, some (q)), ⟨by have : (j : Int) < (zs.length : Nat) := hc0; omega, hst _ hc0 ?_, fun q' h => by cases h; exact hq⟩, by have : (j : Int) < (zs.length : Nat) := hc0; simp only; omega, ?_⟩
          · rw [← h2]; exact (limF_n hin hc).symm
          · conv => whnf
            refine ⟨?_, by (conv => whnf); repeat (first | exact True.intro | (refine And.intro rfl ?_; conv => whnf)), by (conv => whnf); repeat (first | exact True.intro | (refine And.intro (by first | rfl | (subst_vars; rfl)) ?_; conv => whnf)), rfl, rfl, rfl, rfl, rfl, rfl, rfl, Nat.le_of_ble_eq_true rfl, Nat.le_of_ble_eq_true rfl⟩
            conv => whnf
            repeat (first | exact True.intro | (refine And.intro (by first | rfl | ((conv => whnf); exact congrArg (AVal.int .i64) (by omega)) | ((conv => whnf); exact congrArg (AVal.int .i64) (by simp only [Int.natCast_add, Int.natCast_one]; omega)) | ((conv => whnf); exact congrArg (AVal.irow _) (by first | omega | assumption | (simp only; omega)))) ?_; conv => whnf))
        · rename_i hc0 hc1 hc2
          have hin : ¬ inEB (n, d) (zs.getD j lT.dflt) = true := inEB_no hc1 hc2 hc
          refine ⟨(j + 1, some q), ⟨by have : (j : Int) < (zs.length : Nat) := hc0; omega, hst _ hc0 ?_, fun q' h => by cases h; exact hq⟩, by have : (j : Int) < (zs.length : Nat) := hc0; simp only; omega, ?_⟩
          · rw [← h2, limF, if_neg hin]
          · conv => whnf
            refine ⟨?_, by (conv => whnf); repeat (first | exact True.intro | (refine And.intro rfl ?_; conv => whnf)), by (conv => whnf); repeat (first | exact True.intro | (refine And.intro (by first | rfl | (subst_vars; rfl)) ?_; conv => whnf)), rfl, rfl, rfl, rfl, rfl, rfl, rfl, Nat.le_of_ble_eq_true rfl, Nat.le_of_ble_eq_true rfl⟩
            conv => whnf
            repeat (first | exact True.intro | (refine And.intro (by first | rfl | ((conv => whnf); exact congrArg (AVal.int .i64) (by omega)) | ((conv => whnf); exact congrArg (AVal.int .i64) (by simp only [Int.natCast_add, Int.natCast_one]; omega)) | ((conv => whnf); exact congrArg (AVal.irow _) (by first | omega | assumption | (simp only; omega)))) ?_; conv => whnf))
        · have hl : ¬ (j : Int) < (zs.length : Nat) := hc
          rw [List.take_of_length_le (by omega), hfg] at h2
          exact leaf0 rfl (by rw [← h2] <;> rfl) rfl
end Go.Proofs.Ytadlnnjgocknhab.Fw
