/- The law of leaves, walked. -/
import Derived.Test.YtadlnnjgocknhacJ4
namespace Go.Proofs.Ytadlnnjgocknhac.Fw
open Go Go.RowKit
set_option linter.unusedVariables false
set_option linter.unusedSimpArgs false
set_option maxRecDepth 100000
set_option maxHeartbeats 4000000

theorem len_bd {l : Lf} (h : (lenO l).2 = 0) : Rng .i64 (2 * (lenO l).1.1) ∧ 2 * (lenO l).1.1 ≤ (lenO l).1.2 := by
  refine ⟨?_, len_half h⟩
  have h2 := len_half h
  have h3 : 0 ≤ (lenO l).1.1 ∧ (lenO l).1.2 ≤ 8191 := by
    by_cases hl : IsL l
    · rw [lenO_t hl] at h ⊢
      by_cases ht : 8191 < (sizeL l).2
      · rw [tolA_t ht] at h; exact absurd h (by decide)
      · rw [tolA_f ht]
        have fd : IsF (sizeL l) := dist_f hl.1.f hl.2.1.f
        exact ⟨fd.2.1, by simp only; omega⟩
    · rw [lenO_f hl] at h; exact absurd h (by decide)
  simp only [Rng]; omega
attribute [local irreducible] pastO pastN imgO imgC
def lawLvC : PCtr := fun _ rg _ vals k => match vals with
  | [.row i] => rowC bT (rg i) fun code => Bts code ∧ k [] (.bool true)
  | _ => False
abbrev GLv := (GOk.cons big_ok (GOk.rcons dCr_ok (GOk.rcons dPb_ok (GOk.rcons dIm_ok (GOk.rcons dLe_ok (GOk.rcons dLo_ok (GOk.rcons dIs_ok (GOk.cons crsO_ok (GOk.cons sCrsO_ok (GOk.cons isLeaf_ok (GOk.cons sIsLf_ok (GOk.cons past_ok (GOk.cons sPast_ok (GOk.cons lvs5_ok (GOk.cons igO_ok (GOk.cons sImgO_ok (GOk.cons lenO_ok (GOk.cons sLenO_ok (GOk.cons lfO_ok (GOk.cons sLfO_ok (GOk.cons imagesOf_ok (GOk.cons sImagesOf_ok .nil))))))))))))))))))))))
theorem lawLv_ok : PCtrOk Try.prog 4 lawLvC where
  enter := enter_ok Try.func4 (by kernel_rfl) rfl
  calls := by
    intro hg rg lr vals k h
    unfold lawLvC at h
    split at h
    case h_2 => exact h.elim
    rename_i i
    obtain ⟨e, own, code, hi, h⟩ : ∃ e own, ∃ (xs : List Int), _ := rowC_inv h
    obtain ⟨hb, hk⟩ := h
    refine ⟨_, _, hk, fun A w hB hR => ?_⟩
    refine enter T_ok GLv Try.func4 rfl (K := (· < w.heap.size)) (fun _ h => h) (A := A.pick [] [i]) (vals := [.row 0]) (n0 := 0) (b0 := 0) (rows := [some ⟨bT, e, false, code⟩]) (hp := []) rfl (Nat.zero_le _) no_box rfl (one_row (hR i _ hi)) rfl rfl (Nat.le_of_ble_eq_true rfl) ?_
    conv => whnf
    repeat (refine V_step T_ok GLv rfl ?_; conv => whnf)
    repeat (any_goals (first
      | (refine V_step T_ok GLv rfl ?_; conv => whnf)
      | (refine V_drawN T_ok GLv mixed (by kernel_rfl) ?_; conv => whnf)
      | (refine bcond_split (fun hc => ?_) (fun hc => ?_) <;> (try simp only [decide_eq_true_eq, decide_eq_false_iff_not, Bool.not_eq_true', Bool.not_eq_false', Bool.and_eq_true, Bool.or_eq_true, Bool.and_eq_false_imp, Bool.or_eq_false_iff, ne_eq, Decidable.not_not] at hc) <;> conv => whnf)
      | (intro ysK hysK; have hysl := congrArg List.length hysK; (try simp only [List.length_set, List.length_append, List.length_cons, List.length_nil, List.length_take, List.length_drop, List.length_replicate] at hysl); conv => whnf)
      | (intro bK hbK; have hbl := congrArg ByteArray.size hbK; conv => whnf)
      | (intro sK hsK; conv => whnf)
      | (refine And.intro (by first | (first | exact True.intro | exact hb) | exact True.intro | exact ⟨rfl, True.intro, fun _ _ => rfl⟩ | exact Nat.le_of_ble_eq_true rfl | (refine ⟨by (try simp only [List.length_cons, List.length_nil]); omega, Int.le_trans (Int.mul_le_mul_of_nonneg_left (show (TInfo.bytes _ : Int) ≤ 64 from Int.ofNat_le.2 (Nat.le_of_ble_eq_true rfl)) (by omega)) (by (try simp only [List.length_cons, List.length_nil]); omega)⟩)) ?_; conv => whnf)))
    all_goals first
      | exact leaf0 rfl rfl rfl
      | exact absurd trivial hc
      | (rename_i s1 h1 s2 h2; exact absurd (congrArg Prod.snd (h1.trans h2.symm)) hc)
      | (rename_i s1 h1 s2 h2 _; rw [h1.trans h2.symm, beq_self_eq_true] at hc; cases hc; done)
      | (rename_i s1 h1 s2 h2 _ _; exact absurd (congrArg Prod.snd (hsK.trans ((crsO_symm _ _).trans h1.symm))) hc)
      | (rename_i s1 h1 s2 h2 _ _ _; rw [hsK.trans ((crsO_symm _ _).trans h1.symm), beq_self_eq_true] at hc; cases hc; done)
      | (rw [beq_self_eq_true] at hc; cases hc; done)
      | skip
    obtain ⟨⟨⟨a1, a2⟩, a3, a4⟩, ⟨b1, b2⟩, b3, b4⟩ := sK
    have hlaw : pastN ((a1, a2), a3, a4) ((b1, b2), b3, b4) = 0 → _ := past_law
    have hlen := pastO_len ((a1, a2), a3, a4) ((b1, b2), b3, b4)
    obtain ⟨L, hL⟩ : ∃ L, pastO ((a1, a2), a3, a4) ((b1, b2), b3, b4) = L := ⟨_, rfl⟩
    simp only
    rw [hL] at hlaw hlen ⊢
    have hl1 : List.length (α := Lf) L ≤ 100000 := by omega
    have hlk : ∀ x : List Lf, eqL5 x x = true := fun x => decide_eq_true rfl
    repeat (any_goals (first
      | (refine V_step T_ok GLv rfl ?_; conv => whnf)
      | (refine V_drawN T_ok GLv mixed (by kernel_rfl) ?_; conv => whnf)
      | (refine bcond_split (fun hc => ?_) (fun hc => ?_) <;> (try simp only [decide_eq_true_eq, decide_eq_false_iff_not, Bool.not_eq_true', Bool.not_eq_false', Bool.and_eq_true, Bool.or_eq_true, Bool.and_eq_false_imp, Bool.or_eq_false_iff, ne_eq, Decidable.not_not] at hc) <;> conv => whnf)
      | (intro ysK hysK; have hysl := congrArg List.length hysK; (try simp only [List.length_set, List.length_append, List.length_cons, List.length_nil, List.length_take, List.length_drop, List.length_replicate] at hysl); conv => whnf)
      | (intro bK hbK; have hbl := congrArg ByteArray.size hbK; conv => whnf)
      | (intro sK hsK; conv => whnf)
      | (refine And.intro (by first | (first | exact True.intro | exact ⟨hl1, hl1⟩) | exact True.intro | exact ⟨rfl, True.intro, fun _ _ => rfl⟩ | exact Nat.le_of_ble_eq_true rfl | (refine ⟨by (try simp only [List.length_cons, List.length_nil]); omega, Int.le_trans (Int.mul_le_mul_of_nonneg_left (show (TInfo.bytes _ : Int) ≤ 64 from Int.ofNat_le.2 (Nat.le_of_ble_eq_true rfl)) (by omega)) (by (try simp only [List.length_cons, List.length_nil]); omega)⟩)) ?_; conv => whnf)))
    · rw [hlk] at hc; cases hc
    · obtain ⟨g1, g2, p, q, e, hp, hq, hpq⟩ := hlaw hc
      have hLl : List.length (α := Lf) L = 2 := by rw [e]; rfl
      have hg : ∀ i : Nat, i < 2 → igO (List.getD (α := Lf) L i lT.dflt) = (((a1, a2), a3, a4), 0) ∧ crsO (List.getD (α := Lf) L i lT.dflt) ((b1, b2), b3, b4) = (false, 0) := fun i hi => by
        have hh : ∀ x, PbOk ((a1, a2), a3, a4) ((b1, b2), b3, b4) x → igO x = (((a1, a2), a3, a4), 0) ∧ crsO x ((b1, b2), b3, b4) = (false, 0) := fun x hx =>
          ⟨by rw [igO_t hx.1 hx.2.1, hx.2.2.1], by rw [crsO_t ⟨hx.1, g2⟩, hx.2.2.2]⟩
        have h01 : i = 0 ∨ i = 1 := by omega
        rcases h01 with rfl | rfl
        · rw [e]; exact hh p hp
        · rw [e]; exact hh q hq
      have hcr : crsO (List.getD (α := Lf) L 0 lT.dflt) (List.getD (α := Lf) L 1 lT.dflt) = (false, 0) := by rw [e]; exact (crsO_t ⟨hp.1, hq.1⟩).trans (by rw [hpq])
      clear e hp hq hpq p q
      have x0 : (0 : Int) ≤ 0 ∧ (0 : Int) < (List.length (α := Lf) L : Int) := by omega
      have x1 : (0 : Int) ≤ 1 ∧ (1 : Int) < (List.length (α := Lf) L : Int) := by omega
      have y0 : Int.toNat 0 < List.length (α := Lf) L := by rw [hLl]; decide
      have y1 : Int.toNat 1 < List.length (α := Lf) L := by rw [hLl]; decide
      repeat (any_goals (first
        | (refine V_step T_ok GLv rfl ?_; conv => whnf)
        | (refine V_drawN T_ok GLv mixed (by kernel_rfl) ?_; conv => whnf)
        | (refine bcond_split (fun hc => ?_) (fun hc => ?_) <;> (try simp only [decide_eq_true_eq, decide_eq_false_iff_not, Bool.not_eq_true', Bool.not_eq_false', Bool.and_eq_true, Bool.or_eq_true, Bool.and_eq_false_imp, Bool.or_eq_false_iff, ne_eq, Decidable.not_not] at hc) <;> conv => whnf)
        | (intro ysK hysK; have hysl := congrArg List.length hysK; (try simp only [List.length_set, List.length_append, List.length_cons, List.length_nil, List.length_take, List.length_drop, List.length_replicate] at hysl); conv => whnf)
        | (intro bK hbK; have hbl := congrArg ByteArray.size hbK; conv => whnf)
        | (intro sK hsK; conv => whnf)
        | (refine And.intro (by first | (first | exact True.intro | exact x0 | exact x1 | exact y0 | exact y1) | exact True.intro | exact ⟨rfl, True.intro, fun _ _ => rfl⟩ | exact Nat.le_of_ble_eq_true rfl | (refine ⟨by (try simp only [List.length_cons, List.length_nil]); omega, Int.le_trans (Int.mul_le_mul_of_nonneg_left (show (TInfo.bytes _ : Int) ≤ 64 from Int.ofNat_le.2 (Nat.le_of_ble_eq_true rfl)) (by omega)) (by (try simp only [List.length_cons, List.length_nil]); omega)⟩)) ?_; conv => whnf)))
      · have z : sK = (false, 0) := hsK.trans hcr
        rw [z] at hc; exact absurd rfl hc
      · have z : sK = (false, 0) := hsK.trans hcr
        rw [z] at hc; cases hc
      clear x0 x1 y0 y1 hcr
      refine V_loopH (γ := Nat) (fun g => g ≤ 2) (fun g => 2 - g) (fun g => [(19, .int .i64 g)]) (fun _ => []) (fun _ => []) 0 (Nat.zero_le _) ?_ ?_
      · clear hg
        conv => whnf
        refine ⟨?_, by (conv => whnf); repeat (first | exact True.intro | (refine And.intro rfl ?_; conv => whnf)), by (conv => whnf); repeat (first | exact True.intro | (refine And.intro (by first | rfl | (subst_vars; rfl)) ?_; conv => whnf)), rfl, rfl, rfl, rfl, rfl, rfl, rfl, Nat.le_of_ble_eq_true rfl, Nat.le_of_ble_eq_true rfl⟩
        conv => whnf
        repeat (first | exact True.intro | (refine And.intro (by first | rfl | ((conv => whnf); exact congrArg (AVal.int .i64) (by omega)) | ((conv => whnf); exact congrArg (AVal.int .i64) (by simp only [Int.natCast_add, Int.natCast_one]; omega)) | ((conv => whnf); exact congrArg (AVal.irow _) (by first | omega | assumption | (simp only; omega)))) ?_; conv => whnf))
      · rintro g g1
        have x0 : (g : Int) < 2 → (0 : Int) ≤ g ∧ (g : Int) < (List.length (α := Lf) L : Int) := fun h => by omega
        have y0 : (g : Int) < 2 → Int.toNat (g : Int) < List.length (α := Lf) L := fun h => by omega
        have w1 : (g : Int) < 2 → igO (List.getD (α := Lf) L (Int.toNat (g : Int)) lT.dflt) = (((a1, a2), a3, a4), 0) ∧ crsO (List.getD (α := Lf) L (Int.toNat (g : Int)) lT.dflt) ((b1, b2), b3, b4) = (false, 0) := fun h => hg g (by omega)
        have r9 : (g : Int) < 2 → Rng .i64 ((g : Int) + 1) := fun h => by simp only [Rng]; omega
        conv => whnf
        refine vcCode_sound T_ok GLv _ _ _ _ _ ?_
        conv => whnf
        repeat (refine V_step T_ok GLv rfl ?_; conv => whnf)
        repeat (any_goals (first
          | (refine V_step T_ok GLv rfl ?_; conv => whnf)
          | (refine V_drawN T_ok GLv mixed (by kernel_rfl) ?_; conv => whnf)
          | (refine bcond_split (fun hc => ?_) (fun hc => ?_) <;> (try simp only [decide_eq_true_eq, decide_eq_false_iff_not, Bool.not_eq_true', Bool.not_eq_false', Bool.and_eq_true, Bool.or_eq_true, Bool.and_eq_false_imp, Bool.or_eq_false_iff, ne_eq, Decidable.not_not] at hc) <;> conv => whnf)
          | (intro ysK hysK; have hysl := congrArg List.length hysK; (try simp only [List.length_set, List.length_append, List.length_cons, List.length_nil, List.length_take, List.length_drop, List.length_replicate] at hysl); conv => whnf)
          | (intro bK hbK; have hbl := congrArg ByteArray.size hbK; conv => whnf)
          | (intro sK hsK; conv => whnf)
          | (refine And.intro (by first | (first | exact True.intro | exact x0 (by assumption) | exact y0 (by assumption) | exact r9 (by assumption)) | exact True.intro | exact ⟨rfl, True.intro, fun _ _ => rfl⟩ | exact Nat.le_of_ble_eq_true rfl | (refine ⟨by (try simp only [List.length_cons, List.length_nil]); omega, Int.le_trans (Int.mul_le_mul_of_nonneg_left (show (TInfo.bytes _ : Int) ≤ 64 from Int.ofNat_le.2 (Nat.le_of_ble_eq_true rfl)) (by omega)) (by (try simp only [List.length_cons, List.length_nil]); omega)⟩)) ?_; conv => whnf)))
        · rename_i s0 hs0
          have z0 : s0 = (((a1, a2), a3, a4), 0) := hs0.trans (w1 (by assumption)).1
          rw [z0] at hc; exact absurd rfl hc
        · have z : sK = (false, 0) := hsK.trans (w1 (by assumption)).2
          rw [z] at hc; exact absurd rfl hc
        · rename_i s0 hs0 _ _
          have z0 : s0 = (((a1, a2), a3, a4), 0) := hs0.trans (w1 (by assumption)).1
          rw [z0] at hc; exact absurd rfl (hc ⟨rfl, rfl⟩ rfl)
        · have z : sK = (false, 0) := hsK.trans (w1 (by assumption)).2
          rw [z] at hc; cases hc
        · have hlt : (g : Int) < 2 := by assumption
          clear w1 hg x0 y0 r9
          refine ⟨g + 1, by omega, by omega, ?_⟩
          conv => whnf
          refine ⟨?_, by (conv => whnf); repeat (first | exact True.intro | (refine And.intro rfl ?_; conv => whnf)), by (conv => whnf); repeat (first | exact True.intro | (refine And.intro (by first | rfl | (subst_vars; rfl)) ?_; conv => whnf)), rfl, rfl, rfl, rfl, rfl, rfl, rfl, Nat.le_of_ble_eq_true rfl, Nat.le_of_ble_eq_true rfl⟩
          conv => whnf
          repeat (first | exact True.intro | (refine And.intro (by first | rfl | ((conv => whnf); exact congrArg (AVal.int .i64) (by omega)) | ((conv => whnf); exact congrArg (AVal.int .i64) (by simp only [Int.natCast_add, Int.natCast_one]; omega)) | ((conv => whnf); exact congrArg (AVal.irow _) (by first | omega | assumption | (simp only; omega)))) ?_; conv => whnf))
        · clear w1 hg x0 y0 r9
          refine And.intro hb ?_
          conv => whnf
          repeat (any_goals (first
            | (refine V_step T_ok GLv rfl ?_; conv => whnf)
            | (refine V_drawN T_ok GLv mixed (by kernel_rfl) ?_; conv => whnf)
            | (refine bcond_split (fun hc => ?_) (fun hc => ?_) <;> (try simp only [decide_eq_true_eq, decide_eq_false_iff_not, Bool.not_eq_true', Bool.not_eq_false', Bool.and_eq_true, Bool.or_eq_true, Bool.and_eq_false_imp, Bool.or_eq_false_iff, ne_eq, Decidable.not_not] at hc) <;> conv => whnf)
            | (intro ysK hysK; have hysl := congrArg List.length hysK; (try simp only [List.length_set, List.length_append, List.length_cons, List.length_nil, List.length_take, List.length_drop, List.length_replicate] at hysl); conv => whnf)
            | (intro bK hbK; have hbl := congrArg ByteArray.size hbK; conv => whnf)
            | (intro sK hsK; conv => whnf)
            | (refine And.intro (by first | (first | exact True.intro) | exact True.intro | exact ⟨rfl, True.intro, fun _ _ => rfl⟩ | exact Nat.le_of_ble_eq_true rfl | (refine ⟨by (try simp only [List.length_cons, List.length_nil]); omega, Int.le_trans (Int.mul_le_mul_of_nonneg_left (show (TInfo.bytes _ : Int) ≤ 64 from Int.ofNat_le.2 (Nat.le_of_ble_eq_true rfl)) (by omega)) (by (try simp only [List.length_cons, List.length_nil]); omega)⟩)) ?_; conv => whnf)))
          rename_i q1 hq1
          have e1 := hq1.trans hsK.symm
          subst e1
          clear hsK
          refine And.intro hb ?_
          conv => whnf
          repeat (any_goals (first
            | (refine V_step T_ok GLv rfl ?_; conv => whnf)
            | (refine V_drawN T_ok GLv mixed (by kernel_rfl) ?_; conv => whnf)
            | (refine bcond_split (fun hc => ?_) (fun hc => ?_) <;> (try simp only [decide_eq_true_eq, decide_eq_false_iff_not, Bool.not_eq_true', Bool.not_eq_false', Bool.and_eq_true, Bool.or_eq_true, Bool.and_eq_false_imp, Bool.or_eq_false_iff, ne_eq, Decidable.not_not] at hc) <;> conv => whnf)
            | (intro ysK hysK; have hysl := congrArg List.length hysK; (try simp only [List.length_set, List.length_append, List.length_cons, List.length_nil, List.length_take, List.length_drop, List.length_replicate] at hysl); conv => whnf)
            | (intro bK hbK; have hbl := congrArg ByteArray.size hbK; conv => whnf)
            | (intro sK hsK; conv => whnf)
            | (refine And.intro (by first | (first | exact True.intro) | exact True.intro | exact ⟨rfl, True.intro, fun _ _ => rfl⟩ | exact Nat.le_of_ble_eq_true rfl | (refine ⟨by (try simp only [List.length_cons, List.length_nil]); omega, Int.le_trans (Int.mul_le_mul_of_nonneg_left (show (TInfo.bytes _ : Int) ≤ 64 from Int.ofNat_le.2 (Nat.le_of_ble_eq_true rfl)) (by omega)) (by (try simp only [List.length_cons, List.length_nil]); omega)⟩)) ?_; conv => whnf)))
          rename_i s1 hs1
          have e2 := hs1.trans hsK.symm
          subst e2
          clear hsK
          refine And.intro hb ?_
          conv => whnf
          repeat (any_goals (first
            | (refine V_step T_ok GLv rfl ?_; conv => whnf)
            | (refine V_drawN T_ok GLv mixed (by kernel_rfl) ?_; conv => whnf)
            | (refine bcond_split (fun hc => ?_) (fun hc => ?_) <;> (try simp only [decide_eq_true_eq, decide_eq_false_iff_not, Bool.not_eq_true', Bool.not_eq_false', Bool.and_eq_true, Bool.or_eq_true, Bool.and_eq_false_imp, Bool.or_eq_false_iff, ne_eq, Decidable.not_not] at hc) <;> conv => whnf)
            | (intro ysK hysK; have hysl := congrArg List.length hysK; (try simp only [List.length_set, List.length_append, List.length_cons, List.length_nil, List.length_take, List.length_drop, List.length_replicate] at hysl); conv => whnf)
            | (intro bK hbK; have hbl := congrArg ByteArray.size hbK; conv => whnf)
            | (intro sK hsK; conv => whnf)
            | (refine And.intro (by first | (first | exact True.intro) | exact True.intro | exact ⟨rfl, True.intro, fun _ _ => rfl⟩ | exact Nat.le_of_ble_eq_true rfl | (refine ⟨by (try simp only [List.length_cons, List.length_nil]); omega, Int.le_trans (Int.mul_le_mul_of_nonneg_left (show (TInfo.bytes _ : Int) ≤ 64 from Int.ofNat_le.2 (Nat.le_of_ble_eq_true rfl)) (by omega)) (by (try simp only [List.length_cons, List.length_nil]); omega)⟩)) ?_; conv => whnf)))
          rename_i t1 ht1
          have e3 := ht1.trans hsK.symm
          subst e3
          clear hsK
          refine And.intro hb ?_
          conv => whnf
          have hi2 : ∀ e : Lf, List.length (α := Lf) (imgO e) ≤ 100000 := fun e => by have := imgO_len e; omega
          have hlh : s1.2 = 0 → Rng .i64 (2 * s1.1.1) ∧ 2 * s1.1.1 ≤ s1.1.2 := fun h => by rw [hs1] at h ⊢; exact len_bd h
          repeat (any_goals (first
            | (refine V_step T_ok GLv rfl ?_; conv => whnf)
            | (refine V_drawN T_ok GLv mixed (by kernel_rfl) ?_; conv => whnf)
            | (refine bcond_split (fun hc => ?_) (fun hc => ?_) <;> (try simp only [decide_eq_true_eq, decide_eq_false_iff_not, Bool.not_eq_true', Bool.not_eq_false', Bool.and_eq_true, Bool.or_eq_true, Bool.and_eq_false_imp, Bool.or_eq_false_iff, ne_eq, Decidable.not_not] at hc) <;> conv => whnf)
            | (intro ysK hysK; have hysl := congrArg List.length hysK; (try simp only [List.length_set, List.length_append, List.length_cons, List.length_nil, List.length_take, List.length_drop, List.length_replicate] at hysl); conv => whnf)
            | (intro bK hbK; have hbl := congrArg ByteArray.size hbK; conv => whnf)
            | (intro sK hsK; conv => whnf)
            | (refine And.intro (by first | (first | exact True.intro | exact ⟨hi2 _, hi2 _⟩ | exact (hlh (by assumption)).1) | exact True.intro | exact ⟨rfl, True.intro, fun _ _ => rfl⟩ | exact Nat.le_of_ble_eq_true rfl | (refine ⟨by (try simp only [List.length_cons, List.length_nil]); omega, Int.le_trans (Int.mul_le_mul_of_nonneg_left (show (TInfo.bytes _ : Int) ≤ 64 from Int.ofNat_le.2 (Nat.le_of_ble_eq_true rfl)) (by omega)) (by (try simp only [List.length_cons, List.length_nil]); omega)⟩)) ?_; conv => whnf)))
          all_goals first
            | exact leaf0 rfl rfl rfl
            | exact absurd rfl hc
            | exact absurd rfl (hc rfl)
            | exact absurd rfl (hc ⟨rfl, rfl⟩ rfl)
            | exact absurd (hlh (by assumption)).2 hc
            | exact absurd trivial hc
            | exact absurd trivial (hc trivial)
            | exact absurd trivial (hc ⟨trivial, trivial⟩ trivial)
            | (rw [hlk] at hc; cases hc; done)
            | exact leaf0 rfl (congrArg AVal.bool (hlk _)) rfl
            | exact leaf0 rfl (congrArg AVal.bool (decide_eq_true (hlh (by assumption)).2)) rfl
            | skip
    · skip
      refine And.intro hb ?_
      conv => whnf
      repeat (any_goals (first
        | (refine V_step T_ok GLv rfl ?_; conv => whnf)
        | (refine V_drawN T_ok GLv mixed (by kernel_rfl) ?_; conv => whnf)
        | (refine bcond_split (fun hc => ?_) (fun hc => ?_) <;> (try simp only [decide_eq_true_eq, decide_eq_false_iff_not, Bool.not_eq_true', Bool.not_eq_false', Bool.and_eq_true, Bool.or_eq_true, Bool.and_eq_false_imp, Bool.or_eq_false_iff, ne_eq, Decidable.not_not] at hc) <;> conv => whnf)
        | (intro ysK hysK; have hysl := congrArg List.length hysK; (try simp only [List.length_set, List.length_append, List.length_cons, List.length_nil, List.length_take, List.length_drop, List.length_replicate] at hysl); conv => whnf)
        | (intro bK hbK; have hbl := congrArg ByteArray.size hbK; conv => whnf)
        | (intro sK hsK; conv => whnf)
        | (refine And.intro (by first | (first | exact True.intro) | exact True.intro | exact ⟨rfl, True.intro, fun _ _ => rfl⟩ | exact Nat.le_of_ble_eq_true rfl | (refine ⟨by (try simp only [List.length_cons, List.length_nil]); omega, Int.le_trans (Int.mul_le_mul_of_nonneg_left (show (TInfo.bytes _ : Int) ≤ 64 from Int.ofNat_le.2 (Nat.le_of_ble_eq_true rfl)) (by omega)) (by (try simp only [List.length_cons, List.length_nil]); omega)⟩)) ?_; conv => whnf)))
      rename_i q1 hq1
      have e1 := hq1.trans hsK.symm
      subst e1
      clear hsK
      refine And.intro hb ?_
      conv => whnf
      repeat (any_goals (first
        | (refine V_step T_ok GLv rfl ?_; conv => whnf)
        | (refine V_drawN T_ok GLv mixed (by kernel_rfl) ?_; conv => whnf)
        | (refine bcond_split (fun hc => ?_) (fun hc => ?_) <;> (try simp only [decide_eq_true_eq, decide_eq_false_iff_not, Bool.not_eq_true', Bool.not_eq_false', Bool.and_eq_true, Bool.or_eq_true, Bool.and_eq_false_imp, Bool.or_eq_false_iff, ne_eq, Decidable.not_not] at hc) <;> conv => whnf)
        | (intro ysK hysK; have hysl := congrArg List.length hysK; (try simp only [List.length_set, List.length_append, List.length_cons, List.length_nil, List.length_take, List.length_drop, List.length_replicate] at hysl); conv => whnf)
        | (intro bK hbK; have hbl := congrArg ByteArray.size hbK; conv => whnf)
        | (intro sK hsK; conv => whnf)
        | (refine And.intro (by first | (first | exact True.intro) | exact True.intro | exact ⟨rfl, True.intro, fun _ _ => rfl⟩ | exact Nat.le_of_ble_eq_true rfl | (refine ⟨by (try simp only [List.length_cons, List.length_nil]); omega, Int.le_trans (Int.mul_le_mul_of_nonneg_left (show (TInfo.bytes _ : Int) ≤ 64 from Int.ofNat_le.2 (Nat.le_of_ble_eq_true rfl)) (by omega)) (by (try simp only [List.length_cons, List.length_nil]); omega)⟩)) ?_; conv => whnf)))
      rename_i s1 hs1
      have e2 := hs1.trans hsK.symm
      subst e2
      clear hsK
      refine And.intro hb ?_
      conv => whnf
      repeat (any_goals (first
        | (refine V_step T_ok GLv rfl ?_; conv => whnf)
        | (refine V_drawN T_ok GLv mixed (by kernel_rfl) ?_; conv => whnf)
        | (refine bcond_split (fun hc => ?_) (fun hc => ?_) <;> (try simp only [decide_eq_true_eq, decide_eq_false_iff_not, Bool.not_eq_true', Bool.not_eq_false', Bool.and_eq_true, Bool.or_eq_true, Bool.and_eq_false_imp, Bool.or_eq_false_iff, ne_eq, Decidable.not_not] at hc) <;> conv => whnf)
        | (intro ysK hysK; have hysl := congrArg List.length hysK; (try simp only [List.length_set, List.length_append, List.length_cons, List.length_nil, List.length_take, List.length_drop, List.length_replicate] at hysl); conv => whnf)
        | (intro bK hbK; have hbl := congrArg ByteArray.size hbK; conv => whnf)
        | (intro sK hsK; conv => whnf)
        | (refine And.intro (by first | (first | exact True.intro) | exact True.intro | exact ⟨rfl, True.intro, fun _ _ => rfl⟩ | exact Nat.le_of_ble_eq_true rfl | (refine ⟨by (try simp only [List.length_cons, List.length_nil]); omega, Int.le_trans (Int.mul_le_mul_of_nonneg_left (show (TInfo.bytes _ : Int) ≤ 64 from Int.ofNat_le.2 (Nat.le_of_ble_eq_true rfl)) (by omega)) (by (try simp only [List.length_cons, List.length_nil]); omega)⟩)) ?_; conv => whnf)))
      rename_i t1 ht1
      have e3 := ht1.trans hsK.symm
      subst e3
      clear hsK
      refine And.intro hb ?_
      conv => whnf
      have hi2 : ∀ e : Lf, List.length (α := Lf) (imgO e) ≤ 100000 := fun e => by have := imgO_len e; omega
      have hlh : s1.2 = 0 → Rng .i64 (2 * s1.1.1) ∧ 2 * s1.1.1 ≤ s1.1.2 := fun h => by rw [hs1] at h ⊢; exact len_bd h
      repeat (any_goals (first
        | (refine V_step T_ok GLv rfl ?_; conv => whnf)
        | (refine V_drawN T_ok GLv mixed (by kernel_rfl) ?_; conv => whnf)
        | (refine bcond_split (fun hc => ?_) (fun hc => ?_) <;> (try simp only [decide_eq_true_eq, decide_eq_false_iff_not, Bool.not_eq_true', Bool.not_eq_false', Bool.and_eq_true, Bool.or_eq_true, Bool.and_eq_false_imp, Bool.or_eq_false_iff, ne_eq, Decidable.not_not] at hc) <;> conv => whnf)
        | (intro ysK hysK; have hysl := congrArg List.length hysK; (try simp only [List.length_set, List.length_append, List.length_cons, List.length_nil, List.length_take, List.length_drop, List.length_replicate] at hysl); conv => whnf)
        | (intro bK hbK; have hbl := congrArg ByteArray.size hbK; conv => whnf)
        | (intro sK hsK; conv => whnf)
        | (refine And.intro (by first | (first | exact True.intro | exact ⟨hi2 _, hi2 _⟩ | exact (hlh (by assumption)).1) | exact True.intro | exact ⟨rfl, True.intro, fun _ _ => rfl⟩ | exact Nat.le_of_ble_eq_true rfl | (refine ⟨by (try simp only [List.length_cons, List.length_nil]); omega, Int.le_trans (Int.mul_le_mul_of_nonneg_left (show (TInfo.bytes _ : Int) ≤ 64 from Int.ofNat_le.2 (Nat.le_of_ble_eq_true rfl)) (by omega)) (by (try simp only [List.length_cons, List.length_nil]); omega)⟩)) ?_; conv => whnf)))
      all_goals first
        | exact leaf0 rfl rfl rfl
        | exact absurd rfl hc
        | exact absurd rfl (hc rfl)
        | exact absurd rfl (hc ⟨rfl, rfl⟩ rfl)
        | exact absurd (hlh (by assumption)).2 hc
        | exact absurd trivial hc
        | exact absurd trivial (hc trivial)
        | exact absurd trivial (hc ⟨trivial, trivial⟩ trivial)
        | (rw [hlk] at hc; cases hc; done)
        | exact leaf0 rfl (congrArg AVal.bool (hlk _)) rfl
        | exact leaf0 rfl (congrArg AVal.bool (decide_eq_true (hlh (by assumption)).2)) rfl
        | skip
end Go.Proofs.Ytadlnnjgocknhac.Fw
-- %intro
