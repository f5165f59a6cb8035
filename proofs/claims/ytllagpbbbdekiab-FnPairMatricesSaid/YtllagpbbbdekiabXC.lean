/- The law of pair matrices, walked. -/
import Derived.Test.YtllagpbbbdekiabXB
namespace Go.Proofs.Ytllagpbbbdekiab.Fw
open Go Go.RowKit
set_option linter.unusedVariables false
set_option linter.unusedSimpArgs false
set_option maxRecDepth 100000
set_option maxHeartbeats 40000000
theorem V_cutH {E : Env} {c1 c2 : Code} {kN : St → Prop} {kE : Nat → St → Prop} {kR : St → Prop} {σ : St} (h1 : V E c1 (fun σ' => headK σ (mods c1) [] [] [] fun σh => LeG E σ' σh) kE kR σ) (h2 : headK σ (mods c1) [] [] [] fun σh => V E c2 kN kE kR σh) : V E (.seq c1 c2) kN kE kR σ := by
  simp only [headK_eq] at h1 h2
  exact VX_seq ⟨fun Q q1 q2 q3 A a w hs => h1.out Q (fun σ' hle A' a' w' hs' => q1 σ' (V_le _ hle h2) A' a' w' hs') q2 q3 A a w hs⟩
theorem pmO_small (x : Ang) : List.length (α := List Int) (pmO x) ≤ 21 ∧ ∀ r ∈ pmO x, List.length (α := Int) r ≤ 21 := by
  unfold pmO
  split
  · rename_i h
    have ho := orb8_orb (orb8_N h)
    have h1 := ho.len
    have h2 : (prJ ((orb8 x).length : Int) (orb8 x).length).length ≤ 21 := prJ7 _ (by omega)
    exact ⟨by rw [matP_len]; exact h2, fun r hr => by rw [matP_sq _ r hr, matP_len]; exact h2⟩
  · exact ⟨Nat.zero_le _, fun r hr => absurd hr List.not_mem_nil⟩
theorem psoO_small (x : Ang) : List.length (α := List Int) (psoO x) ≤ 21 ∧ ∀ r ∈ psoO x, List.length (α := Int) r ≤ 21 := by
  unfold psoO
  split
  · rename_i h
    have ho := orb8_orb (orb8_N h)
    have h1 := ho.len
    have h2 : (prJ ((orb8 x).length : Int) (orb8 x).length).length ≤ 21 := prJ7 _ (by omega)
    refine ⟨h2, fun r hr => ?_⟩
    obtain ⟨i, k, rfl, _⟩ := mem_prJ.1 hr
    exact Nat.le_of_ble_eq_true rfl
  · exact ⟨Nat.zero_le _, fun r hr => absurd hr List.not_mem_nil⟩
theorem spO_small (x : Ang) : List.length (α := List Int) (spO x) ≤ 21 ∧ ∀ r ∈ spO x, List.length (α := Int) r ≤ 21 := by
  have h0 := psoO_small x
  unfold psoO at h0
  unfold spO
  split
  · rename_i h
    rw [if_pos h] at h0
    exact ⟨Nat.le_trans (List.length_filter_le _ _) h0.1, fun r hr => h0.2 r (List.mem_filter.1 hr).1⟩
  · exact ⟨Nat.zero_le _, fun r hr => absurd hr List.not_mem_nil⟩
theorem pre9 {x y z : List (List Int)} (h : List.length (α := List Int) z ≤ 21 ∧ ∀ r ∈ z, List.length (α := Int) r ≤ 21) (hx : x = z) (hy : y = z) : (List.length (α := List Int) x ≤ 100000 ∧ List.length (α := List Int) y ≤ 100000) ∧ (∀ r ∈ x, List.length (α := Int) r ≤ 100000) ∧ (∀ r ∈ y, List.length (α := Int) r ≤ 100000) := by
  subst hx hy
  have h2 := h.1
  exact ⟨⟨by omega, by omega⟩, fun r hr => by have := h.2 r hr; omega, fun r hr => by have := h.2 r hr; omega⟩
theorem eqLL_eq {x y z : List (List Int)} (hx : x = z) (hy : y = z) : eqLL x y = true := by subst hx hy; exact decide_eq_true rfl
theorem gf_flip {x y : Ang} {n : Int} (h2 : (gfR x y n).2 = 0) (h1 : (gfR x y n).1 = true) : gfR y x n = (false, 0) := by
  by_cases hA : IsA x ∧ IsA y
  · by_cases hp : pcN x n = 0 ∧ pcN y n = 0
    · rw [gfR_0 hA hp] at h1
      have h1 := of_decide_eq_true h1
      rw [gfR_0 ⟨hA.2, hA.1⟩ ⟨hp.2, hp.1⟩, decide_eq_false (by omega)]
    · rw [gfR_2 hA hp] at h2; cases h2
  · rw [gfR_1 hA] at h2; cases h2
theorem po_row {x : Ang} {i j q : Int} {g : Nat} (hg : g < (poR x i j q).1.length) : Nn (2 ^ g) ((poR x i j q).1.getD g []) := by
  by_cases hA : IsA x
  · by_cases hp : poOk x i j q
    · rw [poR_0 hp] at hg ⊢
      have hO := orb8_orb (orb8_N hp.1)
      have hst := stV_ok hO hp.2.2.1 hp.2.2.2.1 hp.2.2.2.2
      simp only [stepsL_len] at hg
      have e : (stepsL (matP (orb8 x)) (stV (orb8 x) i j) q.toNat).getD g [] = stepR (matP (orb8 x)) (stV (orb8 x) i j) g := by
        unfold stepsL
        rw [List.getD_eq_getElem?_getD, List.getElem?_map, List.getElem?_range (by omega)]; rfl
      show Nn (2 ^ g) ((stepsL (matP (orb8 x)) (stV (orb8 x) i j) q.toNat).getD g [])
      rw [e]
      exact stepR_nn hst g
    · rw [poR_2 hA hp] at hg; exact absurd hg (Nat.not_lt_zero _)
  · rw [poR_1 hA] at hg; exact absurd hg (Nat.not_lt_zero _)
theorem pow2_le {g : Nat} (h : g ≤ 21) : (1 : Int) ≤ 2 ^ g ∧ (2 : Int) ^ g ≤ 2097152 := by
  have h1 : (2 : Nat) ^ g ≤ 2 ^ 21 := Nat.pow_le_pow_right (by decide) h
  have h2 : 0 < (2 : Nat) ^ g := Nat.pow_pos (by decide)
  have e : (2 : Int) ^ g = ((2 ^ g : Nat) : Int) := by rw [Int.natCast_pow]; rfl
  rw [e]
  omega
theorem pc_next {x : Ang} {q : Int} (h : pcN x q = 0) (hq : q < 40) : pcN x (q + 1) = 0 ∧ pcV x (q + 1) ≤ 2 * pcV x q ∧ ptV x q ≤ pcV x q := by
  obtain ⟨ho, h0, h40⟩ := pcN_0 h
  have e1 : okK q = true := (okK_iff q).2 ⟨h0, h40⟩
  have e2 : okK (q + 1) = true := (okK_iff _).2 ⟨by omega, by omega⟩
  have h1 : pcN x (q + 1) = 0 := by
    unfold pcN at h ⊢
    rw [e2, ← e1]; exact h
  refine ⟨h1, ?_, ?_⟩
  · unfold pcV
    rw [if_pos h, if_pos h1, show (q + 1).toNat = q.toNat + 1 by omega]
    exact powM_dbl ho q.toNat
  · unfold pcV ptV
    rw [if_pos h, if_pos h]
    exact powM_trs ho q.toNat
theorem pcV_bd {x : Ang} {q : Int} (h : pcN x q = 0) : 0 ≤ pcV x q ∧ pcV x q ≤ 1000000000000000 := by
  obtain ⟨ho, h0, h40⟩ := pcN_0 h
  have hA := powM_all ho (k := q.toNat) (by omega)
  have h1 := all_part hA.nn (Nat.le_refl _)
  have h2 := pow40 q.toNat (by omega)
  have h21 := matP_21 ho
  have hl := powM_len (matP (orb8 x)) q.toNat
  unfold pcV
  rw [if_pos h]
  refine ⟨h1.1, Int.le_trans h1.2 ?_⟩
  have a1 := Int.mul_le_mul_of_nonneg_right h2 (show (0 : Int) ≤ ((powM (matP (orb8 x)) q.toNat).length : Int) by omega)
  omega
theorem mat_row {x : Ang} (h : orbN8 x = 0) {g : Nat} (hg : g < (pmO x).length) : Nn 2 ((pmO x).getD g []) ∧ ((∀ e, e < (spO x).length → (spO x).getD e [] ≠ (psoO x).getD g []) → sumI ((pmO x).getD g []) ≤ 1) := by
  have ho := orb8_orb (orb8_N h)
  have e1 : pmO x = matP (orb8 x) := if_pos h
  have e2 : psoO x = prJ ((orb8 x).length : Int) (orb8 x).length := if_pos h
  have e3 : spO x = (psoO x).filter (sepB (orb8 x)) := by rw [e2]; exact if_pos h
  rw [e1] at hg ⊢
  have hg2 : g < (prJ ((orb8 x).length : Int) (orb8 x).length).length := by rw [matP_len] at hg; exact hg
  have e4 : (matP (orb8 x)).getD g [] = rowP (orb8 x) ((psoO x).getD g []) := by
    unfold matP
    rw [e2, List.getD_eq_getElem?_getD, List.getElem?_map, List.getElem?_eq_getElem hg2, List.getD_eq_getElem?_getD, List.getElem?_eq_getElem hg2]; rfl
  refine ⟨matP_nn ho _ (getD_mem hg), fun hall => ?_⟩
  rw [e4]
  have hm : (psoO x).getD g [] ∈ prJ ((orb8 x).length : Int) (orb8 x).length := by rw [e2]; exact getD_mem hg2
  refine (rowP_one ho hm fun hs => ?_).2
  have hin : (psoO x).getD g [] ∈ spO x := by
    rw [e3]
    exact List.mem_filter.2 ⟨by rw [e2] at hm ⊢; exact hm, hs⟩
  obtain ⟨e, he, heq⟩ := List.mem_iff_getElem.1 hin
  exact hall e he (by rw [List.getD_eq_getElem?_getD, List.getElem?_eq_getElem he]; exact heq)
theorem mat_len (x : Ang) : (pmO x).length = (psoO x).length := by
  unfold pmO psoO
  split
  · rw [matP_len]
  · rfl
def lawPmC : PCtr := fun _ rg _ vals k => match vals with
  | [.row i] => rowC bT (rg i) fun code => Bts code ∧ k [] (.bool true)
  | _ => False
abbrev GLpm := GOk.cons big_ok (GOk.rcons dPm_ok (GOk.cons pm_ok (GOk.cons sPm_ok (GOk.cons lists9_ok (GOk.cons pso_ok (GOk.cons sPso_ok (GOk.cons ss_ok (GOk.cons sSp_ok (GOk.rcons dPc_ok (GOk.cons pc_ok (GOk.cons sPc_ok (GOk.cons pt_ok (GOk.cons sPt_ok (GOk.rcons dGf_ok (GOk.cons gf_ok (GOk.cons sGf_ok (GOk.rcons dPo_ok (GOk.cons po_ok (GOk.cons sPo_ok (GOk.cons sum9_ok (GOk.cons likeI_ok .nil)))))))))))))))))))))
theorem lawPm_ok : PCtrOk Try.prog 3 lawPmC where
  enter := enter_ok Try.func3 (by kernel_rfl) rfl
  calls := by
    intro hg rg lr vals k h
    unfold lawPmC at h
    split at h
    case h_2 => exact h.elim
    rename_i i
    obtain ⟨e, own, code, hi, h⟩ : ∃ e own, ∃ (xs : List Int), _ := rowC_inv h
    obtain ⟨hb, hk⟩ := h
    refine ⟨_, _, hk, fun A w hB hR => ?_⟩
    refine enter T_ok GLpm Try.func3 rfl (K := (· < w.heap.size)) (fun _ h => h) (A := A.pick [] [i]) (vals := [.row 0]) (n0 := 0) (b0 := 0) (rows := [some ⟨bT, e, false, code⟩]) (hp := []) rfl (Nat.zero_le _) no_box rfl (one_row (hR i _ hi)) rfl rfl (Nat.le_of_ble_eq_true rfl) ?_
    conv => whnf
    repeat (refine V_step T_ok GLpm rfl ?_; conv => whnf)
    have z1 := fun u {x y} hx hy => pre9 (pmO_small u) (x := x) (y := y) hx hy
    have z2 := fun u {x y} hx hy => pre9 (psoO_small u) (x := x) (y := y) hx hy
    have z3 := fun u {x y} hx hy => pre9 (spO_small u) (x := x) (y := y) hx hy
    have w1 := fun u {x y} (hx : x = pmO u) (hy : y = pmO u) => eqLL_eq hx hy
    have w2 := fun u {x y} (hx : x = psoO u) (hy : y = psoO u) => eqLL_eq hx hy
    have w3 := fun u {x y} (hx : x = spO u) (hy : y = spO u) => eqLL_eq hx hy
    repeat (any_goals (first
      | (refine V_step T_ok GLpm rfl ?_; conv => whnf)
      | (refine V_drawN T_ok GLpm mixed (by kernel_rfl) ?_; conv => whnf)
      | (refine bcond_split (fun hc => ?_) (fun hc => ?_) <;> (try simp only [decide_eq_true_eq, decide_eq_false_iff_not, Bool.not_eq_true', Bool.not_eq_false', Bool.and_eq_true, Bool.or_eq_true, Bool.and_eq_false_imp, Bool.or_eq_false_iff, ne_eq, Decidable.not_not] at hc) <;> conv => whnf)
      | (intro ysK hysK; have hysl := congrArg List.length hysK; (try simp only [List.length_set, List.length_append, List.length_cons, List.length_nil, List.length_take, List.length_drop, List.length_replicate] at hysl); conv => whnf)
      | (intro bK hbK; have hbl := congrArg ByteArray.size hbK; conv => whnf)
      | (intro sK hsK; conv => whnf)
      | (refine And.intro (by first | (first | exact True.intro | exact hb | exact z1 _ (by assumption) (by assumption) | exact z2 _ (by assumption) (by assumption) | exact z3 _ (by assumption) (by assumption)) | exact True.intro | exact ⟨rfl, True.intro, fun _ _ => rfl⟩ | exact Nat.le_of_ble_eq_true rfl | (refine ⟨by (try simp only [List.length_cons, List.length_nil]); omega, Int.le_trans (Int.mul_le_mul_of_nonneg_left (show (TInfo.bytes _ : Int) ≤ 64 from Int.ofNat_le.2 (Nat.le_of_ble_eq_true rfl)) (by omega)) (by (try simp only [List.length_cons, List.length_nil]); omega)⟩)) ?_; conv => whnf)))
    · exact leaf0 rfl rfl rfl
    · exact absurd trivial hc
    · exact absurd ((w1 _ (by assumption) hysK).symm.trans hc) (by decide)
    · exact absurd trivial hc
    · exact absurd ((w2 _ (by assumption) hysK).symm.trans hc) (by decide)
    · exact absurd trivial hc
    · exact absurd ((w3 _ (by assumption) hysK).symm.trans hc) (by decide)
    · exact absurd trivial hc
    · exact absurd trivial hc
    · exact absurd trivial hc
    · exact absurd trivial hc
    · rename_i hx
      exact absurd (congrArg Prod.snd (hx.trans hsK.symm)) hc
    · rename_i hx _
      obtain rfl := hx.trans hsK.symm
      simp at hc
    · rename_i hx
      exact absurd (congrArg Prod.snd (hx.trans hsK.symm)) hc
    rename_i t _ M hM _ M2 hM2 _ _ _ Pq hP _ P2 hP2 _ _ _ S hS _ _ _ a _ _ _ _ _ u _ fa hfa fa2 hfa2 _ _ o _ ob hob
    have hM : M = pmO t := hM
    have hP : Pq = psoO t := hP
    have hS : S = spO t := hS
    have hfa : fa = gfR u.1 u.2.1 u.2.2 := hfa
    have hob' : ob = poR o.1 o.2.1 o.2.2.1 o.2.2.2 := hob
    obtain rfl : sK = ob := hsK.trans hob.symm
    have hbd := poR_bd o.1 o.2.1 o.2.2.1 o.2.2.2
    rw [← hob'] at hbd
    clear z1 z2 z3 w1 w2 w3
    refine ⟨pre9 hbd rfl rfl, ?_⟩
    conv => whnf
    repeat (refine V_step T_ok GLpm rfl ?_; conv => whnf)
    refine bcond_split (fun hc9 => ?_) (fun hc9 => ?_) <;> conv => whnf
    · rw [eqLL_eq rfl rfl] at hc9; cases hc9
    clear hc9
    refine V_cutH ?_ ?_
    · skip
      repeat (any_goals (first
        | (refine V_step T_ok GLpm rfl ?_; conv => whnf)
        | (refine V_drawN T_ok GLpm mixed (by kernel_rfl) ?_; conv => whnf)
        | (refine bcond_split (fun hc => ?_) (fun hc => ?_) <;> (try simp only [decide_eq_true_eq, decide_eq_false_iff_not, Bool.not_eq_true', Bool.not_eq_false', Bool.and_eq_true, Bool.or_eq_true, Bool.and_eq_false_imp, Bool.or_eq_false_iff, ne_eq, Decidable.not_not] at hc) <;> conv => whnf)
        | (intro ysK hysK; have hysl := congrArg List.length hysK; (try simp only [List.length_set, List.length_append, List.length_cons, List.length_nil, List.length_take, List.length_drop, List.length_replicate] at hysl); conv => whnf)
        | (intro bK hbK; have hbl := congrArg ByteArray.size hbK; conv => whnf)
        | (intro sK hsK; conv => whnf)
        | (refine And.intro (by first | (first | exact True.intro) | exact True.intro | exact ⟨rfl, True.intro, fun _ _ => rfl⟩ | exact Nat.le_of_ble_eq_true rfl | (refine ⟨by (try simp only [List.length_cons, List.length_nil]); omega, Int.le_trans (Int.mul_le_mul_of_nonneg_left (show (TInfo.bytes _ : Int) ≤ 64 from Int.ofNat_le.2 (Nat.le_of_ble_eq_true rfl)) (by omega)) (by (try simp only [List.length_cons, List.length_nil]); omega)⟩)) ?_; conv => whnf)))
      · have q := gf_flip (x := u.1) (y := u.2.1) (n := u.2.2) (by rw [← hfa]; assumption) (by rw [← hfa]; assumption)
        have e := hsK.trans q
        rw [e] at hc; exact absurd rfl hc
      · have q := gf_flip (x := u.1) (y := u.2.1) (n := u.2.2) (by rw [← hfa]; assumption) (by rw [← hfa]; assumption)
        have e := hsK.trans q
        rw [e] at hc; cases hc
      · conv => whnf
        refine ⟨?_, by (conv => whnf); repeat (first | exact True.intro | (refine And.intro rfl ?_; conv => whnf)), by (conv => whnf); repeat (first | exact True.intro | (refine And.intro (by first | rfl | (subst_vars; rfl)) ?_; conv => whnf)), rfl, rfl, rfl, rfl, rfl, rfl, rfl, Nat.le_of_ble_eq_true rfl, Nat.le_of_ble_eq_true rfl⟩
        conv => whnf
        repeat (first | exact True.intro | (refine And.intro (by first | rfl | ((conv => whnf); exact congrArg (AVal.int .i64) (by omega)) | ((conv => whnf); exact congrArg (AVal.int .i64) (by simp only [Int.natCast_add, Int.natCast_one]; omega)) | ((conv => whnf); exact congrArg (AVal.irow _) (by first | omega | assumption | (simp only; omega)))) ?_; conv => whnf))
      · conv => whnf
        refine ⟨?_, by (conv => whnf); repeat (first | exact True.intro | (refine And.intro rfl ?_; conv => whnf)), by (conv => whnf); repeat (first | exact True.intro | (refine And.intro (by first | rfl | (subst_vars; rfl)) ?_; conv => whnf)), rfl, rfl, rfl, rfl, rfl, rfl, rfl, Nat.le_of_ble_eq_true rfl, Nat.le_of_ble_eq_true rfl⟩
        conv => whnf
        repeat (first | exact True.intro | (refine And.intro (by first | rfl | ((conv => whnf); exact congrArg (AVal.int .i64) (by omega)) | ((conv => whnf); exact congrArg (AVal.int .i64) (by simp only [Int.natCast_add, Int.natCast_one]; omega)) | ((conv => whnf); exact congrArg (AVal.irow _) (by first | omega | assumption | (simp only; omega)))) ?_; conv => whnf))
      · conv => whnf
        refine ⟨?_, by (conv => whnf); repeat (first | exact True.intro | (refine And.intro rfl ?_; conv => whnf)), by (conv => whnf); repeat (first | exact True.intro | (refine And.intro (by first | rfl | (subst_vars; rfl)) ?_; conv => whnf)), rfl, rfl, rfl, rfl, rfl, rfl, rfl, Nat.le_of_ble_eq_true rfl, Nat.le_of_ble_eq_true rfl⟩
        conv => whnf
        repeat (first | exact True.intro | (refine And.intro (by first | rfl | ((conv => whnf); exact congrArg (AVal.int .i64) (by omega)) | ((conv => whnf); exact congrArg (AVal.int .i64) (by simp only [Int.natCast_add, Int.natCast_one]; omega)) | ((conv => whnf); exact congrArg (AVal.irow _) (by first | omega | assumption | (simp only; omega)))) ?_; conv => whnf))
    conv => whnf
    repeat (refine V_step T_ok GLpm rfl ?_; conv => whnf)
    have ol : List.length (α := List Int) sK.1 ≤ 21 := hbd.1
    have orow : ∀ g : Nat, g < List.length (α := List Int) sK.1 → Nn (2 ^ g) (@List.getD (List Int) sK.1 g []) := fun g hg => by rw [hob'] at hg ⊢; exact po_row hg
    have orl : ∀ g : Nat, g < List.length (α := List Int) sK.1 → List.length (α := Int) (@List.getD (List Int) sK.1 g []) ≤ 21 := fun g hg => hbd.2 _ (getD_mem hg)
    refine V_loopH (γ := Nat) (fun g => g ≤ List.length (α := List Int) sK.1) (fun g => List.length (α := List Int) sK.1 - g)
      (fun g => [(43, .int .i64 (2 ^ g)), (44, .int .i64 g)]) (fun _ => []) (fun _ => []) 0 (Nat.zero_le _) ?_ ?_
    · clear orow orl
      conv => whnf
      refine ⟨?_, by (conv => whnf); repeat (first | exact True.intro | (refine And.intro rfl ?_; conv => whnf)), by (conv => whnf); repeat (first | exact True.intro | (refine And.intro (by first | rfl | (subst_vars; rfl)) ?_; conv => whnf)), rfl, rfl, rfl, rfl, rfl, rfl, rfl, Nat.le_of_ble_eq_true rfl, Nat.le_of_ble_eq_true rfl⟩
      conv => whnf
      repeat (first | exact True.intro | (refine And.intro (by first | rfl | ((conv => whnf); exact congrArg (AVal.int .i64) (by omega)) | ((conv => whnf); exact congrArg (AVal.int .i64) (by simp only [Int.natCast_add, Int.natCast_one]; omega)) | ((conv => whnf); exact congrArg (AVal.irow _) (by first | omega | assumption | (simp only; omega)))) ?_; conv => whnf))
    rintro g hg
    have hp2 := pow2_le (g := g) (by omega)
    have hs9 : (g : Int) < (List.length (α := List Int) sK.1 : Int) → ((List.length (α := Int) (@List.getD (List Int) sK.1 (g : Int).toNat []) ≤ 1000) ∧ (∀ x ∈ (@List.getD (List Int) sK.1 (g : Int).toNat []), (0 : Int) ≤ x) ∧ sumI (@List.getD (List Int) sK.1 (g : Int).toNat []) ≤ 4000000000000000000) := fun h => by
      have h1 := orow g (by omega)
      have h2 := orl g (by omega)
      have h3 := h1.2
      exact ⟨Nat.le_trans h2 (by decide), h1.1, Int.le_trans h3 (by omega)⟩
    have hr2 : Rng .i64 (2 * 2 ^ g) := by simp only [Rng]; omega
    have hsg : (g : Int) < (List.length (α := List Int) sK.1 : Int) → sumI (@List.getD (List Int) sK.1 (g : Int).toNat []) ≤ 2 ^ g := fun h => (orow g (by omega)).2
    conv => whnf
    repeat (refine V_step T_ok GLpm rfl ?_; conv => whnf)
    refine bcond_split (fun hc => ?_) (fun hc => ?_) <;> (try simp only [decide_eq_true_eq, decide_eq_false_iff_not, Bool.not_eq_true', Bool.not_eq_false', Bool.and_eq_true, Bool.or_eq_true, Bool.and_eq_false_imp, Bool.or_eq_false_iff, ne_eq, Decidable.not_not] at hc) <;> conv => whnf
    · have hg1 : g < List.length (α := List Int) sK.1 := by omega
      repeat (any_goals (first
        | (refine V_step T_ok GLpm rfl ?_; conv => whnf)
        | (refine V_drawN T_ok GLpm mixed (by kernel_rfl) ?_; conv => whnf)
        | (refine bcond_split (fun hc => ?_) (fun hc => ?_) <;> (try simp only [decide_eq_true_eq, decide_eq_false_iff_not, Bool.not_eq_true', Bool.not_eq_false', Bool.and_eq_true, Bool.or_eq_true, Bool.and_eq_false_imp, Bool.or_eq_false_iff, ne_eq, Decidable.not_not] at hc) <;> conv => whnf)
        | (intro ysK hysK; have hysl := congrArg List.length hysK; (try simp only [List.length_set, List.length_append, List.length_cons, List.length_nil, List.length_take, List.length_drop, List.length_replicate] at hysl); conv => whnf)
        | (intro bK hbK; have hbl := congrArg ByteArray.size hbK; conv => whnf)
        | (intro sK hsK; conv => whnf)
        | (refine And.intro (by first | (first | exact True.intro | omega | exact hs9 (by assumption) | exact hr2 | (simp only [Rng]; omega)) | exact True.intro | exact ⟨rfl, True.intro, fun _ _ => rfl⟩ | exact Nat.le_of_ble_eq_true rfl | (refine ⟨by (try simp only [List.length_cons, List.length_nil]); omega, Int.le_trans (Int.mul_le_mul_of_nonneg_left (show (TInfo.bytes _ : Int) ≤ 64 from Int.ofNat_le.2 (Nat.le_of_ble_eq_true rfl)) (by omega)) (by (try simp only [List.length_cons, List.length_nil]); omega)⟩)) ?_; conv => whnf)))
      · exact absurd hc (Int.not_lt.2 (hsg (by assumption)))
      · have e : (2 : Int) ^ (g + 1) = 2 * 2 ^ g := by rw [Int.pow_succ]; omega
        refine ⟨g + 1, by omega, by omega, ?_⟩
        simp only [e]
        clear orow orl hs9 hsg e
        conv => whnf
        refine ⟨?_, by (conv => whnf); repeat (first | exact True.intro | (refine And.intro rfl ?_; conv => whnf)), by (conv => whnf); repeat (first | exact True.intro | (refine And.intro (by first | rfl | (subst_vars; rfl)) ?_; conv => whnf)), rfl, rfl, rfl, rfl, rfl, rfl, rfl, Nat.le_of_ble_eq_true rfl, Nat.le_of_ble_eq_true rfl⟩
        conv => whnf
        repeat (first | exact True.intro | (refine And.intro (by first | rfl | ((conv => whnf); exact congrArg (AVal.int .i64) (by omega)) | ((conv => whnf); exact congrArg (AVal.int .i64) (by simp only [Int.natCast_add, Int.natCast_one]; omega)) | ((conv => whnf); exact congrArg (AVal.irow _) (by first | omega | assumption | (simp only; omega)))) ?_; conv => whnf))
    clear orow orl hs9 hsg hr2 hp2
    refine V_cutH ?_ ?_
    · have hk1 : pcN a.1 a.2 = 0 → Rng .i64 (a.2 + 1) := fun h => by have := pcN_0 h; simp only [Rng]; omega
      have hk2 : pcN a.1 a.2 = 0 → Rng .i64 (2 * pcV a.1 a.2) := fun h => by have := pcV_bd h; simp only [Rng]; omega
      repeat (any_goals (first
        | (refine V_step T_ok GLpm rfl ?_; conv => whnf)
        | (refine V_drawN T_ok GLpm mixed (by kernel_rfl) ?_; conv => whnf)
        | (refine bcond_split (fun hc => ?_) (fun hc => ?_) <;> (try simp only [decide_eq_true_eq, decide_eq_false_iff_not, Bool.not_eq_true', Bool.not_eq_false', Bool.and_eq_true, Bool.or_eq_true, Bool.and_eq_false_imp, Bool.or_eq_false_iff, ne_eq, Decidable.not_not] at hc) <;> conv => whnf)
        | (intro ysK hysK; have hysl := congrArg List.length hysK; (try simp only [List.length_set, List.length_append, List.length_cons, List.length_nil, List.length_take, List.length_drop, List.length_replicate] at hysl); conv => whnf)
        | (intro bK hbK; have hbl := congrArg ByteArray.size hbK; conv => whnf)
        | (intro sK hsK; conv => whnf)
        | (refine And.intro (by first | (first | exact True.intro | exact hk1 (by assumption) | exact hk2 (by assumption)) | exact True.intro | exact ⟨rfl, True.intro, fun _ _ => rfl⟩ | exact Nat.le_of_ble_eq_true rfl | (refine ⟨by (try simp only [List.length_cons, List.length_nil]); omega, Int.le_trans (Int.mul_le_mul_of_nonneg_left (show (TInfo.bytes _ : Int) ≤ 64 from Int.ofNat_le.2 (Nat.le_of_ble_eq_true rfl)) (by omega)) (by (try simp only [List.length_cons, List.length_nil]); omega)⟩)) ?_; conv => whnf)))
      · have q := pc_next (x := a.1) (q := a.2) (by assumption) (by assumption)
        exact absurd q.1 hc
      · have q := pc_next (x := a.1) (q := a.2) (by assumption) (by assumption)
        exact absurd hc (Int.not_lt.2 q.2.1)
      · have q := pc_next (x := a.1) (q := a.2) (by assumption) (by assumption)
        exact absurd hc (Int.not_lt.2 q.2.2)
      · clear hk1 hk2
        conv => whnf
        refine ⟨?_, by (conv => whnf); repeat (first | exact True.intro | (refine And.intro rfl ?_; conv => whnf)), by (conv => whnf); repeat (first | exact True.intro | (refine And.intro (by first | rfl | (subst_vars; rfl)) ?_; conv => whnf)), rfl, rfl, rfl, rfl, rfl, rfl, rfl, Nat.le_of_ble_eq_true rfl, Nat.le_of_ble_eq_true rfl⟩
        conv => whnf
        repeat (first | exact True.intro | (refine And.intro (by first | rfl | ((conv => whnf); exact congrArg (AVal.int .i64) (by omega)) | ((conv => whnf); exact congrArg (AVal.int .i64) (by simp only [Int.natCast_add, Int.natCast_one]; omega)) | ((conv => whnf); exact congrArg (AVal.irow _) (by first | omega | assumption | (simp only; omega)))) ?_; conv => whnf))
      · clear hk1 hk2
        conv => whnf
        refine ⟨?_, by (conv => whnf); repeat (first | exact True.intro | (refine And.intro rfl ?_; conv => whnf)), by (conv => whnf); repeat (first | exact True.intro | (refine And.intro (by first | rfl | (subst_vars; rfl)) ?_; conv => whnf)), rfl, rfl, rfl, rfl, rfl, rfl, rfl, Nat.le_of_ble_eq_true rfl, Nat.le_of_ble_eq_true rfl⟩
        conv => whnf
        repeat (first | exact True.intro | (refine And.intro (by first | rfl | ((conv => whnf); exact congrArg (AVal.int .i64) (by omega)) | ((conv => whnf); exact congrArg (AVal.int .i64) (by simp only [Int.natCast_add, Int.natCast_one]; omega)) | ((conv => whnf); exact congrArg (AVal.irow _) (by first | omega | assumption | (simp only; omega)))) ?_; conv => whnf))
      · clear hk1 hk2
        conv => whnf
        refine ⟨?_, by (conv => whnf); repeat (first | exact True.intro | (refine And.intro rfl ?_; conv => whnf)), by (conv => whnf); repeat (first | exact True.intro | (refine And.intro (by first | rfl | (subst_vars; rfl)) ?_; conv => whnf)), rfl, rfl, rfl, rfl, rfl, rfl, rfl, Nat.le_of_ble_eq_true rfl, Nat.le_of_ble_eq_true rfl⟩
        conv => whnf
        repeat (first | exact True.intro | (refine And.intro (by first | rfl | ((conv => whnf); exact congrArg (AVal.int .i64) (by omega)) | ((conv => whnf); exact congrArg (AVal.int .i64) (by simp only [Int.natCast_add, Int.natCast_one]; omega)) | ((conv => whnf); exact congrArg (AVal.irow _) (by first | omega | assumption | (simp only; omega)))) ?_; conv => whnf))
    conv => whnf
    repeat (refine V_step T_ok GLpm rfl ?_; conv => whnf)
    refine bcond_split (fun hc => ?_) (fun hc => ?_) <;> (try simp only [decide_eq_true_eq, decide_eq_false_iff_not, Bool.not_eq_true', Bool.not_eq_false', Bool.and_eq_true, Bool.or_eq_true, Bool.and_eq_false_imp, Bool.or_eq_false_iff, ne_eq, Decidable.not_not] at hc) <;> conv => whnf
    · skip
      repeat (any_goals (first
        | (refine V_step T_ok GLpm rfl ?_; conv => whnf)
        | (refine V_drawN T_ok GLpm mixed (by kernel_rfl) ?_; conv => whnf)
        | (refine bcond_split (fun hc => ?_) (fun hc => ?_) <;> (try simp only [decide_eq_true_eq, decide_eq_false_iff_not, Bool.not_eq_true', Bool.not_eq_false', Bool.and_eq_true, Bool.or_eq_true, Bool.and_eq_false_imp, Bool.or_eq_false_iff, ne_eq, Decidable.not_not] at hc) <;> conv => whnf)
        | (intro ysK hysK; have hysl := congrArg List.length hysK; (try simp only [List.length_set, List.length_append, List.length_cons, List.length_nil, List.length_take, List.length_drop, List.length_replicate] at hysl); conv => whnf)
        | (intro bK hbK; have hbl := congrArg ByteArray.size hbK; conv => whnf)
        | (intro sK hsK; conv => whnf)
        | (refine And.intro (by first | (first | exact True.intro) | exact True.intro | exact ⟨rfl, True.intro, fun _ _ => rfl⟩ | exact Nat.le_of_ble_eq_true rfl | (refine ⟨by (try simp only [List.length_cons, List.length_nil]); omega, Int.le_trans (Int.mul_le_mul_of_nonneg_left (show (TInfo.bytes _ : Int) ≤ 64 from Int.ofNat_le.2 (Nat.le_of_ble_eq_true rfl)) (by omega)) (by (try simp only [List.length_cons, List.length_nil]); omega)⟩)) ?_; conv => whnf)))
      exact leaf0 rfl (congrArg AVal.bool (decide_eq_true (by rw [hM]; unfold pmO; rw [if_neg (show ¬ orbN8 t = 0 from hc)]; rfl))) rfl
    have ht : orbN8 t = 0 := hc
    have hMl : List.length (α := List Int) M = List.length (α := List Int) Pq := by rw [hM, hP]; exact mat_len t
    have hM21 : List.length (α := List Int) M ≤ 21 := by rw [hM]; exact (pmO_small t).1
    have hS21 : List.length (α := List Int) S ≤ 21 := by rw [hS]; exact (spO_small t).1
    have hMr : ∀ g : Nat, g < List.length (α := List Int) M → Nn 2 (@List.getD (List Int) M g []) ∧ ((∀ e, e < List.length (α := List Int) S → @List.getD (List Int) S e [] ≠ @List.getD (List Int) Pq g []) → sumI (@List.getD (List Int) M g []) ≤ 1) := fun g hg => by
      rw [hM] at hg ⊢
      rw [hS, hP]
      exact mat_row ht hg
    have hMb : ∀ g : Nat, g < List.length (α := List Int) M → List.length (α := Int) (@List.getD (List Int) M g []) ≤ 21 := fun g hg => by rw [hM] at hg ⊢; exact (pmO_small t).2 _ (getD_mem hg)
    have hPb : ∀ g : Nat, g < List.length (α := List Int) Pq → List.length (α := Int) (@List.getD (List Int) Pq g []) ≤ 21 := fun g hg => by rw [hP] at hg ⊢; exact (psoO_small t).2 _ (getD_mem hg)
    have hSb : ∀ g : Nat, g < List.length (α := List Int) S → List.length (α := Int) (@List.getD (List Int) S g []) ≤ 21 := fun g hg => by rw [hS] at hg ⊢; exact (spO_small t).2 _ (getD_mem hg)
    repeat (refine V_step T_ok GLpm rfl ?_; conv => whnf)
    refine V_loopH (γ := Nat) (fun g => g ≤ List.length (α := List Int) M) (fun g => List.length (α := List Int) M - g)
      (fun g => [(47, .int .i64 g)]) (fun _ => []) (fun _ => []) 0 (Nat.zero_le _) ?_ ?_
    · clear hMr hMb hPb hSb
      conv => whnf
      refine ⟨?_, by (conv => whnf); repeat (first | exact True.intro | (refine And.intro rfl ?_; conv => whnf)), by (conv => whnf); repeat (first | exact True.intro | (refine And.intro (by first | rfl | (subst_vars; rfl)) ?_; conv => whnf)), rfl, rfl, rfl, rfl, rfl, rfl, rfl, Nat.le_of_ble_eq_true rfl, Nat.le_of_ble_eq_true rfl⟩
      conv => whnf
      repeat (first | exact True.intro | (refine And.intro (by first | rfl | ((conv => whnf); exact congrArg (AVal.int .i64) (by omega)) | ((conv => whnf); exact congrArg (AVal.int .i64) (by simp only [Int.natCast_add, Int.natCast_one]; omega)) | ((conv => whnf); exact congrArg (AVal.irow _) (by first | omega | assumption | (simp only; omega)))) ?_; conv => whnf))
    rintro v hv
    have hMr := hMr v
    have hMb := hMb v
    have hPb := hPb v
    conv => whnf
    repeat (refine V_step T_ok GLpm rfl ?_; conv => whnf)
    refine bcond_split (fun hc => ?_) (fun hc => ?_) <;> (try simp only [decide_eq_true_eq, decide_eq_false_iff_not, Bool.not_eq_true', Bool.not_eq_false', Bool.and_eq_true, Bool.or_eq_true, Bool.and_eq_false_imp, Bool.or_eq_false_iff, ne_eq, Decidable.not_not] at hc) <;> conv => whnf
    · have hv1 : v < List.length (α := List Int) M := by omega
      obtain ⟨hMr1, hMr2⟩ := hMr hv1
      have hMb := hMb hv1
      have hPb := hPb (by omega)
      repeat (refine V_step T_ok GLpm rfl ?_; conv => whnf)
      refine V_loopH (γ := Nat × Bool) (fun q => q.1 ≤ List.length (α := List Int) S ∧ (q.2 = false → ∀ e, e < q.1 → @List.getD (List Int) S e [] ≠ @List.getD (List Int) Pq v [])) (fun q => List.length (α := List Int) S - q.1)
        (fun q => [(48, .bool q.2), (49, .int .i64 q.1)]) (fun _ => []) (fun _ => []) (0, false) ⟨Nat.zero_le _, fun _ e he => absurd he (Nat.not_lt_zero _)⟩ ?_ ?_
      · clear hMr1 hMr2 hMb hPb hSb
        conv => whnf
        refine ⟨?_, by (conv => whnf); repeat (first | exact True.intro | (refine And.intro rfl ?_; conv => whnf)), by (conv => whnf); repeat (first | exact True.intro | (refine And.intro (by first | rfl | (subst_vars; rfl)) ?_; conv => whnf)), rfl, rfl, rfl, rfl, rfl, rfl, rfl, Nat.le_of_ble_eq_true rfl, Nat.le_of_ble_eq_true rfl⟩
        conv => whnf
        repeat (first | exact True.intro | (refine And.intro (by first | rfl | ((conv => whnf); exact congrArg (AVal.int .i64) (by omega)) | ((conv => whnf); exact congrArg (AVal.int .i64) (by simp only [Int.natCast_add, Int.natCast_one]; omega)) | ((conv => whnf); exact congrArg (AVal.irow _) (by first | omega | assumption | (simp only; omega)))) ?_; conv => whnf))
      rintro ⟨x, b⟩ ⟨hx, hne⟩
      simp only at hx hne
      have hSb := hSb x
      have hpre : (x : Int) < (List.length (α := List Int) S : Int) → (List.length (α := Int) (@List.getD (List Int) S (x : Int).toNat []) ≤ 100000 ∧ List.length (α := Int) (@List.getD (List Int) Pq (v : Int).toNat []) ≤ 100000) := fun h => ⟨Nat.le_trans (hSb (by omega)) (by decide), Nat.le_trans hPb (by decide)⟩
      have hpr2 : ((List.length (α := Int) (@List.getD (List Int) M (v : Int).toNat []) ≤ 1000) ∧ (∀ x ∈ (@List.getD (List Int) M (v : Int).toNat []), (0 : Int) ≤ x) ∧ sumI (@List.getD (List Int) M (v : Int).toNat []) ≤ 4000000000000000000) := ⟨Nat.le_trans hMb (by decide), hMr1.1, Int.le_trans hMr1.2 (by decide)⟩
      conv => whnf
      refine vcCode_sound T_ok GLpm _ _ _ _ _ ?_
      conv => whnf
      repeat (refine V_step T_ok GLpm rfl ?_; conv => whnf)
      repeat (any_goals (first
        | (refine V_step T_ok GLpm rfl ?_; conv => whnf)
        | (refine V_drawN T_ok GLpm mixed (by kernel_rfl) ?_; conv => whnf)
        | (refine bcond_split (fun hc => ?_) (fun hc => ?_) <;> (try simp only [decide_eq_true_eq, decide_eq_false_iff_not, Bool.not_eq_true', Bool.not_eq_false', Bool.and_eq_true, Bool.or_eq_true, Bool.and_eq_false_imp, Bool.or_eq_false_iff, ne_eq, Decidable.not_not] at hc) <;> conv => whnf)
        | (intro ysK hysK; have hysl := congrArg List.length hysK; (try simp only [List.length_set, List.length_append, List.length_cons, List.length_nil, List.length_take, List.length_drop, List.length_replicate] at hysl); conv => whnf)
        | (intro bK hbK; have hbl := congrArg ByteArray.size hbK; conv => whnf)
        | (intro sK hsK; conv => whnf)
        | (refine And.intro (by first | (first | exact True.intro | omega | exact hpre (by assumption) | exact hpr2 | (simp only [Rng]; omega)) | exact True.intro | exact ⟨rfl, True.intro, fun _ _ => rfl⟩ | exact Nat.le_of_ble_eq_true rfl | (refine ⟨by (try simp only [List.length_cons, List.length_nil]); omega, Int.le_trans (Int.mul_le_mul_of_nonneg_left (show (TInfo.bytes _ : Int) ≤ 64 from Int.ofNat_le.2 (Nat.le_of_ble_eq_true rfl)) (by omega)) (by (try simp only [List.length_cons, List.length_nil]); omega)⟩)) ?_; conv => whnf)))
      · refine ⟨(x + 1, true), ⟨by simp only; omega, fun h => by cases h⟩, by simp only; omega, ?_⟩
        clear hMr1 hMr2 hMb hPb hSb hne hpre hpr2
        conv => whnf
        refine ⟨?_, by (conv => whnf); repeat (first | exact True.intro | (refine And.intro rfl ?_; conv => whnf)), by (conv => whnf); repeat (first | exact True.intro | (refine And.intro (by first | rfl | (subst_vars; rfl)) ?_; conv => whnf)), rfl, rfl, rfl, rfl, rfl, rfl, rfl, Nat.le_of_ble_eq_true rfl, Nat.le_of_ble_eq_true rfl⟩
        conv => whnf
        repeat (first | exact True.intro | (refine And.intro (by first | rfl | ((conv => whnf); exact congrArg (AVal.int .i64) (by omega)) | ((conv => whnf); exact congrArg (AVal.int .i64) (by simp only [Int.natCast_add, Int.natCast_one]; omega)) | ((conv => whnf); exact congrArg (AVal.irow _) (by first | omega | assumption | (simp only; omega)))) ?_; conv => whnf))
      · have hbf : b = false := hc
        refine ⟨(x + 1, eqLI (@List.getD (List Int) S (x : Int).toNat []) (@List.getD (List Int) Pq (v : Int).toNat [])), ⟨by simp only; omega, fun h e9 he => ?_⟩, by simp only; omega, ?_⟩
        · simp only at h he
          rcases Nat.lt_or_ge e9 x with h1 | h1
          · exact hne hbf e9 h1
          · obtain rfl : e9 = x := by omega
            exact of_decide_eq_false h
        · clear hMr1 hMr2 hMb hPb hSb hne hpre hpr2
          conv => whnf
          refine ⟨?_, by (conv => whnf); repeat (first | exact True.intro | (refine And.intro rfl ?_; conv => whnf)), by (conv => whnf); repeat (first | exact True.intro | (refine And.intro (by first | rfl | (subst_vars; rfl)) ?_; conv => whnf)), rfl, rfl, rfl, rfl, rfl, rfl, rfl, Nat.le_of_ble_eq_true rfl, Nat.le_of_ble_eq_true rfl⟩
          conv => whnf
          repeat (first | exact True.intro | (refine And.intro (by first | rfl | ((conv => whnf); exact congrArg (AVal.int .i64) (by omega)) | ((conv => whnf); exact congrArg (AVal.int .i64) (by simp only [Int.natCast_add, Int.natCast_one]; omega)) | ((conv => whnf); exact congrArg (AVal.irow _) (by first | omega | assumption | (simp only; omega)))) ?_; conv => whnf))
      · exact absurd hc (Int.not_lt.2 hMr1.2)
      · exact absurd hc (Int.not_lt.2 (hMr2 fun e9 he => hne (by assumption) e9 (by omega)))
      · refine ⟨v + 1, by omega, by omega, ?_⟩
        clear hMr1 hMr2 hMb hPb hSb hne hpre hpr2
        conv => whnf
        refine ⟨?_, by (conv => whnf); repeat (first | exact True.intro | (refine And.intro rfl ?_; conv => whnf)), by (conv => whnf); repeat (first | exact True.intro | (refine And.intro (by first | rfl | (subst_vars; rfl)) ?_; conv => whnf)), rfl, rfl, rfl, rfl, rfl, rfl, rfl, Nat.le_of_ble_eq_true rfl, Nat.le_of_ble_eq_true rfl⟩
        conv => whnf
        repeat (first | exact True.intro | (refine And.intro (by first | rfl | ((conv => whnf); exact congrArg (AVal.int .i64) (by omega)) | ((conv => whnf); exact congrArg (AVal.int .i64) (by simp only [Int.natCast_add, Int.natCast_one]; omega)) | ((conv => whnf); exact congrArg (AVal.irow _) (by first | omega | assumption | (simp only; omega)))) ?_; conv => whnf))
      · refine ⟨v + 1, by omega, by omega, ?_⟩
        clear hMr1 hMr2 hMb hPb hSb hne hpre hpr2
        conv => whnf
        refine ⟨?_, by (conv => whnf); repeat (first | exact True.intro | (refine And.intro rfl ?_; conv => whnf)), by (conv => whnf); repeat (first | exact True.intro | (refine And.intro (by first | rfl | (subst_vars; rfl)) ?_; conv => whnf)), rfl, rfl, rfl, rfl, rfl, rfl, rfl, Nat.le_of_ble_eq_true rfl, Nat.le_of_ble_eq_true rfl⟩
        conv => whnf
        repeat (first | exact True.intro | (refine And.intro (by first | rfl | ((conv => whnf); exact congrArg (AVal.int .i64) (by omega)) | ((conv => whnf); exact congrArg (AVal.int .i64) (by simp only [Int.natCast_add, Int.natCast_one]; omega)) | ((conv => whnf); exact congrArg (AVal.irow _) (by first | omega | assumption | (simp only; omega)))) ?_; conv => whnf))
    · skip
      repeat (any_goals (first
        | (refine V_step T_ok GLpm rfl ?_; conv => whnf)
        | (refine V_drawN T_ok GLpm mixed (by kernel_rfl) ?_; conv => whnf)
        | (refine bcond_split (fun hc => ?_) (fun hc => ?_) <;> (try simp only [decide_eq_true_eq, decide_eq_false_iff_not, Bool.not_eq_true', Bool.not_eq_false', Bool.and_eq_true, Bool.or_eq_true, Bool.and_eq_false_imp, Bool.or_eq_false_iff, ne_eq, Decidable.not_not] at hc) <;> conv => whnf)
        | (intro ysK hysK; have hysl := congrArg List.length hysK; (try simp only [List.length_set, List.length_append, List.length_cons, List.length_nil, List.length_take, List.length_drop, List.length_replicate] at hysl); conv => whnf)
        | (intro bK hbK; have hbl := congrArg ByteArray.size hbK; conv => whnf)
        | (intro sK hsK; conv => whnf)
        | (refine And.intro (by first | (first | exact True.intro | omega) | exact True.intro | exact ⟨rfl, True.intro, fun _ _ => rfl⟩ | exact Nat.le_of_ble_eq_true rfl | (refine ⟨by (try simp only [List.length_cons, List.length_nil]); omega, Int.le_trans (Int.mul_le_mul_of_nonneg_left (show (TInfo.bytes _ : Int) ≤ 64 from Int.ofNat_le.2 (Nat.le_of_ble_eq_true rfl)) (by omega)) (by (try simp only [List.length_cons, List.length_nil]); omega)⟩)) ?_; conv => whnf)))
      exact leaf0 rfl (congrArg AVal.bool (decide_eq_true (by omega))) rfl
end Go.Proofs.Ytllagpbbbdekiab.Fw
