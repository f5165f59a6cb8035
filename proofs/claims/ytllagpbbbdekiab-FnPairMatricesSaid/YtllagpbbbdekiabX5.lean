/- Contracts: SeparatedPairs, the reference. -/
import Derived.Test.YtllagpbbbdekiabX4
namespace Go.Proofs.Ytllagpbbbdekiab.Fw
open Go Go.RowKit
set_option linter.unusedVariables false
set_option linter.unusedSimpArgs false
set_option maxRecDepth 100000
set_option maxHeartbeats 2000000
def spO (x : Ang) : List (List Int) := if orbN8 x = 0 then (prJ ((orb8 x).length : Int) (orb8 x).length).filter (sepB (orb8 x)) else []
def spC : PCtr := fun _ _ lr vals k => match vals with
  | [.agg [.int .i64 n, .int .i64 d]] => True ∧ ∀ ys, ys = spO (n, d) → k [⟨rT, 43, true, ys⟩] (.tup [.row lr, .int .i64 (orbN8 (n, d))])
  | _ => False
theorem orb8_head {x : Ang} (h : orbN8 x = 0) : (orb8 x).getD 0 (0, 0) = x := by
  have h1 := orb8_N h
  have e : orb8 x = orbX x := if_pos h1
  have hp := orbX_pos h1.2.1
  rw [e]
  unfold orbX at hp ⊢
  cases hl : lenA x with
  | none => rw [hl] at hp; simp at hp
  | some n =>
    rw [hl] at hp
    simp only [List.length_map, List.length_range] at hp
    rw [List.getD_eq_getElem?_getD, List.getElem?_map, List.getElem?_range (by omega)]; rfl
theorem seg_pin {E : Env} {A : Asg} {w : World} {c : TyC} {e' e eA : TypeId} {xs : List Ang} {yss : List (List c.α)} (s1 : SegIn E A w c e' e eA xs yss) {g : Nat} (hg : g < yss.length) {hp9 : Nat → Option (List AVal)} {rw9 : Nat → Option Row} {A9 : Asg} {w9 : World}
    (hm : Mem (segE E A w) A9 hp9 rw9 w9) (hr : rw9 1 = some ⟨.lst c e', e, false, yss⟩) : (AVal.irow 1 g).den A9 = (A.inn 1 g).val := by
  have := inn_pin (E := segE E A w) (ih0 := A.inn 1) (q := 1) s1.a1.at (fun a ha => (s1.k1 _ (Feet.head rfl ha)).2) (Nat.le_of_ble_eq_true rfl) hm hr hg
  show (A9.inn 1 g).val = _
  rw [this]
theorem filt_next {α : Type} (p : Nat → Bool) (g : Nat) : (List.range (g + 1)).filter p = (List.range g).filter p ++ (if p g = true then [g] else []) := by
  rw [List.range_succ, List.filter_append, List.filter_cons, List.filter_nil]
theorem filt_map {α : Type} (d : α) (l : List α) (p : α → Bool) : ((List.range l.length).filter fun i => p (l.getD i d)).map (fun i => l.getD i d) = l.filter p := by
  have key : ∀ g, g ≤ l.length → ((List.range g).filter fun i => p (l.getD i d)).map (fun i => l.getD i d) = (l.take g).filter p := fun g => by
    induction g with
    | zero => intro _; simp
    | succ g ih =>
      intro hg
      rw [filt_next (α := α), List.map_append, ih (by omega), List.take_add_one, List.filter_append, List.getElem?_eq_getElem (by omega)]
      have e : l.getD g d = l[g]'(by omega) := by rw [List.getD_eq_getElem?_getD, List.getElem?_eq_getElem (by omega)]; rfl
      congr 1
      rw [e]
      have e2 : l[g]?.getD d = l[g]'(by omega) := by rw [List.getElem?_eq_getElem (by omega)]; rfl
      simp only [Option.toList, List.filter_cons, List.filter_nil]
      split <;> simp [e2]
  have := key l.length (Nat.le_refl _)
  rw [List.take_length] at this
  exact this
abbrev GSsp := GOk.cons sOrb8_ok (GOk.cons sPrs_ok (GOk.cons sAp_ok .nil))
theorem sSp_ok : PCtrOk Try.prog 12 spC where
  enter := enter_ok Try.func12 (by kernel_rfl) rfl
  calls := by
    intro hg rg lr vals k h
    unfold spC at h
    split at h
    case h_2 => exact h.elim
    rename_i n d
    obtain ⟨_, hk⟩ := h
    replace hk := hk _ rfl
    refine ⟨_, _, hk, fun A w _ _ => ?_⟩
    refine enter T_ok GSsp Try.func12 rfl (K := (· < w.heap.size)) (fun _ h => h) (A := A) (n0 := 0) (b0 := 0) (rows := []) (hp := []) rfl (Nat.zero_le _) (fun k r h => by cases h) rfl (fun k r h => by cases h) rfl rfl (Nat.le_of_ble_eq_true rfl) ?_
    conv => whnf
    repeat (refine V_step T_ok GSsp rfl ?_; conv => whnf)
    repeat (any_goals (first
      | (refine V_step T_ok GSsp rfl ?_; conv => whnf)
      | (refine V_drawA T_ok GSsp mixed (by kernel_rfl) ?_; conv => whnf)
      | (refine bcond_split (fun hc => ?_) (fun hc => ?_) <;> (try simp only [decide_eq_true_eq, decide_eq_false_iff_not, Bool.not_eq_true', Bool.not_eq_false', Bool.and_eq_true, Bool.or_eq_true, Bool.and_eq_false_imp, Bool.or_eq_false_iff, ne_eq, Decidable.not_not] at hc) <;> conv => whnf)
      | (intro ysK hysK; have hysl := congrArg List.length hysK; (try simp only [List.length_set, List.length_append, List.length_cons, List.length_nil, List.length_take, List.length_drop, List.length_replicate] at hysl); conv => whnf)
      | (refine And.intro (by first | exact True.intro | (with_reducible assumption) | omega | (simp only [Rng]; omega) | exact Nat.le_of_ble_eq_true rfl | exact True.intro | exact ⟨rfl, True.intro, fun _ _ => rfl⟩ | exact Nat.le_of_ble_eq_true rfl | (refine ⟨by (try simp only [List.length_cons, List.length_nil]); omega, Int.le_trans (Int.mul_le_mul_of_nonneg_left (show (TInfo.bytes _ : Int) ≤ 64 from Int.ofNat_le.2 (Nat.le_of_ble_eq_true rfl)) (by omega)) (by (try simp only [List.length_cons, List.length_nil]); omega)⟩)) ?_; conv => whnf)))
    · refine leafN rfl (by unfold spO; rw [if_neg hc]) (fun B C h => ?_)
      simp [AVal.den, dens, h, Hdr.val]
    · have hO : Orb ysK := by rw [hysK]; exact orb8_orb (orb8_N hc)
      obtain ⟨xs, hxs⟩ : ∃ xs, ysK = xs := ⟨_, rfl⟩
      rw [hxs] at hysK hO ⊢
      clear hysl hxs ysK
      have h64 : (0 ≤ ((List.length (α := Ang) xs : Nat) : Int) ∧ ((List.length (α := Ang) xs : Nat) : Int) ≤ 64) := by
        have := hO.len
        exact ⟨by omega, by omega⟩
      repeat (any_goals (first
        | (refine V_step T_ok GSsp rfl ?_; conv => whnf)
        | (refine V_drawA T_ok GSsp mixed (by kernel_rfl) ?_; conv => whnf)
        | (refine bcond_split (fun hc => ?_) (fun hc => ?_) <;> (try simp only [decide_eq_true_eq, decide_eq_false_iff_not, Bool.not_eq_true', Bool.not_eq_false', Bool.and_eq_true, Bool.or_eq_true, Bool.and_eq_false_imp, Bool.or_eq_false_iff, ne_eq, Decidable.not_not] at hc) <;> conv => whnf)
        | (intro ysK hysK; have hysl := congrArg List.length hysK; (try simp only [List.length_set, List.length_append, List.length_cons, List.length_nil, List.length_take, List.length_drop, List.length_replicate] at hysl); conv => whnf)
        | (refine And.intro (by first | (first | exact True.intro | exact h64 | omega) | exact True.intro | exact ⟨rfl, True.intro, fun _ _ => rfl⟩ | exact Nat.le_of_ble_eq_true rfl | (refine ⟨by (try simp only [List.length_cons, List.length_nil]); omega, Int.le_trans (Int.mul_le_mul_of_nonneg_left (show (TInfo.bytes _ : Int) ≤ 64 from Int.ofNat_le.2 (Nat.le_of_ble_eq_true rfl)) (by omega)) (by (try simp only [List.length_cons, List.length_nil]); omega)⟩)) ?_; conv => whnf)))
      have hx0 : xs.getD 0 (0, 0) = (n, d) := by rw [hysK]; exact orb8_head hc
      obtain ⟨P, hP⟩ : ∃ P : List (List Int), prJ ((List.length (α := Ang) xs : Nat) : Int) ((List.length (α := Ang) xs : Nat) : Int).toNat = P := ⟨_, rfl⟩
      rw [hP]
      have hP' : prJ (xs.length : Int) xs.length = P := by rw [← hP, Int.toNat_natCast]
      have hlen := hO.len
      have hpos := hO.pos
      have hN21 : List.length (α := List Int) P ≤ 21 := by rw [← hP']; exact prJ7 _ (by omega)
      have hpr := fun g hg => pr_at hO (g := g) hg
      rw [hP'] at hpr
      refine V_seg fun A1 a1 w1 hs1 => ?_
      obtain ⟨hin, s1⟩ := seg_in rfl hs1
      refine ⟨segE _ A1 w1, A1, _, fun _ => False, fun i σ2 => i = 0 ∧ σ2.fr.length = 57 ∧ nth σ2.fr 7 = some (.row 2) ∧ nthj σ2.rows 2 = some ⟨.sl, 43, true, ((List.range P.length).filter fun i => sepB xs (P.getD i [])).map (A1.inn 1)⟩, rfl, hin, ?_, fun _ _ _ _ h => h.elim, ?_⟩
      · refine V_loopH (γ := Nat) (fun g => g ≤ P.length) (fun g => P.length - g)
          (fun g => [(7, .row 2), (8, .int .i64 g), (20, .junk)]) (fun _ => []) (fun g => [(2, some ⟨.sl, 43, true, ((List.range g).filter fun i => sepB xs (P.getD i [])).map (A1.inn 1)⟩)]) 0 (Nat.zero_le _) ?_ ?_
        · conv => whnf
          refine ⟨?_, by (conv => whnf); repeat (first | exact True.intro | (refine And.intro rfl ?_; conv => whnf)), by (conv => whnf); repeat (first | exact True.intro | (refine And.intro (by first | rfl | (subst_vars; rfl)) ?_; conv => whnf)), rfl, rfl, rfl, rfl, rfl, rfl, rfl, Nat.le_of_ble_eq_true rfl, Nat.le_of_ble_eq_true rfl⟩
          conv => whnf
          repeat (first | exact True.intro | (refine And.intro (by first | rfl | ((conv => whnf); exact congrArg (AVal.int .i64) (by omega)) | ((conv => whnf); exact congrArg (AVal.int .i64) (by simp only [Int.natCast_add, Int.natCast_one]; omega)) | ((conv => whnf); exact congrArg (AVal.irow _) (by first | omega | assumption | (simp only; omega)))) ?_; conv => whnf))
        · rintro g hg
          conv => whnf
          repeat (any_goals (first
            | (refine V_step T_ok GSsp rfl ?_; conv => whnf)
            | (refine V_drawN T_ok GSsp mixed (by kernel_rfl) ?_; conv => whnf)
            | (intro ysK hysK; have hysl := congrArg List.length hysK; (try simp only [List.length_set, List.length_append, List.length_cons, List.length_nil, List.length_take, List.length_drop, List.length_replicate] at hysl); conv => whnf)
            | (refine And.intro (by first | (first | exact True.intro | omega) | exact True.intro | exact ⟨rfl, True.intro, fun _ _ => rfl⟩ | exact Nat.le_of_ble_eq_true rfl | (refine ⟨by (try simp only [List.length_cons, List.length_nil]); omega, Int.le_trans (Int.mul_le_mul_of_nonneg_left (show (TInfo.bytes _ : Int) ≤ 64 from Int.ofNat_le.2 (Nat.le_of_ble_eq_true rfl)) (by omega)) (by (try simp only [List.length_cons, List.length_nil]); omega)⟩)) ?_; conv => whnf)))
          refine bcond_split (fun hc => ?_) (fun hc => ?_) <;> (try simp only [decide_eq_true_eq, decide_eq_false_iff_not, Bool.not_eq_true', Bool.not_eq_false', Bool.and_eq_true, Bool.or_eq_true, Bool.and_eq_false_imp, Bool.or_eq_false_iff, ne_eq, Decidable.not_not] at hc) <;> conv => whnf
          · have hgN : g < P.length := Int.ofNat_lt.1 hc
            obtain ⟨hp0, hp1, hpl⟩ := hpr g hgN
            have hx1 : xs.getD ((P.getD g []).getD 0 0 - 1).toNat (0, 0) ∈ xs := getD_mem (by omega)
            have hx2 : xs.getD ((P.getD g []).getD 1 0 - 1).toNat (0, 0) ∈ xs := getD_mem (by omega)
            have hx3 : xs.getD 0 (0, 0) ∈ xs := getD_mem (by omega)
            have haa := And.intro (hO.isA _ hx1) (And.intro (hO.isA _ hx2) (hO.isA _ hx3))
            rw [hx0] at haa
            have i1 : 2 ≤ (List.length (α := TyC.α iT) (P.getD g [])) := hpl
            have i2 : (List.length (α := TyC.α aT) xs) = (List.length (α := Int × Int) xs) := rfl
            have j0 : ((P.getD g [])).getD (Int.toNat 0) iT.dflt = (P.getD g []).getD 0 0 := rfl
            have j1 : ((P.getD g [])).getD (Int.toNat 1) iT.dflt = (P.getD g []).getD 1 0 := rfl
            have hsp : sepB xs (P.getD g []) = apB (xs.getD ((P.getD g []).getD 0 0 - 1).toNat (0, 0)) (xs.getD ((P.getD g []).getD 1 0 - 1).toNat (0, 0)) (n, d) := by unfold sepB; rw [hx0]
            refine V_step T_ok GSsp rfl ?_
            conv => whnf
            refine V_drawN T_ok GSsp mixed (by kernel_rfl) ?_
            conv => whnf
            repeat (refine And.intro (by first | exact True.intro | exact haa | omega | (simp only [Int.toNat_natCast, j0, j1, Rng]; omega)) ?_; conv => whnf)
            refine VX_cond rfl (fun hc => ?_) (fun hc => ?_)
            · have hsb : sepB xs (P.getD g []) = true := hsp.trans hc
              have hap : (((((List.range g).filter fun i => sepB xs (P.getD i [])).map (A1.inn 1)).length : Int) + 1) * ((ti43.bytes : Nat) : Int) ≤ 140737488355328 := by
                have h1 := List.length_filter_le (fun i => sepB xs (P.getD i [])) (List.range g)
                have hb : ((ti43.bytes : Nat) : Int) = 24 := rfl
                rw [List.length_range] at h1
                rw [List.length_map, hb]
                omega
              have hap2 : ((((List.range g).filter fun i => sepB xs (P.getD i [])).map (A1.inn 1)).length : Int) + 1 ≤ 9223372036854775807 := by
                have h1 := List.length_filter_le (fun i => sepB xs (P.getD i [])) (List.range g)
                rw [List.length_range] at h1
                rw [List.length_map]
                omega
              refine VX_ops (VX_one T_ok GSsp rfl ?_)
              conv => whnf
              refine VX_one T_ok GSsp rfl ?_
              conv => whnf
              refine VX_one T_ok GSsp rfl ?_
              conv => whnf
              refine VX_one T_ok GSsp rfl ?_
              conv => whnf
              refine And.intro (by omega) ?_
              conv => whnf
              refine VX_one T_ok GSsp rfl ?_
              conv => whnf
              refine And.intro (by omega) ?_
              conv => whnf
              refine VX_one T_ok GSsp rfl ?_
              conv => whnf
              refine And.intro (by decide) ?_
              conv => whnf
              refine VO_appS T_ok (s := 49) (x := 54) (r := 2) (b := 1) (v := .irow 1 (g : Int).toNat) (h0 := A1.inn 1 g) (ti := ti27) (ei := ti43) rfl rfl (Nat.le_refl _) rfl rfl rfl (fun A9 w9 hm => seg_pin s1 hgN hm rfl) rfl rfl rfl rfl hap2 hap ?_
              refine VX_one T_ok GSsp rfl ?_
              conv => whnf
              refine VX_end ?_
              conv => whnf
              repeat (any_goals (first
                | (refine V_step T_ok GSsp rfl ?_; conv => whnf)
                | (refine V_drawN T_ok GSsp mixed (by kernel_rfl) ?_; conv => whnf)
                | (refine bcond_split (fun hc => ?_) (fun hc => ?_) <;> (try simp only [decide_eq_true_eq, decide_eq_false_iff_not, Bool.not_eq_true', Bool.not_eq_false', Bool.and_eq_true, Bool.or_eq_true, Bool.and_eq_false_imp, Bool.or_eq_false_iff, ne_eq, Decidable.not_not] at hc) <;> conv => whnf)
                | (intro ysK hysK; have hysl := congrArg List.length hysK; (try simp only [List.length_set, List.length_append, List.length_cons, List.length_nil, List.length_take, List.length_drop, List.length_replicate] at hysl); conv => whnf)
                | (refine And.intro (by first | (first | exact True.intro | omega | (simp only [Rng]; omega)) | exact True.intro | exact ⟨rfl, True.intro, fun _ _ => rfl⟩ | exact Nat.le_of_ble_eq_true rfl | (refine ⟨by (try simp only [List.length_cons, List.length_nil]); omega, Int.le_trans (Int.mul_le_mul_of_nonneg_left (show (TInfo.bytes _ : Int) ≤ 64 from Int.ofNat_le.2 (Nat.le_of_ble_eq_true rfl)) (by omega)) (by (try simp only [List.length_cons, List.length_nil]); omega)⟩)) ?_; conv => whnf)))
              have hfn : ((List.range (g + 1)).filter fun i => sepB xs (P.getD i [])).map (A1.inn 1) = ((List.range g).filter fun i => sepB xs (P.getD i [])).map (A1.inn 1) ++ [A1.inn 1 g] := by
                rw [filt_next (α := Nat), if_pos hsb, List.map_append]; rfl
              refine ⟨g + 1, by omega, by omega, ?_⟩
              simp only [hfn]
              clear hfn hpr
              conv => whnf
              refine ⟨?_, by (conv => whnf); repeat (first | exact True.intro | (refine And.intro rfl ?_; conv => whnf)), by (conv => whnf); repeat (first | exact True.intro | (refine And.intro (by first | rfl | (subst_vars; rfl)) ?_; conv => whnf)), rfl, rfl, rfl, rfl, rfl, rfl, rfl, Nat.le_of_ble_eq_true rfl, Nat.le_of_ble_eq_true rfl⟩
              conv => whnf
              repeat (first | exact True.intro | (refine And.intro (by first | rfl | ((conv => whnf); exact congrArg (AVal.int .i64) (by omega)) | ((conv => whnf); exact congrArg (AVal.int .i64) (by simp only [Int.natCast_add, Int.natCast_one]; omega)) | ((conv => whnf); exact congrArg (AVal.irow _) (by first | omega | assumption | (simp only; omega)))) ?_; conv => whnf))
            · have hsb : ¬ sepB xs (P.getD g []) = true := fun h => by rw [hsp] at h; have hc : apB (xs.getD ((P.getD g []).getD 0 0 - 1).toNat (0, 0)) (xs.getD ((P.getD g []).getD 1 0 - 1).toNat (0, 0)) (n, d) = false := hc; rw [hc] at h; cases h
              repeat (any_goals (first
                | (refine V_step T_ok GSsp rfl ?_; conv => whnf)
                | (refine V_drawN T_ok GSsp mixed (by kernel_rfl) ?_; conv => whnf)
                | (refine bcond_split (fun hc => ?_) (fun hc => ?_) <;> (try simp only [decide_eq_true_eq, decide_eq_false_iff_not, Bool.not_eq_true', Bool.not_eq_false', Bool.and_eq_true, Bool.or_eq_true, Bool.and_eq_false_imp, Bool.or_eq_false_iff, ne_eq, Decidable.not_not] at hc) <;> conv => whnf)
                | (intro ysK hysK; have hysl := congrArg List.length hysK; (try simp only [List.length_set, List.length_append, List.length_cons, List.length_nil, List.length_take, List.length_drop, List.length_replicate] at hysl); conv => whnf)
                | (refine And.intro (by first | (first | exact True.intro | omega | (simp only [Rng]; omega)) | exact True.intro | exact ⟨rfl, True.intro, fun _ _ => rfl⟩ | exact Nat.le_of_ble_eq_true rfl | (refine ⟨by (try simp only [List.length_cons, List.length_nil]); omega, Int.le_trans (Int.mul_le_mul_of_nonneg_left (show (TInfo.bytes _ : Int) ≤ 64 from Int.ofNat_le.2 (Nat.le_of_ble_eq_true rfl)) (by omega)) (by (try simp only [List.length_cons, List.length_nil]); omega)⟩)) ?_; conv => whnf)))
              have hfn : ((List.range (g + 1)).filter fun i => sepB xs (P.getD i [])).map (A1.inn 1) = ((List.range g).filter fun i => sepB xs (P.getD i [])).map (A1.inn 1) := by
                rw [filt_next (α := Nat), if_neg hsb, List.append_nil]
              refine ⟨g + 1, by omega, by omega, ?_⟩
              simp only [hfn]
              clear hfn hpr
              conv => whnf
              refine ⟨?_, by (conv => whnf); repeat (first | exact True.intro | (refine And.intro rfl ?_; conv => whnf)), by (conv => whnf); repeat (first | exact True.intro | (refine And.intro (by first | rfl | (subst_vars; rfl)) ?_; conv => whnf)), rfl, rfl, rfl, rfl, rfl, rfl, rfl, Nat.le_of_ble_eq_true rfl, Nat.le_of_ble_eq_true rfl⟩
              conv => whnf
              repeat (first | exact True.intro | (refine And.intro (by first | rfl | ((conv => whnf); exact congrArg (AVal.int .i64) (by omega)) | ((conv => whnf); exact congrArg (AVal.int .i64) (by simp only [Int.natCast_add, Int.natCast_one]; omega)) | ((conv => whnf); exact congrArg (AVal.irow _) (by first | omega | assumption | (simp only; omega)))) ?_; conv => whnf))
          · have hgl : g = P.length := by omega
            exact ⟨rfl, rfl, rfl, by rw [← hgl]; rfl⟩
      · rintro i ⟨fr2, hp2, rows2⟩ A2 a2 w2 ⟨rfl, hL, hf, hr⟩ hs2
        obtain ⟨A3, h3⟩ := seg_out rfl rfl rfl s1 hs2 (L := 57) (s := 7) (r := 2) hL (by rw [← nth_eq]; exact hf) hr (List.nodup_range.filter _) (fun i hi => List.mem_range.1 (List.mem_filter.1 hi).1)
        refine ⟨_, A3, ?_, h3⟩
        conv => whnf
        repeat (any_goals (first
          | (refine V_step T_ok GSsp rfl ?_; conv => whnf)
          | (refine V_drawA T_ok GSsp mixed (by kernel_rfl) ?_; conv => whnf)
          | (refine bcond_split (fun hc => ?_) (fun hc => ?_) <;> (try simp only [decide_eq_true_eq, decide_eq_false_iff_not, Bool.not_eq_true', Bool.not_eq_false', Bool.and_eq_true, Bool.or_eq_true, Bool.and_eq_false_imp, Bool.or_eq_false_iff, ne_eq, Decidable.not_not] at hc) <;> conv => whnf)
          | (intro ysK hysK; have hysl := congrArg List.length hysK; (try simp only [List.length_set, List.length_append, List.length_cons, List.length_nil, List.length_take, List.length_drop, List.length_replicate] at hysl); conv => whnf)
          | (refine And.intro (by first | (first | exact True.intro | omega) | exact True.intro | exact ⟨rfl, True.intro, fun _ _ => rfl⟩ | exact Nat.le_of_ble_eq_true rfl | (refine ⟨by (try simp only [List.length_cons, List.length_nil]); omega, Int.le_trans (Int.mul_le_mul_of_nonneg_left (show (TInfo.bytes _ : Int) ≤ 64 from Int.ofNat_le.2 (Nat.le_of_ble_eq_true rfl)) (by omega)) (by (try simp only [List.length_cons, List.length_nil]); omega)⟩)) ?_; conv => whnf)))
        have e : (((List.range P.length).filter fun i => sepB xs (P.getD i [])).map fun i => P.getD i []) = spO (n, d) := by
          rw [filt_map [] P (sepB xs)]
          unfold spO
          rw [if_pos hc, ← hysK, hP']
        exact leaf1 0 rfl rfl (congrArg (fun ys => (⟨rT, 43, true, ys⟩ : Row)) e) rfl (fun B C h => by simp [AVal.den, dens, h, hc])
end Go.Proofs.Ytllagpbbbdekiab.Fw
