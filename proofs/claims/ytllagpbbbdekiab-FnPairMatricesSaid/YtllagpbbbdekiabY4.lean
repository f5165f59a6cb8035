/- Contracts: orbits of a pair, as the reference makes them; the law. -/
import Derived.Test.YtllagpbbbdekiabY3
import Derived.Test.YtllagpbbbdekiabK16
import Derived.Test.YtllagpbbbdekiabK10
namespace Go.Proofs.Ytllagpbbbdekiab.Fw
open Go Go.RowKit
set_option linter.unusedVariables false
set_option linter.unusedSimpArgs false
set_option maxRecDepth 100000
set_option maxHeartbeats 2000000
def flSp : Nat → Bool := fun i => match Nat.beq i 1000059 with | true => true | false => Nat.beq i 1000102
theorem flSp_ok : ∀ i, i < 1000 → flSp i = false := fun i h => by
  unfold flSp
  cases hb : Nat.beq i 1000059 with
  | true => have := Nat.eq_of_beq_eq_true hb; omega
  | false =>
    simp only
    cases hb2 : Nat.beq i 1000102 with
    | true => have := Nat.eq_of_beq_eq_true hb2; omega
    | false => rfl
theorem poR_ne {x : Ang} {i j q : Int} (h : ¬ parN x (decide (0 ≤ q ∧ q ≤ 20)) = 0) : poR x i j q = ([], parN x (decide (0 ≤ q ∧ q ≤ 20))) := by
  have h3 : parN x (decide (0 ≤ q ∧ q ≤ 20)) = 1 ∨ parN x (decide (0 ≤ q ∧ q ≤ 20)) = 2 := by
    unfold parN at h ⊢
    (repeat' split) <;> simp_all
  rcases h3 with h3 | h3
  · rw [poR_1 (parN_po1 h3), h3]
  · rw [poR_2 (parN_po2 h3).1 ((parN_po2 h3).2 i j), h3]
abbrev GSpo := (GOk.cons sLen_ok (GOk.cons sPrs_ok (GOk.cons sMat_ok (GOk.mcons sAdd_ok .nil))))
theorem sPo_ok : PCtrOk Try.prog 23 poC where
  enter := enter_ok Try.func23 (by kernel_rfl) rfl
  calls := by
    intro hg rg lr vals k h
    unfold poC at h
    split at h
    case h_2 => exact h.elim
    rename_i n d i j q
    obtain ⟨_, hk⟩ := h
    replace hk := hk _ rfl
    refine ⟨_, _, hk, fun A w _ _ => ?_⟩
    refine enterF T_ok GSpo Try.func23 rfl flSp flSp_ok (K := (· < w.heap.size)) (fun _ h => h) (A := A) (n0 := 0) (b0 := 0) (rows := []) (hp := []) rfl (Nat.zero_le _) (Nat.zero_le _) (fun k r h => by cases h) rfl (fun k r h => by cases h) rfl rfl (Nat.le_of_ble_eq_true rfl) ?_
    conv => whnf
    repeat (refine V_step T_ok GSpo rfl ?_; conv => whnf)
    repeat (any_goals (first
      | (refine V_step T_ok GSpo rfl ?_; conv => whnf)
      | (refine V_drawA T_ok GSpo mixed (by kernel_rfl) ?_; conv => whnf)
      | (refine bcond_split (fun hc => ?_) (fun hc => ?_) <;> (try simp only [decide_eq_true_eq, decide_eq_false_iff_not, Bool.not_eq_true', Bool.not_eq_false', Bool.and_eq_true, Bool.or_eq_true, Bool.and_eq_false_imp, Bool.or_eq_false_iff, ne_eq, Decidable.not_not] at hc) <;> conv => whnf)
      | (intro ysK hysK; have hysl := congrArg List.length hysK; (try simp only [List.length_set, List.length_append, List.length_cons, List.length_nil, List.length_take, List.length_drop, List.length_replicate] at hysl); conv => whnf)
      | (intro bK hbK; have hbl := congrArg ByteArray.size hbK; conv => whnf)
      | (intro sK hsK; conv => whnf)
      | (refine And.intro (by first | (first | exact True.intro | (simp only [Rng]; omega) | omega) | exact True.intro | exact ⟨rfl, True.intro, fun _ _ => rfl⟩ | exact Nat.le_of_ble_eq_true rfl | (refine ⟨by (try simp only [List.length_cons, List.length_nil]); omega, Int.le_trans (Int.mul_le_mul_of_nonneg_left (show (TInfo.bytes _ : Int) ≤ 64 from Int.ofNat_le.2 (Nat.le_of_ble_eq_true rfl)) (by omega)) (by (try simp only [List.length_cons, List.length_nil]); omega)⟩)) ?_; conv => whnf)))
    · have h0 : parN (n, d) (decide (0 ≤ q ∧ q ≤ 20)) = 0 := by assumption
      rw [poR_2 (parN_po h0).1 fun hp => by have := hp.2.2.1; omega]
      exact leafN rfl rfl (fun B C h => by simp [AVal.den, dens, h, Hdr.val])
    · have h0 : parN (n, d) (decide (0 ≤ q ∧ q ≤ 20)) = 0 := by assumption
      rw [poR_2 (parN_po h0).1 fun hp => by have := hp.2.2.2.1; omega]
      exact leafN rfl rfl (fun B C h => by simp [AVal.den, dens, h, Hdr.val])
    · have h0 : parN (n, d) (decide (0 ≤ q ∧ q ≤ 20)) = 0 := by assumption
      have hysK : ysK = orb8 (n, d) := hysK
      rw [poR_2 (parN_po h0).1 fun hp => by have := hp.2.2.2.2; rw [← hysK] at this; omega]
      exact leafN rfl rfl (fun B C h => by simp [AVal.den, dens, h, Hdr.val])
    · exact absurd (by assumption) hc
    · have h0 : parN (n, d) (decide (0 ≤ q ∧ q ≤ 20)) = 0 := hc
      obtain ⟨hA, h08, hq⟩ := parN_po h0
      have hO := orb8_orb (orb8_N h08)
      have hxs : ysK = orb8 (n, d) := hysK
      have hP : poOk (n, d) i j q := ⟨h08, hq, by omega, by omega, by rw [← hxs]; omega⟩
      rw [poR_0 hP, ← hxs]
      rw [← hxs] at hO
      clear hysK hysl
      obtain ⟨xs, hxx⟩ : ∃ xs, ysK = xs := ⟨_, rfl⟩
      rw [hxx] at hO hxs ⊢
      have hjl : ¬ (List.length (α := Ang) xs : Int) < j := by rw [← hxx]; assumption
      clear hxx
      have hxl := hO.len
      have hl64 : 0 ≤ (List.length (α := Int × Int) xs : Int) ∧ (List.length (α := Int × Int) xs : Int) ≤ 64 := by omega
      have hprl : List.length (α := List Int) (prJ (xs.length : Int) xs.length) ≤ 21 := prJ7 _ (by omega)
      have hmk : (0 ≤ (List.length (α := List Int) (prJ (xs.length : Int) xs.length) : Int) ∧ (List.length (α := List Int) (prJ (xs.length : Int) xs.length) : Int) = (List.length (α := List Int) (prJ (xs.length : Int) xs.length) : Int) ∧ (ti2.bytes : Int) * (List.length (α := List Int) (prJ (xs.length : Int) xs.length) : Int) ≤ 281474976710656 ∧ (List.length (α := List Int) (prJ (xs.length : Int) xs.length) : Int) ≤ 9223372036854775807) := by
        refine ⟨by omega, rfl, ?_, by omega⟩
        show (8 : Int) * (List.length (α := List Int) (prJ (xs.length : Int) xs.length) : Int) ≤ _
        omega
      have hsa : (List.length (α := Int) (List.replicate (prJ (xs.length : Int) xs.length).length (0 : Int)) = List.length (α := List Int) (prJ (xs.length : Int) xs.length) ∧ List.length (α := List Int) (prJ (xs.length : Int) xs.length) ≤ 5000) ∧ (∀ v ∈ List.replicate (prJ (xs.length : Int) xs.length).length (0 : Int), 0 ≤ v ∧ v ≤ 100) ∧ (∀ p ∈ prJ (xs.length : Int) xs.length, 2 ≤ List.length (α := Int) p) :=
        ⟨⟨List.length_replicate, by omega⟩, fun v hv => by rw [(List.mem_replicate.1 hv).2]; omega, prJ_two⟩
      repeat (any_goals (first
        | (refine V_step T_ok GSpo rfl ?_; conv => whnf)
        | (refine V_drawA T_ok GSpo mixed (by kernel_rfl) ?_; conv => whnf)
        | (refine bcond_split (fun hc => ?_) (fun hc => ?_) <;> (try simp only [decide_eq_true_eq, decide_eq_false_iff_not, Bool.not_eq_true', Bool.not_eq_false', Bool.and_eq_true, Bool.or_eq_true, Bool.and_eq_false_imp, Bool.or_eq_false_iff, ne_eq, Decidable.not_not] at hc) <;> conv => whnf)
        | (intro ysK hysK; have hysl := congrArg List.length hysK; (try simp only [List.length_set, List.length_append, List.length_cons, List.length_nil, List.length_take, List.length_drop, List.length_replicate] at hysl); conv => whnf)
        | (intro bK hbK; have hbl := congrArg ByteArray.size hbK; conv => whnf)
        | (intro sK hsK; conv => whnf)
        | (refine And.intro (by first | (first | exact True.intro | exact hl64 | exact hO | exact hmk | exact ⟨by decide, hsa⟩ | (simp only [Rng]; omega) | omega) | exact True.intro | exact ⟨rfl, True.intro, fun _ _ => rfl⟩ | exact Nat.le_of_ble_eq_true rfl | (refine ⟨by (try simp only [List.length_cons, List.length_nil]); omega, Int.le_trans (Int.mul_le_mul_of_nonneg_left (show (TInfo.bytes _ : Int) ≤ 64 from Int.ofNat_le.2 (Nat.le_of_ble_eq_true rfl)) (by omega)) (by (try simp only [List.length_cons, List.length_nil]); omega)⟩)) ?_; conv => whnf)))
      have haM : ysK = matP xs := hysK
      clear hysK hysl
      obtain ⟨a, haa⟩ : ∃ a, ysK = a := ⟨_, rfl⟩
      rw [haa] at haM ⊢
      clear haa ysK hsa
      obtain ⟨v, hv⟩ : ∃ v, stV xs i j = v := ⟨_, rfl⟩
      have hst : StOk a v := by rw [haM, ← hv]; exact stV_ok hO (by omega) (by omega) (by omega)
      have hal := hst.len
      have hN : List.length (α := List Int) (prJ (List.length (α := Ang) xs : Int) (List.length (α := Ang) xs)) = List.length (α := List Int) a := by rw [haM, matP_len]
      have hN' : List.length (α := List Int) (prJ (List.length (α := Ang) xs : Int) ((List.length (α := Ang) xs : Int)).toNat) = List.length (α := List Int) a := hN
      obtain ⟨K, rfl⟩ : ∃ K : Nat, q = (K : Int) := ⟨q.toNat, by omega⟩
      have hres : stepsL (matP xs) (stV xs i j) ((K : Int)).toNat = stepsL a v K := by rw [haM, hv]; rfl
      rw [hres]
      refine V_loopH (γ := Nat × List (List Int)) (fun g => g.1 ≤ K ∧ g.2 = stepsL a v (K - g.1)) (fun g => g.1)
        (fun g => [(3, .int .i64 g.1), (14, .irow 4 (K - g.1)), (15, .row 4), (52, .junk), (53, .junk), (58, .junk), (59, .junk)]) (fun _ => []) (fun g => [(4, some ⟨rT, 43, true, g.2⟩)]) (K, [v]) ⟨Nat.le_refl _, by rw [Nat.sub_self]; rfl⟩ ?_ ?_
      · clear hmk
        have hv' : addP (prJ (List.length (α := Ang) xs : Int) ((List.length (α := Ang) xs : Int)).toNat) (List.replicate ((List.length (α := List Int) (prJ (List.length (α := Ang) xs : Int) ((List.length (α := Ang) xs : Int)).toNat) : Int)).toNat (TyC.int IntKind.i64).dflt) i j = v := hv
        conv => whnf
        refine ⟨?_, by (conv => whnf); repeat (first | exact True.intro | (refine And.intro rfl ?_; conv => whnf)), by (conv => whnf); repeat (first | exact True.intro | (refine And.intro (by first | rfl | (subst_vars; rfl)) ?_; conv => whnf)), rfl, rfl, rfl, rfl, rfl, rfl, rfl, Nat.le_of_ble_eq_true rfl, Nat.le_of_ble_eq_true rfl⟩
        conv => whnf
        repeat (first | exact True.intro | (refine And.intro (by first | rfl | ((conv => whnf); exact congrArg (AVal.int .i64) (by omega)) | ((conv => whnf); exact congrArg (AVal.int .i64) (by simp only [Int.natCast_add, Int.natCast_one]; omega)) | ((conv => whnf); exact congrArg (AVal.irow _) (by first | omega | assumption | (simp only; omega)))) ?_; conv => whnf))
      · rintro ⟨g, L⟩ ⟨h1, h2⟩
        simp only at h1 h2
        have hL : List.length (α := List Int) L = K - g + 1 := by rw [h2, stepsL_len]
        obtain ⟨r, hr⟩ : ∃ r, List.getD (α := List Int) L (K - g) [] = r := ⟨_, rfl⟩
        have hrs : r = stepR a v (K - g) := by rw [← hr, h2, stepsL_last]
        have hrl : List.length (α := Int) r = List.length (α := List Int) a := by rw [hrs]; exact stepR_len hst _
        have hrl2 : List.length (α := Int) (List.getD (α := List Int) L (K - g) []) = List.length (α := List Int) a := by rw [hr]; exact hrl
        have hpr : PrOk [r] a (List.length (α := List Int) a) := by rw [hrs]; exact step_ok hst (by omega)
        have hap : ∀ a b : Nat, a ≤ 5000 → b ≤ 5000 → ((a : Int) + (b : Int) ≤ 9223372036854775807 ∧ ((a : Int) + (b : Int)) * (ti43.bytes : Int) ≤ 140737488355328) := fun a b h1 h2 => by
          have hb : (ti43.bytes : Int) = 24 := rfl
          rw [hb]; omega
        conv => whnf
        refine vcCode_sound T_ok GSpo _ _ _ _ _ ?_
        conv => whnf
        repeat (refine V_step T_ok GSpo rfl ?_; conv => whnf)
        repeat (any_goals (first
          | (refine V_step T_ok GSpo rfl ?_; conv => whnf)
          | (refine V_drawA T_ok GSpo mixed (by kernel_rfl) ?_; conv => whnf)
          | (refine bcond_split (fun hc => ?_) (fun hc => ?_) <;> (try simp only [decide_eq_true_eq, decide_eq_false_iff_not, Bool.not_eq_true', Bool.not_eq_false', Bool.and_eq_true, Bool.or_eq_true, Bool.and_eq_false_imp, Bool.or_eq_false_iff, ne_eq, Decidable.not_not] at hc) <;> conv => whnf)
          | (intro ysK hysK; have hysl := congrArg List.length hysK; (try simp only [List.length_set, List.length_append, List.length_cons, List.length_nil, List.length_take, List.length_drop, List.length_replicate] at hysl); conv => whnf)
          | (intro bK hbK; have hbl := congrArg ByteArray.size hbK; conv => whnf)
          | (intro sK hsK; conv => whnf)
          | (refine And.intro (by first | (first | exact True.intro | exact hmk | (simp only [Rng]; omega) | omega) | exact True.intro | exact ⟨rfl, True.intro, fun _ _ => rfl⟩ | exact Nat.le_of_ble_eq_true rfl | (refine ⟨by (try simp only [List.length_cons, List.length_nil]); omega, Int.le_trans (Int.mul_le_mul_of_nonneg_left (show (TInfo.bytes _ : Int) ≤ 64 from Int.ofNat_le.2 (Nat.le_of_ble_eq_true rfl)) (by omega)) (by (try simp only [List.length_cons, List.length_nil]); omega)⟩)) ?_; conv => whnf)))
        · have hg0 : 0 < g := by
            have hc : (0 : Int) < (g : Int) := by assumption
            omega
          refine V_loopH (γ := Nat × List Int) (fun p => p.1 ≤ List.length (α := List Int) a ∧ p.2 = rowM r a (List.length (α := List Int) a) p.1) (fun p => List.length (α := List Int) a - p.1)
            (fun p => [(17, .int .i64 p.1)]) (fun _ => []) (fun p => [(5, some ⟨iT, 2, true, p.2⟩)]) (0, List.replicate (List.length (α := List Int) a) 0) ⟨Nat.zero_le _, (rowM_zero _ _ _).symm⟩ ?_ ?_
          · have e7 : List.replicate ((List.length (α := List Int) (prJ (List.length (α := Ang) xs : Int) ((List.length (α := Ang) xs : Int)).toNat) : Int)).toNat (0 : Int) = List.replicate (List.length (α := List Int) a) 0 := congrArg (fun z => List.replicate z (0 : Int)) (by omega)
            clear hmk
            conv => whnf
            refine ⟨?_, by (conv => whnf); repeat (first | exact True.intro | (refine And.intro rfl ?_; conv => whnf)), by (conv => whnf); repeat (first | exact True.intro | (refine And.intro (by first | rfl | (exact congrArg (fun z => (⟨iT, 2, true, z⟩ : Row)) e7)) ?_; conv => whnf)), rfl, rfl, rfl, rfl, rfl, rfl, rfl, Nat.le_of_ble_eq_true rfl, Nat.le_of_ble_eq_true rfl⟩
            conv => whnf
            repeat (first | exact True.intro | (refine And.intro (by first | rfl | ((conv => whnf); exact congrArg (AVal.int .i64) (by omega)) | ((conv => whnf); exact congrArg (AVal.int .i64) (by simp only [Int.natCast_add, Int.natCast_one]; omega)) | ((conv => whnf); exact congrArg (AVal.irow _) (by first | omega | assumption | (simp only; omega)))) ?_; conv => whnf))
          · rintro ⟨p, M⟩ ⟨p1, p2⟩
            simp only at p1 p2
            have hM : List.length (α := Int) M = List.length (α := List Int) a := by rw [p2, rowM_len]
            conv => whnf
            refine vcCode_sound T_ok GSpo _ _ _ _ _ ?_
            conv => whnf
            repeat (refine V_step T_ok GSpo rfl ?_; conv => whnf)
            repeat (any_goals (first
              | (refine V_step T_ok GSpo rfl ?_; conv => whnf)
              | (refine V_drawA T_ok GSpo mixed (by kernel_rfl) ?_; conv => whnf)
              | (refine bcond_split (fun hc => ?_) (fun hc => ?_) <;> (try simp only [decide_eq_true_eq, decide_eq_false_iff_not, Bool.not_eq_true', Bool.not_eq_false', Bool.and_eq_true, Bool.or_eq_true, Bool.and_eq_false_imp, Bool.or_eq_false_iff, ne_eq, Decidable.not_not] at hc) <;> conv => whnf)
              | (intro ysK hysK; have hysl := congrArg List.length hysK; (try simp only [List.length_set, List.length_append, List.length_cons, List.length_nil, List.length_take, List.length_drop, List.length_replicate] at hysl); conv => whnf)
              | (intro bK hbK; have hbl := congrArg ByteArray.size hbK; conv => whnf)
              | (intro sK hsK; conv => whnf)
              | (refine And.intro (by first | (first | exact True.intro | (simp only [Rng]; omega) | omega) | exact True.intro | exact ⟨rfl, True.intro, fun _ _ => rfl⟩ | exact Nat.le_of_ble_eq_true rfl | (refine ⟨by (try simp only [List.length_cons, List.length_nil]); omega, Int.le_trans (Int.mul_le_mul_of_nonneg_left (show (TInfo.bytes _ : Int) ≤ 64 from Int.ofNat_le.2 (Nat.le_of_ble_eq_true rfl)) (by omega)) (by (try simp only [List.length_cons, List.length_nil]); omega)⟩)) ?_; conv => whnf)))
            · have hp : p < List.length (α := List Int) a := by
                have hc : (p : Int) < (List.length (α := List Int) (prJ (List.length (α := Ang) xs : Int) ((List.length (α := Ang) xs : Int)).toNat) : Int) := by assumption
                omega
              have hbw : List.length (α := Int) (@List.getD (List Int) a p []) = List.length (α := List Int) a := hst.sq _ (getD_mem hp)
              have hbw2 : List.length (α := Int) (@List.getD (List Int) a (Int.toNat (p : Int)) []) = List.length (α := List Int) a := hbw
              have hdot := fun z hz => hpr.dot (r := r) (by simp) (j := z) (k := p) hz hp
              refine V_loopH (γ := Nat × List Int) (fun z => z.1 ≤ List.length (α := List Int) a ∧ z.2 = midM r a (List.length (α := List Int) a) p z.1) (fun z => List.length (α := List Int) a - z.1)
                (fun z => [(18, .int .i64 z.1)]) (fun _ => []) (fun z => [(5, some ⟨iT, 2, true, z.2⟩)]) (0, M) ⟨Nat.zero_le _, by rw [midM_zero]; exact p2⟩ ?_ ?_
              · clear hmk
                conv => whnf
                refine ⟨?_, by (conv => whnf); repeat (first | exact True.intro | (refine And.intro rfl ?_; conv => whnf)), by (conv => whnf); repeat (first | exact True.intro | (refine And.intro (by first | rfl | (subst_vars; rfl)) ?_; conv => whnf)), rfl, rfl, rfl, rfl, rfl, rfl, rfl, Nat.le_of_ble_eq_true rfl, Nat.le_of_ble_eq_true rfl⟩
                conv => whnf
                repeat (first | exact True.intro | (refine And.intro (by first | rfl | ((conv => whnf); exact congrArg (AVal.int .i64) (by omega)) | ((conv => whnf); exact congrArg (AVal.int .i64) (by simp only [Int.natCast_add, Int.natCast_one]; omega)) | ((conv => whnf); exact congrArg (AVal.irow _) (by first | omega | assumption | (simp only; omega)))) ?_; conv => whnf))
              · rintro ⟨z, Q⟩ ⟨z1, z2⟩
                simp only at z1 z2
                have hQ : List.length (α := Int) Q = List.length (α := List Int) a := by rw [z2, midM_len z1]
                have hx : (List.getD (α := List Int) L (K - g) []).getD p iT.dflt = r.getD p 0 := by rw [hr]; rfl
                have hy : (@List.getD (List Int) a p []).getD z iT.dflt = ent a p z := rfl
                have hz : z < List.length (α := List Int) a → (@List.getD Int Q z iT.dflt) = dotN r a z p := fun h => by rw [z2]; exact midM_get h
                have hd := fun (h : (z : Int) < (List.length (α := List Int) (prJ (List.length (α := Ang) xs : Int) ((List.length (α := Ang) xs : Int)).toNat) : Int)) => hdot z (by omega)
                conv => whnf
                refine vcCode_sound T_ok GSpo _ _ _ _ _ ?_
                conv => whnf
                repeat (refine V_step T_ok GSpo rfl ?_; conv => whnf)
                repeat (any_goals (first
                  | (refine V_step T_ok GSpo rfl ?_; conv => whnf)
                  | (refine V_drawA T_ok GSpo mixed (by kernel_rfl) ?_; conv => whnf)
                  | (refine bcond_split (fun hc => ?_) (fun hc => ?_) <;> (try simp only [decide_eq_true_eq, decide_eq_false_iff_not, Bool.not_eq_true', Bool.not_eq_false', Bool.and_eq_true, Bool.or_eq_true, Bool.and_eq_false_imp, Bool.or_eq_false_iff, ne_eq, Decidable.not_not] at hc) <;> conv => whnf)
                  | (intro ysK hysK; have hysl := congrArg List.length hysK; (try simp only [List.length_set, List.length_append, List.length_cons, List.length_nil, List.length_take, List.length_drop, List.length_replicate] at hysl); conv => whnf)
                  | (intro bK hbK; have hbl := congrArg ByteArray.size hbK; conv => whnf)
                  | (intro sK hsK; conv => whnf)
                  | (refine And.intro (by first | (first | exact True.intro | (simp only [Int.toNat_natCast]; omega) | omega | (have q := hd (by assumption); have q2 := hz (by omega); simp only [Int.toNat_natCast, hx, hy, q2, Rng]; omega) | (simp only [Rng]; omega)) | exact True.intro | exact ⟨rfl, True.intro, fun _ _ => rfl⟩ | exact Nat.le_of_ble_eq_true rfl | (refine ⟨by (try simp only [List.length_cons, List.length_nil]); omega, Int.le_trans (Int.mul_le_mul_of_nonneg_left (show (TInfo.bytes _ : Int) ≤ 64 from Int.ofNat_le.2 (Nat.le_of_ble_eq_true rfl)) (by omega)) (by (try simp only [List.length_cons, List.length_nil]); omega)⟩)) ?_; conv => whnf)))
                · have hzw : z < List.length (α := List Int) a := by
                    have hc : (z : Int) < (List.length (α := List Int) (prJ (List.length (α := Ang) xs : Int) ((List.length (α := Ang) xs : Int)).toNat) : Int) := by assumption
                    omega
                  have hY : ysK = midM r a (List.length (α := List Int) a) p (z + 1) := by
                    have e3 := hz hzw
                    simp only [Int.toNat_natCast, hx, hy, e3] at hysK
                    rw [hysK, z2, midM_step hzw]
                  clear hysK hysl
                  refine ⟨(z + 1, ysK), ⟨by simp only; omega, hY⟩, by simp only; omega, ?_⟩
                  clear hmk
                  conv => whnf
                  refine ⟨?_, by (conv => whnf); repeat (first | exact True.intro | (refine And.intro rfl ?_; conv => whnf)), by (conv => whnf); repeat (first | exact True.intro | (refine And.intro (by first | rfl | (subst_vars; rfl)) ?_; conv => whnf)), rfl, rfl, rfl, rfl, rfl, rfl, rfl, Nat.le_of_ble_eq_true rfl, Nat.le_of_ble_eq_true rfl⟩
                  conv => whnf
                  repeat (first | exact True.intro | (refine And.intro (by first | rfl | ((conv => whnf); exact congrArg (AVal.int .i64) (by omega)) | ((conv => whnf); exact congrArg (AVal.int .i64) (by simp only [Int.natCast_add, Int.natCast_one]; omega)) | ((conv => whnf); exact congrArg (AVal.irow _) (by first | omega | assumption | (simp only; omega)))) ?_; conv => whnf))
                · have hzw : z = List.length (α := List Int) a := by
                    have hc : ¬ (z : Int) < (List.length (α := List Int) (prJ (List.length (α := Ang) xs : Int) ((List.length (α := Ang) xs : Int)).toNat) : Int) := hc
                    omega
                  have hY : Q = rowM r a (List.length (α := List Int) a) (p + 1) := by rw [z2, hzw, midM_all]
                  refine ⟨(p + 1, Q), ⟨by simp only; omega, hY⟩, by simp only; omega, ?_⟩
                  clear hmk
                  conv => whnf
                  refine ⟨?_, by (conv => whnf); repeat (first | exact True.intro | (refine And.intro rfl ?_; conv => whnf)), by (conv => whnf); repeat (first | exact True.intro | (refine And.intro (by first | rfl | (subst_vars; rfl)) ?_; conv => whnf)), rfl, rfl, rfl, rfl, rfl, rfl, rfl, Nat.le_of_ble_eq_true rfl, Nat.le_of_ble_eq_true rfl⟩
                  conv => whnf
                  repeat (first | exact True.intro | (refine And.intro (by first | rfl | ((conv => whnf); exact congrArg (AVal.int .i64) (by omega)) | ((conv => whnf); exact congrArg (AVal.int .i64) (by simp only [Int.natCast_add, Int.natCast_one]; omega)) | ((conv => whnf); exact congrArg (AVal.irow _) (by first | omega | assumption | (simp only; omega)))) ?_; conv => whnf))
            · have hp : p = List.length (α := List Int) a := by
                have hc : ¬ (p : Int) < (List.length (α := List Int) (prJ (List.length (α := Ang) xs : Int) ((List.length (α := Ang) xs : Int)).toNat) : Int) := hc
                omega
              repeat (any_goals (first
                | (refine V_step T_ok GSpo rfl ?_; conv => whnf)
                | (refine V_drawA T_ok GSpo mixed (by kernel_rfl) ?_; conv => whnf)
                | (refine bcond_split (fun hc => ?_) (fun hc => ?_) <;> (try simp only [decide_eq_true_eq, decide_eq_false_iff_not, Bool.not_eq_true', Bool.not_eq_false', Bool.and_eq_true, Bool.or_eq_true, Bool.and_eq_false_imp, Bool.or_eq_false_iff, ne_eq, Decidable.not_not] at hc) <;> conv => whnf)
                | (intro ysK hysK; have hysl := congrArg List.length hysK; (try simp only [List.length_set, List.length_append, List.length_cons, List.length_nil, List.length_take, List.length_drop, List.length_replicate] at hysl); conv => whnf)
                | (intro bK hbK; have hbl := congrArg ByteArray.size hbK; conv => whnf)
                | (intro sK hsK; conv => whnf)
                | (refine And.intro (by first | (first | exact True.intro | (simp only [Rng]; omega) | omega | exact hap _ _ (by omega) (by simp only [List.length_cons, List.length_nil]; omega)) | exact True.intro | exact ⟨rfl, True.intro, fun _ _ => rfl⟩ | exact Nat.le_of_ble_eq_true rfl | (refine ⟨by (try simp only [List.length_cons, List.length_nil]); omega, Int.le_trans (Int.mul_le_mul_of_nonneg_left (show (TInfo.bytes _ : Int) ≤ 64 from Int.ofNat_le.2 (Nat.le_of_ble_eq_true rfl)) (by omega)) (by (try simp only [List.length_cons, List.length_nil]); omega)⟩)) ?_; conv => whnf)))
              have hY : ysK = stepsL a v (K - (g - 1)) := by
                have hy : ysK = L ++ [M] := hysK
                have e8 : M = stepR a v (K - g + 1) := by rw [p2, hp, hrs]; rfl
                rw [hy, h2, e8, show K - (g - 1) = (K - g) + 1 by omega, ← stepsL_snoc]
              clear hysK hysl
              refine ⟨(g - 1, ysK), ⟨by simp only; omega, hY⟩, by simp only; omega, ?_⟩
              have hgg : ((g - 1 : Nat) : Int) = (g : Int) - 1 := by omega
              have hir : List.length (α := List Int) L = K - (g - 1) := by omega
              clear hmk
              conv => whnf
              refine ⟨?_, by (conv => whnf); repeat (first | exact True.intro | (refine And.intro rfl ?_; conv => whnf)), by (conv => whnf); repeat (first | exact True.intro | (refine And.intro (by first | rfl | (subst_vars; rfl)) ?_; conv => whnf)), rfl, rfl, rfl, rfl, rfl, rfl, rfl, Nat.le_of_ble_eq_true rfl, Nat.le_of_ble_eq_true rfl⟩
              conv => whnf
              repeat (first | exact True.intro | (refine And.intro (by first | rfl | ((conv => whnf); exact congrArg (AVal.int .i64) (by omega)) | ((conv => whnf); exact congrArg (AVal.int .i64) (by simp only [Int.natCast_add, Int.natCast_one]; omega)) | ((conv => whnf); exact congrArg (AVal.irow _) (by first | omega | assumption | (simp only; omega)))) ?_; conv => whnf))
        · have hg : g = 0 := by
            have hc : ¬ (0 : Int) < (g : Int) := hc
            omega
          have hY : stepsL a v K = L := by rw [h2, hg]; rfl
          rw [hY]
          exact leaf1 4 rfl rfl rfl rfl (fun B C h => by simp [AVal.den, dens, h])
    · rw [poR_ne hc]
      exact leafN rfl rfl (fun B C h => by simp [AVal.den, dens, h, Hdr.val])
    · exact absurd hc (by assumption)
end Go.Proofs.Ytllagpbbbdekiab.Fw
