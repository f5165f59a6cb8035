/- Contracts: orbits of angles. -/
import Derived.Test.YtllagpbbbdekiabN1
import Derived.Test.YtllagpbbbdekiabHB
import Derived.Test.YtllagpbbbdekiabGE
namespace Go.Proofs.Ytllagpbbbdekiab.Fw
open Go Go.RowKit
set_option linter.unusedVariables false
set_option linter.unusedSimpArgs false
set_option maxRecDepth 100000
set_option maxHeartbeats 2000000
theorem getD_map_range {α : Type} {f : Nat → α} {n j : Nat} {d : α} (h : j < n) : ((List.range n).map f).getD j d = f j := by
  rw [List.getD_eq_getElem?_getD, List.getElem?_map, List.getElem?_range h]; rfl
theorem stop_no {a : Ang} {n : Nat} (h : ¬ (preA a < n ∧ itA a n = itA a (preA a))) : stopA a n = false := by
  unfold stopA
  rw [← Bool.decide_and]; exact decide_eq_false h
theorem stop_yes {a : Ang} {n : Nat} (h : preA a < n ∧ itA a n = itA a (preA a)) : stopA a n = true := by
  unfold stopA
  rw [← Bool.decide_and]; exact decide_eq_true h
theorem v2_le (d : Nat) : ∀ k, d < 2 ^ k → v2 d ≤ k := fun k => by
  induction k generalizing d with
  | zero => intro h; rw [show d = 0 by omega, v2]; simp
  | succ k ih =>
    intro h
    by_cases h0 : d = 0 ∨ d % 2 = 1
    · rw [v2, dif_pos h0]; omega
    · rw [v2, dif_neg h0]
      have := ih (d / 2) (by rw [Nat.pow_succ] at h; omega)
      omega
theorem preA_le {a : Ang} (h : IsA a) : preA a ≤ 13 := v2_le _ _ (by have := h.1; omega)
def orbC : PCtr := fun _ _ lr vals k => match vals with
  | [.agg [.int .i64 n, .int .i64 d]] => IsA (n, d) ∧ k [⟨aT, 25, true, orbX (n, d)⟩] (.tup [.row lr, .int .i64 (orbP (n, d)), .bool (orbB (n, d))])
  | _ => False
theorem sOrbit_ok : PCtrOk Try.prog 60 orbC where
  enter := enter_ok Try.func60 (by kernel_rfl) rfl
  calls := by
    intro hg rg lr vals k h
    unfold orbC at h
    split at h
    case h_2 => exact h.elim
    rename_i n d
    obtain ⟨hA, hk⟩ := h
    refine ⟨_, _, hk, fun A w _ _ => ?_⟩
    refine enter T_ok (GOk.cons sDouble_ok .nil) Try.func60 rfl (K := (· < w.heap.size)) (fun _ h => h) (A := A) (n0 := 0) (b0 := 0) (rows := []) (hp := []) rfl (Nat.zero_le _) (fun k r h => by cases h) rfl (fun k r h => by cases h) rfl rfl (Nat.le_of_ble_eq_true rfl) ?_
    conv => whnf
    repeat (refine V_step T_ok (GOk.cons sDouble_ok .nil) rfl ?_; conv => whnf)
    have hp13 := preA_le hA
    refine V_loopH (γ := Nat × Int) (fun g => (1 ≤ g.2 ∧ g.2 ≤ 8191) ∧ g.1 + v2 g.2.toNat = preA (n, d)) (fun g => g.2.toNat)
      (fun g => [(5, .int .i64 (g.1 : Int)), (6, .int .i64 g.2)]) (fun _ => []) (fun _ => []) (0, d) ⟨hA.1, Nat.zero_add _⟩ ?_ ?_
    · conv => whnf
      refine ⟨?_, by (conv => whnf); repeat (first | exact True.intro | (refine And.intro rfl ?_; conv => whnf)), by (conv => whnf); repeat (first | exact True.intro | (refine And.intro (by first | rfl | (subst_vars; rfl)) ?_; conv => whnf)), rfl, rfl, rfl, rfl, rfl, rfl, rfl, Nat.le_of_ble_eq_true rfl, Nat.le_of_ble_eq_true rfl⟩
      conv => whnf
      repeat (first | exact True.intro | (refine And.intro (by first | rfl | ((conv => whnf); exact congrArg (AVal.int .i64) (by omega)) | ((conv => whnf); exact congrArg (AVal.int .i64) (by simp only [Int.natCast_add, Int.natCast_one]; omega)) | ((conv => whnf); exact congrArg (AVal.irow _) (by first | omega | assumption | (simp only; omega)))) ?_; conv => whnf))
    · rintro ⟨p, e⟩ ⟨h1, h2⟩
      simp only at h1 h2
      conv => whnf
      refine vcCode_sound T_ok (GOk.cons sDouble_ok .nil) _ _ _ _ _ ?_
      conv => whnf
      repeat (refine V_step T_ok (GOk.cons sDouble_ok .nil) rfl ?_; conv => whnf)
      have t1 : e.tmod 2 = e % 2 := Int.tmod_eq_emod_of_nonneg (by omega)
      have t2 : e.tdiv 2 = e / 2 := Int.tdiv_eq_ediv_of_nonneg (by omega)
      repeat (any_goals (first
        | (refine V_step T_ok (GOk.cons sDouble_ok .nil) rfl ?_; conv => whnf)
        | (refine V_drawA T_ok (GOk.cons sDouble_ok .nil) mixed (by kernel_rfl) ?_; conv => whnf)
        | (refine bcond_split (fun hc => ?_) (fun hc => ?_) <;> (try simp only [decide_eq_true_eq, decide_eq_false_iff_not, Bool.not_eq_true', Bool.not_eq_false', Bool.and_eq_true, Bool.or_eq_true, Bool.and_eq_false_imp, Bool.or_eq_false_iff, ne_eq, Decidable.not_not] at hc) <;> conv => whnf)
        | (intro ysK hysK; have hysl := congrArg List.length hysK; (try simp only [List.length_set, List.length_append, List.length_cons, List.length_nil, List.length_take, List.length_drop, List.length_replicate] at hysl); conv => whnf)
        | (refine And.intro (by first | (first | exact True.intro | omega | (simp only [Rng]; omega)) | exact True.intro | exact ⟨rfl, True.intro, fun _ _ => rfl⟩ | exact Nat.le_of_ble_eq_true rfl | (refine ⟨by (try simp only [List.length_cons, List.length_nil]); omega, Int.le_trans (Int.mul_le_mul_of_nonneg_left (show (TInfo.bytes _ : Int) ≤ 64 from Int.ofNat_le.2 (Nat.le_of_ble_eq_true rfl)) (by omega)) (by (try simp only [List.length_cons, List.length_nil]); omega)⟩)) ?_; conv => whnf)))
      · have hc' : e % 2 = 0 := by rw [← t1]; exact hc
        refine ⟨(p + 1, e.tdiv 2), ⟨by simp only; omega, ?_⟩, by simp only; omega, ?_⟩
        · simp only
          rw [v2_even (d := e.toNat) (by omega) (by omega)] at h2
          rw [t2, show (e / 2).toNat = e.toNat / 2 by omega]; omega
        · conv => whnf
          refine ⟨?_, by (conv => whnf); repeat (first | exact True.intro | (refine And.intro rfl ?_; conv => whnf)), by (conv => whnf); repeat (first | exact True.intro | (refine And.intro (by first | rfl | (subst_vars; rfl)) ?_; conv => whnf)), rfl, rfl, rfl, rfl, rfl, rfl, rfl, Nat.le_of_ble_eq_true rfl, Nat.le_of_ble_eq_true rfl⟩
          conv => whnf
          repeat (first | exact True.intro | (refine And.intro (by first | rfl | ((conv => whnf); exact congrArg (AVal.int .i64) (by omega)) | ((conv => whnf); exact congrArg (AVal.int .i64) (by simp only [Int.natCast_add, Int.natCast_one]; omega)) | ((conv => whnf); exact congrArg (AVal.irow _) (by first | omega | assumption | (simp only; omega)))) ?_; conv => whnf))
      · have hc' : ¬ e % 2 = 0 := by rw [← t1]; exact hc
        have hp : p = preA (n, d) := by rw [v2_odd (d := e.toNat) (by omega)] at h2; exact h2
        subst hp
        refine V_loopH (γ := Nat) (fun g => g ≤ 64 ∧ ∀ j, j < g → stopA (n, d) j = false) (fun g => 65 - g)
          (fun g => [(7, .row 0), (8, .loc 1 0), (18, .junk)]) (fun g => [(1, [.int .i64 (itA (n, d) g).1, .int .i64 (itA (n, d) g).2])]) (fun g => [(0, some ⟨aT, 25, true, (List.range g).map (itA (n, d))⟩)]) 0 ⟨Nat.zero_le _, fun j h => absurd h (Nat.not_lt_zero _)⟩ ?_ ?_
        · conv => whnf
          refine ⟨?_, by (conv => whnf); repeat (first | exact True.intro | (refine And.intro rfl ?_; conv => whnf)), by (conv => whnf); repeat (first | exact True.intro | (refine And.intro (by first | rfl | (subst_vars; rfl)) ?_; conv => whnf)), rfl, rfl, rfl, rfl, rfl, rfl, rfl, Nat.le_of_ble_eq_true rfl, Nat.le_of_ble_eq_true rfl⟩
          conv => whnf
          repeat (first | exact True.intro | (refine And.intro (by first | rfl | ((conv => whnf); exact congrArg (AVal.int .i64) (by omega)) | ((conv => whnf); exact congrArg (AVal.int .i64) (by simp only [Int.natCast_add, Int.natCast_one]; omega)) | ((conv => whnf); exact congrArg (AVal.irow _) (by first | omega | assumption | (simp only; omega)))) ?_; conv => whnf))
        · rintro g ⟨hg1, hg2⟩
          have hb := (hA.it g).bd
          have hlen : (List.length (α := Int × Int) ((List.range g).map (itA (n, d))) : Int) = (g : Int) := by rw [List.length_map, List.length_range]
          have hnx : ¬ (preA (n, d) < g ∧ itA (n, d) g = itA (n, d) (preA (n, d))) → ∀ j, j < g + 1 → stopA (n, d) j = false := fun h j hj => by
            rcases Nat.lt_or_ge j g with h' | h'
            · exact hg2 j h'
            · obtain rfl : j = g := by omega
              exact stop_no h
          conv => whnf
          refine vcCode_sound T_ok (GOk.cons sDouble_ok .nil) _ _ _ _ _ ?_
          conv => whnf
          repeat (refine V_step T_ok (GOk.cons sDouble_ok .nil) rfl ?_; conv => whnf)
          repeat (any_goals (first
            | (refine V_step T_ok (GOk.cons sDouble_ok .nil) rfl ?_; conv => whnf)
            | (refine V_drawA T_ok (GOk.cons sDouble_ok .nil) mixed (by kernel_rfl) ?_; conv => whnf)
            | (refine bcond_split (fun hc => ?_) (fun hc => ?_) <;> (try simp only [decide_eq_true_eq, decide_eq_false_iff_not, Bool.not_eq_true', Bool.not_eq_false', Bool.and_eq_true, Bool.or_eq_true, Bool.and_eq_false_imp, Bool.or_eq_false_iff, ne_eq, Decidable.not_not] at hc) <;> conv => whnf)
            | (intro ysK hysK; have hysl := congrArg List.length hysK; (try simp only [List.length_set, List.length_append, List.length_cons, List.length_nil, List.length_take, List.length_drop, List.length_replicate] at hysl); conv => whnf)
            | (refine And.intro (by first | (first | exact True.intro | exact hb | omega | (simp only [Rng]; omega)) | exact True.intro | exact ⟨rfl, True.intro, fun _ _ => rfl⟩ | exact Nat.le_of_ble_eq_true rfl | (refine ⟨by (try simp only [List.length_cons, List.length_nil]); omega, Int.le_trans (Int.mul_le_mul_of_nonneg_left (show (TInfo.bytes _ : Int) ≤ 64 from Int.ofNat_le.2 (Nat.le_of_ble_eq_true rfl)) (by omega)) (by (try simp only [List.length_cons, List.length_nil]); omega)⟩)) ?_; conv => whnf)))
          · rename_i hpl
            have hpg : preA (n, d) < g := by omega
            have eq := getD_map_range (f := itA (n, d)) (d := aT.dflt) hpg
            have hst : itA (n, d) g = itA (n, d) (preA (n, d)) := by rw [← eq]; exact Prod.ext hc.1 hc.2
            have hl := lenA_some hg1 (stop_yes ⟨hpg, hst⟩) hg2
            refine leaf1 0 rfl rfl (by rw [orbX, hl]) rfl (fun B C h => ?_)
            simp [AVal.den, dens, h, orbP, orbB, hl]
          · rename_i hpl hne
            have hpg : preA (n, d) < g := by omega
            have eq := getD_map_range (f := itA (n, d)) (d := aT.dflt) hpg
            have hst : ¬ itA (n, d) g = itA (n, d) (preA (n, d)) := fun h => by rw [← eq] at h; exact hne (congrArg Prod.fst h) (congrArg Prod.snd h)
            have hn := hnx (fun h => hst h.2)
            have hl := lenA_none (a := (n, d)) (fun m hm => hn m (by omega))
            refine leafN rfl (by rw [orbX, hl]) (fun B C h => ?_)
            simp [AVal.den, dens, h, orbP, orbB, hl, Hdr.val]
          · rename_i hpl hne
            have hpg : preA (n, d) < g := by omega
            have eq := getD_map_range (f := itA (n, d)) (d := aT.dflt) hpg
            have hst : ¬ itA (n, d) g = itA (n, d) (preA (n, d)) := fun h => by rw [← eq] at h; exact hne (congrArg Prod.fst h) (congrArg Prod.snd h)
            have hK : ysK = (List.range (g + 1)).map (itA (n, d)) := by rw [List.range_succ, List.map_append]; exact hysK
            subst hK
            refine ⟨g + 1, ⟨by omega, hnx (fun h => hst h.2)⟩, by omega, ?_⟩
            conv => whnf
            refine ⟨?_, by (conv => whnf); repeat (first | exact True.intro | (refine And.intro rfl ?_; conv => whnf)), by (conv => whnf); repeat (first | exact True.intro | (refine And.intro (by first | rfl | (subst_vars; rfl)) ?_; conv => whnf)), rfl, rfl, rfl, rfl, rfl, rfl, rfl, Nat.le_of_ble_eq_true rfl, Nat.le_of_ble_eq_true rfl⟩
            conv => whnf
            repeat (first | exact True.intro | (refine And.intro (by first | rfl | ((conv => whnf); exact congrArg (AVal.int .i64) (by omega)) | ((conv => whnf); exact congrArg (AVal.int .i64) (by simp only [Int.natCast_add, Int.natCast_one]; omega)) | ((conv => whnf); exact congrArg (AVal.irow _) (by first | omega | assumption | (simp only; omega)))) ?_; conv => whnf))
          · rename_i hpl
            have hpg : ¬ preA (n, d) < g := by omega
            have hn := hnx (fun h => hpg h.1)
            have hl := lenA_none (a := (n, d)) (fun m hm => hn m (by omega))
            refine leafN rfl (by rw [orbX, hl]) (fun B C h => ?_)
            simp [AVal.den, dens, h, orbP, orbB, hl, Hdr.val]
          · rename_i hpl
            have hpg : ¬ preA (n, d) < g := by omega
            have hK : ysK = (List.range (g + 1)).map (itA (n, d)) := by rw [List.range_succ, List.map_append]; exact hysK
            subst hK
            refine ⟨g + 1, ⟨by omega, hnx (fun h => hpg h.1)⟩, by omega, ?_⟩
            conv => whnf
            refine ⟨?_, by (conv => whnf); repeat (first | exact True.intro | (refine And.intro rfl ?_; conv => whnf)), by (conv => whnf); repeat (first | exact True.intro | (refine And.intro (by first | rfl | (subst_vars; rfl)) ?_; conv => whnf)), rfl, rfl, rfl, rfl, rfl, rfl, rfl, Nat.le_of_ble_eq_true rfl, Nat.le_of_ble_eq_true rfl⟩
            conv => whnf
            repeat (first | exact True.intro | (refine And.intro (by first | rfl | ((conv => whnf); exact congrArg (AVal.int .i64) (by omega)) | ((conv => whnf); exact congrArg (AVal.int .i64) (by simp only [Int.natCast_add, Int.natCast_one]; omega)) | ((conv => whnf); exact congrArg (AVal.irow _) (by first | omega | assumption | (simp only; omega)))) ?_; conv => whnf))
def eqA (a x : Ang) : Bool := decide (a = x)
def idxAC : PCtr := fun _ rg _ vals k => match vals with
  | [.row i, .agg [.int .i64 p, .int .i64 q]] => rowC aT (rg i) fun xs => True ∧ k [] (.int .i64 (idxP (α := Ang) (eqA (p, q)) xs))
  | _ => False
theorem idxA_ok : PCtrOk Try.prog 73 idxAC where
  enter := enter_ok Try.func73 (by kernel_rfl) rfl
  calls := by
    intro hg rg lr vals k h
    unfold idxAC at h
    split at h
    case h_2 => exact h.elim
    rename_i i p q
    obtain ⟨e, own, xs, hi, h⟩ : ∃ e own, ∃ (xs : List Ang), _ := rowC_inv h
    have hk := h.2
    refine ⟨_, _, hk, fun A w hB hR => ?_⟩
    refine enter T_ok .nil Try.func73 rfl (K := (· < w.heap.size)) (fun _ h => h) (A := A.pick [] [i]) (vals := [.row 0, .agg [.int .i64 p, .int .i64 q]]) (n0 := 0) (b0 := 0) (rows := [some ⟨aT, e, false, xs⟩]) (hp := []) rfl (Nat.zero_le _) no_box rfl (one_row (hR i _ hi)) rfl rfl (Nat.le_of_ble_eq_true rfl) ?_
    conv => whnf
    repeat (refine V_step T_ok .nil rfl ?_; conv => whnf)
    have hcap' : (@List.length (TyC.α aT) xs : Int) ≤ 9223372036854775807 := by
      have h1 := (hR i _ hi).len
      have h2 := (hR i _ hi).cap
      have h3 := (hR i _ hi).max
      simp only at h1
      have : maxLen = 9223372036854775807 := rfl
      omega
    refine V_loopH (γ := Nat) (fun n => n ≤ xs.length ∧ ∀ j, j < n → eqA (p, q) (xs.getD j (0, 0)) = false) (fun n => xs.length - n)
      (fun n => [(8, .int .i64 n)]) (fun _ => []) (fun _ => []) 0 ⟨Nat.zero_le _, fun j h => absurd h (Nat.not_lt_zero _)⟩ ?_ ?_
    · conv => whnf
      refine ⟨?_, by (conv => whnf); repeat (first | exact True.intro | (refine And.intro rfl ?_; conv => whnf)), by (conv => whnf); repeat (first | exact True.intro | (refine And.intro (by first | rfl | (subst_vars; rfl)) ?_; conv => whnf)), rfl, rfl, rfl, rfl, rfl, rfl, rfl, Nat.le_of_ble_eq_true rfl, Nat.le_of_ble_eq_true rfl⟩
      conv => whnf
      repeat (first | exact True.intro | (refine And.intro (by first | rfl | ((conv => whnf); exact congrArg (AVal.int .i64) (by omega)) | ((conv => whnf); exact congrArg (AVal.int .i64) (by simp only [Int.natCast_add, Int.natCast_one]; omega)) | ((conv => whnf); exact congrArg (AVal.irow _) (by first | omega | assumption | (simp only; omega)))) ?_; conv => whnf))
    · rintro n ⟨h1, h2⟩
      conv => whnf
      refine vcCode_sound T_ok .nil _ _ _ _ _ ?_
      conv => whnf
      repeat (refine V_step T_ok .nil rfl ?_; conv => whnf)
      repeat (any_goals (first
        | (refine V_step T_ok .nil rfl ?_; conv => whnf)
        | (refine V_drawA T_ok .nil mixed (by kernel_rfl) ?_; conv => whnf)
        | (refine bcond_split (fun hc => ?_) (fun hc => ?_) <;> (try simp only [decide_eq_true_eq, decide_eq_false_iff_not, Bool.not_eq_true', Bool.not_eq_false', Bool.and_eq_true, Bool.or_eq_true, Bool.and_eq_false_imp, Bool.or_eq_false_iff, ne_eq, Decidable.not_not] at hc) <;> conv => whnf)
        | (intro ysK hysK; have hysl := congrArg List.length hysK; (try simp only [List.length_set, List.length_append, List.length_cons, List.length_nil, List.length_take, List.length_drop, List.length_replicate] at hysl); conv => whnf)
        | (refine And.intro (by first | exact True.intro | (with_reducible assumption) | omega | (simp only [Rng]; omega) | exact Nat.le_of_ble_eq_true rfl | exact True.intro | exact ⟨rfl, True.intro, fun _ _ => rfl⟩ | exact Nat.le_of_ble_eq_true rfl | (refine ⟨by (try simp only [List.length_cons, List.length_nil]); omega, Int.le_trans (Int.mul_le_mul_of_nonneg_left (show (TInfo.bytes _ : Int) ≤ 64 from Int.ofNat_le.2 (Nat.le_of_ble_eq_true rfl)) (by omega)) (by (try simp only [List.length_cons, List.length_nil]); omega)⟩)) ?_; conv => whnf)))
      · rename_i hc0
        have hl : (n : Int) < (xs.length : Nat) := hc0
        have hp : eqA (p, q) (xs.getD n (0, 0)) = true := decide_eq_true (Prod.ext hc.1 hc.2)
        exact leaf0 rfl (congrArg (AVal.int .i64) (idxP_found (eqA (p, q)) xs n (0, 0) (by omega) h2 hp).symm) rfl
      · rename_i hc0
        have hl : (n : Int) < (xs.length : Nat) := hc0
        have hp : eqA (p, q) (xs.getD n (0, 0)) = false := decide_eq_false (fun h => hc (congrArg Prod.fst h) (congrArg Prod.snd h))
        refine ⟨n + 1, ⟨by omega, fun j hj => ?_⟩, by omega, ?_⟩
        · rcases Nat.lt_or_ge j n with h | h
          · exact h2 j h
          · obtain rfl : j = n := by omega
            exact hp
        · conv => whnf
          refine ⟨?_, by (conv => whnf); repeat (first | exact True.intro | (refine And.intro rfl ?_; conv => whnf)), by (conv => whnf); repeat (first | exact True.intro | (refine And.intro (by first | rfl | (subst_vars; rfl)) ?_; conv => whnf)), rfl, rfl, rfl, rfl, rfl, rfl, rfl, Nat.le_of_ble_eq_true rfl, Nat.le_of_ble_eq_true rfl⟩
          conv => whnf
          repeat (first | exact True.intro | (refine And.intro (by first | rfl | ((conv => whnf); exact congrArg (AVal.int .i64) (by omega)) | ((conv => whnf); exact congrArg (AVal.int .i64) (by simp only [Int.natCast_add, Int.natCast_one]; omega)) | ((conv => whnf); exact congrArg (AVal.irow _) (by first | omega | assumption | (simp only; omega)))) ?_; conv => whnf))
      · have hl : ¬ (n : Int) < (xs.length : Nat) := hc
        exact leaf0 rfl (congrArg (AVal.int .i64) (idxP_none (eqA (p, q)) xs (0, 0) (fun j hj => h2 j (by omega))).symm) rfl
end Go.Proofs.Ytllagpbbbdekiab.Fw
