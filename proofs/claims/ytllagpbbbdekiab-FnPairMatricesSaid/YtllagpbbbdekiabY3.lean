/- Contracts: orbits of a pair, as the program makes them. -/
import Derived.Test.YtllagpbbbdekiabY2
import Derived.Test.YtllagpbbbdekiabW1
namespace Go.Proofs.Ytllagpbbbdekiab.Fw
open Go Go.RowKit
set_option linter.unusedVariables false
set_option linter.unusedSimpArgs false
set_option maxRecDepth 100000
set_option maxHeartbeats 2000000
theorem orbX_inj {a : Ang} (h : IsA a) {i j : Nat} (hi : i < (orbX a).length) (hj : j < (orbX a).length) (he : (orbX a).getD i (0, 0) = (orbX a).getD j (0, 0)) : i = j := by
  unfold orbX at hi hj he
  cases hl : lenA a with
  | none => rw [hl] at hi; simp at hi
  | some n =>
    rw [hl] at hi hj he
    simp only [List.length_map, List.length_range] at hi hj
    simp only at he
    rw [getD_map_range hi, getD_map_range hj] at he
    obtain ⟨_, _, h3⟩ := lenA_inv hl
    rcases Nat.lt_trichotomy i j with h1 | h1 | h1
    · have := (it_rep h.f (n := j) (fun m hm => h3 m (by omega)) h1 he).2
      rw [h3 j hj] at this; cases this
    · exact h1
    · have := (it_rep h.f (n := i) (fun m hm => h3 m (by omega)) h1 he.symm).2
      rw [h3 i hi] at this; cases this
theorem plA_at {a : Ang} (h : IsA a) {n : Nat} (hn : n < (orbX a).length) : plA (orbX a) ((orbX a).getD n (0, 0)) = (n : Int) + 1 := by
  obtain ⟨h1, h2, h3⟩ := plA_rng (orbX a) _ (getD_mem hn (d := ((0, 0) : Ang)))
  have := orbX_inj h (i := (plA (orbX a) ((orbX a).getD n (0, 0)) - 1).toNat) (j := n) (by omega) hn h3
  omega
def stV (xs : List Ang) (i j : Int) : List Int := addP (prJ (xs.length : Int) xs.length) (List.replicate (prJ (xs.length : Int) xs.length).length 0) i j
theorem stV_ok {xs : List Ang} (ho : Orb xs) {i j : Int} (h1 : 1 ≤ i) (h2 : i < j) (h3 : j ≤ xs.length) : StOk (matP xs) (stV xs i j) := by
  refine ⟨by have := matP_21 ho; omega, matP_nn ho, matP_sq xs, by unfold stV; rw [addP_len, List.length_replicate, matP_len], ?_⟩
  have hz : Nn 0 (List.replicate (prJ xs.length xs.length).length (0 : Int)) := ⟨fun x hx => by rw [(List.mem_replicate.1 hx).2]; exact Int.le_refl _, by rw [sumI_zero]; exact Int.le_refl _⟩
  have := addP_nn (xs := xs) (a := i) (b := j) (by rw [List.length_replicate]) h1 (by omega) (by omega) h3 hz
  exact this
def poOk (x : Ang) (i j q : Int) : Prop := orbN8 x = 0 ∧ (0 ≤ q ∧ q ≤ 20) ∧ 1 ≤ i ∧ i < j ∧ j ≤ ((orb8 x).length : Int)
open Classical in
@[irreducible] noncomputable def poR (x : Ang) (i j q : Int) : List (List Int) × Int := if IsA x then (if poOk x i j q then (stepsL (matP (orb8 x)) (stV (orb8 x) i j) q.toNat, 0) else ([], 2)) else ([], 1)
theorem poR_1 {x : Ang} {i j q : Int} (h : ¬ IsA x) : poR x i j q = ([], 1) := by unfold poR; rw [if_neg h]
theorem poR_2 {x : Ang} {i j q : Int} (h : IsA x) (h2 : ¬ poOk x i j q) : poR x i j q = ([], 2) := by unfold poR; rw [if_pos h, if_neg h2]
theorem poR_0 {x : Ang} {i j q : Int} (h : poOk x i j q) : poR x i j q = (stepsL (matP (orb8 x)) (stV (orb8 x) i j) q.toNat, 0) := by unfold poR; rw [if_pos (orb8_N h.1).1, if_pos h]
def poC : PCtr := fun _ _ lr vals k => match vals with
  | [.agg [.int .i64 n, .int .i64 d], .int .i64 i, .int .i64 j, .int .i64 q] => True ∧ ∀ z : List (List Int) × Int, z = poR (n, d) i j q → k [⟨rT, 43, true, z.1⟩] (.tup [.row lr, .int .i64 z.2])
  | _ => False
theorem parN_po {x : Ang} {q : Int} (h : parN x (decide (0 ≤ q ∧ q ≤ 20)) = 0) : IsA x ∧ orbN8 x = 0 ∧ 0 ≤ q ∧ q ≤ 20 := by
  unfold parN at h
  split at h
  · split at h
    · rename_i h1 h2
      refine ⟨h1, by unfold orbN8; rw [if_pos h1, if_pos h2.2], of_decide_eq_true h2.1⟩
    · cases h
  · cases h
theorem parN_po1 {x : Ang} {q : Int} (h : parN x (decide (0 ≤ q ∧ q ≤ 20)) = 1) : ¬ IsA x := fun hA => by
  unfold parN at h
  rw [if_pos hA] at h
  split at h <;> cases h
theorem parN_po2 {x : Ang} {q : Int} (h : parN x (decide (0 ≤ q ∧ q ≤ 20)) = 2) : IsA x ∧ ∀ i j, ¬ poOk x i j q := by
  unfold parN at h
  split at h
  · rename_i hA
    refine ⟨hA, fun i j hp => ?_⟩
    rw [if_pos ⟨decide_eq_true hp.2.1, (orb8_N hp.1).2⟩] at h; cases h
  · cases h
abbrev GPo := (GOk.cons within_ok (GOk.bcons par_ok (GOk.cons lenA_ok (GOk.cons place_ok (GOk.cons mat_ok (GOk.mcons steps_ok .nil))))))
theorem po_ok : PCtrOk Try.prog 22 poC where
  enter := enter_ok Try.func22 (by kernel_rfl) rfl
  calls := by
    intro hg rg lr vals k h
    unfold poC at h
    split at h
    case h_2 => exact h.elim
    rename_i n d i j q
    obtain ⟨_, hk⟩ := h
    replace hk := hk _ rfl
    refine ⟨_, _, hk, fun A w _ _ => ?_⟩
    refine enter T_okW GPo Try.func22 rfl (K := (· < w.heap.size)) (fun _ h => h) (A := A) (n0 := 0) (b0 := 0) (rows := []) (hp := []) rfl (Nat.zero_le _) (fun k r h => by cases h) rfl (fun k r h => by cases h) rfl rfl (Nat.le_of_ble_eq_true rfl) ?_
    conv => whnf
    repeat (refine V_step T_okW GPo rfl ?_; conv => whnf)
    repeat (any_goals (first
      | (refine V_step T_okW GPo rfl ?_; conv => whnf)
      | (refine V_drawA T_okW GPo mixed (by kernel_rfl) ?_; conv => whnf)
      | (refine bcond_split (fun hc => ?_) (fun hc => ?_) <;> (try simp only [decide_eq_true_eq, decide_eq_false_iff_not, Bool.not_eq_true', Bool.not_eq_false', Bool.and_eq_true, Bool.or_eq_true, Bool.and_eq_false_imp, Bool.or_eq_false_iff, ne_eq, Decidable.not_not] at hc) <;> conv => whnf)
      | (intro ysK hysK; have hysl := congrArg List.length hysK; (try simp only [List.length_set, List.length_append, List.length_cons, List.length_nil, List.length_take, List.length_drop, List.length_replicate] at hysl); conv => whnf)
      | (intro bK hbK; have hbl := congrArg ByteArray.size hbK; conv => whnf)
      | (intro sK hsK; conv => whnf)
      | (refine And.intro (by first | exact True.intro | (with_reducible assumption) | omega | (simp only [Rng]; omega) | exact Nat.le_of_ble_eq_true rfl | exact True.intro | exact ⟨rfl, True.intro, fun _ _ => rfl⟩ | exact Nat.le_of_ble_eq_true rfl | (refine ⟨by (try simp only [List.length_cons, List.length_nil]); omega, Int.le_trans (Int.mul_le_mul_of_nonneg_left (show (TInfo.bytes _ : Int) ≤ 64 from Int.ofNat_le.2 (Nat.le_of_ble_eq_true rfl)) (by omega)) (by (try simp only [List.length_cons, List.length_nil]); omega)⟩)) ?_; conv => whnf)))
    refine ⟨fun h1 => ?_, fun h2 => ?_, fun h0 xs prs hxs hprs => ?_⟩ <;> conv => whnf
    · skip
      repeat (any_goals (first
        | (refine V_step T_okW GPo rfl ?_; conv => whnf)
        | (refine V_drawA T_okW GPo mixed (by kernel_rfl) ?_; conv => whnf)
        | (refine bcond_split (fun hc => ?_) (fun hc => ?_) <;> (try simp only [decide_eq_true_eq, decide_eq_false_iff_not, Bool.not_eq_true', Bool.not_eq_false', Bool.and_eq_true, Bool.or_eq_true, Bool.and_eq_false_imp, Bool.or_eq_false_iff, ne_eq, Decidable.not_not] at hc) <;> conv => whnf)
        | (intro ysK hysK; have hysl := congrArg List.length hysK; (try simp only [List.length_set, List.length_append, List.length_cons, List.length_nil, List.length_take, List.length_drop, List.length_replicate] at hysl); conv => whnf)
        | (intro bK hbK; have hbl := congrArg ByteArray.size hbK; conv => whnf)
        | (intro sK hsK; conv => whnf)
        | (refine And.intro (by first | exact True.intro | (with_reducible assumption) | omega | (simp only [Rng]; omega) | exact Nat.le_of_ble_eq_true rfl | exact True.intro | exact ⟨rfl, True.intro, fun _ _ => rfl⟩ | exact Nat.le_of_ble_eq_true rfl | (refine ⟨by (try simp only [List.length_cons, List.length_nil]); omega, Int.le_trans (Int.mul_le_mul_of_nonneg_left (show (TInfo.bytes _ : Int) ≤ 64 from Int.ofNat_le.2 (Nat.le_of_ble_eq_true rfl)) (by omega)) (by (try simp only [List.length_cons, List.length_nil]); omega)⟩)) ?_; conv => whnf)))
      rw [poR_1 (parN_po1 h1)]
      exact leafN rfl rfl (fun B C h => by simp [AVal.den, dens, h, Hdr.val])
    · skip
      repeat (any_goals (first
        | (refine V_step T_okW GPo rfl ?_; conv => whnf)
        | (refine V_drawA T_okW GPo mixed (by kernel_rfl) ?_; conv => whnf)
        | (refine bcond_split (fun hc => ?_) (fun hc => ?_) <;> (try simp only [decide_eq_true_eq, decide_eq_false_iff_not, Bool.not_eq_true', Bool.not_eq_false', Bool.and_eq_true, Bool.or_eq_true, Bool.and_eq_false_imp, Bool.or_eq_false_iff, ne_eq, Decidable.not_not] at hc) <;> conv => whnf)
        | (intro ysK hysK; have hysl := congrArg List.length hysK; (try simp only [List.length_set, List.length_append, List.length_cons, List.length_nil, List.length_take, List.length_drop, List.length_replicate] at hysl); conv => whnf)
        | (intro bK hbK; have hbl := congrArg ByteArray.size hbK; conv => whnf)
        | (intro sK hsK; conv => whnf)
        | (refine And.intro (by first | exact True.intro | (with_reducible assumption) | omega | (simp only [Rng]; omega) | exact Nat.le_of_ble_eq_true rfl | exact True.intro | exact ⟨rfl, True.intro, fun _ _ => rfl⟩ | exact Nat.le_of_ble_eq_true rfl | (refine ⟨by (try simp only [List.length_cons, List.length_nil]); omega, Int.le_trans (Int.mul_le_mul_of_nonneg_left (show (TInfo.bytes _ : Int) ≤ 64 from Int.ofNat_le.2 (Nat.le_of_ble_eq_true rfl)) (by omega)) (by (try simp only [List.length_cons, List.length_nil]); omega)⟩)) ?_; conv => whnf)))
      rw [poR_2 (parN_po2 h2).1 ((parN_po2 h2).2 i j)]
      exact leafN rfl rfl (fun B C h => by simp [AVal.den, dens, h, Hdr.val])
    · obtain ⟨hA, h08, hq⟩ := parN_po h0
      have hO := orb8_orb (orb8_N h08)
      have hox : orb8 (n, d) = orbX (n, d) := if_pos (orb8_N h08)
      rw [← hxs] at hO
      have hxl := hO.len
      have hl64 : 0 ≤ (List.length (α := Int × Int) xs : Int) ∧ (List.length (α := Int × Int) xs : Int) ≤ 64 := by omega
      repeat (any_goals (first
        | (refine V_step T_okW GPo rfl ?_; conv => whnf)
        | (refine V_drawA T_okW GPo mixed (by kernel_rfl) ?_; conv => whnf)
        | (refine bcond_split (fun hc => ?_) (fun hc => ?_) <;> (try simp only [decide_eq_true_eq, decide_eq_false_iff_not, Bool.not_eq_true', Bool.not_eq_false', Bool.and_eq_true, Bool.or_eq_true, Bool.and_eq_false_imp, Bool.or_eq_false_iff, ne_eq, Decidable.not_not] at hc) <;> conv => whnf)
        | (intro ysK hysK; have hysl := congrArg List.length hysK; (try simp only [List.length_set, List.length_append, List.length_cons, List.length_nil, List.length_take, List.length_drop, List.length_replicate] at hysl); conv => whnf)
        | (intro bK hbK; have hbl := congrArg ByteArray.size hbK; conv => whnf)
        | (intro sK hsK; conv => whnf)
        | (refine And.intro (by first | (first | exact True.intro | exact hl64 | omega) | exact True.intro | exact ⟨rfl, True.intro, fun _ _ => rfl⟩ | exact Nat.le_of_ble_eq_true rfl | (refine ⟨by (try simp only [List.length_cons, List.length_nil]); omega, Int.le_trans (Int.mul_le_mul_of_nonneg_left (show (TInfo.bytes _ : Int) ≤ 64 from Int.ofNat_le.2 (Nat.le_of_ble_eq_true rfl)) (by omega)) (by (try simp only [List.length_cons, List.length_nil]); omega)⟩)) ?_; conv => whnf)))
      · rw [poR_2 hA fun hp => hc ⟨hp.2.2.1, by
          have h3 := hp.2.2.2.2
          rw [← hxs] at h3
          have h4 := hp.2.2.2.1
          have h5 := hp.2.2.1
          rw [wrap_id (by omega) (by omega)]; omega⟩]
        exact leafN rfl rfl (fun B C h => by simp [AVal.den, dens, h, Hdr.val])
      · rw [poR_2 hA fun hp => hc ⟨by have h4 := hp.2.2.2.1; have h5 := hp.2.2.1; omega, by
          have h3 := hp.2.2.2.2
          rw [← hxs] at h3
          exact h3⟩]
        exact leafN rfl rfl (fun B C h => by simp [AVal.den, dens, h, Hdr.val])
      · rename_i hc0
        have hw1 : IntKind.i64.wrap (j - 1) = j - 1 := wrap_id (by omega) (by omega)
        rw [hw1] at hc0
        have hw2 : IntKind.i64.wrap (i - 1) = i - 1 := wrap_id (by omega) (by omega)
        have hP : poOk (n, d) i j q := ⟨h08, hq, hc0.1, by omega, by rw [← hxs]; exact hc.2⟩
        rw [poR_0 hP]
        have hprl : List.length (α := List Int) prs ≤ 21 := by rw [hprs]; exact prJ7 _ (by omega)
        have hmk : (0 ≤ (List.length (α := List Int) prs : Int) ∧ (List.length (α := List Int) prs : Int) = (List.length (α := List Int) prs : Int) ∧ (ti64w.bytes : Int) * (List.length (α := List Int) prs : Int) ≤ 281474976710656 ∧ (List.length (α := List Int) prs : Int) ≤ 9223372036854775807) := by
          refine ⟨by omega, rfl, ?_, by omega⟩
          show (8 : Int) * (List.length (α := List Int) prs : Int) ≤ _
          omega
        have e1 : plA xs (xs.getD (i - 1).toNat (0, 0)) = i := by
          have := plA_at hA (n := (i - 1).toNat) (by rw [← hox, ← hxs]; omega)
          rw [← hox, ← hxs] at this
          rw [this]; omega
        have e2 : plA xs (xs.getD (j - 1).toNat (0, 0)) = j := by
          have := plA_at hA (n := (j - 1).toNat) (by rw [← hox, ← hxs]; omega)
          rw [← hox, ← hxs] at this
          rw [this]; omega
        obtain ⟨m, hm1, hm2, hm3⟩ := place_pr (m := (xs.length : Int)) (g := xs.length) (a := i) (b := j) hc0.1 hc.1 (by omega) (by omega) hc.2 (by omega) hc.2
        rw [← hprs] at hm1 hm2 hm3
        have hpp : List.length (α := Ang) xs ≤ 100 ∧ ∀ p ∈ prs, 2 ≤ List.length (α := Int) p := ⟨by omega, by rw [hprs]; exact prJ_two⟩
        have hix : idxP (α := List Int) (isP (plA xs (xs.getD (IntKind.i64.wrap (i - 1)).toNat (0, 0))) (plA xs (xs.getD (IntKind.i64.wrap (j - 1)).toNat (0, 0)))) prs = (m : Int) := by rw [hw1, hw2, e1, e2]; exact hm1
        have hixr : 0 ≤ idxP (α := List Int) (isP (plA xs (xs.getD (IntKind.i64.wrap (i - 1)).toNat (0, 0))) (plA xs (xs.getD (IntKind.i64.wrap (j - 1)).toNat (0, 0)))) prs ∧ idxP (α := List Int) (isP (plA xs (xs.getD (IntKind.i64.wrap (i - 1)).toNat (0, 0))) (plA xs (xs.getD (IntKind.i64.wrap (j - 1)).toNat (0, 0)))) prs < (List.length (α := Int) (List.replicate (List.length (α := List Int) prs) (0 : Int)) : Int) := by
          rw [hix, List.length_replicate]; omega
        have hixn : (idxP (α := List Int) (isP (plA xs (xs.getD (IntKind.i64.wrap (i - 1)).toNat (0, 0))) (plA xs (xs.getD (IntKind.i64.wrap (j - 1)).toNat (0, 0)))) prs).toNat < List.length (α := Int) (List.replicate (List.length (α := List Int) prs) (0 : Int)) := by
          rw [hix, List.length_replicate]; omega
        repeat (any_goals (first
          | (refine V_step T_okW GPo rfl ?_; conv => whnf)
          | (refine V_drawA T_okW GPo mixed (by kernel_rfl) ?_; conv => whnf)
          | (refine bcond_split (fun hc => ?_) (fun hc => ?_) <;> (try simp only [decide_eq_true_eq, decide_eq_false_iff_not, Bool.not_eq_true', Bool.not_eq_false', Bool.and_eq_true, Bool.or_eq_true, Bool.and_eq_false_imp, Bool.or_eq_false_iff, ne_eq, Decidable.not_not] at hc) <;> conv => whnf)
          | (intro ysK hysK; have hysl := congrArg List.length hysK; (try simp only [List.length_set, List.length_append, List.length_cons, List.length_nil, List.length_take, List.length_drop, List.length_replicate] at hysl); conv => whnf)
          | (intro bK hbK; have hbl := congrArg ByteArray.size hbK; conv => whnf)
          | (intro sK hsK; conv => whnf)
          | (refine And.intro (by first | (first | exact True.intro | with_reducible exact hmk | (rw [hw1]; omega) | (rw [hw2]; omega) | exact hpp | exact hixr | exact hixn | exact ⟨hO, hprs⟩ | omega) | exact True.intro | exact ⟨rfl, True.intro, fun _ _ => rfl⟩ | exact Nat.le_of_ble_eq_true rfl | (refine ⟨by (try simp only [List.length_cons, List.length_nil]); omega, Int.le_trans (Int.mul_le_mul_of_nonneg_left (show (TInfo.bytes _ : Int) ≤ 64 from Int.ofNat_le.2 (Nat.le_of_ble_eq_true rfl)) (by omega)) (by (try simp only [List.length_cons, List.length_nil]); omega)⟩)) ?_; conv => whnf)))
        rename_i y1 hy1 _
        have hM : ysK = matP xs := hysK
        have hS : y1 = stV xs i j := by
          have hy : y1 = (List.replicate (List.length (α := List Int) prs) (0 : Int)).set (idxP (α := List Int) (isP (plA xs (xs.getD (IntKind.i64.wrap (i - 1)).toNat (0, 0))) (plA xs (xs.getD (IntKind.i64.wrap (j - 1)).toNat (0, 0)))) prs).toNat 1 := hy1
          rw [hy, hix, stV, ← hprs, hm3 _ List.length_replicate, Int.toNat_natCast, List.getD_eq_getElem?_getD, List.getElem?_replicate, if_pos hm2]; rfl
        have hst : StOk ysK y1 := by rw [hM, hS]; exact stV_ok hO hc0.1 (by omega) hc.2
        repeat (any_goals (first
          | (refine V_step T_okW GPo rfl ?_; conv => whnf)
          | (refine V_drawA T_okW GPo mixed (by kernel_rfl) ?_; conv => whnf)
          | (refine bcond_split (fun hc => ?_) (fun hc => ?_) <;> (try simp only [decide_eq_true_eq, decide_eq_false_iff_not, Bool.not_eq_true', Bool.not_eq_false', Bool.and_eq_true, Bool.or_eq_true, Bool.and_eq_false_imp, Bool.or_eq_false_iff, ne_eq, Decidable.not_not] at hc) <;> conv => whnf)
          | (intro ysK hysK; have hysl := congrArg List.length hysK; (try simp only [List.length_set, List.length_append, List.length_cons, List.length_nil, List.length_take, List.length_drop, List.length_replicate] at hysl); conv => whnf)
          | (intro bK hbK; have hbl := congrArg ByteArray.size hbK; conv => whnf)
          | (intro sK hsK; conv => whnf)
          | (refine And.intro (by first | (first | exact True.intro | exact ⟨by decide, rfl, hst, hq⟩ | omega) | exact True.intro | exact ⟨rfl, True.intro, fun _ _ => rfl⟩ | exact Nat.le_of_ble_eq_true rfl | (refine ⟨by (try simp only [List.length_cons, List.length_nil]); omega, Int.le_trans (Int.mul_le_mul_of_nonneg_left (show (TInfo.bytes _ : Int) ≤ 64 from Int.ofNat_le.2 (Nat.le_of_ble_eq_true rfl)) (by omega)) (by (try simp only [List.length_cons, List.length_nil]); omega)⟩)) ?_; conv => whnf)))
        rw [hM, hS]
        rw [hxs]
        exact leaf1 4 rfl rfl rfl rfl (fun B C h => by simp [AVal.den, dens, h])
end Go.Proofs.Ytllagpbbbdekiab.Fw
