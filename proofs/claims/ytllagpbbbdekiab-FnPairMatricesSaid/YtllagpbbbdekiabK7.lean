/- Contracts: the reference's pair matrix. -/
import Derived.Test.YtllagpbbbdekiabK6
namespace Go.Proofs.Ytllagpbbbdekiab.Fw
open Go Go.RowKit
set_option linter.unusedVariables false
set_option linter.unusedSimpArgs false
set_option maxRecDepth 100000
set_option maxHeartbeats 2000000
def adK (prs : List (List Int)) (row : List Int) (a b : Int) (k : Nat) : List Int := (addP prs row a b).take k ++ row.drop k
theorem adK_len {prs : List (List Int)} {row : List Int} {a b : Int} {k : Nat} (h : k ≤ row.length) : (adK prs row a b k).length = row.length := by
  simp [adK, addP_len]; omega
theorem adK_get {prs : List (List Int)} {row : List Int} {a b : Int} {k i : Nat} (h : k ≤ row.length) (hi : i < row.length) : (adK prs row a b k).getD i 0 = if i < k then (addP prs row a b).getD i 0 else row.getD i 0 := by
  unfold adK
  split
  · rename_i hik
    rw [List.getD_eq_getElem?_getD, List.getElem?_append_left (by simp [addP_len]; omega), List.getElem?_take, if_pos hik, ← List.getD_eq_getElem?_getD]
  · rename_i hik
    rw [List.getD_eq_getElem?_getD, List.getElem?_append_right (by simp [addP_len]; omega), List.length_take, addP_len, List.getElem?_drop, show k + (i - min k row.length) = i by omega, ← List.getD_eq_getElem?_getD]
theorem adK_yes {prs : List (List Int)} {row : List Int} {a b : Int} {k : Nat} (h : k < row.length) (hp : isP a b (prs.getD k []) = true) : (adK prs row a b k).set k ((adK prs row a b k).getD k 0 + 1) = adK prs row a b (k + 1) := by
  refine list_eq 0 (by rw [List.length_set, adK_len (by omega), adK_len (by omega)]) fun i hi => ?_
  rw [List.length_set, adK_len (by omega)] at hi
  rw [adK_get (k := k + 1) (by omega) hi]
  by_cases hik : i = k
  · subst hik
    rw [getD_set (by rw [adK_len (by omega)]; exact h), if_pos (by omega), adK_get (by omega) h, if_neg (by omega), addP_get h, if_pos hp]
  · have e : ((adK prs row a b k).set k ((adK prs row a b k).getD k 0 + 1))[i]? = (adK prs row a b k)[i]? := List.getElem?_set_ne (fun e => hik e.symm)
    rw [List.getD_eq_getElem?_getD, e, ← List.getD_eq_getElem?_getD, adK_get (by omega) hi]
    by_cases h2 : i < k
    · rw [if_pos h2, if_pos (by omega)]
    · rw [if_neg h2, if_neg (by omega)]
theorem adK_no {prs : List (List Int)} {row : List Int} {a b : Int} {k : Nat} (h : k < row.length) (hp : isP a b (prs.getD k []) = false) : adK prs row a b (k + 1) = adK prs row a b k := by
  refine list_eq 0 (by rw [adK_len (by omega), adK_len (by omega)]) fun i hi => ?_
  rw [adK_len (by omega)] at hi
  rw [adK_get (k := k + 1) (by omega) hi, adK_get (by omega) hi]
  by_cases hik : i = k
  · subst hik
    rw [if_pos (by omega), if_neg (by omega), addP_get h, if_neg (by rw [hp]; simp), Int.add_zero]
  · by_cases h2 : i < k
    · rw [if_pos h2, if_pos (by omega)]
    · rw [if_neg h2, if_neg (by omega)]
theorem adK_all {prs : List (List Int)} {row : List Int} {a b : Int} : adK prs row a b row.length = addP prs row a b := by
  unfold adK
  rw [List.take_of_length_le (by rw [addP_len]; omega), List.drop_length, List.append_nil]
def sAddC : MCtr := fun hg rg _ vals k => match vals with
  | [.row i, .row s, .int .i64 a, .int .i64 b] => rowO iT (rg i) fun e1 row => rowC rT (rg s) fun prs =>
      (¬ i = s ∧ (List.length (α := Int) row = List.length (α := List Int) prs ∧ List.length (α := List Int) prs ≤ 5000) ∧ (∀ v ∈ (row : List Int), 0 ≤ v ∧ v ≤ 100) ∧ (∀ p ∈ (prs : List (List Int)), 2 ≤ List.length (α := Int) p)) ∧
      k [(i, some ⟨iT, e1, true, addP prs row a b⟩)] [] (.tup [])
  | _ => False
theorem sAdd_ok : MCtrOk Try.prog 53 sAddC where
  enter := enter_ok Try.func53 (by kernel_rfl) rfl
  calls := by
    intro hg rg lr vals k h
    unfold sAddC at h
    split at h
    case h_2 => exact h.elim
    rename_i i s a b
    obtain ⟨e1, row, hi, h⟩ : ∃ e, ∃ (xs : List Int), _ := rowO_inv h
    obtain ⟨e2, own2, prs, hs, h⟩ : ∃ e own, ∃ (xs : List (List Int)), _ := rowC_inv h
    obtain ⟨⟨his, ⟨hl, hl5⟩, hv, hp2⟩, hk⟩ := h
    refine ⟨_, _, _, hk, (ups_one hi rfl (fun r' hr' => by cases hr'; exact ⟨rfl, rfl, rfl⟩)), fun A w hM => ?_⟩
    have hO := One.of2 (j := s) (r1 := ⟨rT, e2, own2, prs⟩) hi rfl
    refine enterM T_ok .nil Try.func53 rfl (w := w) (A := A.pick [] [i, s]) (vals := [.row 0, .row 1, .int .i64 a, .int .i64 b]) (n0 := 2) (b0 := 0) (rows := [some ⟨iT, e1, true, row⟩, some (Row.ro ⟨rT, e2, own2, prs⟩)]) (hp := []) rfl (Nat.le_refl _) (hM.two hi hs his) rfl rfl rfl (Nat.le_of_ble_eq_true rfl) ?_
    conv => whnf
    repeat (refine V_step T_ok .nil rfl ?_; conv => whnf)
    have hl : List.length (α := Int) row = List.length (α := List Int) prs := hl
    have hl5 : List.length (α := List Int) prs ≤ 5000 := hl5
    refine V_loopH (γ := Nat × List Int) (fun g => g.1 ≤ List.length (α := List Int) prs ∧ g.2 = adK prs row a b g.1) (fun g => List.length (α := List Int) prs - g.1)
      (fun g => [(8, .int .i64 g.1)]) (fun _ => []) (fun g => [(0, some ⟨iT, e1, true, g.2⟩)]) (0, row) ⟨Nat.zero_le _, by simp [adK]⟩ ?_ ?_
    · conv => whnf
      refine ⟨?_, by (conv => whnf); repeat (first | exact True.intro | (refine And.intro rfl ?_; conv => whnf)), by (conv => whnf); repeat (first | exact True.intro | (refine And.intro (by first | rfl | (subst_vars; rfl)) ?_; conv => whnf)), rfl, rfl, rfl, rfl, rfl, rfl, rfl, Nat.le_of_ble_eq_true rfl, Nat.le_of_ble_eq_true rfl⟩
      conv => whnf
      repeat (first | exact True.intro | (refine And.intro (by first | rfl | ((conv => whnf); exact congrArg (AVal.int .i64) (by omega)) | ((conv => whnf); exact congrArg (AVal.int .i64) (by simp only [Int.natCast_add, Int.natCast_one]; omega)) | ((conv => whnf); exact congrArg (AVal.irow _) (by first | omega | assumption | (simp only; omega)))) ?_; conv => whnf))
    · rintro ⟨n, L⟩ ⟨h1, h2⟩
      simp only at h1 h2
      have hL : List.length (α := Int) L = List.length (α := List Int) prs := by rw [h2, adK_len (by omega), hl]
      have hpn : ∀ q : Nat, (q : Int) < (List.length (α := List Int) prs : Int) → 2 ≤ List.length (α := Int) (@List.getD (List Int) prs q []) := fun q hq => hp2 _ (getD_mem (by omega))
      have hLn : (n : Int) < (List.length (α := List Int) prs : Int) → 0 ≤ L.getD n iT.dflt ∧ L.getD n iT.dflt ≤ 100 := fun hn => by
        have e : L.getD n iT.dflt = row.getD n 0 := by
          show L.getD n 0 = _
          rw [h2, adK_get (by omega) (by omega), if_neg (by omega)]
        rw [e]
        exact hv _ (getD_mem (by omega))
      conv => whnf
      refine vcCode_sound T_ok .nil _ _ _ _ _ ?_
      conv => whnf
      repeat (refine V_step T_ok .nil rfl ?_; conv => whnf)
      repeat (any_goals (first
        | (refine V_step T_ok .nil rfl ?_; conv => whnf)
        | (refine V_drawA T_ok .nil mixed (by kernel_rfl) ?_; conv => whnf)
        | (refine bcond_split (fun hc => ?_) (fun hc => ?_) <;> (try simp only [decide_eq_true_eq, decide_eq_false_iff_not, Bool.not_eq_true', Bool.not_eq_false', Bool.and_eq_true, Bool.or_eq_true, Bool.and_eq_false_imp, Bool.or_eq_false_iff, ne_eq, Decidable.not_not] at hc) <;> conv => whnf)
        | (intro ysK hysK; have hysl := congrArg List.length hysK; (try simp only [List.length_set, List.length_append, List.length_cons, List.length_nil, List.length_take, List.length_drop, List.length_replicate] at hysl); conv => whnf)
        | (refine And.intro (by first | (first | exact True.intro | omega | (have q1 := hpn n (by assumption); simp only [Int.toNat_natCast]; omega) | (have q1 := hLn (by assumption); simp only [Int.toNat_natCast, Rng]; omega) | (simp only [Rng]; omega)) | exact True.intro | exact ⟨rfl, True.intro, fun _ _ => rfl⟩ | exact Nat.le_of_ble_eq_true rfl | (refine ⟨by (try simp only [List.length_cons, List.length_nil]); omega, Int.le_trans (Int.mul_le_mul_of_nonneg_left (show (TInfo.bytes _ : Int) ≤ 64 from Int.ofNat_le.2 (Nat.le_of_ble_eq_true rfl)) (by omega)) (by (try simp only [List.length_cons, List.length_nil]); omega)⟩)) ?_; conv => whnf)))
      · rename_i hlt c0
        have hlt : (n : Int) < (List.length (α := List Int) prs : Int) := hlt
        have c0 : (prs.getD n []).getD 0 0 = if b < a then b else a := c0
        have hc : (prs.getD n []).getD 1 0 = if b > a then b else a := hc
        rw [minI] at c0
        rw [maxI] at hc
        have hp : isP a b (prs.getD n []) = true := decide_eq_true ⟨c0, hc⟩
        have hy : ysK = adK prs row a b (n + 1) := by
          rw [← adK_yes (by omega) hp, ← h2]
          exact hysK
        clear hysK hysl
        refine ⟨(n + 1, ysK), ⟨by simp only; omega, hy⟩, by simp only; omega, ?_⟩
        conv => whnf
        refine ⟨?_, by (conv => whnf); repeat (first | exact True.intro | (refine And.intro rfl ?_; conv => whnf)), by (conv => whnf); repeat (first | exact True.intro | (refine And.intro (by first | rfl | (subst_vars; rfl)) ?_; conv => whnf)), rfl, rfl, rfl, rfl, rfl, rfl, rfl, Nat.le_of_ble_eq_true rfl, Nat.le_of_ble_eq_true rfl⟩
        conv => whnf
        repeat (first | exact True.intro | (refine And.intro (by first | rfl | ((conv => whnf); exact congrArg (AVal.int .i64) (by omega)) | ((conv => whnf); exact congrArg (AVal.int .i64) (by simp only [Int.natCast_add, Int.natCast_one]; omega)) | ((conv => whnf); exact congrArg (AVal.irow _) (by first | omega | assumption | (simp only; omega)))) ?_; conv => whnf))
      · rename_i hlt c0
        have hlt : (n : Int) < (List.length (α := List Int) prs : Int) := hlt
        have hc : ¬ (prs.getD n []).getD 1 0 = if b > a then b else a := hc
        rw [maxI] at hc
        have hp : isP a b (prs.getD n []) = false := decide_eq_false fun h => hc h.2
        refine ⟨(n + 1, L), ⟨by simp only; omega, by simp only; rw [adK_no (by omega) hp]; exact h2⟩, by simp only; omega, ?_⟩
        conv => whnf
        refine ⟨?_, by (conv => whnf); repeat (first | exact True.intro | (refine And.intro rfl ?_; conv => whnf)), by (conv => whnf); repeat (first | exact True.intro | (refine And.intro (by first | rfl | (subst_vars; rfl)) ?_; conv => whnf)), rfl, rfl, rfl, rfl, rfl, rfl, rfl, Nat.le_of_ble_eq_true rfl, Nat.le_of_ble_eq_true rfl⟩
        conv => whnf
        repeat (first | exact True.intro | (refine And.intro (by first | rfl | ((conv => whnf); exact congrArg (AVal.int .i64) (by omega)) | ((conv => whnf); exact congrArg (AVal.int .i64) (by simp only [Int.natCast_add, Int.natCast_one]; omega)) | ((conv => whnf); exact congrArg (AVal.irow _) (by first | omega | assumption | (simp only; omega)))) ?_; conv => whnf))
      · rename_i hlt
        have hlt : (n : Int) < (List.length (α := List Int) prs : Int) := hlt
        have hc : ¬ (prs.getD n []).getD 0 0 = if b < a then b else a := hc
        rw [minI] at hc
        have hp : isP a b (prs.getD n []) = false := decide_eq_false fun h => hc h.1
        refine ⟨(n + 1, L), ⟨by simp only; omega, by simp only; rw [adK_no (by omega) hp]; exact h2⟩, by simp only; omega, ?_⟩
        conv => whnf
        refine ⟨?_, by (conv => whnf); repeat (first | exact True.intro | (refine And.intro rfl ?_; conv => whnf)), by (conv => whnf); repeat (first | exact True.intro | (refine And.intro (by first | rfl | (subst_vars; rfl)) ?_; conv => whnf)), rfl, rfl, rfl, rfl, rfl, rfl, rfl, Nat.le_of_ble_eq_true rfl, Nat.le_of_ble_eq_true rfl⟩
        conv => whnf
        repeat (first | exact True.intro | (refine And.intro (by first | rfl | ((conv => whnf); exact congrArg (AVal.int .i64) (by omega)) | ((conv => whnf); exact congrArg (AVal.int .i64) (by simp only [Int.natCast_add, Int.natCast_one]; omega)) | ((conv => whnf); exact congrArg (AVal.irow _) (by first | omega | assumption | (simp only; omega)))) ?_; conv => whnf))
      · have hn : n = row.length := by
          have hc : ¬ (n : Int) < (List.length (α := List Int) prs : Int) := hc
          omega
        have hL2 : addP prs row a b = L := by rw [h2, hn, adK_all]
        rw [hL2]
        exact leafM0 hO (by decide) rfl rfl rfl rfl rfl
def sMatC : PCtr := fun hg rg lr vals k => match vals with
  | [.row i] => rowC aT (rg i) fun xs => Orb xs ∧ ∀ ys, ys = matP xs → k [⟨rT, 43, true, ys⟩] (.row lr)
  | _ => False
abbrev GSMat := GOk.cons sPrs_ok (GOk.cons sDouble_ok (GOk.cons sPl_ok (GOk.cons sAp_ok (GOk.mcons sAdd_ok .nil))))
theorem sMat_ok : PCtrOk Try.prog 31 sMatC where
  enter := enter_ok Try.func31 (by kernel_rfl) rfl
  calls := by
    intro hg rg lr vals k h
    unfold sMatC at h
    split at h
    case h_2 => exact h.elim
    rename_i i
    obtain ⟨e, own, xs, hi, h⟩ : ∃ e own, ∃ (xs : List Ang), _ := rowC_inv h
    obtain ⟨ho, hk⟩ := h
    replace hk := hk _ rfl
    refine ⟨_, _, hk, fun A w hB hR => ?_⟩
    refine enter T_ok GSMat Try.func31 rfl (K := (· < w.heap.size)) (fun _ h => h) (A := A.pick [] [i]) (vals := [.row 0]) (n0 := 0) (b0 := 0) (rows := [some ⟨aT, e, false, xs⟩]) (hp := []) rfl (Nat.zero_le _) no_box rfl (one_row (hR i _ hi)) rfl rfl (Nat.le_of_ble_eq_true rfl) ?_
    conv => whnf
    repeat (refine V_step T_ok GSMat rfl ?_; conv => whnf)
    have ho : Orb xs := ho
    obtain ⟨N, hN⟩ : ∃ N, (prJ (xs.length : Int) xs.length).length = N := ⟨_, rfl⟩
    have hN' : (List.length (α := List Int) (prJ (List.length (α := Ang) xs : Int) (List.length (α := Ang) xs))) = N := hN
    have hlen := ho.len
    have hpos := ho.pos
    have hN21 : N ≤ 21 := by rw [← hN]; exact prJ7 _ (by omega)
    have hl64 : 0 ≤ (List.length (α := Int × Int) xs : Int) ∧ (List.length (α := Int × Int) xs : Int) ≤ 64 := by omega
    repeat (any_goals (first
      | (refine V_step T_ok GSMat rfl ?_; conv => whnf)
      | (refine V_drawA T_ok GSMat mixed (by kernel_rfl) ?_; conv => whnf)
      | (refine bcond_split (fun hc => ?_) (fun hc => ?_) <;> (try simp only [decide_eq_true_eq, decide_eq_false_iff_not, Bool.not_eq_true', Bool.not_eq_false', Bool.and_eq_true, Bool.or_eq_true, Bool.and_eq_false_imp, Bool.or_eq_false_iff, ne_eq, Decidable.not_not] at hc) <;> conv => whnf)
      | (intro ysK hysK; have hysl := congrArg List.length hysK; (try simp only [List.length_set, List.length_append, List.length_cons, List.length_nil, List.length_take, List.length_drop, List.length_replicate] at hysl); conv => whnf)
      | (refine And.intro (by first | (first | exact True.intro | exact hl64 | omega) | exact True.intro | exact ⟨rfl, True.intro, fun _ _ => rfl⟩ | exact Nat.le_of_ble_eq_true rfl | (refine ⟨by (try simp only [List.length_cons, List.length_nil]); omega, Int.le_trans (Int.mul_le_mul_of_nonneg_left (show (TInfo.bytes _ : Int) ≤ 64 from Int.ofNat_le.2 (Nat.le_of_ble_eq_true rfl)) (by omega)) (by (try simp only [List.length_cons, List.length_nil]); omega)⟩)) ?_; conv => whnf)))
    refine V_loopH (γ := Nat) (fun g => g ≤ N) (fun g => N - g) (fun g => [(3, .row 1), (4, .row 2), (5, .int .i64 g), (14, .junk)]) (fun _ => []) (fun g => [(1, some ⟨rT, 43, true, prJ (xs.length : Int) xs.length⟩), (2, some ⟨rT, 43, true, ((prJ (xs.length : Int) xs.length).take g).map (rowP xs)⟩)]) 0 (Nat.zero_le _) ?_ ?_
    · conv => whnf
      refine ⟨?_, by (conv => whnf); repeat (first | exact True.intro | (refine And.intro rfl ?_; conv => whnf)), by (conv => whnf); repeat (first | exact True.intro | (refine And.intro (by first | rfl | (subst_vars; rfl)) ?_; conv => whnf)), rfl, rfl, rfl, rfl, rfl, rfl, rfl, Nat.le_of_ble_eq_true rfl, Nat.le_of_ble_eq_true rfl⟩
      conv => whnf
      repeat (first | exact True.intro | (refine And.intro (by first | rfl | ((conv => whnf); exact congrArg (AVal.int .i64) (by omega)) | ((conv => whnf); exact congrArg (AVal.int .i64) (by simp only [Int.natCast_add, Int.natCast_one]; omega)) | ((conv => whnf); exact congrArg (AVal.irow _) (by first | omega | assumption | (simp only; omega)))) ?_; conv => whnf))
    · rintro g hg
      conv => whnf
      refine vcCode_sound T_ok GSMat _ _ _ _ _ ?_
      conv => whnf
      repeat (refine V_step T_ok GSMat rfl ?_; conv => whnf)
      by_cases hgN : g < N
      · obtain ⟨hp0, hp1, hpl⟩ := pr_at ho (g := g) (by omega)
        have hmem : ((prJ (xs.length : Int) xs.length).getD g []) ∈ prJ (xs.length : Int) xs.length := getD_mem (by omega)
        have hx0 : xs.getD 0 (0, 0) ∈ xs := getD_mem (by omega)
        have hx1 : xs.getD (((prJ (xs.length : Int) xs.length).getD g []).getD 0 0 - 1).toNat (0, 0) ∈ xs := getD_mem (by omega)
        have hx2 : xs.getD (((prJ (xs.length : Int) xs.length).getD g []).getD 1 0 - 1).toNat (0, 0) ∈ xs := getD_mem (by omega)
        have hd1 := (ho.isA _ hx1).bd
        have hd2 := (ho.isA _ hx2).bd
        have hs0 : ((∀ x ∈ xs, IsA x) ∧ (1 ≤ ((prJ (xs.length : Int) xs.length).getD g []).getD 0 0 ∧ ((prJ (xs.length : Int) xs.length).getD g []).getD 0 0 ≤ (List.length (α := Ang) xs : Int)) ∧ (1 ≤ ((prJ (xs.length : Int) xs.length).getD g []).getD 1 0 ∧ ((prJ (xs.length : Int) xs.length).getD g []).getD 1 0 ≤ (List.length (α := Ang) xs : Int)) ∧ 2 ≤ List.length (α := Int) ((prJ (xs.length : Int) xs.length).getD g []) ∧ List.length (α := Ang) xs ≤ 100) := ⟨ho.isA, hp0, hp1, hpl, by omega⟩
        have a0 := ho.isA _ hx0
        have a1 := ho.isA _ hx1
        have a2 := ho.isA _ hx2
        have haa := And.intro a1 (And.intro a2 a0)
        have hxl : List.length (α := Int × Int) xs ≤ 100 := by omega
        have hz1 : (List.length (α := Int) (List.replicate (prJ (xs.length : Int) xs.length).length 0) = List.length (α := List Int) (prJ (xs.length : Int) xs.length) ∧ List.length (α := List Int) (prJ (xs.length : Int) xs.length) ≤ 5000) ∧ (∀ v ∈ List.replicate (prJ (xs.length : Int) xs.length).length (0 : Int), 0 ≤ v ∧ v ≤ 100) ∧ (∀ p ∈ prJ (xs.length : Int) xs.length, 2 ≤ List.length (α := Int) p) :=
          ⟨⟨List.length_replicate, by omega⟩, fun v hv => by rw [(List.mem_replicate.1 hv).2]; omega, prJ_two⟩
        obtain ⟨r1, r2, _⟩ := plA_rng xs _ (ho.dbl _ hx1)
        have hnn := addP_nn (xs := xs) (row := List.replicate (prJ (xs.length : Int) xs.length).length 0) (a := plA xs (doubleA (xs.getD (((prJ (xs.length : Int) xs.length).getD g []).getD 0 0 - 1).toNat (0, 0)))) (b := 1) (s := 0) List.length_replicate r1 (by omega) r2 (by omega) ⟨fun x hx => by rw [(List.mem_replicate.1 hx).2]; exact Int.le_refl _, by rw [sumI_zero]; exact Int.le_refl _⟩
        have hz3 : (List.length (α := Int) (addP (prJ (xs.length : Int) xs.length) (List.replicate (prJ (xs.length : Int) xs.length).length 0) (plA xs (doubleA (xs.getD (((prJ (xs.length : Int) xs.length).getD g []).getD 0 0 - 1).toNat (0, 0)))) 1) = List.length (α := List Int) (prJ (xs.length : Int) xs.length) ∧ List.length (α := List Int) (prJ (xs.length : Int) xs.length) ≤ 5000) ∧ (∀ v ∈ addP (prJ (xs.length : Int) xs.length) (List.replicate (prJ (xs.length : Int) xs.length).length 0) (plA xs (doubleA (xs.getD (((prJ (xs.length : Int) xs.length).getD g []).getD 0 0 - 1).toNat (0, 0)))) 1, 0 ≤ v ∧ v ≤ 100) ∧ (∀ p ∈ prJ (xs.length : Int) xs.length, 2 ≤ List.length (α := Int) p) :=
          ⟨⟨by rw [addP_len, List.length_replicate], by omega⟩, fun v hv => ⟨hnn.1 v hv, by have := hnn.le v hv; omega⟩, prJ_two⟩
        unfold plA at hz3
        have hmk : (0 ≤ ((prJ (xs.length : Int) xs.length).length : Int) ∧ ((prJ (xs.length : Int) xs.length).length : Int) = ((prJ (xs.length : Int) xs.length).length : Int) ∧ (ti2.bytes : Int) * ((prJ (xs.length : Int) xs.length).length : Int) ≤ 281474976710656 ∧ ((prJ (xs.length : Int) xs.length).length : Int) ≤ 9223372036854775807) := by
          rw [hN]
          refine ⟨by omega, rfl, ?_, by omega⟩
          show (8 : Int) * N ≤ _
          omega
        have i1 : 2 ≤ (List.length (α := TyC.α iT) ((prJ (xs.length : Int) xs.length).getD g [])) := hpl
        have i2 : (List.length (α := TyC.α aT) xs) = (List.length (α := Int × Int) xs) := rfl
        have j0 : (((prJ (xs.length : Int) xs.length).getD g [])).getD (Int.toNat 0) iT.dflt = ((prJ (xs.length : Int) xs.length).getD g []).getD 0 0 := rfl
        have j1 : (((prJ (xs.length : Int) xs.length).getD g [])).getD (Int.toNat 1) iT.dflt = ((prJ (xs.length : Int) xs.length).getD g []).getD 1 0 := rfl
        have hap : ∀ a b : Nat, a ≤ 5000 → b ≤ 5000 → ((a : Int) + (b : Int) ≤ 9223372036854775807 ∧ ((a : Int) + (b : Int)) * (ti43.bytes : Int) ≤ 140737488355328) := fun a b h1 h2 => by
          have hb : (ti43.bytes : Int) = 24 := rfl
          rw [hb]; omega
        have hl3 : List.length (α := List Int) (((prJ (xs.length : Int) xs.length).take g).map (rowP xs)) ≤ 4200 := by rw [List.length_map, List.length_take]; omega
        repeat (any_goals (first
          | (refine V_step T_ok GSMat rfl ?_; conv => whnf)
          | (refine V_drawN T_ok GSMat mixed (by kernel_rfl) ?_; conv => whnf)
          | (refine bcond_split (fun hc => ?_) (fun hc => ?_) <;> (try simp only [decide_eq_true_eq, decide_eq_false_iff_not, Bool.not_eq_true', Bool.not_eq_false', Bool.and_eq_true, Bool.or_eq_true, Bool.and_eq_false_imp, Bool.or_eq_false_iff, ne_eq, Decidable.not_not] at hc) <;> conv => whnf)
          | (intro ysK hysK; have hysl := congrArg List.length hysK; (try simp only [List.length_set, List.length_append, List.length_cons, List.length_nil, List.length_take, List.length_drop, List.length_replicate] at hysl); conv => whnf)
          | (refine And.intro (by first | (first | exact True.intro | with_reducible exact hmk | exact hd1 | exact hd2 | exact hxl | exact haa | omega | (simp only [Int.toNat_natCast, j0, j1, Rng]; omega) | (refine ⟨by decide, ?_⟩; simp only [Int.toNat_natCast, Int.toNat_zero, to_one, idflt, adflt]; with_reducible exact hz1) | (refine ⟨by decide, ?_⟩; simp only [Int.toNat_natCast, Int.toNat_zero, to_one, idflt, adflt]; with_reducible exact hz3) | exact hap _ _ (Nat.le_trans hl3 (by omega)) (by simp only [List.length_cons, List.length_nil]; omega)) | exact True.intro | exact ⟨rfl, True.intro, fun _ _ => rfl⟩ | exact Nat.le_of_ble_eq_true rfl | (refine ⟨by (try simp only [List.length_cons, List.length_nil]); omega, Int.le_trans (Int.mul_le_mul_of_nonneg_left (show (TInfo.bytes _ : Int) ≤ 64 from Int.ofNat_le.2 (Nat.le_of_ble_eq_true rfl)) (by omega)) (by (try simp only [List.length_cons, List.length_nil]); omega)⟩)) ?_; conv => whnf)))
        · rename_i hysl
          simp only [Int.toNat_natCast, Int.toNat_zero, to_one, idflt, adflt] at hc hysK
          have hy : ysK = ((prJ (xs.length : Int) xs.length).take (g + 1)).map (rowP xs) := by
            rw [take_map_snoc (rowP xs) _ [] g (by omega)]
            unfold rowP plA
            simp only
            rw [if_pos hc]
            exact hysK
          clear hysK hysl
          subst hy
          refine ⟨g + 1, by omega, by omega, ?_⟩
          conv => whnf
          refine ⟨?_, by (conv => whnf); repeat (first | exact True.intro | (refine And.intro rfl ?_; conv => whnf)), by (conv => whnf); repeat (first | exact True.intro | (refine And.intro (by first | rfl | (subst_vars; rfl)) ?_; conv => whnf)), rfl, rfl, rfl, rfl, rfl, rfl, rfl, Nat.le_of_ble_eq_true rfl, Nat.le_of_ble_eq_true rfl⟩
          conv => whnf
          repeat (first | exact True.intro | (refine And.intro (by first | rfl | ((conv => whnf); exact congrArg (AVal.int .i64) (by omega)) | ((conv => whnf); exact congrArg (AVal.int .i64) (by simp only [Int.natCast_add, Int.natCast_one]; omega)) | ((conv => whnf); exact congrArg (AVal.irow _) (by first | omega | assumption | (simp only; omega)))) ?_; conv => whnf))
        · rename_i hysl
          simp only [Int.toNat_natCast, Int.toNat_zero, to_one, idflt, adflt] at hc hysK
          have hy : ysK = ((prJ (xs.length : Int) xs.length).take (g + 1)).map (rowP xs) := by
            rw [take_map_snoc (rowP xs) _ [] g (by omega)]
            unfold rowP plA
            simp only
            rw [if_neg (by rw [hc]; simp)]
            exact hysK
          clear hysK hysl
          subst hy
          refine ⟨g + 1, by omega, by omega, ?_⟩
          conv => whnf
          refine ⟨?_, by (conv => whnf); repeat (first | exact True.intro | (refine And.intro rfl ?_; conv => whnf)), by (conv => whnf); repeat (first | exact True.intro | (refine And.intro (by first | rfl | (subst_vars; rfl)) ?_; conv => whnf)), rfl, rfl, rfl, rfl, rfl, rfl, rfl, Nat.le_of_ble_eq_true rfl, Nat.le_of_ble_eq_true rfl⟩
          conv => whnf
          repeat (first | exact True.intro | (refine And.intro (by first | rfl | ((conv => whnf); exact congrArg (AVal.int .i64) (by omega)) | ((conv => whnf); exact congrArg (AVal.int .i64) (by simp only [Int.natCast_add, Int.natCast_one]; omega)) | ((conv => whnf); exact congrArg (AVal.irow _) (by first | omega | assumption | (simp only; omega)))) ?_; conv => whnf))
        · rename_i hc
          exact absurd (by rw [hN]; omega) hc
      · refine bcond_split (fun hc => absurd (of_decide_eq_true hc) (by rw [hN']; omega)) (fun hc => ?_)
        conv => whnf
        repeat (any_goals (first
          | (refine V_step T_ok GSMat rfl ?_; conv => whnf)
          | (refine V_drawA T_ok GSMat mixed (by kernel_rfl) ?_; conv => whnf)
          | (refine bcond_split (fun hc => ?_) (fun hc => ?_) <;> (try simp only [decide_eq_true_eq, decide_eq_false_iff_not, Bool.not_eq_true', Bool.not_eq_false', Bool.and_eq_true, Bool.or_eq_true, Bool.and_eq_false_imp, Bool.or_eq_false_iff, ne_eq, Decidable.not_not] at hc) <;> conv => whnf)
          | (intro ysK hysK; have hysl := congrArg List.length hysK; (try simp only [List.length_set, List.length_append, List.length_cons, List.length_nil, List.length_take, List.length_drop, List.length_replicate] at hysl); conv => whnf)
          | (refine And.intro (by first | exact True.intro | (with_reducible assumption) | omega | (simp only [Rng]; omega) | exact Nat.le_of_ble_eq_true rfl | exact True.intro | exact ⟨rfl, True.intro, fun _ _ => rfl⟩ | exact Nat.le_of_ble_eq_true rfl | (refine ⟨by (try simp only [List.length_cons, List.length_nil]); omega, Int.le_trans (Int.mul_le_mul_of_nonneg_left (show (TInfo.bytes _ : Int) ≤ 64 from Int.ofNat_le.2 (Nat.le_of_ble_eq_true rfl)) (by omega)) (by (try simp only [List.length_cons, List.length_nil]); omega)⟩)) ?_; conv => whnf)))
        have hg : g = (prJ (xs.length : Int) xs.length).length := by omega
        have he : ((prJ (xs.length : Int) xs.length).take g).map (rowP xs) = matP xs := by rw [hg, List.take_length]; rfl
        exact leaf1 2 rfl rfl (by rw [he]) rfl (fun B C h => by simp [AVal.den, h])
end Go.Proofs.Ytllagpbbbdekiab.Fw
