/- Contracts: the program's pair matrix, the whole. -/
import Derived.Test.YtllagpbbbdekiabK5
namespace Go.Proofs.Ytllagpbbbdekiab.Fw
open Go Go.RowKit
set_option linter.unusedVariables false
set_option linter.unusedSimpArgs false
set_option maxRecDepth 100000
set_option maxHeartbeats 2000000
theorem pr_at {xs : List Ang} (ho : Orb xs) {g : Nat} (hg : g < (prJ (xs.length : Int) xs.length).length) :
    (1 ≤ ((prJ (xs.length : Int) xs.length).getD g []).getD 0 0 ∧ ((prJ (xs.length : Int) xs.length).getD g []).getD 0 0 ≤ (xs.length : Int)) ∧ (1 ≤ ((prJ (xs.length : Int) xs.length).getD g []).getD 1 0 ∧ ((prJ (xs.length : Int) xs.length).getD g []).getD 1 0 ≤ (xs.length : Int)) ∧
      2 ≤ ((prJ (xs.length : Int) xs.length).getD g []).length := by
  obtain ⟨i, k, e, h1, h2, h3, h4⟩ := mem_prJ.1 (getD_mem hg (d := ([] : List Int)))
  rw [e]
  simp only [List.getD_cons_zero, List.getD_cons_succ, List.length_cons, List.length_nil]
  omega
theorem zero_ok {xs : List Ang} (ho : Orb xs) {x y : Ang} (hx : x ∈ xs) (hy : y ∈ xs) : LeadOk xs (List.replicate (prJ (xs.length : Int) xs.length).length 0) x y :=
  ⟨ho, hx, hy, by rw [List.length_replicate], fun v hv => by rw [(List.mem_replicate.1 hv).2]; omega⟩
theorem lead_two {xs : List Ang} {row : List Int} {x y x' y' : Ang} (h : LeadOk xs row x y) (hn : Nn 90 row) (hx : x' ∈ xs) (hy : y' ∈ xs) : LeadOk xs (addP (prJ (xs.length : Int) xs.length) row (plA xs x) (plA xs y)) x' y' := by
  obtain ⟨a1, a2, _⟩ := plA_rng xs x h.x
  obtain ⟨b1, b2, _⟩ := plA_rng xs y h.y
  have hm := addP_nn h.len a1 b1 a2 b2 hn
  exact ⟨h.orb, hx, hy, by rw [addP_len]; exact h.len, fun v hv => ⟨hm.1 v hv, by have := hm.le v hv; omega⟩⟩
theorem rowP_sep {xs : List Ang} {p : List Int} (hpos : 1 ≤ xs.length) (h : apB (xs.getD (p.getD 0 0 - 1).toNat (0, 0)) (xs.getD (p.getD 1 0 - 1).toNat (0, 0)) (xs.getD 0 (0, 0)) = true) :
    rowP xs p = addP (prJ (xs.length : Int) xs.length) (addP (prJ (xs.length : Int) xs.length) (List.replicate (prJ (xs.length : Int) xs.length).length 0) (plA xs (doubleA (xs.getD (p.getD 0 0 - 1).toNat (0, 0)))) (plA xs (xs.getD 0 (0, 0)))) (plA xs (doubleA (xs.getD (p.getD 1 0 - 1).toNat (0, 0)))) (plA xs (xs.getD 0 (0, 0))) := by
  have e1 : plA xs (xs.getD 0 (0, 0)) = 1 := by
    cases xs with
    | nil => simp at hpos
    | cons x l => exact plA_head
  unfold rowP
  simp only
  rw [if_pos h, e1]
theorem rowP_not {xs : List Ang} {p : List Int} (h : apB (xs.getD (p.getD 0 0 - 1).toNat (0, 0)) (xs.getD (p.getD 1 0 - 1).toNat (0, 0)) (xs.getD 0 (0, 0)) = false) :
    rowP xs p = addP (prJ (xs.length : Int) xs.length) (List.replicate (prJ (xs.length : Int) xs.length).length 0) (plA xs (doubleA (xs.getD (p.getD 0 0 - 1).toNat (0, 0)))) (plA xs (doubleA (xs.getD (p.getD 1 0 - 1).toNat (0, 0)))) := by
  unfold rowP
  simp only
  rw [if_neg (by rw [h]; simp)]
theorem idflt : (TyC.int IntKind.i64).dflt = (0 : Int) := rfl
theorem adflt : aT.dflt = ((0, 0) : Int × Int) := rfl
theorem to_one : Int.toNat 1 = 1 := rfl
theorem take_map_snoc {α β : Type} (f : α → β) (l : List α) (d : α) (g : Nat) (h : g < l.length) : (l.take (g + 1)).map f = (l.take g).map f ++ [f (l.getD g d)] := by
  rw [List.take_add_one, List.getElem?_eq_getElem h, List.map_append, List.getD_eq_getElem?_getD, List.getElem?_eq_getElem h]; rfl
def matC : PCtr := fun hg rg lr vals k => match vals with
  | [.loc j 0] => boxRR (hg j) fun r s => rowC aT (rg r) fun xs => rowC rT (rg s) fun prs => (Orb xs ∧ (prs : List (List Int)) = prJ (List.length (α := Ang) xs : Int) (List.length (α := Ang) xs)) ∧ ∀ ys, ys = matP xs → k [⟨rT, 43, true, ys⟩] (.row lr)
  | _ => False
abbrev GMat := GOk.cons sep_ok (GOk.cons double_ok (GOk.mcons lead_ok .nil))
theorem mat_ok : PCtrOk Try.prog 29 matC where
  enter := enter_ok Try.func29 (by kernel_rfl) rfl
  calls := by
    intro hg rg lr vals k h
    unfold matC at h
    split at h
    case h_2 => exact h.elim
    rename_i j
    obtain ⟨r, s, hj, h⟩ := boxRR_inv h
    obtain ⟨e1, own, xs, hr, h⟩ : ∃ e own, ∃ (xs : List Ang), _ := rowC_inv h
    obtain ⟨e2, own2, prs, hs, h⟩ : ∃ e own, ∃ (xs : List (List Int)), _ := rowC_inv h
    obtain ⟨⟨ho, rfl⟩, hk⟩ := h
    replace hk := hk _ rfl
    refine ⟨_, _, hk, fun A w hB hR => ?_⟩
    refine enter T_ok GMat Try.func29 rfl (K := (· < w.heap.size)) (fun _ h => h) (A := A.pick [j] [r, s]) (vals := [.loc 0 0]) (n0 := 0) (b0 := 1) (rows := [some ⟨aT, e1, false, xs⟩, some ⟨rT, e2, false, prJ (List.length (α := Ang) xs : Int) (List.length (α := Ang) xs)⟩]) (hp := [some [.row 0, .row 1]]) rfl (Nat.zero_le _) (one_box (hB j _ hj)) rfl (two_rows (hR r _ hr) (hR s _ hs)) rfl rfl (Nat.le_of_ble_eq_true rfl) ?_
    conv => whnf
    repeat (refine V_step T_ok GMat rfl ?_; conv => whnf)
    have ho : Orb xs := ho
    obtain ⟨N, hN⟩ : ∃ N, (prJ (xs.length : Int) xs.length).length = N := ⟨_, rfl⟩
    have hN' : (List.length (α := List Int) (prJ (List.length (α := Ang) xs : Int) (List.length (α := Ang) xs))) = N := hN
    have hlen := ho.len
    have hpos := ho.pos
    have hN21 : N ≤ 21 := by rw [← hN]; exact prJ7 _ (by omega)
    refine V_loopP (γ := Nat) (fun g => g ≤ N) (fun g => N - g) (fun g => [(3, .row 2), (16, .int .i64 g)]) (fun _ => []) (fun _ => []) (fun g => [some ⟨rT, 43, true, ((prJ (xs.length : Int) xs.length).take g).map (rowP xs)⟩]) 0 (Nat.zero_le _) ?_ ?_
    · conv => whnf
      refine ⟨?_, by (conv => whnf); repeat (first | exact True.intro | (refine And.intro rfl ?_; conv => whnf)), by (conv => whnf); repeat (first | exact True.intro | (refine And.intro (by first | rfl | (subst_vars; rfl)) ?_; conv => whnf)), rfl, rfl, rfl, rfl, rfl, rfl, rfl, Nat.le_of_ble_eq_true rfl, Nat.le_of_ble_eq_true rfl⟩
      conv => whnf
      repeat (first | exact True.intro | (refine And.intro (by first | rfl | ((conv => whnf); exact congrArg (AVal.int .i64) (by omega)) | ((conv => whnf); exact congrArg (AVal.int .i64) (by simp only [Int.natCast_add, Int.natCast_one]; omega)) | ((conv => whnf); exact congrArg (AVal.irow _) (by first | omega | assumption | (simp only; omega)))) ?_; conv => whnf))
    · rintro g hg
      conv => whnf
      refine vcCode_sound T_ok GMat _ _ _ _ _ ?_
      conv => whnf
      repeat (refine V_step T_ok GMat rfl ?_; conv => whnf)
      by_cases hgN : g < N
      · obtain ⟨hp0, hp1, hpl⟩ := pr_at ho (g := g) (by omega)
        have hmem : ((prJ (xs.length : Int) xs.length).getD g []) ∈ prJ (xs.length : Int) xs.length := getD_mem (by omega)
        have hx0 : xs.getD 0 (0, 0) ∈ xs := getD_mem (by omega)
        have hx1 : xs.getD (((prJ (xs.length : Int) xs.length).getD g []).getD 0 0 - 1).toNat (0, 0) ∈ xs := getD_mem (by omega)
        have hx2 : xs.getD (((prJ (xs.length : Int) xs.length).getD g []).getD 1 0 - 1).toNat (0, 0) ∈ xs := getD_mem (by omega)
        have hd1 := (ho.isA _ hx1).bd
        have hd2 := (ho.isA _ hx2).bd
        have hs0 : ((∀ x ∈ xs, IsA x) ∧ (1 ≤ ((prJ (xs.length : Int) xs.length).getD g []).getD 0 0 ∧ ((prJ (xs.length : Int) xs.length).getD g []).getD 0 0 ≤ (List.length (α := Ang) xs : Int)) ∧ (1 ≤ ((prJ (xs.length : Int) xs.length).getD g []).getD 1 0 ∧ ((prJ (xs.length : Int) xs.length).getD g []).getD 1 0 ≤ (List.length (α := Ang) xs : Int)) ∧ 2 ≤ List.length (α := Int) ((prJ (xs.length : Int) xs.length).getD g []) ∧ List.length (α := Ang) xs ≤ 100) := ⟨ho.isA, hp0, hp1, hpl, by omega⟩
        have hz1 := zero_ok ho (ho.dbl _ hx1) hx0
        have hz2 := zero_ok ho (ho.dbl _ hx1) (ho.dbl _ hx2)
        have hz3 := lead_two hz1 ⟨fun x hx => by rw [(List.mem_replicate.1 hx).2]; exact Int.le_refl _, by rw [sumI_zero]; omega⟩ (ho.dbl _ hx2) hx0
        have hmk : (0 ≤ ((prJ (xs.length : Int) xs.length).length : Int) ∧ ((prJ (xs.length : Int) xs.length).length : Int) = ((prJ (xs.length : Int) xs.length).length : Int) ∧ (ti2.bytes : Int) * ((prJ (xs.length : Int) xs.length).length : Int) ≤ 281474976710656 ∧ ((prJ (xs.length : Int) xs.length).length : Int) ≤ 9223372036854775807) := by
          rw [hN]
          refine ⟨by omega, rfl, ?_, by omega⟩
          show (8 : Int) * N ≤ _
          omega
        have i1 : 2 ≤ (List.length (α := TyC.α iT) ((prJ (xs.length : Int) xs.length).getD g [])) := hpl
        have i2 : (List.length (α := TyC.α aT) xs) = (List.length (α := Int × Int) xs) := rfl
        have j0 : (((prJ (xs.length : Int) xs.length).getD g [])).getD (Int.toNat 0) iT.dflt = ((prJ (xs.length : Int) xs.length).getD g []).getD 0 0 := rfl
        have j1 : (((prJ (xs.length : Int) xs.length).getD g [])).getD (Int.toNat 1) iT.dflt = ((prJ (xs.length : Int) xs.length).getD g []).getD 1 0 := rfl
        have hap : ∀ a b : Nat, a ≤ 5000 → b ≤ 5000 → ((a : Int) + (b : Int) ≤ 9223372036854775807 ∧ ((a : Int) + (b : Int)) * (ti43.bytes : Int) ≤ 140737488355328) := fun a b h1 h2 => by
          have hb : (ti43.bytes : Int) = 24 := rfl
          rw [hb]; omega
        have hl3 : List.length (α := List Int) (((prJ (xs.length : Int) xs.length).take g).map (rowP xs)) ≤ 4200 := by rw [List.length_map, List.length_take]; omega
        repeat (any_goals (first
          | (refine V_step T_ok GMat rfl ?_; conv => whnf)
          | (refine V_drawN T_ok GMat mixed (by kernel_rfl) ?_; conv => whnf)
          | (refine bcond_split (fun hc => ?_) (fun hc => ?_) <;> (try simp only [decide_eq_true_eq, decide_eq_false_iff_not, Bool.not_eq_true', Bool.not_eq_false', Bool.and_eq_true, Bool.or_eq_true, Bool.and_eq_false_imp, Bool.or_eq_false_iff, ne_eq, Decidable.not_not] at hc) <;> conv => whnf)
          | (intro ysK hysK; have hysl := congrArg List.length hysK; (try simp only [List.length_set, List.length_append, List.length_cons, List.length_nil, List.length_take, List.length_drop, List.length_replicate] at hysl); conv => whnf)
          | (refine And.intro (by first | (first | exact True.intro | with_reducible exact hmk | exact hd1 | exact hd2 | exact hs0 | (refine ⟨⟨by decide, by decide⟩, ?_, rfl⟩; simp only [Int.toNat_natCast, Int.toNat_zero, to_one, idflt, adflt]; with_reducible exact hz1) | (refine ⟨⟨by decide, by decide⟩, ?_, rfl⟩; simp only [Int.toNat_natCast, Int.toNat_zero, to_one, idflt, adflt]; with_reducible exact hz2) | (refine ⟨⟨by decide, by decide⟩, ?_, rfl⟩; simp only [Int.toNat_natCast, Int.toNat_zero, to_one, idflt, adflt]; with_reducible exact hz3) | omega | (simp only [Int.toNat_natCast, j0, j1, Rng]; omega) | exact hap _ _ (Nat.le_trans hl3 (by omega)) (by simp only [List.length_cons, List.length_nil]; omega)) | exact True.intro | exact ⟨rfl, True.intro, fun _ _ => rfl⟩ | exact Nat.le_of_ble_eq_true rfl | (refine ⟨by (try simp only [List.length_cons, List.length_nil]); omega, Int.le_trans (Int.mul_le_mul_of_nonneg_left (show (TInfo.bytes _ : Int) ≤ 64 from Int.ofNat_le.2 (Nat.le_of_ble_eq_true rfl)) (by omega)) (by (try simp only [List.length_cons, List.length_nil]); omega)⟩)) ?_; conv => whnf)))
        · rename_i hysl
          simp only [Int.toNat_natCast, Int.toNat_zero, to_one, idflt, adflt] at hc hysK
          have hy : ysK = ((prJ (xs.length : Int) xs.length).take (g + 1)).map (rowP xs) := by
            rw [take_map_snoc (rowP xs) _ [] g (by omega), rowP_sep (by omega) hc]
            exact hysK
          clear hysK hysl
          subst hy
          refine ⟨g + 1, by omega, by omega, ?_⟩
          conv => whnf
          refine ⟨?_, by (conv => whnf); repeat (first | exact True.intro | (refine And.intro rfl ?_; conv => whnf)), by (conv => whnf); repeat (first | exact True.intro | (refine And.intro (by first | rfl | (subst_vars; rfl)) ?_; conv => whnf)), rfl, rfl, rfl, rfl, rfl, rfl, rfl, Nat.le_of_ble_eq_true rfl, Nat.le_of_ble_eq_true rfl⟩
          conv => whnf
          repeat (first | exact True.intro | (refine And.intro (by first | rfl | ((conv => whnf); exact congrArg (AVal.int .i64) (by omega)) | ((conv => whnf); exact congrArg (AVal.int .i64) (by simp only [Int.natCast_add, Int.natCast_one]; omega)) | ((conv => whnf); exact congrArg (AVal.irow _) (by first | omega | assumption | (simp only; omega)))) ?_; conv => whnf))
        · rename_i hysl
          simp only [Int.toNat_natCast, Int.toNat_zero, to_one, idflt, adflt] at hc hysK
          have hy : ysK = ((prJ (xs.length : Int) xs.length).take (g + 1)).map (rowP xs) := by
            rw [take_map_snoc (rowP xs) _ [] g (by omega), rowP_not hc]
            exact hysK
          clear hysK hysl
          subst hy
          refine ⟨g + 1, by omega, by omega, ?_⟩
          conv => whnf
          refine ⟨?_, by (conv => whnf); repeat (first | exact True.intro | (refine And.intro rfl ?_; conv => whnf)), by (conv => whnf); repeat (first | exact True.intro | (refine And.intro (by first | rfl | (subst_vars; rfl)) ?_; conv => whnf)), rfl, rfl, rfl, rfl, rfl, rfl, rfl, Nat.le_of_ble_eq_true rfl, Nat.le_of_ble_eq_true rfl⟩
          conv => whnf
          repeat (first | exact True.intro | (refine And.intro (by first | rfl | ((conv => whnf); exact congrArg (AVal.int .i64) (by omega)) | ((conv => whnf); exact congrArg (AVal.int .i64) (by simp only [Int.natCast_add, Int.natCast_one]; omega)) | ((conv => whnf); exact congrArg (AVal.irow _) (by first | omega | assumption | (simp only; omega)))) ?_; conv => whnf))
        · rename_i hc
          exact absurd (by rw [hN]; omega) hc
      · refine bcond_split (fun hc => absurd (of_decide_eq_true hc) (by rw [hN']; omega)) (fun hc => ?_)
        conv => whnf
        repeat (any_goals (first
          | (refine V_step T_ok GMat rfl ?_; conv => whnf)
          | (refine V_drawA T_ok GMat mixed (by kernel_rfl) ?_; conv => whnf)
          | (refine bcond_split (fun hc => ?_) (fun hc => ?_) <;> (try simp only [decide_eq_true_eq, decide_eq_false_iff_not, Bool.not_eq_true', Bool.not_eq_false', Bool.and_eq_true, Bool.or_eq_true, Bool.and_eq_false_imp, Bool.or_eq_false_iff, ne_eq, Decidable.not_not] at hc) <;> conv => whnf)
          | (intro ysK hysK; have hysl := congrArg List.length hysK; (try simp only [List.length_set, List.length_append, List.length_cons, List.length_nil, List.length_take, List.length_drop, List.length_replicate] at hysl); conv => whnf)
          | (refine And.intro (by first | exact True.intro | (with_reducible assumption) | omega | (simp only [Rng]; omega) | exact Nat.le_of_ble_eq_true rfl | exact True.intro | exact ⟨rfl, True.intro, fun _ _ => rfl⟩ | exact Nat.le_of_ble_eq_true rfl | (refine ⟨by (try simp only [List.length_cons, List.length_nil]); omega, Int.le_trans (Int.mul_le_mul_of_nonneg_left (show (TInfo.bytes _ : Int) ≤ 64 from Int.ofNat_le.2 (Nat.le_of_ble_eq_true rfl)) (by omega)) (by (try simp only [List.length_cons, List.length_nil]); omega)⟩)) ?_; conv => whnf)))
        have hg : g = (prJ (xs.length : Int) xs.length).length := by omega
        have he : ((prJ (xs.length : Int) xs.length).take g).map (rowP xs) = matP xs := by rw [hg, List.take_length]; rfl
        exact leaf1 2 rfl rfl (by rw [he]) rfl (fun B C h => by simp [AVal.den, h])
end Go.Proofs.Ytllagpbbbdekiab.Fw
