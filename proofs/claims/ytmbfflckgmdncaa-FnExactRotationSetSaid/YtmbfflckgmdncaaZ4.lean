/- Contracts: slices.Compact over angles. -/
import Derived.Test.YtmbfflckgmdncaaZ3
namespace Go.Proofs.Ytmbfflckgmdncaa.Fw
open Go Go.RowKit
set_option linter.unusedVariables false
set_option linter.unusedSimpArgs false
set_option maxRecDepth 100000
set_option maxHeartbeats 2000000

/-- Is an entry another one than the one ahead of it? -/
def newA (xs : List Ang) (t : Nat) : Bool := decide (t = 0 ∨ xs.getD t dA9 ≠ xs.getD (t - 1) dA9)
/-- The entries that are other ones than those ahead of them. -/
def ddA (xs : List Ang) (n : Nat) : List Ang := ((List.range n).filter (newA xs)).map fun t => xs.getD t dA9
theorem ddA_next (xs : List Ang) (n : Nat) : ddA xs (n + 1) = ddA xs n ++ (if newA xs n = true then [xs.getD n dA9] else []) := by
  unfold ddA
  rw [List.range_succ, List.filter_append, List.map_append]
  congr 1
  simp only [List.filter_cons, List.filter_nil]
  split <;> rfl
theorem ddA_all (xs : List Ang) : ∀ n, n ≤ xs.length → (∀ t, 0 < t → t < n → xs.getD t dA9 ≠ xs.getD (t - 1) dA9) → ddA xs n = xs.take n
  | 0, _, _ => rfl
  | n + 1, hn, h => by
    rw [ddA_next, ddA_all xs n (by omega) (fun t h1 h2 => h t h1 (by omega)), List.take_add_one, List.getElem?_eq_getElem (by omega)]
    have e : newA xs n = true := by
      unfold newA
      rcases Nat.eq_zero_or_pos n with h0 | h0
      · exact decide_eq_true (.inl h0)
      · exact decide_eq_true (.inr (h n h0 (by omega)))
    rw [if_pos e, List.getD_eq_getElem?_getD, List.getElem?_eq_getElem (by omega)]; rfl
theorem ddA_len (xs : List Ang) (n : Nat) : (ddA xs n).length ≤ n := by
  unfold ddA
  rw [List.length_map]
  exact Nat.le_trans (List.length_filter_le _ _) (by simp)
theorem set_takeA {α : Type} {l : List α} {i : Nat} {x : α} (h : i < l.length) : (l.set i x).take (i + 1) = l.take i ++ [x] := by
  rw [List.take_add_one, List.take_set_of_le (Nat.le_refl i), List.getElem?_set_self h]; rfl
def cptC : MCtr := fun hg rg lr vals k => match vals with
  | [.row i] => rowO aT (rg i) fun e xs => List.length (α := Ang) xs ≤ 1000 ∧ k [(i, none)] [⟨aT, e, true, ddA xs (List.length (α := Ang) xs)⟩] (.row lr)
  | _ => False
theorem cpt_ok : MCtrOk Try.prog 19 cptC where
  enter := enter_ok Try.func19 (by kernel_rfl) rfl
  calls := by
    intro hg rg lr vals k h
    unfold cptC at h
    split at h
    case h_2 => exact h.elim
    rename_i i
    obtain ⟨e, xs, hi, h⟩ : ∃ e, ∃ (xs : List Ang), _ := rowO_inv h
    obtain ⟨hlen, hk⟩ := h
    refine ⟨_, _, _, hk, (ups_one hi rfl (fun r' hr' => by cases hr')), fun A w hM => ?_⟩
    have hO := One.of hi rfl
    refine enterM T_ok .nil Try.func19 rfl (w := w) (A := A.pick [] [i]) (vals := [.row 0]) (n0 := 1) (b0 := 0) (rows := [some ⟨aT, e, true, xs⟩]) (hp := []) rfl (Nat.le_refl _) (hM.one hi) rfl rfl rfl (Nat.le_of_ble_eq_true rfl) ?_
    conv => whnf
    repeat (refine V_step T_ok .nil rfl ?_; conv => whnf)
    have hlen : List.length (α := Ang) xs ≤ 1000 := hlen
    refine bcond_split (fun hc => ?_) (fun hc => ?_) <;> (try simp only [decide_eq_true_eq, decide_eq_false_iff_not, Bool.not_eq_true', Bool.not_eq_false', Bool.and_eq_true, Bool.or_eq_true, Bool.and_eq_false_imp, Bool.or_eq_false_iff, ne_eq, Decidable.not_not] at hc) <;> conv => whnf
    · repeat (refine V_step T_ok .nil rfl ?_; conv => whnf)
      have hd : ddA xs (List.length (α := Ang) xs) = xs := by
        rw [ddA_all xs _ (Nat.le_refl _) (fun t h1 h2 => by omega), List.take_length]
      exact leafM1 hO 0 rfl (by rw [hd]) rfl (fun B C h => by simp [AVal.den, h])
    · repeat (refine V_step T_ok .nil rfl ?_; conv => whnf)
      refine V_loopH (γ := Nat) (fun g => (1 ≤ g ∧ g ≤ List.length (α := Ang) xs) ∧ ∀ t, 0 < t → t < g → xs.getD t dA9 ≠ xs.getD (t - 1) dA9) (fun g => List.length (α := Ang) xs - g)
        (fun g => [(3, .int .i64 g)]) (fun _ => []) (fun g => [(0, some ⟨aT, e, true, xs⟩)]) 1 ⟨⟨Nat.le_refl _, by omega⟩, fun t h1 h2 => by omega⟩ ?_ ?_
      · conv => whnf
        refine ⟨?_, by (conv => whnf); repeat (first | exact True.intro | (refine And.intro rfl ?_; conv => whnf)), by (conv => whnf); repeat (first | exact True.intro | (refine And.intro (by first | rfl | (subst_vars; rfl)) ?_; conv => whnf)), rfl, rfl, rfl, rfl, rfl, rfl, rfl, Nat.le_of_ble_eq_true rfl, Nat.le_of_ble_eq_true rfl⟩
        conv => whnf
        repeat (first | exact True.intro | (refine And.intro (by first | rfl | ((conv => whnf); exact congrArg (AVal.int .i64) (by omega)) | ((conv => whnf); exact congrArg (AVal.int .i64) (by simp only [Int.natCast_add, Int.natCast_one]; omega)) | ((conv => whnf); exact congrArg (AVal.irow _) (by first | omega | assumption | (simp only; omega)))) ?_; conv => whnf))
      rintro g ⟨⟨g1, g2⟩, g3⟩
      have hdg := ddA_all xs g g2 g3
      conv => whnf
      repeat (refine V_step T_ok .nil rfl ?_; conv => whnf)
      refine bcond_split (fun hc => ?_) (fun hc => ?_) <;> (try simp only [decide_eq_true_eq, decide_eq_false_iff_not, Bool.not_eq_true', Bool.not_eq_false', Bool.and_eq_true, Bool.or_eq_true, Bool.and_eq_false_imp, Bool.or_eq_false_iff, ne_eq, Decidable.not_not] at hc) <;> conv => whnf
      · have hgl : g < List.length (α := Ang) xs := by omega
        repeat (any_goals (first
          | (refine V_step T_ok .nil rfl ?_; conv => whnf)
          | (refine V_drawN T_ok .nil mixed (by kernel_rfl) ?_; conv => whnf)
          | (refine bcond_split (fun hc => ?_) (fun hc => ?_) <;> (try simp only [decide_eq_true_eq, decide_eq_false_iff_not, Bool.not_eq_true', Bool.not_eq_false', Bool.and_eq_true, Bool.or_eq_true, Bool.and_eq_false_imp, Bool.or_eq_false_iff, ne_eq, Decidable.not_not] at hc) <;> conv => whnf)
          | (intro ysK hysK; have hysl := congrArg List.length hysK; (try simp only [List.length_set, List.length_append, List.length_cons, List.length_nil, List.length_take, List.length_drop, List.length_replicate] at hysl); conv => whnf)
          | (intro bK hbK; have hbl := congrArg ByteArray.size hbK; conv => whnf)
          | (intro sK hsK; conv => whnf)
          | (refine And.intro (by first | (first | exact True.intro | omega | (simp only [Rng]; omega)) | exact True.intro | exact ⟨rfl, True.intro, fun _ _ => rfl⟩ | exact Nat.le_of_ble_eq_true rfl | (refine ⟨by (try simp only [List.length_cons, List.length_nil]); omega, Int.le_trans (Int.mul_le_mul_of_nonneg_left (show (TInfo.bytes _ : Int) ≤ 64 from Int.ofNat_le.2 (Nat.le_of_ble_eq_true rfl)) (by omega)) (by (try simp only [List.length_cons, List.length_nil]); omega)⟩)) ?_; conv => whnf)))
        · have tg : ((g : Int) - 1).toNat = g - 1 := by omega
          have heq : xs.getD g dA9 = xs.getD (g - 1) dA9 := by
            have h1 := hc.1
            have h2 := hc.2
            rw [tg] at h1 h2
            exact Prod.ext h1 h2
          have hnw : newA xs g = false := decide_eq_false fun h => h.elim (fun h => by omega) (fun h => h heq)
          have hd1 : ddA xs (g + 1) = xs.take g := by rw [ddA_next, hnw, hdg]; simp
          have hl1 : (ddA xs (g + 1)).length = g := by rw [hd1, List.length_take]; omega
          refine V_loopH (γ := (Nat × Nat) × List Ang) (fun r => (1 ≤ r.1.2 ∧ r.1.2 ≤ List.length (α := Ang) xs - g) ∧ r.1.1 ≤ g + r.1.2 - 1 ∧ r.2.length = xs.length ∧ r.1.1 = (ddA xs (g + r.1.2)).length ∧ r.2.take r.1.1 = ddA xs (g + r.1.2) ∧ ∀ t, g + r.1.2 - 1 ≤ t → r.2.getD t dA9 = xs.getD t dA9) (fun r => List.length (α := Ang) xs - g - r.1.2)
            (fun r => [(3, .int .i64 r.1.1), (5, .int .i64 r.1.2)]) (fun _ => []) (fun r => [(0, some ⟨aT, e, true, r.2⟩)]) ((g, 1), xs) ⟨⟨Nat.le_refl _, by simp only; omega⟩, by simp only; omega, rfl, hl1.symm, hd1.symm, fun _ _ => rfl⟩ ?_ ?_
          · conv => whnf
            refine ⟨?_, by (conv => whnf); repeat (first | exact True.intro | (refine And.intro rfl ?_; conv => whnf)), by (conv => whnf); repeat (first | exact True.intro | (refine And.intro (by first | rfl | (subst_vars; rfl)) ?_; conv => whnf)), rfl, rfl, rfl, rfl, rfl, rfl, rfl, Nat.le_of_ble_eq_true rfl, Nat.le_of_ble_eq_true rfl⟩
            conv => whnf
            repeat (first | exact True.intro | (refine And.intro (by first | rfl | ((conv => whnf); exact congrArg (AVal.int .i64) (by omega)) | ((conv => whnf); exact congrArg (AVal.int .i64) (by simp only [Int.natCast_add, Int.natCast_one]; omega)) | ((conv => whnf); exact congrArg (AVal.irow _) (by first | omega | assumption | (simp only; omega)))) ?_; conv => whnf))
          rintro ⟨⟨k1, k2⟩, L⟩ ⟨⟨a1, a2⟩, a3, a4, a5, a6, a7⟩
          simp only at a1 a2 a3 a4 a5 a6 a7
          conv => whnf
          repeat (refine V_step T_ok .nil rfl ?_; conv => whnf)
          refine bcond_split (fun hc => ?_) (fun hc => ?_) <;> (try simp only [decide_eq_true_eq, decide_eq_false_iff_not, Bool.not_eq_true', Bool.not_eq_false', Bool.and_eq_true, Bool.or_eq_true, Bool.and_eq_false_imp, Bool.or_eq_false_iff, ne_eq, Decidable.not_not] at hc) <;> conv => whnf
          · have hk2 : k2 < List.length (α := Ang) xs - g := by
              have hc : (k2 : Int) < ((List.length (α := Ang) xs - g : Nat) : Int) := hc
              omega
            have tk : ((k2 : Int) - 1).toNat = k2 - 1 := by omega
            have hE1 : L.getD (g + k2) dA9 = xs.getD (g + k2) dA9 := a7 _ (by omega)
            have hE2 : L.getD (g + (k2 - 1)) dA9 = xs.getD (g + k2 - 1) dA9 := by rw [a7 (g + (k2 - 1)) (by omega), show g + (k2 - 1) = g + k2 - 1 by omega]
            repeat (any_goals (first
              | (refine V_step T_ok .nil rfl ?_; conv => whnf)
              | (refine V_drawN T_ok .nil mixed (by kernel_rfl) ?_; conv => whnf)
              | (refine bcond_split (fun hc => ?_) (fun hc => ?_) <;> (try simp only [decide_eq_true_eq, decide_eq_false_iff_not, Bool.not_eq_true', Bool.not_eq_false', Bool.and_eq_true, Bool.or_eq_true, Bool.and_eq_false_imp, Bool.or_eq_false_iff, ne_eq, Decidable.not_not] at hc) <;> conv => whnf)
              | (intro ysK hysK; have hysl := congrArg List.length hysK; (try simp only [List.length_set, List.length_append, List.length_cons, List.length_nil, List.length_take, List.length_drop, List.length_replicate] at hysl); conv => whnf)
              | (intro bK hbK; have hbl := congrArg ByteArray.size hbK; conv => whnf)
              | (intro sK hsK; conv => whnf)
              | (refine And.intro (by first | (first | exact True.intro | omega | (simp only [Rng]; omega)) | exact True.intro | exact ⟨rfl, True.intro, fun _ _ => rfl⟩ | exact Nat.le_of_ble_eq_true rfl | (refine ⟨by (try simp only [List.length_cons, List.length_nil]); omega, Int.le_trans (Int.mul_le_mul_of_nonneg_left (show (TInfo.bytes _ : Int) ≤ 64 from Int.ofNat_le.2 (Nat.le_of_ble_eq_true rfl)) (by omega)) (by (try simp only [List.length_cons, List.length_nil]); omega)⟩)) ?_; conv => whnf)))
            · have hnew : newA xs (g + k2) = true := decide_eq_true (.inr fun he => by
                have he' : L.getD (g + k2) dA9 = L.getD (g + (k2 - 1)) dA9 := hE1.trans (he.trans hE2.symm)
                rw [← tk] at he'
                exact hc (congrArg Prod.fst he') (congrArg Prod.snd he'))
              have hy : ysK = L.set k1 (L.getD (g + k2) dA9) := hysK
              have hdn : ddA xs (g + (k2 + 1)) = ddA xs (g + k2) ++ [xs.getD (g + k2) dA9] := by
                show ddA xs (g + k2 + 1) = _
                rw [ddA_next, if_pos hnew]
              refine ⟨((k1 + 1, k2 + 1), ysK), ⟨⟨by simp only; omega, by simp only; omega⟩, by simp only; omega, by rw [hy]; simp only [List.length_set]; exact a4, by simp only; rw [hdn, List.length_append, ← a5]; rfl, ?_, fun t ht => ?_⟩, by simp only; omega, ?_⟩
              · simp only
                rw [hy, set_takeA (by rw [a4]; omega), a6, hdn, hE1]
              · simp only at ht ⊢
                rw [hy, List.getD_eq_getElem?_getD, List.getElem?_set_ne (by omega), ← List.getD_eq_getElem?_getD]
                exact a7 t (by omega)
              · clear a6 a7 hE1 hE2 hdn hy hnew g3 hdg hd1
                conv => whnf
                refine ⟨?_, by (conv => whnf); repeat (first | exact True.intro | (refine And.intro rfl ?_; conv => whnf)), by (conv => whnf); repeat (first | exact True.intro | (refine And.intro (by first | rfl | (subst_vars; rfl)) ?_; conv => whnf)), rfl, rfl, rfl, rfl, rfl, rfl, rfl, Nat.le_of_ble_eq_true rfl, Nat.le_of_ble_eq_true rfl⟩
                conv => whnf
                repeat (first | exact True.intro | (refine And.intro (by first | rfl | ((conv => whnf); exact congrArg (AVal.int .i64) (by omega)) | ((conv => whnf); exact congrArg (AVal.int .i64) (by simp only [Int.natCast_add, Int.natCast_one]; omega)) | ((conv => whnf); exact congrArg (AVal.irow _) (by first | omega | assumption | (simp only; omega)))) ?_; conv => whnf))
            · have hnew : newA xs (g + k2) = false := decide_eq_false fun h => h.elim (fun h => by omega) (fun h => h (by
                have h1 := hc.1
                have h2 := hc.2
                rw [tk] at h1 h2
                have he' : L.getD (g + k2) dA9 = L.getD (g + (k2 - 1)) dA9 := Prod.ext h1 h2
                exact hE1.symm.trans (he'.trans hE2)))
              have hdn : ddA xs (g + (k2 + 1)) = ddA xs (g + k2) := by
                show ddA xs (g + k2 + 1) = _
                rw [ddA_next, hnew]; simp
              refine ⟨((k1, k2 + 1), L), ⟨⟨by simp only; omega, by simp only; omega⟩, by simp only; omega, a4, by simp only; rw [hdn]; exact a5, by simp only; rw [hdn]; exact a6, fun t ht => a7 t (by simp only at ht; omega)⟩, by simp only; omega, ?_⟩
              clear a6 a7 hE1 hE2 hdn hnew g3 hdg hd1
              conv => whnf
              refine ⟨?_, by (conv => whnf); repeat (first | exact True.intro | (refine And.intro rfl ?_; conv => whnf)), by (conv => whnf); repeat (first | exact True.intro | (refine And.intro (by first | rfl | (subst_vars; rfl)) ?_; conv => whnf)), rfl, rfl, rfl, rfl, rfl, rfl, rfl, Nat.le_of_ble_eq_true rfl, Nat.le_of_ble_eq_true rfl⟩
              conv => whnf
              repeat (first | exact True.intro | (refine And.intro (by first | rfl | ((conv => whnf); exact congrArg (AVal.int .i64) (by omega)) | ((conv => whnf); exact congrArg (AVal.int .i64) (by simp only [Int.natCast_add, Int.natCast_one]; omega)) | ((conv => whnf); exact congrArg (AVal.irow _) (by first | omega | assumption | (simp only; omega)))) ?_; conv => whnf))
          · have hk2 : k2 = List.length (α := Ang) xs - g := by
              have hc : ¬ (k2 : Int) < ((List.length (α := Ang) xs - g : Nat) : Int) := hc
              omega
            repeat (any_goals (first
              | (refine V_step T_ok .nil rfl ?_; conv => whnf)
              | (refine V_drawN T_ok .nil mixed (by kernel_rfl) ?_; conv => whnf)
              | (refine bcond_split (fun hc => ?_) (fun hc => ?_) <;> (try simp only [decide_eq_true_eq, decide_eq_false_iff_not, Bool.not_eq_true', Bool.not_eq_false', Bool.and_eq_true, Bool.or_eq_true, Bool.and_eq_false_imp, Bool.or_eq_false_iff, ne_eq, Decidable.not_not] at hc) <;> conv => whnf)
              | (intro ysK hysK; have hysl := congrArg List.length hysK; (try simp only [List.length_set, List.length_append, List.length_cons, List.length_nil, List.length_take, List.length_drop, List.length_replicate] at hysl); conv => whnf)
              | (intro bK hbK; have hbl := congrArg ByteArray.size hbK; conv => whnf)
              | (intro sK hsK; conv => whnf)
              | (refine And.intro (by first | (first | exact True.intro | omega | (simp only [Rng]; omega)) | exact True.intro | exact ⟨rfl, True.intro, fun _ _ => rfl⟩ | exact Nat.le_of_ble_eq_true rfl | (refine ⟨by (try simp only [List.length_cons, List.length_nil]); omega, Int.le_trans (Int.mul_le_mul_of_nonneg_left (show (TInfo.bytes _ : Int) ≤ 64 from Int.ofNat_le.2 (Nat.le_of_ble_eq_true rfl)) (by omega)) (by (try simp only [List.length_cons, List.length_nil]); omega)⟩)) ?_; conv => whnf)))
            have hyK : ysK = L.take k1 ++ (List.replicate (L.length - k1) dA9 ++ L.drop (k1 + (L.length - k1))) := hysK
            have hl : ysK.length = L.length := by rw [hyK]; simp; omega
            have hT : ysK.take k1 = ddA xs (List.length (α := Ang) xs) := by
              rw [hyK, List.take_append_of_le_length (by simp; omega), List.take_take, Nat.min_self, a6, show g + k2 = List.length (α := Ang) xs by omega]
            refine leafMV (xs := ysK) hO 0 k1 rfl rfl (by omega) hT (fun B C h => ?_)
            simp [AVal.den, h, TyC.sz] <;> rfl
        · have tg : ((g : Int) - 1).toNat = g - 1 := by omega
          have hne : xs.getD g dA9 ≠ xs.getD (g - 1) dA9 := fun he => by
            rw [← tg] at he
            exact hc (congrArg Prod.fst he) (congrArg Prod.snd he)
          refine ⟨g + 1, ⟨⟨by omega, by omega⟩, fun t h1 h2 => ?_⟩, by omega, ?_⟩
          · rcases Nat.lt_or_ge t g with h | h
            · exact g3 t h1 h
            · obtain rfl : t = g := by omega
              exact hne
          · clear g3 hdg hne
            conv => whnf
            refine ⟨?_, by (conv => whnf); repeat (first | exact True.intro | (refine And.intro rfl ?_; conv => whnf)), by (conv => whnf); repeat (first | exact True.intro | (refine And.intro (by first | rfl | (subst_vars; rfl)) ?_; conv => whnf)), rfl, rfl, rfl, rfl, rfl, rfl, rfl, Nat.le_of_ble_eq_true rfl, Nat.le_of_ble_eq_true rfl⟩
            conv => whnf
            repeat (first | exact True.intro | (refine And.intro (by first | rfl | ((conv => whnf); exact congrArg (AVal.int .i64) (by omega)) | ((conv => whnf); exact congrArg (AVal.int .i64) (by simp only [Int.natCast_add, Int.natCast_one]; omega)) | ((conv => whnf); exact congrArg (AVal.irow _) (by first | omega | assumption | (simp only; omega)))) ?_; conv => whnf))
      · repeat (refine V_step T_ok .nil rfl ?_; conv => whnf)
        have hge : g = List.length (α := Ang) xs := by omega
        have hd : ddA xs (List.length (α := Ang) xs) = xs := by
          rw [ddA_all xs _ (Nat.le_refl _) (fun t h1 h2 => g3 t h1 (by omega)), List.take_length]
        exact leafM1 hO 0 rfl (by rw [hd]) rfl (fun B C h => by simp [AVal.den, h])
end Go.Proofs.Ytmbfflckgmdncaa.Fw
-- %intro
