/- Contracts of the reference: classes. -/
import Derived.Test.YtllagpbbbdekiacT5
namespace Go.Proofs.Ytllagpbbbdekiac.Fw
open Go Go.RowKit
set_option linter.unusedVariables false
set_option linter.unusedSimpArgs false
set_option maxRecDepth 100000
set_option maxHeartbeats 2000000
theorem ex_part (n : Nat) (c0 : List Int) (q : Nat → Sq) (h : Can n c0) : Part n c0 (fun x y => q x = q y) (canR n c0 q) (fun x y => q x = q y) := by
  have step : ∀ k, k ≤ n → ∃ c, StP n c0 q k c := fun k => by
    induction k with
    | zero => intro _; exact ⟨c0, StP.start q h⟩
    | succ k ih =>
      intro hk
      obtain ⟨c, hc⟩ := ih (by omega)
      by_cases hh : ∃ l, l < k ∧ q l = q k
      · obtain ⟨l, h1, h2⟩ := hh
        exact ⟨_, hc.known (by omega) h1 h2⟩
      · exact ⟨c, hc.new fun l hl e => hh ⟨l, hl, e⟩⟩
  obtain ⟨c, hc⟩ := step n (Nat.le_refl _)
  rw [← hc.done]
  exact hc.mono fun x y hx hy e => hc.eq x y hx hy ⟨hx, hy, e⟩
theorem canR_congr {n : Nat} {c0 : List Int} {q q' : Nat → Sq} (h : Can n c0) (he : ∀ k, k < n → q k = q' k) : canR n c0 q = canR n c0 q' := by
  refine canR_of ?_
  have hp := ex_part n c0 q h
  exact ⟨hp.can, hp.old, fun x y hx hy e => hp.eq x y hx hy (by rw [he x hx, he y hy]; exact e), fun S hS h1 h2 x y hx hy e => hp.min S hS h1 (fun x y hx hy e => h2 x y hx hy (by rw [← he x hx, ← he y hy]; exact e)) x y hx hy e⟩
def namG (q : Nat → Sq) (g : Nat) : List Sq := (List.range g).map q
theorem namG_len (q : Nat → Sq) (g : Nat) : (namG q g).length = g := by unfold namG; simp
theorem namG_next (q : Nat → Sq) (g : Nat) : namG q (g + 1) = namG q g ++ [q g] := by unfold namG; rw [List.range_succ, List.map_append]; rfl
theorem namG_at (q : Nat → Sq) {g k : Nat} (h : k < g) : (namG q g).getD k sT.dflt = q k := by
  unfold namG
  rw [List.getD_eq_getElem?_getD, List.getElem?_map, List.getElem?_range h]; rfl
def ownC : PCtr := fun _ rg lr vals k => match vals with
  | [.row i] => rowC iT1 (rg i) fun xs => List.length (α := Int) xs ≤ 1000 ∧ ∀ ys : List Int, ys = xs → k [⟨iT1, 2, true, ys⟩] (.row lr)
  | _ => False
theorem own_ok : PCtrOk Try.prog 69 ownC where
  enter := enter_ok Try.func69 (by kernel_rfl) rfl
  calls := by
    intro hg rg lr vals k h
    unfold ownC at h
    split at h
    case h_2 => exact h.elim
    rename_i i
    obtain ⟨e, own, xs, hi, h⟩ : ∃ e own, ∃ (xs : List Int), _ := rowC_inv h
    obtain ⟨hl, hk⟩ := h
    replace hk := hk _ rfl
    refine ⟨_, _, hk, fun A w hB hR => ?_⟩
    refine enter T_ok .nil Try.func69 rfl (K := (· < w.heap.size)) (fun _ h => h) (A := A.pick [] [i]) (vals := [.row 0]) (n0 := 0) (b0 := 0) (rows := [some ⟨iT1, e, false, xs⟩]) (hp := []) rfl (Nat.zero_le _) no_box rfl (one_row (hR i _ hi)) rfl rfl (Nat.le_of_ble_eq_true rfl) ?_
    conv => whnf
    repeat (refine V_step T_ok .nil rfl ?_; conv => whnf)
    have hb8 : (ti2.bytes : Int) = 8 := rfl
    have hap : ((@List.length Int [] : Int) + (List.length (α := Int) xs : Int) ≤ 9223372036854775807 ∧ ((@List.length Int [] : Int) + (List.length (α := Int) xs : Int)) * (ti2.bytes : Int) ≤ 140737488355328) := by
      rw [hb8]; simp only [List.length_nil]; omega
    repeat (any_goals (first
      | (refine V_step T_ok .nil rfl ?_; conv => whnf)
      | (refine V_drawA T_ok .nil mixed (by kernel_rfl) ?_; conv => whnf)
      | (refine bcond_split (fun hc => ?_) (fun hc => ?_) <;> (try simp only [decide_eq_true_eq, decide_eq_false_iff_not, Bool.not_eq_true', Bool.not_eq_false', Bool.and_eq_true, Bool.or_eq_true, Bool.and_eq_false_imp, Bool.or_eq_false_iff, ne_eq, Decidable.not_not] at hc) <;> conv => whnf)
      | (intro ysK hysK; have hysl := congrArg List.length hysK; (try simp only [List.length_set, List.length_append, List.length_cons, List.length_nil, List.length_take, List.length_drop, List.length_replicate] at hysl); conv => whnf)
      | (intro bK hbK; have hbl := congrArg ByteArray.size hbK; conv => whnf)
      | (intro sK hsK; conv => whnf)
      | (refine And.intro (by first | (first | exact True.intro | exact hap | omega | (simp only [Rng]; omega)) | exact True.intro | exact ⟨rfl, True.intro, fun _ _ => rfl⟩ | exact Nat.le_of_ble_eq_true rfl | (refine ⟨by (try simp only [List.length_cons, List.length_nil]); omega, Int.le_trans (Int.mul_le_mul_of_nonneg_left (show (TInfo.bytes _ : Int) ≤ 64 from Int.ofNat_le.2 (Nat.le_of_ble_eq_true rfl)) (by omega)) (by (try simp only [List.length_cons, List.length_nil]); omega)⟩)) ?_; conv => whnf)))
    all_goals exact leaf1 2 rfl rfl (congrArg (fun ys => (⟨iT1, 2, true, ys⟩ : Row)) (show ysK = xs from hysK)) rfl (fun B C h => by simp [AVal.den, h])
def itsC : PCtr := fun _ _ lr vals k => match vals with
  | [.agg [.int .i64 a, .int .i64 b], .int .i64 n, .int .i64 s] => ((IsA (a, b) ∧ OkN n) ∧ (s = 1 ∨ s = -1)) ∧ ∀ ys : List Sq, ys = namG (qI (a, b) n s) n.toNat → k [⟨sT, 95, true, ys⟩] (.tup [.row lr, .bool true])
  | _ => False
abbrev GIs2 := (GOk.cons sOf_ok (GOk.cons sIt_ok .nil))
theorem its_ok : PCtrOk Try.prog 54 itsC where
  enter := enter_ok Try.func54 (by kernel_rfl) rfl
  calls := by
    intro hg rg lr vals k h
    unfold itsC at h
    split at h
    case h_2 => exact h.elim
    rename_i a b n s
    obtain ⟨⟨⟨ht, hn1, hn2⟩, hs⟩, hk⟩ := h
    replace hk := hk _ rfl
    refine ⟨_, _, hk, fun A w _ _ => ?_⟩
    refine enter T_ok GIs2 Try.func54 rfl (K := (· < w.heap.size)) (fun _ h => h) (A := A) (n0 := 0) (b0 := 0) (rows := []) (hp := []) rfl (Nat.zero_le _) (fun k r h => by cases h) rfl (fun k r h => by cases h) rfl rfl (Nat.le_of_ble_eq_true rfl) ?_
    conv => whnf
    repeat (refine V_step T_ok GIs2 rfl ?_; conv => whnf)
    obtain ⟨N, rfl⟩ : ∃ N : Nat, n = (N : Int) := ⟨n.toNat, by omega⟩
    have hb32 : (ti95.bytes : Int) = 32 := rfl
    repeat (any_goals (first
      | (refine V_step T_ok GIs2 rfl ?_; conv => whnf)
      | (refine V_drawA T_ok GIs2 mixed (by kernel_rfl) ?_; conv => whnf)
      | (refine bcond_split (fun hc => ?_) (fun hc => ?_) <;> (try simp only [decide_eq_true_eq, decide_eq_false_iff_not, Bool.not_eq_true', Bool.not_eq_false', Bool.and_eq_true, Bool.or_eq_true, Bool.and_eq_false_imp, Bool.or_eq_false_iff, ne_eq, Decidable.not_not] at hc) <;> conv => whnf)
      | (intro ysK hysK; have hysl := congrArg List.length hysK; (try simp only [List.length_set, List.length_append, List.length_cons, List.length_nil, List.length_take, List.length_drop, List.length_replicate] at hysl); conv => whnf)
      | (intro bK hbK; have hbl := congrArg ByteArray.size hbK; conv => whnf)
      | (intro sK hsK; conv => whnf)
      | (refine And.intro (by first | (first | exact True.intro | omega) | exact True.intro | exact ⟨rfl, True.intro, fun _ _ => rfl⟩ | exact Nat.le_of_ble_eq_true rfl | (refine ⟨by (try simp only [List.length_cons, List.length_nil]); omega, Int.le_trans (Int.mul_le_mul_of_nonneg_left (show (TInfo.bytes _ : Int) ≤ 64 from Int.ofNat_le.2 (Nat.le_of_ble_eq_true rfl)) (by omega)) (by (try simp only [List.length_cons, List.length_nil]); omega)⟩)) ?_; conv => whnf)))
    refine V_loopH (γ := Nat) (fun g => g ≤ N) (fun g => N - g) (fun g => [(9, .int .i64 g), (8, .row 0), (12, .junk)]) (fun _ => []) (fun g => [(0, some ⟨sT, 95, true, namG (qI (a, b) N s) g⟩)]) 0 (Nat.zero_le _) ?_ ?_
    · conv => whnf
      refine ⟨?_, by (conv => whnf); repeat (first | exact True.intro | (refine And.intro rfl ?_; conv => whnf)), by (conv => whnf); repeat (first | exact True.intro | (refine And.intro (by first | rfl | (subst_vars; rfl)) ?_; conv => whnf)), rfl, rfl, rfl, rfl, rfl, rfl, rfl, Nat.le_of_ble_eq_true rfl, Nat.le_of_ble_eq_true rfl⟩
      conv => whnf
      repeat (first | exact True.intro | (refine And.intro (by first | rfl | ((conv => whnf); exact congrArg (AVal.int .i64) (by omega)) | ((conv => whnf); exact congrArg (AVal.int .i64) (by simp only [Int.natCast_add, Int.natCast_one]; omega)) | ((conv => whnf); exact congrArg (AVal.irow _) (by first | omega | assumption | (simp only; omega)))) ?_; conv => whnf))
    · rintro g hg
      have hln := namG_len (qI (a, b) N s) g
      have hpa := part_isA (s * g) N hn1 hn2
      have hsi : -63 ≤ s * (g : Int) ∧ s * (g : Int) ≤ 63 := by rcases hs with rfl | rfl <;> omega
      have hr1 : Rng .i64 (s * (g : Int)) := by simp only [Rng]; omega
      have hr2 : (0 < (N : Int) ∧ (N : Int) ≤ 4611686018427387904) ∧ (-4611686018427387904 ≤ s * (g : Int) ∧ s * (g : Int) ≤ 4611686018427387904) := by omega
      conv => whnf
      refine vcCode_sound T_ok GIs2 _ _ _ _ _ ?_
      conv => whnf
      repeat (refine V_step T_ok GIs2 rfl ?_; conv => whnf)
      repeat (any_goals (first
        | (refine V_step T_ok GIs2 rfl ?_; conv => whnf)
        | (refine V_drawN T_ok GIs2 mixed (by kernel_rfl) ?_; conv => whnf)
        | (refine bcond_split (fun hc => ?_) (fun hc => ?_) <;> (try simp only [decide_eq_true_eq, decide_eq_false_iff_not, Bool.not_eq_true', Bool.not_eq_false', Bool.and_eq_true, Bool.or_eq_true, Bool.and_eq_false_imp, Bool.or_eq_false_iff, ne_eq, Decidable.not_not] at hc) <;> conv => whnf)
        | (intro ysK hysK; have hysl := congrArg List.length hysK; (try simp only [List.length_set, List.length_append, List.length_cons, List.length_nil, List.length_take, List.length_drop, List.length_replicate] at hysl); conv => whnf)
        | (intro bK hbK; have hbl := congrArg ByteArray.size hbK; conv => whnf)
        | (intro sK hsK; conv => whnf)
        | (refine And.intro (by first | (first | exact True.intro | with_reducible exact hr1 | with_reducible exact hr2 | with_reducible exact ⟨hpa.1, ht⟩ | omega | exact hapI (by rw [hb32]; omega) (by rw [hb32]; omega) _ _ (by rw [hln]; omega) (by simp only [List.length_cons, List.length_nil]; omega) | (simp only [Rng]; omega)) | exact True.intro | exact ⟨rfl, True.intro, fun _ _ => rfl⟩ | exact Nat.le_of_ble_eq_true rfl | (refine ⟨by (try simp only [List.length_cons, List.length_nil]); omega, Int.le_trans (Int.mul_le_mul_of_nonneg_left (show (TInfo.bytes _ : Int) ≤ 64 from Int.ofNat_le.2 (Nat.le_of_ble_eq_true rfl)) (by omega)) (by (try simp only [List.length_cons, List.length_nil]); omega)⟩)) ?_; conv => whnf)))
      · have hb := hpa.2
        have hc' : orbB (ofQ (s * (g : Int)) N) = false := hc
        rw [hb] at hc'; cases hc'
      · have hgN : g < N := by omega
        have hq : sK = qI (a, b) N s g := hsK
        have hy : ysK = namG (qI (a, b) N s) (g + 1) := by
          rw [namG_next, ← hq]; exact hysK
        clear hysK hysl
        subst hy
        refine ⟨g + 1, by omega, by omega, ?_⟩
        conv => whnf
        refine ⟨?_, by (conv => whnf); repeat (first | exact True.intro | (refine And.intro rfl ?_; conv => whnf)), by (conv => whnf); repeat (first | exact True.intro | (refine And.intro (by first | rfl | (subst_vars; rfl)) ?_; conv => whnf)), rfl, rfl, rfl, rfl, rfl, rfl, rfl, Nat.le_of_ble_eq_true rfl, Nat.le_of_ble_eq_true rfl⟩
        conv => whnf
        repeat (first | exact True.intro | (refine And.intro (by first | rfl | ((conv => whnf); exact congrArg (AVal.int .i64) (by omega)) | ((conv => whnf); exact congrArg (AVal.int .i64) (by simp only [Int.natCast_add, Int.natCast_one]; omega)) | ((conv => whnf); exact congrArg (AVal.irow _) (by first | omega | assumption | (simp only; omega)))) ?_; conv => whnf))
      · obtain rfl : N = g := by omega
        exact leaf1 0 rfl rfl (congrArg (fun ys => (⟨sT, 95, true, ys⟩ : Row)) (by rw [Int.toNat_natCast])) rfl (fun B C h => by simp [AVal.den, dens, h])
def joinLC : PCtr := fun _ rg lr vals k => match vals with
  | [.row i, .row j] => rowC iT1 (rg i) fun c0 => rowC sT (rg j) fun qs => (Can (List.length (α := Sq) qs) c0 ∧ List.length (α := Sq) qs ≤ 63) ∧ ∀ ys : List Int, ys = canR (List.length (α := Sq) qs) c0 (fun k => List.getD (α := Sq) qs k sT.dflt) → k [⟨iT1, 2, true, ys⟩] (.row lr)
  | _ => False
theorem joinL_ok : PCtrOk Try.prog 55 joinLC where
  enter := enter_ok Try.func55 (by kernel_rfl) rfl
  calls := by
    intro hg rg lr vals k h
    unfold joinLC at h
    split at h
    case h_2 => exact h.elim
    rename_i i j
    obtain ⟨e, own, c0, hi, h⟩ : ∃ e own, ∃ (xs : List Int), _ := rowC_inv h
    obtain ⟨e2, own2, qs, hj, h⟩ : ∃ e own, ∃ (xs : List Sq), _ := rowC_inv h
    obtain ⟨⟨hcan, h63⟩, hk⟩ := h
    replace hk := hk _ rfl
    refine ⟨_, _, hk, fun A w hB hR => ?_⟩
    refine enter T_ok (GOk.cons own_ok .nil) Try.func55 rfl (K := (· < w.heap.size)) (fun _ h => h) (A := A.pick [] [i, j]) (vals := [.row 0, .row 1]) (n0 := 0) (b0 := 0) (rows := [some ⟨iT1, e, false, c0⟩, some ⟨sT, e2, false, qs⟩]) (hp := []) rfl (Nat.zero_le _) no_box rfl (two_rows (hR i _ hi) (hR j _ hj)) rfl rfl (Nat.le_of_ble_eq_true rfl) ?_
    conv => whnf
    repeat (refine V_step T_ok (GOk.cons own_ok .nil) rfl ?_; conv => whnf)
    obtain ⟨N, hN⟩ : ∃ N, List.length (α := Sq) qs = N := ⟨_, rfl⟩
    have hNl : (List.length (α := TyC.α sT) qs : Int) = N := by rw [show List.length (α := TyC.α sT) qs = N from hN]
    obtain ⟨q, hq⟩ : ∃ q : Nat → Sq, q = fun k => List.getD (α := Sq) qs k sT.dflt := ⟨_, rfl⟩
    rw [hN] at hcan h63
    have hc1 : List.length (α := Int) c0 ≤ 1000 := by have := hcan.len; omega
    repeat (any_goals (first
      | (refine V_step T_ok (GOk.cons own_ok .nil) rfl ?_; conv => whnf)
      | (refine V_drawA T_ok (GOk.cons own_ok .nil) mixed (by kernel_rfl) ?_; conv => whnf)
      | (refine bcond_split (fun hc => ?_) (fun hc => ?_) <;> (try simp only [decide_eq_true_eq, decide_eq_false_iff_not, Bool.not_eq_true', Bool.not_eq_false', Bool.and_eq_true, Bool.or_eq_true, Bool.and_eq_false_imp, Bool.or_eq_false_iff, ne_eq, Decidable.not_not] at hc) <;> conv => whnf)
      | (intro ysK hysK; have hysl := congrArg List.length hysK; (try simp only [List.length_set, List.length_append, List.length_cons, List.length_nil, List.length_take, List.length_drop, List.length_replicate] at hysl); conv => whnf)
      | (intro bK hbK; have hbl := congrArg ByteArray.size hbK; conv => whnf)
      | (intro sK hsK; conv => whnf)
      | (refine And.intro (by first | (first | exact True.intro | exact hc1 | omega) | exact True.intro | exact ⟨rfl, True.intro, fun _ _ => rfl⟩ | exact Nat.le_of_ble_eq_true rfl | (refine ⟨by (try simp only [List.length_cons, List.length_nil]); omega, Int.le_trans (Int.mul_le_mul_of_nonneg_left (show (TInfo.bytes _ : Int) ≤ 64 from Int.ofNat_le.2 (Nat.le_of_ble_eq_true rfl)) (by omega)) (by (try simp only [List.length_cons, List.length_nil]); omega)⟩)) ?_; conv => whnf)))
    have e0 : ysK = c0 := hysK
    clear hysK hysl
    subst e0
    refine V_loopH (γ := Nat × List Int) (fun g => g.1 ≤ N ∧ StS N ysK q g.1 (g.1 + 1) g.2) (fun g => N - g.1) (fun g => [(6, .int .i64 g.1)]) (fun _ => []) (fun g => [(2, some ⟨iT1, 2, true, g.2⟩)]) (0, ysK) ⟨Nat.zero_le _, StS.start q hcan⟩ ?_ ?_
    · conv => whnf
      refine ⟨?_, by (conv => whnf); repeat (first | exact True.intro | (refine And.intro rfl ?_; conv => whnf)), by (conv => whnf); repeat (first | exact True.intro | (refine And.intro (by first | rfl | (subst_vars; rfl)) ?_; conv => whnf)), rfl, rfl, rfl, rfl, rfl, rfl, rfl, Nat.le_of_ble_eq_true rfl, Nat.le_of_ble_eq_true rfl⟩
      conv => whnf
      repeat (first | exact True.intro | (refine And.intro (by first | rfl | ((conv => whnf); exact congrArg (AVal.int .i64) (by omega)) | ((conv => whnf); exact congrArg (AVal.int .i64) (by simp only [Int.natCast_add, Int.natCast_one]; omega)) | ((conv => whnf); exact congrArg (AVal.irow _) (by first | omega | assumption | (simp only; omega)))) ?_; conv => whnf))
    · rintro ⟨k0, c⟩ ⟨hk0, hP⟩
      simp only at hk0 hP
      conv => whnf
      refine vcCode_sound T_ok (GOk.cons own_ok .nil) _ _ _ _ _ ?_
      conv => whnf
      repeat (refine V_step T_ok (GOk.cons own_ok .nil) rfl ?_; conv => whnf)
      repeat (any_goals (first
        | (refine V_step T_ok (GOk.cons own_ok .nil) rfl ?_; conv => whnf)
        | (refine V_drawA T_ok (GOk.cons own_ok .nil) mixed (by kernel_rfl) ?_; conv => whnf)
        | (refine bcond_split (fun hc => ?_) (fun hc => ?_) <;> (try simp only [decide_eq_true_eq, decide_eq_false_iff_not, Bool.not_eq_true', Bool.not_eq_false', Bool.and_eq_true, Bool.or_eq_true, Bool.and_eq_false_imp, Bool.or_eq_false_iff, ne_eq, Decidable.not_not] at hc) <;> conv => whnf)
        | (intro ysK hysK; have hysl := congrArg List.length hysK; (try simp only [List.length_set, List.length_append, List.length_cons, List.length_nil, List.length_take, List.length_drop, List.length_replicate] at hysl); conv => whnf)
        | (intro bK hbK; have hbl := congrArg ByteArray.size hbK; conv => whnf)
        | (intro sK hsK; conv => whnf)
        | (refine And.intro (by first | (first | exact True.intro | omega | (simp only [Rng]; omega)) | exact True.intro | exact ⟨rfl, True.intro, fun _ _ => rfl⟩ | exact Nat.le_of_ble_eq_true rfl | (refine ⟨by (try simp only [List.length_cons, List.length_nil]); omega, Int.le_trans (Int.mul_le_mul_of_nonneg_left (show (TInfo.bytes _ : Int) ≤ 64 from Int.ofNat_le.2 (Nat.le_of_ble_eq_true rfl)) (by omega)) (by (try simp only [List.length_cons, List.length_nil]); omega)⟩)) ?_; conv => whnf)))
      · have hkN : k0 < N := by omega
        refine V_loopH (γ := Nat × List Int) (fun g => (k0 + 1 ≤ g.1 ∧ g.1 ≤ N) ∧ StS N ysK q k0 g.1 g.2) (fun g => N - g.1) (fun g => [(7, .int .i64 g.1)]) (fun _ => []) (fun g => [(2, some ⟨iT1, 2, true, g.2⟩)]) (k0 + 1, c) ⟨⟨Nat.le_refl _, hkN⟩, hP⟩ ?_ ?_
        · conv => whnf
          refine ⟨?_, by (conv => whnf); repeat (first | exact True.intro | (refine And.intro rfl ?_; conv => whnf)), by (conv => whnf); repeat (first | exact True.intro | (refine And.intro (by first | rfl | (subst_vars; rfl)) ?_; conv => whnf)), rfl, rfl, rfl, rfl, rfl, rfl, rfl, Nat.le_of_ble_eq_true rfl, Nat.le_of_ble_eq_true rfl⟩
          conv => whnf
          repeat (first | exact True.intro | (refine And.intro (by first | rfl | ((conv => whnf); exact congrArg (AVal.int .i64) (by omega)) | ((conv => whnf); exact congrArg (AVal.int .i64) (by simp only [Int.natCast_add, Int.natCast_one]; omega)) | ((conv => whnf); exact congrArg (AVal.irow _) (by first | omega | assumption | (simp only; omega)))) ?_; conv => whnf))
        · rintro ⟨l, c⟩ ⟨⟨hl0, hlN⟩, hP⟩
          simp only at hl0 hlN hP
          have hcl := hP.can.len
          have hcl' : (List.length (α := Int) c : Int) = N := by rw [hcl]
          have hq0 : q k0 = List.getD (α := Sq) qs (k0 : Int).toNat sT.dflt := by rw [hq]; rfl
          have hql : q l = List.getD (α := Sq) qs (l : Int).toNat sT.dflt := by rw [hq]; rfl
          conv => whnf
          refine vcCode_sound T_ok (GOk.cons own_ok .nil) _ _ _ _ _ ?_
          conv => whnf
          repeat (refine V_step T_ok (GOk.cons own_ok .nil) rfl ?_; conv => whnf)
          repeat (any_goals (first
            | (refine V_step T_ok (GOk.cons own_ok .nil) rfl ?_; conv => whnf)
            | (refine V_drawA T_ok (GOk.cons own_ok .nil) mixed (by kernel_rfl) ?_; conv => whnf)
            | (refine bcond_split (fun hc => ?_) (fun hc => ?_) <;> (try simp only [decide_eq_true_eq, decide_eq_false_iff_not, Bool.not_eq_true', Bool.not_eq_false', Bool.and_eq_true, Bool.or_eq_true, Bool.and_eq_false_imp, Bool.or_eq_false_iff, ne_eq, Decidable.not_not] at hc) <;> conv => whnf)
            | (intro ysK hysK; have hysl := congrArg List.length hysK; (try simp only [List.length_set, List.length_append, List.length_cons, List.length_nil, List.length_take, List.length_drop, List.length_replicate] at hysl); conv => whnf)
            | (intro bK hbK; have hbl := congrArg ByteArray.size hbK; conv => whnf)
            | (intro sK hsK; conv => whnf)
            | (refine And.intro (by first | (first | exact True.intro | omega | (simp only [Rng]; omega)) | exact True.intro | exact ⟨rfl, True.intro, fun _ _ => rfl⟩ | exact Nat.le_of_ble_eq_true rfl | (refine ⟨by (try simp only [List.length_cons, List.length_nil]); omega, Int.le_trans (Int.mul_le_mul_of_nonneg_left (show (TInfo.bytes _ : Int) ≤ 64 from Int.ofNat_le.2 (Nat.le_of_ble_eq_true rfl)) (by omega)) (by (try simp only [List.length_cons, List.length_nil]); omega)⟩)) ?_; conv => whnf)))
          · have hlt : l < N := by omega
            refine ⟨(l + 1, c), ⟨⟨by simp only; omega, by simp only; omega⟩, hP.skip (.inl fun e => by
              rw [hq0, hql] at e
              exact hc (by rw [e]) (by rw [e]))⟩, by simp only; omega, ?_⟩
            conv => whnf
            refine ⟨?_, by (conv => whnf); repeat (first | exact True.intro | (refine And.intro rfl ?_; conv => whnf)), by (conv => whnf); repeat (first | exact True.intro | (refine And.intro (by first | rfl | (subst_vars; rfl)) ?_; conv => whnf)), rfl, rfl, rfl, rfl, rfl, rfl, rfl, Nat.le_of_ble_eq_true rfl, Nat.le_of_ble_eq_true rfl⟩
            conv => whnf
            repeat (first | exact True.intro | (refine And.intro (by first | rfl | ((conv => whnf); exact congrArg (AVal.int .i64) (by omega)) | ((conv => whnf); exact congrArg (AVal.int .i64) (by simp only [Int.natCast_add, Int.natCast_one]; omega)) | ((conv => whnf); exact congrArg (AVal.irow _) (by first | omega | assumption | (simp only; omega)))) ?_; conv => whnf))
          · have hlt : l < N := by omega
            refine ⟨(l + 1, c), ⟨⟨by simp only; omega, by simp only; omega⟩, hP.skip (.inr hc)⟩, by simp only; omega, ?_⟩
            conv => whnf
            refine ⟨?_, by (conv => whnf); repeat (first | exact True.intro | (refine And.intro rfl ?_; conv => whnf)), by (conv => whnf); repeat (first | exact True.intro | (refine And.intro (by first | rfl | (subst_vars; rfl)) ?_; conv => whnf)), rfl, rfl, rfl, rfl, rfl, rfl, rfl, Nat.le_of_ble_eq_true rfl, Nat.le_of_ble_eq_true rfl⟩
            conv => whnf
            repeat (first | exact True.intro | (refine And.intro (by first | rfl | ((conv => whnf); exact congrArg (AVal.int .i64) (by omega)) | ((conv => whnf); exact congrArg (AVal.int .i64) (by simp only [Int.natCast_add, Int.natCast_one]; omega)) | ((conv => whnf); exact congrArg (AVal.irow _) (by first | omega | assumption | (simp only; omega)))) ?_; conv => whnf))
          · have hlt : l < N := by omega
            have heq : q k0 = q l := by
              rw [hq0, hql]
              rename_i hpr
              exact Prod.ext hpr.1 hpr.2
            refine V_loopH (γ := Nat × List Int) (fun g => g.1 ≤ N ∧ g.2 = mrgG c (min (lab c k0) (lab c l)) (max (lab c k0) (lab c l)) g.1) (fun g => N - g.1)
              (fun g => [(10, .int .i64 g.1)]) (fun _ => []) (fun g => [(2, some ⟨iT1, 2, true, g.2⟩)]) (0, c) ⟨Nat.zero_le _, (mrgG_zero _ _ _).symm⟩ ?_ ?_
            · conv => whnf
              refine ⟨?_, by (conv => whnf); repeat (first | exact True.intro | (refine And.intro rfl ?_; conv => whnf)), by (conv => whnf); repeat (first | exact True.intro | (refine And.intro (by first | rfl | (subst_vars; rfl)) ?_; conv => whnf)), rfl, rfl, rfl, rfl, rfl, rfl, rfl, Nat.le_of_ble_eq_true rfl, Nat.le_of_ble_eq_true rfl⟩
              conv => whnf
              repeat (first | exact True.intro | (refine And.intro (by first | rfl | ((conv => whnf); exact congrArg (AVal.int .i64) (by omega)) | ((conv => whnf); exact congrArg (AVal.int .i64) (by simp only [Int.natCast_add, Int.natCast_one]; omega)) | ((conv => whnf); exact congrArg (AVal.irow _) (by first | omega | assumption | (simp only; omega)))) ?_; conv => whnf))
            · rintro ⟨i1, d⟩ ⟨hi1, hd⟩
              simp only at hi1 hd
              have hdl : (List.length (α := Int) d : Int) = N := by rw [hd, mrgG_len, hcl]
              conv => whnf
              refine vcCode_sound T_ok (GOk.cons own_ok .nil) _ _ _ _ _ ?_
              conv => whnf
              repeat (refine V_step T_ok (GOk.cons own_ok .nil) rfl ?_; conv => whnf)
              repeat (any_goals (first
                | (refine V_step T_ok (GOk.cons own_ok .nil) rfl ?_; conv => whnf)
                | (refine V_drawA T_ok (GOk.cons own_ok .nil) mixed (by kernel_rfl) ?_; conv => whnf)
                | (refine bcond_split (fun hc => ?_) (fun hc => ?_) <;> (try simp only [decide_eq_true_eq, decide_eq_false_iff_not, Bool.not_eq_true', Bool.not_eq_false', Bool.and_eq_true, Bool.or_eq_true, Bool.and_eq_false_imp, Bool.or_eq_false_iff, ne_eq, Decidable.not_not] at hc) <;> conv => whnf)
                | (intro ysK hysK; have hysl := congrArg List.length hysK; (try simp only [List.length_set, List.length_append, List.length_cons, List.length_nil, List.length_take, List.length_drop, List.length_replicate] at hysl); conv => whnf)
                | (intro bK hbK; have hbl := congrArg ByteArray.size hbK; conv => whnf)
                | (intro sK hsK; conv => whnf)
                | (refine And.intro (by first | (first | exact True.intro | omega | (simp only [Rng]; omega)) | exact True.intro | exact ⟨rfl, True.intro, fun _ _ => rfl⟩ | exact Nat.le_of_ble_eq_true rfl | (refine ⟨by (try simp only [List.length_cons, List.length_nil]); omega, Int.le_trans (Int.mul_le_mul_of_nonneg_left (show (TInfo.bytes _ : Int) ≤ 64 from Int.ofNat_le.2 (Nat.le_of_ble_eq_true rfl)) (by omega)) (by (try simp only [List.length_cons, List.length_nil]); omega)⟩)) ?_; conv => whnf)))
              · have hiN : i1 < N := by omega
                have h1 : lab d i1 = max (lab c k0) (lab c l) := hc.trans (mx_eq _ _)
                have h2 : lab c i1 = max (lab c k0) (lab c l) := by
                  rw [← h1, hd]
                  have := mrgG_at (c := c) (a := min (lab c k0) (lab c l)) (b := max (lab c k0) (lab c l)) (g := i1) (i := i1) (by omega)
                  rw [if_neg (by omega)] at this
                  exact this.symm
                have hy : ysK = mrgG c (min (lab c k0) (lab c l)) (max (lab c k0) (lab c l)) (i1 + 1) := by
                  rw [← mrgG_set (by omega) h2, ← hd]
                  exact hysK.trans (congrArg (List.set d i1) (mn_eq _ _))
                clear hysK
                refine ⟨(i1 + 1, ysK), ⟨by simp only; omega, hy⟩, by simp only; omega, ?_⟩
                conv => whnf
                refine ⟨?_, by (conv => whnf); repeat (first | exact True.intro | (refine And.intro rfl ?_; conv => whnf)), by (conv => whnf); repeat (first | exact True.intro | (refine And.intro (by first | rfl | (subst_vars; rfl)) ?_; conv => whnf)), rfl, rfl, rfl, rfl, rfl, rfl, rfl, Nat.le_of_ble_eq_true rfl, Nat.le_of_ble_eq_true rfl⟩
                conv => whnf
                repeat (first | exact True.intro | (refine And.intro (by first | rfl | ((conv => whnf); exact congrArg (AVal.int .i64) (by omega)) | ((conv => whnf); exact congrArg (AVal.int .i64) (by simp only [Int.natCast_add, Int.natCast_one]; omega)) | ((conv => whnf); exact congrArg (AVal.irow _) (by first | omega | assumption | (simp only; omega)))) ?_; conv => whnf))
              · have hiN : i1 < N := by omega
                have h2 : lab c i1 ≠ max (lab c k0) (lab c l) := fun e => hc (by
                  have h3 : lab d i1 = max (lab c k0) (lab c l) := by
                    rw [hd]
                    have := mrgG_at (c := c) (a := min (lab c k0) (lab c l)) (b := max (lab c k0) (lab c l)) (g := i1) (i := i1) (by omega)
                    rw [if_neg (by omega)] at this
                    exact this.trans e
                  exact h3.trans (mx_eq _ _).symm)
                refine ⟨(i1 + 1, d), ⟨by simp only; omega, by simp only; rw [hd]; exact mrgG_skip (by omega) h2⟩, by simp only; omega, ?_⟩
                conv => whnf
                refine ⟨?_, by (conv => whnf); repeat (first | exact True.intro | (refine And.intro rfl ?_; conv => whnf)), by (conv => whnf); repeat (first | exact True.intro | (refine And.intro (by first | rfl | (subst_vars; rfl)) ?_; conv => whnf)), rfl, rfl, rfl, rfl, rfl, rfl, rfl, Nat.le_of_ble_eq_true rfl, Nat.le_of_ble_eq_true rfl⟩
                conv => whnf
                repeat (first | exact True.intro | (refine And.intro (by first | rfl | ((conv => whnf); exact congrArg (AVal.int .i64) (by omega)) | ((conv => whnf); exact congrArg (AVal.int .i64) (by simp only [Int.natCast_add, Int.natCast_one]; omega)) | ((conv => whnf); exact congrArg (AVal.irow _) (by first | omega | assumption | (simp only; omega)))) ?_; conv => whnf))
              · have hiN : i1 = c.length := by omega
                have hd2 : d = c.map (mrg (min (lab c k0) (lab c l)) (max (lab c k0) (lab c l))) := by rw [hd, hiN, mrgG_all]
                refine ⟨(l + 1, d), ⟨⟨by simp only; omega, by simp only; omega⟩, by simp only; rw [hd2]; exact hP.join (by omega) hlt heq⟩, by simp only; omega, ?_⟩
                conv => whnf
                refine ⟨?_, by (conv => whnf); repeat (first | exact True.intro | (refine And.intro rfl ?_; conv => whnf)), by (conv => whnf); repeat (first | exact True.intro | (refine And.intro (by first | rfl | (subst_vars; rfl)) ?_; conv => whnf)), rfl, rfl, rfl, rfl, rfl, rfl, rfl, Nat.le_of_ble_eq_true rfl, Nat.le_of_ble_eq_true rfl⟩
                conv => whnf
                repeat (first | exact True.intro | (refine And.intro (by first | rfl | ((conv => whnf); exact congrArg (AVal.int .i64) (by omega)) | ((conv => whnf); exact congrArg (AVal.int .i64) (by simp only [Int.natCast_add, Int.natCast_one]; omega)) | ((conv => whnf); exact congrArg (AVal.irow _) (by first | omega | assumption | (simp only; omega)))) ?_; conv => whnf))
          · have hlt : l = N := by omega
            subst hlt
            refine ⟨(k0 + 1, c), ⟨by simp only; omega, hP.next⟩, by simp only; omega, ?_⟩
            conv => whnf
            refine ⟨?_, by (conv => whnf); repeat (first | exact True.intro | (refine And.intro rfl ?_; conv => whnf)), by (conv => whnf); repeat (first | exact True.intro | (refine And.intro (by first | rfl | (subst_vars; rfl)) ?_; conv => whnf)), rfl, rfl, rfl, rfl, rfl, rfl, rfl, Nat.le_of_ble_eq_true rfl, Nat.le_of_ble_eq_true rfl⟩
            conv => whnf
            repeat (first | exact True.intro | (refine And.intro (by first | rfl | ((conv => whnf); exact congrArg (AVal.int .i64) (by omega)) | ((conv => whnf); exact congrArg (AVal.int .i64) (by simp only [Int.natCast_add, Int.natCast_one]; omega)) | ((conv => whnf); exact congrArg (AVal.irow _) (by first | omega | assumption | (simp only; omega)))) ?_; conv => whnf))
      · have hkN : k0 = N := by omega
        subst hkN
        have hd := hP.done
        refine leaf1 2 rfl rfl (congrArg (fun ys => (⟨iT1, 2, true, ys⟩ : Row)) ?_) rfl (fun B C h => by simp [AVal.den, h])
        rw [hd, hq, hN]
end Go.Proofs.Ytllagpbbbdekiac.Fw
