/- Contracts: the cycles of the classes, the program. -/
import Derived.Test.YtllagpbbbdekiacTB
namespace Go.Proofs.Ytllagpbbbdekiac.Fw
open Go Go.RowKit
set_option linter.unusedVariables false
set_option linter.unusedSimpArgs false
set_option maxRecDepth 100000
set_option maxHeartbeats 2000000
def lenJC : PCtr := fun _ rg _ vals k => match vals with
  | [.row i] => rowC iT1 (rg i) fun xs => True ∧ k [] (.int .i64 (List.length (α := Int) xs))
  | _ => False
theorem lenJ_ok : PCtrOk Try.prog 42 lenJC where
  enter := enter_ok Try.func42 (by kernel_rfl) rfl
  calls := by
    intro hg rg lr vals k h
    unfold lenJC at h
    split at h
    case h_2 => exact h.elim
    rename_i i
    obtain ⟨e, own, xs, hi, h⟩ : ∃ e own, ∃ (xs : List Int), _ := rowC_inv h
    have hk := h.2
    refine ⟨_, _, hk, fun A w hB hR => ?_⟩
    refine enter T_ok .nil Try.func42 rfl (K := (· < w.heap.size)) (fun _ h => h) (A := A.pick [] [i]) (vals := [.row 0]) (n0 := 0) (b0 := 0) (rows := [some ⟨iT1, e, false, xs⟩]) (hp := []) rfl (Nat.zero_le _) no_box rfl (one_row (hR i _ hi)) rfl rfl (Nat.le_of_ble_eq_true rfl) ?_
    conv => whnf
    repeat (refine V_step T_ok .nil rfl ?_; conv => whnf)
    all_goals exact leaf0 rfl rfl rfl
def minIC : PCtr := fun _ rg _ vals k => match vals with
  | [.row i] => rowC iT1 (rg i) fun xs => (0 < List.length (α := Int) xs ∧ List.length (α := Int) xs ≤ 1000) ∧ k [] (.int .i64 (minP xs (List.length (α := Int) xs)))
  | _ => False
theorem minI_ok : PCtrOk Try.prog 45 minIC where
  enter := enter_ok Try.func45 (by kernel_rfl) rfl
  calls := by
    intro hg rg lr vals k h
    unfold minIC at h
    split at h
    case h_2 => exact h.elim
    rename_i i
    obtain ⟨e, own, xs, hi, h⟩ : ∃ e own, ∃ (xs : List Int), _ := rowC_inv h
    obtain ⟨⟨h0, hl⟩, hk⟩ := h
    refine ⟨_, _, hk, fun A w hB hR => ?_⟩
    refine enter T_ok .nil Try.func45 rfl (K := (· < w.heap.size)) (fun _ h => h) (A := A.pick [] [i]) (vals := [.row 0]) (n0 := 0) (b0 := 0) (rows := [some ⟨iT1, e, false, xs⟩]) (hp := []) rfl (Nat.zero_le _) no_box rfl (one_row (hR i _ hi)) rfl rfl (Nat.le_of_ble_eq_true rfl) ?_
    conv => whnf
    repeat (refine V_step T_ok .nil rfl ?_; conv => whnf)
    obtain ⟨M, hM⟩ : ∃ M, List.length (α := Int) xs = M := ⟨_, rfl⟩
    have hMl : (List.length (α := TyC.α iT1) xs : Int) = M := by rw [show List.length (α := TyC.α iT1) xs = M from hM]
    rw [hM] at h0 hl
    repeat (any_goals (first
      | (refine V_step T_ok .nil rfl ?_; conv => whnf)
      | (refine V_drawA T_ok .nil mixed (by kernel_rfl) ?_; conv => whnf)
      | (refine bcond_split (fun hc => ?_) (fun hc => ?_) <;> (try simp only [decide_eq_true_eq, decide_eq_false_iff_not, Bool.not_eq_true', Bool.not_eq_false', Bool.and_eq_true, Bool.or_eq_true, Bool.and_eq_false_imp, Bool.or_eq_false_iff, ne_eq, Decidable.not_not] at hc) <;> conv => whnf)
      | (intro ysK hysK; have hysl := congrArg List.length hysK; (try simp only [List.length_set, List.length_append, List.length_cons, List.length_nil, List.length_take, List.length_drop, List.length_replicate] at hysl); conv => whnf)
      | (intro bK hbK; have hbl := congrArg ByteArray.size hbK; conv => whnf)
      | (intro sK hsK; conv => whnf)
      | (refine And.intro (by first | (first | exact True.intro | omega | (simp only [Rng]; omega)) | exact True.intro | exact ⟨rfl, True.intro, fun _ _ => rfl⟩ | exact Nat.le_of_ble_eq_true rfl | (refine ⟨by (try simp only [List.length_cons, List.length_nil]); omega, Int.le_trans (Int.mul_le_mul_of_nonneg_left (show (TInfo.bytes _ : Int) ≤ 64 from Int.ofNat_le.2 (Nat.le_of_ble_eq_true rfl)) (by omega)) (by (try simp only [List.length_cons, List.length_nil]); omega)⟩)) ?_; conv => whnf)))
    · exfalso; omega
    · refine V_loopH (γ := Nat × Int) (fun g => (1 ≤ g.1 ∧ g.1 ≤ M) ∧ g.2 = minP xs g.1) (fun g => M - g.1) (fun g => [(4, .int .i64 g.1), (3, .int .i64 g.2)]) (fun _ => []) (fun _ => []) (1, minP xs 1) ⟨⟨Nat.le_refl _, h0⟩, rfl⟩ ?_ ?_
      · have e1 : minP xs 1 = xs.getD 0 0 := minP_one xs (by rw [hM]; exact h0)
        rw [e1]
        conv => whnf
        refine ⟨?_, by (conv => whnf); repeat (first | exact True.intro | (refine And.intro rfl ?_; conv => whnf)), by (conv => whnf); repeat (first | exact True.intro | (refine And.intro (by first | rfl | (subst_vars; rfl)) ?_; conv => whnf)), rfl, rfl, rfl, rfl, rfl, rfl, rfl, Nat.le_of_ble_eq_true rfl, Nat.le_of_ble_eq_true rfl⟩
        conv => whnf
        repeat (first | exact True.intro | (refine And.intro (by first | rfl | ((conv => whnf); exact congrArg (AVal.int .i64) (by omega)) | ((conv => whnf); exact congrArg (AVal.int .i64) (by simp only [Int.natCast_add, Int.natCast_one]; omega)) | ((conv => whnf); exact congrArg (AVal.irow _) (by first | omega | assumption | (simp only; omega)))) ?_; conv => whnf))
      · rintro ⟨g, m⟩ ⟨⟨hg1, hg⟩, hm⟩
        simp only at hg1 hg hm
        conv => whnf
        refine vcCode_sound T_ok .nil _ _ _ _ _ ?_
        conv => whnf
        repeat (refine V_step T_ok .nil rfl ?_; conv => whnf)
        repeat (any_goals (first
          | (refine V_step T_ok .nil rfl ?_; conv => whnf)
          | (refine V_drawA T_ok .nil mixed (by kernel_rfl) ?_; conv => whnf)
          | (refine bcond_split (fun hc => ?_) (fun hc => ?_) <;> (try simp only [decide_eq_true_eq, decide_eq_false_iff_not, Bool.not_eq_true', Bool.not_eq_false', Bool.and_eq_true, Bool.or_eq_true, Bool.and_eq_false_imp, Bool.or_eq_false_iff, ne_eq, Decidable.not_not] at hc) <;> conv => whnf)
          | (intro ysK hysK; have hysl := congrArg List.length hysK; (try simp only [List.length_set, List.length_append, List.length_cons, List.length_nil, List.length_take, List.length_drop, List.length_replicate] at hysl); conv => whnf)
          | (intro bK hbK; have hbl := congrArg ByteArray.size hbK; conv => whnf)
          | (intro sK hsK; conv => whnf)
          | (refine And.intro (by first | (first | exact True.intro | omega | (simp only [Rng]; omega)) | exact True.intro | exact ⟨rfl, True.intro, fun _ _ => rfl⟩ | exact Nat.le_of_ble_eq_true rfl | (refine ⟨by (try simp only [List.length_cons, List.length_nil]); omega, Int.le_trans (Int.mul_le_mul_of_nonneg_left (show (TInfo.bytes _ : Int) ≤ 64 from Int.ofNat_le.2 (Nat.le_of_ble_eq_true rfl)) (by omega)) (by (try simp only [List.length_cons, List.length_nil]); omega)⟩)) ?_; conv => whnf)))
        · have hlt : g < List.length (α := Int) xs := by omega
          refine ⟨(g + 1, if List.getD (α := Int) xs g 0 < m then List.getD (α := Int) xs g 0 else m), ⟨⟨by simp only; omega, by simp only; omega⟩, by simp only; rw [minP_next xs hlt, ← hm]; exact mn_eq _ _⟩, by simp only; omega, ?_⟩
          conv => whnf
          refine ⟨?_, by (conv => whnf); repeat (first | exact True.intro | (refine And.intro rfl ?_; conv => whnf)), by (conv => whnf); repeat (first | exact True.intro | (refine And.intro (by first | rfl | (subst_vars; rfl)) ?_; conv => whnf)), rfl, rfl, rfl, rfl, rfl, rfl, rfl, Nat.le_of_ble_eq_true rfl, Nat.le_of_ble_eq_true rfl⟩
          conv => whnf
          repeat (first | exact True.intro | (refine And.intro (by first | rfl | ((conv => whnf); exact congrArg (AVal.int .i64) (by omega)) | ((conv => whnf); exact congrArg (AVal.int .i64) (by simp only [Int.natCast_add, Int.natCast_one]; omega)) | ((conv => whnf); exact congrArg (AVal.irow _) (by first | omega | assumption | (simp only; omega)))) ?_; conv => whnf))
        · have hgl : g = M := by omega
          exact leaf0 rfl (congrArg (AVal.int .i64) (by rw [hm, hgl, ← hM])) rfl
def cyC : PCtr := fun _ _ lr vals k => match vals with
  | [.agg [.int .i64 a, .int .i64 b], .int .i64 n] => True ∧ ∀ q : List (List Int) × Int, q = cyL (ciR (a, b) n) → k [⟨rT1, 41, true, q.1⟩] (.tup [.row lr, .int .i64 q.2])
  | _ => False
abbrev GCy := (GOk.cons ci_ok (GOk.cons lenJ_ok (GOk.cons hasI_ok (GOk.cons minI_ok .nil))))
theorem cy_ok : PCtrOk Try.prog 20 cyC where
  enter := enter_ok Try.func20 (by kernel_rfl) rfl
  calls := by
    intro hg rg lr vals k h
    unfold cyC at h
    split at h
    case h_2 => exact h.elim
    rename_i a b n
    obtain ⟨_, hk⟩ := h
    replace hk := hk _ rfl
    refine ⟨_, _, hk, fun A w _ _ => ?_⟩
    refine enter T_ok GCy Try.func20 rfl (K := (· < w.heap.size)) (fun _ h => h) (A := A) (n0 := 0) (b0 := 0) (rows := []) (hp := []) rfl (Nat.zero_le _) (fun k r h => by cases h) rfl (fun k r h => by cases h) rfl rfl (Nat.le_of_ble_eq_true rfl) ?_
    conv => whnf
    repeat (refine V_step T_ok GCy rfl ?_; conv => whnf)
    repeat (any_goals (first
      | (refine V_step T_ok GCy rfl ?_; conv => whnf)
      | (refine V_drawN T_ok GCy mixed (by kernel_rfl) ?_; conv => whnf)
      | (refine bcond_split (fun hc => ?_) (fun hc => ?_) <;> (try simp only [decide_eq_true_eq, decide_eq_false_iff_not, Bool.not_eq_true', Bool.not_eq_false', Bool.and_eq_true, Bool.or_eq_true, Bool.and_eq_false_imp, Bool.or_eq_false_iff, ne_eq, Decidable.not_not] at hc) <;> conv => whnf)
      | (intro ysK hysK; have hysl := congrArg List.length hysK; (try simp only [List.length_set, List.length_append, List.length_cons, List.length_nil, List.length_take, List.length_drop, List.length_replicate] at hysl); conv => whnf)
      | (intro bK hbK; have hbl := congrArg ByteArray.size hbK; conv => whnf)
      | (intro sK hsK; conv => whnf)
      | (refine And.intro (by first | (first | exact True.intro | (simp only [Rng]; omega)) | exact True.intro | exact ⟨rfl, True.intro, fun _ _ => rfl⟩ | exact Nat.le_of_ble_eq_true rfl | (refine ⟨by (try simp only [List.length_cons, List.length_nil]); omega, Int.le_trans (Int.mul_le_mul_of_nonneg_left (show (TInfo.bytes _ : Int) ≤ 64 from Int.ofNat_le.2 (Nat.le_of_ble_eq_true rfl)) (by omega)) (by (try simp only [List.length_cons, List.length_nil]); omega)⟩)) ?_; conv => whnf)))
    · have hq : sK = ciR (a, b) n := hsK
      rw [← hq, cyL_1 hc]
      exact leafN rfl rfl (fun B C h => by simp only [AVal.den, dens, h]; rfl)
    · have hq : sK = ciR (a, b) n := hsK
      have hN : Nums sK.1 := by rw [hq]; exact ciR_nums (by rw [← hq]; exact hc)
      have hres : cyL (ciR (a, b) n) = (cycG (nxF sK.1) sK.1.length, 0) := by rw [← hq]; exact cyL_0 hc
      obtain ⟨im, him⟩ : ∃ im : List Int, im = sK.1 := ⟨_, rfl⟩
      rw [← him] at hN hres
      obtain ⟨M, hM⟩ : ∃ M, List.length (α := Int) im = M := ⟨_, rfl⟩
      have hMl : (List.length (α := TyC.α iT1) sK.1 : Int) = M := by rw [← him, show List.length (α := TyC.α iT1) im = M from hM]
      have hM63 : M ≤ 63 := by rw [← hM]; exact hN.1
      have hlt : ∀ k, k < M → nxF im k < M := by rw [← hM]; exact hN.lt
      have hb8 : (ti2.bytes : Int) = 8 := rfl
      have hb24 : (ti41.bytes : Int) = 24 := rfl
      refine V_loopP (γ := Nat) (fun g => g ≤ M) (fun g => M - g) (fun g => [(23, .int .i64 g), (8, .row 1)]) (fun _ => []) (fun _ => []) (fun g => [some ⟨rT1, 41, true, cycG (nxF im) g⟩]) 0 (Nat.zero_le _) ?_ ?_
      · conv => whnf
        refine ⟨?_, by (conv => whnf); repeat (first | exact True.intro | (refine And.intro rfl ?_; conv => whnf)), by (conv => whnf); repeat (first | exact True.intro | (refine And.intro (by first | rfl | (subst_vars; rfl)) ?_; conv => whnf)), rfl, rfl, rfl, rfl, rfl, rfl, rfl, Nat.le_of_ble_eq_true rfl, Nat.le_of_ble_eq_true rfl⟩
        conv => whnf
        repeat (first | exact True.intro | (refine And.intro (by first | rfl | ((conv => whnf); exact congrArg (AVal.int .i64) (by omega)) | ((conv => whnf); exact congrArg (AVal.int .i64) (by simp only [Int.natCast_add, Int.natCast_one]; omega)) | ((conv => whnf); exact congrArg (AVal.irow _) (by first | omega | assumption | (simp only; omega)))) ?_; conv => whnf))
      · rintro g hg
        have hgl := cycG_len (nxF im) g
        conv => whnf
        refine vcCode_sound T_ok GCy _ _ _ _ _ ?_
        conv => whnf
        repeat (refine V_step T_ok GCy rfl ?_; conv => whnf)
        repeat (any_goals (first
          | (refine V_step T_ok GCy rfl ?_; conv => whnf)
          | (refine V_drawA T_ok GCy mixed (by kernel_rfl) ?_; conv => whnf)
          | (refine bcond_split (fun hc => ?_) (fun hc => ?_) <;> (try simp only [decide_eq_true_eq, decide_eq_false_iff_not, Bool.not_eq_true', Bool.not_eq_false', Bool.and_eq_true, Bool.or_eq_true, Bool.and_eq_false_imp, Bool.or_eq_false_iff, ne_eq, Decidable.not_not] at hc) <;> conv => whnf)
          | (intro ysK hysK; have hysl := congrArg List.length hysK; (try simp only [List.length_set, List.length_append, List.length_cons, List.length_nil, List.length_take, List.length_drop, List.length_replicate] at hysl); conv => whnf)
          | (intro bK hbK; have hbl := congrArg ByteArray.size hbK; conv => whnf)
          | (intro sK hsK; conv => whnf)
          | (refine And.intro (by first | (first | exact True.intro | omega | (simp only [Rng]; omega)) | exact True.intro | exact ⟨rfl, True.intro, fun _ _ => rfl⟩ | exact Nat.le_of_ble_eq_true rfl | (refine ⟨by (try simp only [List.length_cons, List.length_nil]); omega, Int.le_trans (Int.mul_le_mul_of_nonneg_left (show (TInfo.bytes _ : Int) ≤ 64 from Int.ofNat_le.2 (Nat.le_of_ble_eq_true rfl)) (by omega)) (by (try simp only [List.length_cons, List.length_nil]); omega)⟩)) ?_; conv => whnf)))
        · have hgM : g < M := by omega
          have hgM' : g < im.length := by rw [hM]; exact hgM
          have hitl : ∀ r, itN (nxF im) r g < M := itN_lt hlt hgM
          have hix : ∀ r, (0 ≤ (itN (nxF im) r g : Int) ∧ (itN (nxF im) r g : Int) < (List.length (α := TyC.α iT1) sK.1 : Int)) := fun r => by have := hitl r; omega
          have hix2 : ∀ r, (itN (nxF im) r g : Int).toNat < List.length (α := TyC.α iT1) sK.1 := fun r => by have := hitl r; omega
          have hnx : ∀ r, List.getD (α := TyC.α iT1) sK.1 (itN (nxF im) r g : Int).toNat (TyC.dflt iT1) = (itN (nxF im) (r + 1) g : Int) := fun r => by
            rw [← him]
            exact hN.step (i := g) (r := r) hgM'
          refine V_loopP (γ := Nat) (fun r => r ≤ M ∧ Dst (nxF im) g r) (fun r => M - r) (fun r => [(11, .int .i64 (itN (nxF im) r g)), (10, .row 2)]) (fun _ => []) (fun _ => []) (fun r => [some ⟨iT1, 2, true, pthG (nxF im) g r⟩]) 0 ⟨Nat.zero_le _, fun a b hab hb => absurd hb (Nat.not_lt_zero _)⟩ ?_ ?_
          · conv => whnf
            refine ⟨?_, by (conv => whnf); repeat (first | exact True.intro | (refine And.intro rfl ?_; conv => whnf)), by (conv => whnf); repeat (first | exact True.intro | (refine And.intro (by first | rfl | (subst_vars; rfl)) ?_; conv => whnf)), rfl, rfl, rfl, rfl, rfl, rfl, rfl, Nat.le_of_ble_eq_true rfl, Nat.le_of_ble_eq_true rfl⟩
            conv => whnf
            repeat (first | exact True.intro | (refine And.intro (by first | rfl | ((conv => whnf); exact congrArg (AVal.int .i64) (by omega)) | ((conv => whnf); exact congrArg (AVal.int .i64) (by simp only [Int.natCast_add, Int.natCast_one]; omega)) | ((conv => whnf); exact congrArg (AVal.irow _) (by first | omega | assumption | (simp only; omega)))) ?_; conv => whnf))
          · rintro r ⟨hr, hD⟩
            have hpl := pthG_len (nxF im) g r
            have hpl1 : List.length (α := Int) (pthG (nxF im) g r) ≤ 100000 := by rw [hpl]; omega
            have hpos : hasN (itN (nxF im) r g : Int) (pthG (nxF im) g r) = true → 0 < r := fun h => by
              obtain ⟨k, hk, _⟩ := (pthG_has (nxF im) g r _).1 h
              omega
            have hlast : hasN (itN (nxF im) r g : Int) (pthG (nxF im) g r) = true → List.getD (α := TyC.α iT1) (pthG (nxF im) g r) ((List.length (α := TyC.α iT1) (pthG (nxF im) g r) : Int) - 1).toNat (TyC.dflt iT1) = (itN (nxF im) (r - 1) g : Int) := fun h => by
              have h0 := hpos h
              have e : ((List.length (α := TyC.α iT1) (pthG (nxF im) g r) : Int) - 1).toNat = r - 1 := by
                rw [show List.length (α := TyC.α iT1) (pthG (nxF im) g r) = r from hpl]; omega
              rw [e]
              exact pthG_at (nxF im) g (by omega)
            have hidx : hasN (itN (nxF im) r g : Int) (pthG (nxF im) g r) = true → (0 ≤ (List.length (α := TyC.α iT1) (pthG (nxF im) g r) : Int) - 1 ∧ (List.length (α := TyC.α iT1) (pthG (nxF im) g r) : Int) - 1 < (List.length (α := TyC.α iT1) (pthG (nxF im) g r) : Int)) := fun h => by
              have h0 := hpos h
              rw [show List.length (α := TyC.α iT1) (pthG (nxF im) g r) = r from hpl]; omega
            have hidx2 : hasN (itN (nxF im) r g : Int) (pthG (nxF im) g r) = true → ((List.length (α := TyC.α iT1) (pthG (nxF im) g r) : Int) - 1).toNat < List.length (α := TyC.α iT1) (pthG (nxF im) g r) := fun h => by
              have h0 := hpos h
              rw [show List.length (α := TyC.α iT1) (pthG (nxF im) g r) = r from hpl]; omega
            have hmin : hasN (itN (nxF im) r g : Int) (pthG (nxF im) g r) = true → (0 < List.length (α := Int) (pthG (nxF im) g r) ∧ List.length (α := Int) (pthG (nxF im) g r) ≤ 1000) := fun h => by
              have h0 := hpos h
              rw [hpl]; omega
            conv => whnf
            refine vcCode_sound T_ok GCy _ _ _ _ _ ?_
            conv => whnf
            repeat (refine V_step T_ok GCy rfl ?_; conv => whnf)
            repeat (any_goals (first
              | (refine V_step T_ok GCy rfl ?_; conv => whnf)
              | (refine V_drawA T_ok GCy mixed (by kernel_rfl) ?_; conv => whnf)
              | (refine bcond_split (fun hc => ?_) (fun hc => ?_) <;> (try simp only [decide_eq_true_eq, decide_eq_false_iff_not, Bool.not_eq_true', Bool.not_eq_false', Bool.and_eq_true, Bool.or_eq_true, Bool.and_eq_false_imp, Bool.or_eq_false_iff, ne_eq, Decidable.not_not] at hc) <;> conv => whnf)
              | (intro ysK hysK; have hysl := congrArg List.length hysK; (try simp only [List.length_set, List.length_append, List.length_cons, List.length_nil, List.length_take, List.length_drop, List.length_replicate] at hysl); conv => whnf)
              | (intro bK hbK; have hbl := congrArg ByteArray.size hbK; conv => whnf)
              | (intro sK hsK; conv => whnf)
              | (refine And.intro (by first | (first | exact True.intro | with_reducible exact hpl1 | with_reducible exact hix _ | with_reducible exact hix2 _ | with_reducible exact hidx (by assumption) | with_reducible exact hidx2 (by assumption) | with_reducible exact hmin (by assumption) | (rw [hlast (by assumption)]; first | exact hix _ | exact hix2 _) | omega | exact hapI (by rw [hb8]; omega) (by rw [hb8]; omega) _ _ (Nat.le_trans (Nat.le_of_eq hpl) (by omega)) (by simp only [List.length_cons, List.length_nil]; omega) | (simp only [Rng]; omega)) | exact True.intro | exact ⟨rfl, True.intro, fun _ _ => rfl⟩ | exact Nat.le_of_ble_eq_true rfl | (refine ⟨by (try simp only [List.length_cons, List.length_nil]); omega, Int.le_trans (Int.mul_le_mul_of_nonneg_left (show (TInfo.bytes _ : Int) ≤ 64 from Int.ofNat_le.2 (Nat.le_of_ble_eq_true rfl)) (by omega)) (by (try simp only [List.length_cons, List.length_nil]); omega)⟩)) ?_; conv => whnf)))
            · have hn : ∀ k, k < r → itN (nxF im) k g ≠ itN (nxF im) r g := fun k hk e => by
                have := (pthG_has (nxF im) g r (itN (nxF im) r g)).2 ⟨k, hk, e⟩
                rw [hc] at this; cases this
              have hD2 := hD.next hn
              have hr2 := hD2.le hlt hgM
              have hy : ysK = pthG (nxF im) g (r + 1) := by rw [pthG_next]; exact hysK
              clear hysK hysl
              subst hy
              rw [hnx r]
              refine ⟨r + 1, ⟨hr2, hD2⟩, by omega, ?_⟩
              conv => whnf
              refine ⟨?_, by (conv => whnf); repeat (first | exact True.intro | (refine And.intro rfl ?_; conv => whnf)), by (conv => whnf); repeat (first | exact True.intro | (refine And.intro (by first | rfl | (subst_vars; rfl)) ?_; conv => whnf)), rfl, rfl, rfl, rfl, rfl, rfl, rfl, Nat.le_of_ble_eq_true rfl, Nat.le_of_ble_eq_true rfl⟩
              conv => whnf
              repeat (first | exact True.intro | (refine And.intro (by first | rfl | ((conv => whnf); exact congrArg (AVal.int .i64) (by omega)) | ((conv => whnf); exact congrArg (AVal.int .i64) (by simp only [Int.natCast_add, Int.natCast_one]; omega)) | ((conv => whnf); exact congrArg (AVal.irow _) (by first | omega | assumption | (simp only; omega)))) ?_; conv => whnf))
            · rename_i hh hbk
              have h0 := hpos hh
              have hback : itN (nxF im) r g = g := by
                rw [hlast hh] at hbk
                have h1 : (itN (nxF im) (r - 1 + 1) g : Int) = (g : Int) := (hnx (r - 1)).symm.trans hbk
                rw [show r - 1 + 1 = r by omega] at h1
                omega
              have hper := (per_end h0 hD ((pthG_has (nxF im) g r _).1 hh)).1 hback
              have hmn := (min_path (nxF im) g h0).1 (by rw [hpl] at hc; exact hc)
              have hy : ysK = cycG (nxF im) (g + 1) := by
                show ysK = cycG (nxF im) g ++ cycO (nxF im) g
                rw [cycO_some hper hmn]; exact hysK
              clear hysK hysl
              subst hy
              refine ⟨g + 1, by omega, by omega, ?_⟩
              conv => whnf
              refine ⟨?_, by (conv => whnf); repeat (first | exact True.intro | (refine And.intro rfl ?_; conv => whnf)), by (conv => whnf); repeat (first | exact True.intro | (refine And.intro (by first | rfl | (subst_vars; rfl)) ?_; conv => whnf)), rfl, rfl, rfl, rfl, rfl, rfl, rfl, Nat.le_of_ble_eq_true rfl, Nat.le_of_ble_eq_true rfl⟩
              conv => whnf
              repeat (first | exact True.intro | (refine And.intro (by first | rfl | ((conv => whnf); exact congrArg (AVal.int .i64) (by omega)) | ((conv => whnf); exact congrArg (AVal.int .i64) (by simp only [Int.natCast_add, Int.natCast_one]; omega)) | ((conv => whnf); exact congrArg (AVal.irow _) (by first | omega | assumption | (simp only; omega)))) ?_; conv => whnf))
            · rename_i hh hbk
              have h0 := hpos hh
              have hback : itN (nxF im) r g = g := by
                rw [hlast hh] at hbk
                have h1 : (itN (nxF im) (r - 1 + 1) g : Int) = (g : Int) := (hnx (r - 1)).symm.trans hbk
                rw [show r - 1 + 1 = r by omega] at h1
                omega
              have hper := (per_end h0 hD ((pthG_has (nxF im) g r _).1 hh)).1 hback
              have hmn : ¬ ∀ k, k < r → g ≤ itN (nxF im) k g := fun h => hc (by rw [hpl]; exact (min_path (nxF im) g h0).2 h)
              have hy : cycG (nxF im) g = cycG (nxF im) (g + 1) := by
                show cycG (nxF im) g = cycG (nxF im) g ++ cycO (nxF im) g
                rw [cycO_low hper hmn, List.append_nil]
              refine ⟨g + 1, by omega, by omega, ?_⟩
              rw [hy]
              conv => whnf
              refine ⟨?_, by (conv => whnf); repeat (first | exact True.intro | (refine And.intro rfl ?_; conv => whnf)), by (conv => whnf); repeat (first | exact True.intro | (refine And.intro (by first | rfl | (subst_vars; rfl)) ?_; conv => whnf)), rfl, rfl, rfl, rfl, rfl, rfl, rfl, Nat.le_of_ble_eq_true rfl, Nat.le_of_ble_eq_true rfl⟩
              conv => whnf
              repeat (first | exact True.intro | (refine And.intro (by first | rfl | ((conv => whnf); exact congrArg (AVal.int .i64) (by omega)) | ((conv => whnf); exact congrArg (AVal.int .i64) (by simp only [Int.natCast_add, Int.natCast_one]; omega)) | ((conv => whnf); exact congrArg (AVal.irow _) (by first | omega | assumption | (simp only; omega)))) ?_; conv => whnf))
            · rename_i hh
              have h0 := hpos hh
              have hback : itN (nxF im) r g ≠ g := fun e => hc (by
                rw [hlast hh]
                have h1 := hnx (r - 1)
                rw [show r - 1 + 1 = r by omega, e] at h1
                exact h1)
              have hnone := (per_end h0 hD ((pthG_has (nxF im) g r _).1 hh)).2 hback
              have hy : cycG (nxF im) g = cycG (nxF im) (g + 1) := by
                show cycG (nxF im) g = cycG (nxF im) g ++ cycO (nxF im) g
                rw [cycO_none hnone, List.append_nil]
              refine ⟨g + 1, by omega, by omega, ?_⟩
              rw [hy]
              conv => whnf
              refine ⟨?_, by (conv => whnf); repeat (first | exact True.intro | (refine And.intro rfl ?_; conv => whnf)), by (conv => whnf); repeat (first | exact True.intro | (refine And.intro (by first | rfl | (subst_vars; rfl)) ?_; conv => whnf)), rfl, rfl, rfl, rfl, rfl, rfl, rfl, Nat.le_of_ble_eq_true rfl, Nat.le_of_ble_eq_true rfl⟩
              conv => whnf
              repeat (first | exact True.intro | (refine And.intro (by first | rfl | ((conv => whnf); exact congrArg (AVal.int .i64) (by omega)) | ((conv => whnf); exact congrArg (AVal.int .i64) (by simp only [Int.natCast_add, Int.natCast_one]; omega)) | ((conv => whnf); exact congrArg (AVal.irow _) (by first | omega | assumption | (simp only; omega)))) ?_; conv => whnf))
        · have hgl : g = M := by omega
          rw [hres]
          subst hgl
          exact leaf1 1 rfl rfl (congrArg (fun ys => (⟨rT1, 41, true, ys⟩ : Row)) (by rw [hM])) rfl (fun B C h => by simp [AVal.den, dens, h])
end Go.Proofs.Ytllagpbbbdekiac.Fw
