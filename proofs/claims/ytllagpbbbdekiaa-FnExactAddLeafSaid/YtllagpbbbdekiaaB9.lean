/- The law of AddLeaf, walked. -/
import Derived.Test.YtllagpbbbdekiaaB8
namespace Go.Proofs.Ytllagpbbbdekiaa.Fw
open Go Go.RowKit
set_option linter.unusedVariables false
set_option linter.unusedSimpArgs false
set_option maxRecDepth 100000
set_option maxHeartbeats 2000000

/-- What the law marks a result with. -/
def mkWF (q : Int) (i : Nat) : Lf := ((q + 4 * i, q + 4 * i + 1), (q + 4 * i + 2, q + 4 * i + 3))
def mkWMC : MCtr := fun hg rg _ vals k => match vals with
  | [.row i, .int .i64 q] => rowO lT (rg i) fun e xs => ((0 ≤ q ∧ q ≤ 2000000) ∧ (@List.length Lf xs : Int) ≤ 2000000) ∧ k [(i, some ⟨lT, e, true, (List.range (@List.length Lf xs)).map (mkWF q)⟩)] [] (.int .i64 (q + 4 * (@List.length Lf xs : Int)))
  | _ => False
theorem mkWM_ok : MCtrOk Try.prog 10 mkWMC where
  enter := enter_ok Try.func10 (by kernel_rfl) rfl
  calls := by
    intro hg rg lr vals k h
    unfold mkWMC at h
    split at h
    case h_2 => exact h.elim
    rename_i i q
    obtain ⟨e, xs, hi, h⟩ : ∃ e, ∃ (xs : List Lf), _ := rowO_inv h
    obtain ⟨⟨hq, hl⟩, hk⟩ := h
    refine ⟨_, _, _, hk, (ups_one hi rfl (fun r' hr' => by cases hr'; exact ⟨rfl, rfl, rfl⟩)), fun A w hM => ?_⟩
    have hO := One.of hi rfl
    refine enterM T_ok .nil Try.func10 rfl (w := w) (A := A.pick [] [i]) (vals := [.row 0, .int .i64 q]) (n0 := 1) (b0 := 0) (rows := [some ⟨lT, e, true, xs⟩]) (hp := []) rfl (Nat.le_refl _) (hM.one hi) rfl rfl rfl (Nat.le_of_ble_eq_true rfl) ?_
    conv => whnf
    repeat (refine V_step T_ok .nil rfl ?_; conv => whnf)
    refine V_loopH (γ := Nat × List Lf) (fun g => g.1 ≤ xs.length ∧ g.2.length = xs.length ∧ ∀ j, j < g.1 → g.2.getD j lT.dflt = mkWF q j) (fun g => xs.length - g.1)
      (fun g => [(1, .int .i64 (q + 4 * g.1)), (5, .int .i64 g.1)]) (fun _ => []) (fun g => [(0, some ⟨lT, e, true, g.2⟩)]) (0, xs) ⟨Nat.zero_le _, rfl, fun j h => absurd h (Nat.not_lt_zero _)⟩ ?_ ?_
    · conv => whnf
      refine ⟨?_, by (conv => whnf); repeat (first | exact True.intro | (refine And.intro rfl ?_; conv => whnf)), by (conv => whnf); repeat (first | exact True.intro | (refine And.intro (by first | rfl | (subst_vars; rfl)) ?_; conv => whnf)), rfl, rfl, rfl, rfl, rfl, rfl, rfl, Nat.le_of_ble_eq_true rfl, Nat.le_of_ble_eq_true rfl⟩
      conv => whnf
      repeat (first | exact True.intro | (refine And.intro (by first | rfl | ((conv => whnf); exact congrArg (AVal.int .i64) (by omega)) | ((conv => whnf); exact congrArg (AVal.int .i64) (by simp only [Int.natCast_add, Int.natCast_one]; omega)) | ((conv => whnf); exact congrArg (AVal.irow _) (by first | omega | assumption | (simp only; omega)))) ?_; conv => whnf))
    · rintro ⟨n, L⟩ ⟨h1, hlen, h2⟩
      simp only at h1 hlen h2
      conv => whnf
      refine vcCode_sound T_ok .nil _ _ _ _ _ ?_
      conv => whnf
      repeat (refine V_step T_ok .nil rfl ?_; conv => whnf)
      repeat (any_goals (first
        | (refine V_step T_ok .nil rfl ?_; conv => whnf)
        | (refine V_drawA T_ok .nil mixed (by kernel_rfl) ?_; conv => whnf)
        | (refine bcond_split (fun hc => ?_) (fun hc => ?_) <;> (try simp only [decide_eq_true_eq, decide_eq_false_iff_not, Bool.not_eq_true', Bool.not_eq_false', Bool.and_eq_true, Bool.or_eq_true, Bool.and_eq_false_imp, Bool.or_eq_false_iff, ne_eq, Decidable.not_not] at hc) <;> conv => whnf)
        | (intro ysK hysK; have hysl := congrArg List.length hysK; (try simp only [List.length_set, List.length_append, List.length_cons, List.length_nil, List.length_take, List.length_drop, List.length_replicate] at hysl); conv => whnf)
        | (intro bK hbK; have hbl := congrArg ByteArray.size hbK; conv => whnf)
        | (intro sK hsK; conv => whnf)
        | (refine And.intro (by first | exact True.intro | (with_reducible assumption) | omega | (simp only [Rng]; omega) | exact Nat.le_of_ble_eq_true rfl | exact True.intro | exact ⟨rfl, True.intro, fun _ _ => rfl⟩ | exact Nat.le_of_ble_eq_true rfl | (refine ⟨by (try simp only [List.length_cons, List.length_nil]); omega, Int.le_trans (Int.mul_le_mul_of_nonneg_left (show (TInfo.bytes _ : Int) ≤ 64 from Int.ofNat_le.2 (Nat.le_of_ble_eq_true rfl)) (by omega)) (by (try simp only [List.length_cons, List.length_nil]); omega)⟩)) ?_; conv => whnf)))
      · have hl : (n : Int) < (L.length : Nat) := by assumption
        rename_i y1 e1 l1 y2 e2 l2 y3 e3 l3
        simp only [Int.toNat_natCast] at e1 e2 e3 hysK
        have g1 : y1.getD n lT.dflt = _ := (congrArg (fun z => List.getD z n lT.dflt) e1).trans (getD_set (by omega))
        have g2 : y2.getD n lT.dflt = _ := (congrArg (fun z => List.getD z n lT.dflt) e2).trans (getD_set (by omega))
        rw [g1] at g2
        have g3 : y3.getD n lT.dflt = _ := (congrArg (fun z => List.getD z n lT.dflt) e3).trans (getD_set (by omega))
        rw [g2] at g3
        have g4 : ysK.getD n lT.dflt = _ := (congrArg (fun z => List.getD z n lT.dflt) hysK).trans (getD_set (by omega))
        rw [g3] at g4
        refine ⟨(n + 1, ysK), ⟨by simp only; omega, by simp only; omega, fun j hj => ?_⟩, by simp only; omega, ?_⟩
        · simp only at hj ⊢
          rcases Nat.lt_or_ge j n with h | h
          · rw [← h2 j h, List.getD_eq_getElem?_getD, List.getD_eq_getElem?_getD, hysK, List.getElem?_set_ne (by omega), e3, List.getElem?_set_ne (by omega), e2, List.getElem?_set_ne (by omega), e1, List.getElem?_set_ne (by omega)]
          · obtain rfl : j = n := by omega
            rw [g4]
            first | (simp only [mkWF, Int.add_assoc]; done) | (simp only [mkWF, Int.add_assoc]; rfl)
        · conv => whnf
          refine ⟨?_, by (conv => whnf); repeat (first | exact True.intro | (refine And.intro rfl ?_; conv => whnf)), by (conv => whnf); repeat (first | exact True.intro | (refine And.intro (by first | rfl | (subst_vars; rfl)) ?_; conv => whnf)), rfl, rfl, rfl, rfl, rfl, rfl, rfl, Nat.le_of_ble_eq_true rfl, Nat.le_of_ble_eq_true rfl⟩
          conv => whnf
          repeat (first | exact True.intro | (refine And.intro (by first | rfl | ((conv => whnf); exact congrArg (AVal.int .i64) (by omega)) | ((conv => whnf); exact congrArg (AVal.int .i64) (by simp only [Int.natCast_add, Int.natCast_one]; omega)) | ((conv => whnf); exact congrArg (AVal.irow _) (by first | omega | assumption | (simp only; omega)))) ?_; conv => whnf))
      · have hge : ¬ (n : Int) < (L.length : Nat) := hc
        obtain rfl : n = L.length := by omega
        have hL : (List.range xs.length).map (mkWF q) = L := by
          refine List.ext_getElem (by simp [hlen]) fun j h3 h4 => ?_
          have := h2 j (by omega)
          rw [List.getD_eq_getElem?_getD, List.getElem?_eq_getElem h4] at this
          simp only [List.getElem_map, List.getElem_range]
          exact this.symm
        rw [hL, ← hlen]
        exact leafM0 hO Nat.zero_lt_one rfl rfl rfl rfl rfl

def mkWHC : PCtr := fun hg rg _ vals k => match vals with
  | [.row i, .int .i64 q] => rowC lT (rg i) fun xs => ((0 ≤ q ∧ q ≤ 2000000) ∧ (@List.length Lf xs : Int) ≤ 2000000 ∧ (xs : List Lf) = (List.range (@List.length Lf xs)).map (mkWF q)) ∧ k [] (.int .i64 (q + 4 * (@List.length Lf xs : Int)))
  | _ => False
theorem mkWH_ok : PCtrOk Try.prog 11 mkWHC where
  enter := enter_ok Try.func11 (by kernel_rfl) rfl
  calls := by
    intro hg rg lr vals k h
    unfold mkWHC at h
    split at h
    case h_2 => exact h.elim
    rename_i i q
    obtain ⟨e, own, xs, hi, h⟩ : ∃ e own, ∃ (xs : List Lf), _ := rowC_inv h
    obtain ⟨⟨hq, hl, hx⟩, hk⟩ := h
    refine ⟨_, _, hk, fun A w hB hR => ?_⟩
    refine enter T_ok .nil Try.func11 rfl (K := (· < w.heap.size)) (fun _ h => h) (A := A.pick [] [i]) (vals := [.row 0, .int .i64 q]) (n0 := 0) (b0 := 0) (rows := [some ⟨lT, e, false, xs⟩]) (hp := []) rfl (Nat.zero_le _) no_box rfl (one_row (hR i _ hi)) rfl rfl (Nat.le_of_ble_eq_true rfl) ?_
    conv => whnf
    repeat (refine V_step T_ok .nil rfl ?_; conv => whnf)
    have hget : ∀ n, n < xs.length → xs.getD n lT.dflt = mkWF q n := fun n hn => by
      rw [hx, List.getD_eq_getElem?_getD, List.getElem?_map, List.getElem?_range (by simpa using hn)]; rfl
    clear hx
    refine V_loopH (γ := Nat) (fun n => n ≤ xs.length) (fun n => xs.length - n)
      (fun n => [(1, .int .i64 (q + 4 * n)), (5, .int .i64 n)]) (fun _ => []) (fun _ => []) 0 (Nat.zero_le _) ?_ ?_
    · conv => whnf
      refine ⟨?_, by (conv => whnf); repeat (first | exact True.intro | (refine And.intro rfl ?_; conv => whnf)), by (conv => whnf); repeat (first | exact True.intro | (refine And.intro (by first | rfl | (subst_vars; rfl)) ?_; conv => whnf)), rfl, rfl, rfl, rfl, rfl, rfl, rfl, Nat.le_of_ble_eq_true rfl, Nat.le_of_ble_eq_true rfl⟩
      conv => whnf
      repeat (first | exact True.intro | (refine And.intro (by first | rfl | ((conv => whnf); exact congrArg (AVal.int .i64) (by omega)) | ((conv => whnf); exact congrArg (AVal.int .i64) (by simp only [Int.natCast_add, Int.natCast_one]; omega)) | ((conv => whnf); exact congrArg (AVal.irow _) (by first | omega | assumption | (simp only; omega)))) ?_; conv => whnf))
    · rintro n h1
      conv => whnf
      refine vcCode_sound T_ok .nil _ _ _ _ _ ?_
      conv => whnf
      repeat (refine V_step T_ok .nil rfl ?_; conv => whnf)
      repeat (any_goals (first
        | (refine V_step T_ok .nil rfl ?_; conv => whnf)
        | (refine V_drawA T_ok .nil mixed (by kernel_rfl) ?_; conv => whnf)
        | (refine bcond_split (fun hc => ?_) (fun hc => ?_) <;> (try simp only [decide_eq_true_eq, decide_eq_false_iff_not, Bool.not_eq_true', Bool.not_eq_false', Bool.and_eq_true, Bool.or_eq_true, Bool.and_eq_false_imp, Bool.or_eq_false_iff, ne_eq, Decidable.not_not] at hc) <;> conv => whnf)
        | (intro ysK hysK; have hysl := congrArg List.length hysK; (try simp only [List.length_set, List.length_append, List.length_cons, List.length_nil, List.length_take, List.length_drop, List.length_replicate] at hysl); conv => whnf)
        | (intro bK hbK; have hbl := congrArg ByteArray.size hbK; conv => whnf)
        | (intro sK hsK; conv => whnf)
        | (refine And.intro (by first | exact True.intro | (with_reducible assumption) | omega | (simp only [Rng]; omega) | exact Nat.le_of_ble_eq_true rfl | exact True.intro | exact ⟨rfl, True.intro, fun _ _ => rfl⟩ | exact Nat.le_of_ble_eq_true rfl | (refine ⟨by (try simp only [List.length_cons, List.length_nil]); omega, Int.le_trans (Int.mul_le_mul_of_nonneg_left (show (TInfo.bytes _ : Int) ≤ 64 from Int.ofNat_le.2 (Nat.le_of_ble_eq_true rfl)) (by omega)) (by (try simp only [List.length_cons, List.length_nil]); omega)⟩)) ?_; conv => whnf)))
      all_goals first
        | (have hge : ¬ (n : Int) < (xs.length : Nat) := hc
           obtain rfl : n = xs.length := by omega
           exact leaf0 rfl rfl rfl)
        | (have hl' : (n : Int) < (xs.length : Nat) := by assumption
           have hg := hget n (by omega)
           exact absurd (by (simp only [Int.toNat_natCast, hg, mkWF]) <;> omega) hc)
        | skip
      all_goals (have hl' : (n : Int) < (xs.length : Nat) := by assumption
                 have hg := hget n (by omega)
                 refine ⟨n + 1, by omega, by omega, ?_⟩)
      · conv => whnf
        refine ⟨?_, by (conv => whnf); repeat (first | exact True.intro | (refine And.intro rfl ?_; conv => whnf)), by (conv => whnf); repeat (first | exact True.intro | (refine And.intro (by first | rfl | (subst_vars; rfl)) ?_; conv => whnf)), rfl, rfl, rfl, rfl, rfl, rfl, rfl, Nat.le_of_ble_eq_true rfl, Nat.le_of_ble_eq_true rfl⟩
        conv => whnf
        repeat (first | exact True.intro | (refine And.intro (by first | rfl | ((conv => whnf); exact congrArg (AVal.int .i64) (by omega)) | ((conv => whnf); exact congrArg (AVal.int .i64) (by simp only [Int.natCast_add, Int.natCast_one]; omega)) | ((conv => whnf); exact congrArg (AVal.irow _) (by first | omega | assumption | (simp only; omega)))) ?_; conv => whnf))

def lawAdC : PCtr := fun _ rg _ vals k => match vals with
  | [.row i, .agg [.int .i64 n, .int .i64 d, .int .i64 m, .int .i64 e']] => rowC lT (rg i) fun xs => True ∧ k [] (.bool true)
  | _ => False
abbrev GLad := (GOk.cons sz_ok (GOk.cons toLs_ok (GOk.cons toLeaf_ok (GOk.cons sAd_ok (GOk.cons ad_ok (GOk.cons eqLs_ok (GOk.mcons mkWM_ok (GOk.cons mkWH_ok .nil))))))))
theorem lawAd_ok : PCtrOk Try.prog 4 lawAdC where
  enter := enter_ok Try.func4 (by kernel_rfl) rfl
  calls := by
    intro hg rg lr vals k h
    unfold lawAdC at h
    split at h
    case h_2 => exact h.elim
    rename_i i n d m e'
    obtain ⟨e, own, xs, hi, h⟩ : ∃ e own, ∃ (xs : List Lf), _ := rowC_inv h
    have hk := h.2
    refine ⟨_, _, hk, fun A w hB hR => ?_⟩
    refine enter T_ok GLad Try.func4 rfl (K := (· < w.heap.size)) (fun _ h => h) (A := A.pick [] [i]) (vals := [.row 0, .agg [.int .i64 n, .int .i64 d, .int .i64 m, .int .i64 e']]) (n0 := 0) (b0 := 0) (rows := [some ⟨lT, e, false, xs⟩]) (hp := []) rfl (Nat.zero_le _) no_box rfl (one_row (hR i _ hi)) rfl rfl (Nat.le_of_ble_eq_true rfl) ?_
    conv => whnf
    repeat (refine V_step T_ok GLad rfl ?_; conv => whnf)
    have hb := adO_len xs ((n, d), (m, e'))
    have hsz : ¬ (if (1048576 : Int) - (List.length (α := Lf) xs : Int) < 0 then (-1 : Int) else 1048576 - (List.length (α := Lf) xs : Int)) < 0 → (List.length (α := Lf) xs : Int) ≤ 1048576 := fun h => by
      split at h <;> omega
    have hn1 : ∀ p q : List Lf × Int, p = adO xs ((n, d), (m, e')) → q = adO xs ((n, d), (m, e')) → eqLs p.1 q.1 = false → False := fun p q h1 h2 h => by
      rw [h1, h2] at h; simp [eqLs] at h
    have hn2 : ∀ p q : List Lf × Int, p = adO xs ((n, d), (m, e')) → q = adO xs ((n, d), (m, e')) → ¬ p.2 = q.2 → False := fun p q h1 h2 h => h (by rw [h1, h2])
    have hb2 : ∀ q : List Lf × Int, q = adO xs ((n, d), (m, e')) → (0 ≤ (1 : Int) ∧ (1 : Int) ≤ 2000000) ∧ (List.length (α := Lf) q.1 : Int) ≤ 2000000 := fun q h => by
      rw [h]; exact ⟨by decide, by omega⟩
    repeat (any_goals (first
      | (refine V_step T_ok GLad rfl ?_; conv => whnf)
      | (refine V_drawA T_ok GLad mixed (by kernel_rfl) ?_; conv => whnf)
      | (refine bcond_split (fun hc => ?_) (fun hc => ?_) <;> (try simp only [decide_eq_true_eq, decide_eq_false_iff_not, Bool.not_eq_true', Bool.not_eq_false', Bool.and_eq_true, Bool.or_eq_true, Bool.and_eq_false_imp, Bool.or_eq_false_iff, ne_eq, Decidable.not_not] at hc) <;> conv => whnf)
      | (intro ysK hysK; have hysl := congrArg List.length hysK; (try simp only [List.length_set, List.length_append, List.length_cons, List.length_nil, List.length_take, List.length_drop, List.length_replicate] at hysl); conv => whnf)
      | (intro bK hbK; have hbl := congrArg ByteArray.size hbK; conv => whnf)
      | (intro sK hsK; conv => whnf)
      | (refine And.intro (by first | (first | exact True.intro | (exact ⟨by decide, by decide⟩) | exact hsz (by assumption) | exact hsz hc | exact ⟨by decide, Int.le_trans (hsz (by assumption)) (by decide)⟩ | exact hb2 _ (by assumption) | exact ⟨⟨by decide, by decide⟩, by rw [List.length_map, List.length_range]; exact (hb2 _ (by assumption)).2, by rw [List.length_map, List.length_range]⟩) | exact True.intro | exact ⟨rfl, True.intro, fun _ _ => rfl⟩ | exact Nat.le_of_ble_eq_true rfl | (refine ⟨by (try simp only [List.length_cons, List.length_nil]); omega, Int.le_trans (Int.mul_le_mul_of_nonneg_left (show (TInfo.bytes _ : Int) ≤ 64 from Int.ofNat_le.2 (Nat.le_of_ble_eq_true rfl)) (by omega)) (by (try simp only [List.length_cons, List.length_nil]); omega)⟩)) ?_; conv => whnf)))
    all_goals first
      | exact leaf0 rfl rfl rfl
      | exact absurd trivial hc
      | exact absurd rfl hc
      | (simp [eqLs] at hc; done)
      | exact (hn1 _ _ (by assumption) (by assumption) hc).elim
      | exact (hn2 _ _ (by assumption) (by assumption) hc).elim
      | skip
end Go.Proofs.Ytllagpbbbdekiaa.Fw
-- %intro
