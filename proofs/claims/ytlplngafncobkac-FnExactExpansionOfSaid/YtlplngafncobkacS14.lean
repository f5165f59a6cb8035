/- The law of expansions. -/
import Derived.Test.YtlplngafncobkacS9
import Derived.Test.YtlplngafncobkacS13
namespace Go.Proofs.Ytlplngafncobkac.Fw
open Go Go.RowKit
set_option linter.unusedVariables false
set_option linter.unusedSimpArgs false
set_option maxRecDepth 100000
set_option maxHeartbeats 2000000

def dg1C : PCtr := fun hg rg _ vals k => match vals with
  | [.agg [.int .i64 n, .int .i64 d]] => IsA (n, d) ∧ k [] (.int .u8 (dgA (n, d)))
  | _ => False
theorem dg1_ok : PCtrOk Try.prog 101 dg1C where
  enter := enter_ok Try.func101 (by kernel_rfl) rfl
  calls := by
    intro hg rg lr vals k h
    unfold dg1C at h
    split at h
    case h_2 => exact h.elim
    rename_i n d
    obtain ⟨hx, hk⟩ := h
    refine ⟨_, _, hk, fun A w _ _ => ?_⟩
    refine enter T_ok .nil Try.func101 rfl (K := (· < w.heap.size)) (fun _ h => h) (A := A) (n0 := 0) (b0 := 0) (rows := []) (hp := []) rfl (Nat.zero_le _) (fun k r h => by cases h) rfl (fun k r h => by cases h) rfl rfl (Nat.le_of_ble_eq_true rfl) ?_
    conv => whnf
    repeat (refine V_step T_ok .nil rfl ?_; conv => whnf)
    obtain ⟨h1, h2⟩ := hx.bd
    simp only at h1 h2
    repeat (any_goals (first
      | (refine V_step T_ok .nil rfl ?_; conv => whnf)
      | (refine V_drawA T_ok .nil mixed (by kernel_rfl) ?_; conv => whnf)
      | (refine bcond_split (fun hc => ?_) (fun hc => ?_) <;> (try simp only [decide_eq_true_eq, decide_eq_false_iff_not, Bool.not_eq_true', Bool.not_eq_false', Bool.and_eq_true, Bool.or_eq_true, Bool.and_eq_false_imp, Bool.or_eq_false_iff, ne_eq, Decidable.not_not] at hc) <;> conv => whnf)
      | (intro ysK hysK; have hysl := congrArg List.length hysK; (try simp only [List.length_set, List.length_append, List.length_cons, List.length_nil, List.length_take, List.length_drop, List.length_replicate] at hysl); conv => whnf)
      | (intro bK hbK; have hbl := congrArg ByteArray.size hbK; conv => whnf)
      | (intro sK hsK; conv => whnf)
      | (refine And.intro (by first | (first | exact True.intro | omega | (simp only [Rng]; omega)) | exact True.intro | exact Nat.le_of_ble_eq_true rfl | (refine ⟨by (try simp only [List.length_cons, List.length_nil]); omega, Int.le_trans (Int.mul_le_mul_of_nonneg_left (show (TInfo.bytes _ : Int) ≤ 64 from Int.ofNat_le.2 (Nat.le_of_ble_eq_true rfl)) (by omega)) (by (try simp only [List.length_cons, List.length_nil]); omega)⟩)) ?_; conv => whnf)))
    · exact leaf0 rfl (congrArg (AVal.int .u8) (if_pos hc).symm) rfl
    · exact leaf0 rfl (congrArg (AVal.int .u8) (if_neg hc).symm) rfl
def sDgC : PCtr := fun hg rg _ vals k => match vals with
  | [.agg [.int .i64 n, .int .i64 d]] => IsA (n, d) ∧ ∀ s : ByteArray, s = strOfNums [dgA (n, d)] → k [] (.str s)
  | _ => False
theorem sDg_ok : PCtrOk Try.prog 133 sDgC where
  enter := enter_ok Try.func133 (by kernel_rfl) rfl
  calls := by
    intro hg rg lr vals k h
    unfold sDgC at h
    split at h
    case h_2 => exact h.elim
    rename_i n d
    obtain ⟨hx, hk⟩ := h
    replace hk := hk _ rfl
    refine ⟨_, _, hk, fun A w _ _ => ?_⟩
    refine enter T_ok .nil Try.func133 rfl (K := (· < w.heap.size)) (fun _ h => h) (A := A) (n0 := 0) (b0 := 0) (rows := []) (hp := []) rfl (Nat.zero_le _) (fun k r h => by cases h) rfl (fun k r h => by cases h) rfl rfl (Nat.le_of_ble_eq_true rfl) ?_
    conv => whnf
    repeat (refine V_step T_ok .nil rfl ?_; conv => whnf)
    obtain ⟨h1, h2⟩ := hx.bd
    simp only at h1 h2
    repeat (any_goals (first
      | (refine V_step T_ok .nil rfl ?_; conv => whnf)
      | (refine V_drawA T_ok .nil mixed (by kernel_rfl) ?_; conv => whnf)
      | (refine bcond_split (fun hc => ?_) (fun hc => ?_) <;> (try simp only [decide_eq_true_eq, decide_eq_false_iff_not, Bool.not_eq_true', Bool.not_eq_false', Bool.and_eq_true, Bool.or_eq_true, Bool.and_eq_false_imp, Bool.or_eq_false_iff, ne_eq, Decidable.not_not] at hc) <;> conv => whnf)
      | (intro ysK hysK; have hysl := congrArg List.length hysK; (try simp only [List.length_set, List.length_append, List.length_cons, List.length_nil, List.length_take, List.length_drop, List.length_replicate] at hysl); conv => whnf)
      | (intro bK hbK; have hbl := congrArg ByteArray.size hbK; conv => whnf)
      | (intro sK hsK; conv => whnf)
      | (refine And.intro (by first | (first | exact True.intro | omega | (simp only [Rng]; omega)) | exact True.intro | exact Nat.le_of_ble_eq_true rfl | (refine ⟨by (try simp only [List.length_cons, List.length_nil]); omega, Int.le_trans (Int.mul_le_mul_of_nonneg_left (show (TInfo.bytes _ : Int) ≤ 64 from Int.ofNat_le.2 (Nat.le_of_ble_eq_true rfl)) (by omega)) (by (try simp only [List.length_cons, List.length_nil]); omega)⟩)) ?_; conv => whnf)))
    · exact leaf0 rfl (congrArg AVal.str (by rw [show dgA (n, d) = 49 from if_pos hc]; rfl)) rfl
    · exact leaf0 rfl (congrArg AVal.str (by rw [show dgA (n, d) = 48 from if_neg hc]; rfl)) rfl

theorem dgs_next {xs : List Ang} {n : Nat} (h : n < xs.length) : (xs.map dgA).take n ++ [dgA (xs.getD n aT.dflt)] = (xs.map dgA).take (n + 1) := by
  rw [List.take_add_one, List.getElem?_map, List.getElem?_eq_getElem h, List.getD_eq_getElem?_getD, List.getElem?_eq_getElem h]
  rfl
def spE : PCtr := fun hg rg _ vals k => match vals with
  | [.row i, .int .i64 p, .fn f [] []] => isF f 101 (rowC aT (rg i) fun xs => ((∀ x ∈ (xs : List Ang), IsA x) ∧ (0 ≤ p ∧ p < (@List.length Ang xs : Int)) ∧ @List.length Ang xs ≤ 64) ∧ ∀ s : Sq, s = seqW ((xs : List Ang).map dgA) p.toNat → k [] (.agg [.str s.1, .str s.2]))
  | _ => False
theorem spE_ok : PCtrOk Try.prog 100 spE where
  enter := enter_ok Try.func100 (by kernel_rfl) rfl
  calls := by
    intro hg rg lr vals k h
    unfold spE at h
    split at h
    case h_2 => exact h.elim
    rename_i i p f
    obtain ⟨rfl, h⟩ := isF_inv h
    obtain ⟨e, own, xs, hi, h⟩ : ∃ e own, ∃ (xs : List Ang), _ := rowC_inv h
    obtain ⟨⟨hx, ⟨hp0, hp1⟩, hl64⟩, hk⟩ := h
    replace hk := hk _ rfl
    refine ⟨_, _, hk, fun A w hB hR => ?_⟩
    refine enter T_ok (GOk.cons dg1_ok (GOk.cons seq_ok .nil)) Try.func100 rfl (K := (· < w.heap.size)) (fun _ h => h) (A := A.pick [] [i]) (vals := [.row 0, .int .i64 p, .fn 101 [] []]) (n0 := 0) (b0 := 0) (rows := [some ⟨aT, e, false, xs⟩]) (hp := []) rfl (Nat.zero_le _) no_box rfl (one_row (hR i _ hi)) rfl rfl (Nat.le_of_ble_eq_true rfl) ?_
    conv => whnf
    repeat (refine V_step T_ok (GOk.cons dg1_ok (GOk.cons seq_ok .nil)) rfl ?_; conv => whnf)
    have hx' : ∀ n : Nat, (n : Int) < (List.length (α := Ang) xs : Nat) → IsA (xs.getD n aT.dflt) := fun n hn => hx _ (getD_mem (by omega))
    have hml : (xs.map dgA).length = xs.length := List.length_map _
    refine V_loopP (γ := Nat) (fun g => g ≤ xs.length) (fun g => xs.length - g) (fun g => [(7, .row 1), (12, .int .i64 g)]) (fun _ => []) (fun _ => []) (fun g => [some ⟨bT, 5, true, (xs.map dgA).take g⟩]) 0 (Nat.zero_le _) ?_ ?_
    · conv => whnf
      refine ⟨?_, by (conv => whnf); repeat (first | exact True.intro | (refine And.intro rfl ?_; conv => whnf)), by (conv => whnf); repeat (first | exact True.intro | (refine And.intro (by first | rfl | (subst_vars; rfl)) ?_; conv => whnf)), rfl, rfl, rfl, rfl, rfl, rfl, rfl, Nat.le_of_ble_eq_true rfl, Nat.le_of_ble_eq_true rfl⟩
      conv => whnf
      repeat (first | exact True.intro | (refine And.intro (by first | rfl | ((conv => whnf); exact congrArg (AVal.int .i64) (by omega)) | ((conv => whnf); exact congrArg (AVal.int .i64) (by simp only [Int.natCast_add, Int.natCast_one]; omega))) ?_; conv => whnf))
    · rintro g hg
      have hlen : (List.length (α := Int) ((xs.map dgA).take g) : Int) = (g : Int) := by rw [List.length_take, hml]; omega
      have hpre : ¬ (g : Int) < (xs.length : Nat) → ((1 ≤ (strOfNums ((((xs.map dgA).take g).drop p.toNat).take (((xs.map dgA).take g).length - p.toNat))).size ∧ (strOfNums ((((xs.map dgA).take g).drop p.toNat).take (((xs.map dgA).take g).length - p.toNat))).size ≤ 64) ∧ (strOfNums ((((xs.map dgA).take g).drop 0).take p.toNat)).size ≤ 1000000) := fun h => by
        simp only [strOfNums_size, List.length_take, List.length_drop, List.drop_zero, hml]
        have hp2 : p.toNat < xs.length := by omega
        omega
      conv => whnf
      refine vcCode_sound T_ok (GOk.cons dg1_ok (GOk.cons seq_ok .nil)) _ _ _ _ _ ?_
      conv => whnf
      repeat (refine V_step T_ok (GOk.cons dg1_ok (GOk.cons seq_ok .nil)) rfl ?_; conv => whnf)
      repeat (any_goals (first
        | (refine V_step T_ok (GOk.cons dg1_ok (GOk.cons seq_ok .nil)) rfl ?_; conv => whnf)
        | (refine V_drawA T_ok (GOk.cons dg1_ok (GOk.cons seq_ok .nil)) mixed (by kernel_rfl) ?_; conv => whnf)
        | (refine bcond_split (fun hc => ?_) (fun hc => ?_) <;> (try simp only [decide_eq_true_eq, decide_eq_false_iff_not, Bool.not_eq_true', Bool.not_eq_false', Bool.and_eq_true, Bool.or_eq_true, Bool.and_eq_false_imp, Bool.or_eq_false_iff, ne_eq, Decidable.not_not] at hc) <;> conv => whnf)
        | (intro ysK hysK; have hysl := congrArg List.length hysK; (try simp only [List.length_set, List.length_append, List.length_cons, List.length_nil, List.length_take, List.length_drop, List.length_replicate] at hysl); conv => whnf)
        | (intro bK hbK; have hbl := congrArg ByteArray.size hbK; conv => whnf)
        | (intro sK hsK; conv => whnf)
        | (refine And.intro (by first | (first | exact True.intro | exact hx' g (by assumption) | omega | (simp only [Rng]; omega) | exact hpre (by assumption)) | exact True.intro | exact Nat.le_of_ble_eq_true rfl | (refine ⟨by (try simp only [List.length_cons, List.length_nil]); omega, Int.le_trans (Int.mul_le_mul_of_nonneg_left (show (TInfo.bytes _ : Int) ≤ 64 from Int.ofNat_le.2 (Nat.le_of_ble_eq_true rfl)) (by omega)) (by (try simp only [List.length_cons, List.length_nil]); omega)⟩)) ?_; conv => whnf)))
      · refine ⟨g + 1, by omega, by omega, ?_⟩
        have hl : (g : Int) < (xs.length : Nat) := by assumption
        have hy : ysK = (xs.map dgA).take (g + 1) := by
          rw [← dgs_next (by omega)]
          exact hysK
        clear hysK
        subst hy
        conv => whnf
        refine ⟨?_, by (conv => whnf); repeat (first | exact True.intro | (refine And.intro rfl ?_; conv => whnf)), by (conv => whnf); repeat (first | exact True.intro | (refine And.intro (by first | rfl | (subst_vars; rfl)) ?_; conv => whnf)), rfl, rfl, rfl, rfl, rfl, rfl, rfl, Nat.le_of_ble_eq_true rfl, Nat.le_of_ble_eq_true rfl⟩
        conv => whnf
        repeat (first | exact True.intro | (refine And.intro (by first | rfl | ((conv => whnf); exact congrArg (AVal.int .i64) (by omega)) | ((conv => whnf); exact congrArg (AVal.int .i64) (by simp only [Int.natCast_add, Int.natCast_one]; omega))) ?_; conv => whnf))
      · have hge : ¬ (g : Int) < (xs.length : Nat) := by assumption
        have hY : (xs.map dgA).take g = xs.map dgA := List.take_of_length_le (by rw [hml]; omega)
        rw [hY] at hsK
        have hs : sK = seqW (xs.map dgA) p.toNat := hsK.trans (seqW_cut _ _)
        exact leaf0 rfl (by rw [hs]) rfl

/-! ### the expansion with its code -/
@[irreducible] noncomputable def exS (a : Ang) : Sq := if orbB a = true then (strOfNums ((digs a).take (orbP a)), strOfNums ((digs a).drop (orbP a))) else (ByteArray.mk #[], ByteArray.mk #[])
theorem exS_f {a : Ang} (h : orbB a = false) : exS a = (ByteArray.mk #[], ByteArray.mk #[]) := by unfold exS; rw [h]; rfl
theorem exS_t {a : Ang} (h : orbB a = true) : exS a = (strOfNums ((digs a).take (orbP a)), strOfNums ((digs a).drop (orbP a))) := by unfold exS; rw [if_pos h]
theorem exS_seq {a : Ang} (hA : IsA a) (h : orbB a = true) : seqW ((orbX a).map dgA) (orbP a) = exS a := by
  rw [exS_t h]
  unfold orbB at h
  obtain ⟨n, hl⟩ := Option.isSome_iff_exists.1 h
  have hp : orbP a = preA a := by unfold orbP; rw [hl]
  rw [hp]
  exact exp_canon hA.f hl
noncomputable def exO (a : Ang) : Sq × Int := if IsA a then (exS a, if orbB a = true then 0 else 3) else ((ByteArray.mk #[], ByteArray.mk #[]), 1)
theorem exO_f {a : Ang} (h : ¬ IsA a) : exO a = ((ByteArray.mk #[], ByteArray.mk #[]), 1) := by unfold exO; rw [if_neg h]
theorem exO_l {a : Ang} (h : IsA a) (hb : orbB a = false) : exO a = ((ByteArray.mk #[], ByteArray.mk #[]), 3) := by unfold exO; rw [if_pos h, exS_f hb, hb]; rfl
theorem exO_t {a : Ang} (h : IsA a) (hb : orbB a = true) : exO a = (exS a, 0) := by unfold exO; rw [if_pos h, hb]; rfl
def exOC : PCtr := fun _ _ _ vals k => match vals with
  | [.agg [.int .i64 n, .int .i64 d]] => True ∧ ∀ q : Sq × Int, q = exO (n, d) → k [] (.tup [.agg [.str q.1.1, .str q.1.2], .int .i64 q.2])
  | _ => False
theorem oN_cases (a : Ang) : (oN a = 0 ∧ IsA a ∧ orbB a = true) ∨ (oN a = 1 ∧ ¬ IsA a) ∨ (oN a = 3 ∧ IsA a ∧ orbB a = false) := by
  unfold oN
  by_cases h : IsA a
  · rw [if_pos h]
    rcases hb : orbB a with _ | _ <;> simp [h]
  · rw [if_neg h]; simp [h]
theorem oX_t {a : Ang} (h : IsA a) (hb : orbB a = true) : oX a = orbX a ∧ oP a = orbP a := by
  unfold oX oP
  rw [if_pos ⟨h, hb⟩, if_pos ⟨h, hb⟩]
  exact ⟨rfl, rfl⟩
abbrev GEx := (GOk.cons orbitOf_ok (GOk.cons spE_ok .nil))
theorem exOf_ok : PCtrOk Try.prog 56 exOC where
  enter := enter_ok Try.func56 (by kernel_rfl) rfl
  calls := by
    intro hg rg lr vals k h
    unfold exOC at h
    split at h
    case h_2 => exact h.elim
    rename_i n d
    obtain ⟨_, hk⟩ := h
    replace hk := hk _ rfl
    refine ⟨_, _, hk, fun A w _ _ => ?_⟩
    refine enter T_ok GEx Try.func56 rfl (K := (· < w.heap.size)) (fun _ h => h) (A := A) (n0 := 0) (b0 := 0) (rows := []) (hp := []) rfl (Nat.zero_le _) (fun k r h => by cases h) rfl (fun k r h => by cases h) rfl rfl (Nat.le_of_ble_eq_true rfl) ?_
    conv => whnf
    repeat (refine V_step T_ok GEx rfl ?_; conv => whnf)
    have hpre : ∀ ys : List Ang, ys = oX (n, d) → oN (n, d) = 0 → (∀ x ∈ ys, IsA x) ∧ (0 ≤ oP (n, d) ∧ oP (n, d) < (List.length (α := Ang) ys : Int)) ∧ ys.length ≤ 64 := fun ys h h0 => by
      rcases oN_cases (n, d) with ⟨_, hA, hb⟩ | ⟨h1, _⟩ | ⟨h1, _⟩
      · obtain ⟨e1, e2⟩ := oX_t hA hb
        rw [h, e1, e2]
        have := orbP_lt hb
        exact ⟨orbX_isA hA, ⟨by omega, by omega⟩, orbX_len _⟩
      · omega
      · omega
    repeat (any_goals (first
      | (refine V_step T_ok GEx rfl ?_; conv => whnf)
      | (refine V_drawA T_ok GEx mixed (by kernel_rfl) ?_; conv => whnf)
      | (refine bcond_split (fun hc => ?_) (fun hc => ?_) <;> (try simp only [decide_eq_true_eq, decide_eq_false_iff_not, Bool.not_eq_true', Bool.not_eq_false', Bool.and_eq_true, Bool.or_eq_true, Bool.and_eq_false_imp, Bool.or_eq_false_iff, ne_eq, Decidable.not_not] at hc) <;> conv => whnf)
      | (intro ysK hysK; have hysl := congrArg List.length hysK; (try simp only [List.length_set, List.length_append, List.length_cons, List.length_nil, List.length_take, List.length_drop, List.length_replicate] at hysl); conv => whnf)
      | (intro bK hbK; have hbl := congrArg ByteArray.size hbK; conv => whnf)
      | (intro sK hsK; conv => whnf)
      | (refine And.intro (by first | (first | exact True.intro | exact hpre _ hysK (by assumption)) | exact True.intro | exact Nat.le_of_ble_eq_true rfl | (refine ⟨by (try simp only [List.length_cons, List.length_nil]); omega, Int.le_trans (Int.mul_le_mul_of_nonneg_left (show (TInfo.bytes _ : Int) ≤ 64 from Int.ofNat_le.2 (Nat.le_of_ble_eq_true rfl)) (by omega)) (by (try simp only [List.length_cons, List.length_nil]); omega)⟩)) ?_; conv => whnf)))
    · rcases oN_cases (n, d) with ⟨h1, _⟩ | ⟨h1, hA⟩ | ⟨h1, hA, hb⟩
      · exact absurd h1 hc
      · exact leaf0 rfl (by rw [exO_f hA, h1]; rfl) rfl
      · exact leaf0 rfl (by rw [exO_l hA hb, h1]; rfl) rfl
    · rcases oN_cases (n, d) with ⟨h1, hA, hb⟩ | ⟨h1, hA⟩ | ⟨h1, hA, hb⟩
      · obtain ⟨e1, e2⟩ := oX_t hA hb
        have hs : sK = exS (n, d) := by
          rw [hsK, hysK, e1, e2, Int.toNat_natCast]
          exact exS_seq hA hb
        exact leaf0 rfl (by rw [exO_t hA hb, hs]) rfl
      · rw [h1] at hc; cases hc
      · rw [h1] at hc; cases hc

/-! ### the reference's -/
theorem nums_app (xs ys : List Int) : strOfNums (xs ++ ys) = strOfNums xs ++ strOfNums ys := by
  apply bl_inj
  rw [bl_append, bl_nums, bl_nums, bl_nums, List.map_append]
/-- The letters ahead, and behind, of a word's beginning. -/
def exG (xs : List Ang) (p g : Nat) : Sq := (strOfNums (((xs.map dgA).take g).take p), strOfNums (((xs.map dgA).take g).drop p))
theorem exG_sz (xs : List Ang) (p g : Nat) (h : xs.length ≤ 64) : (exG xs p g).1.size ≤ 64 ∧ (exG xs p g).2.size ≤ 64 := by
  unfold exG
  simp only [strOfNums_size, List.length_take, List.length_drop, List.length_map]
  omega
theorem exG_pre {xs : List Ang} {p g : Nat} (hg : g < xs.length) (h : g < p) : ((exG xs p g).1 ++ strOfNums [dgA (xs.getD g aT.dflt)], (exG xs p g).2) = exG xs p (g + 1) := by
  have hl : ((xs.map dgA).take g).length = g := by rw [List.length_take, List.length_map]; omega
  have hl2 : ((xs.map dgA).take (g + 1)).length = g + 1 := by rw [List.length_take, List.length_map]; omega
  unfold exG
  refine Prod.ext ?_ ?_
  · simp only
    rw [← nums_app, List.take_of_length_le (by omega), List.take_of_length_le (l := (xs.map dgA).take (g + 1)) (by omega), dgs_next hg]
  · simp only
    rw [List.drop_eq_nil_of_le (by omega), List.drop_eq_nil_of_le (by omega)]
theorem exG_per {xs : List Ang} {p g : Nat} (hg : g < xs.length) (h : p ≤ g) : ((exG xs p g).1, (exG xs p g).2 ++ strOfNums [dgA (xs.getD g aT.dflt)]) = exG xs p (g + 1) := by
  have hl : ((xs.map dgA).take g).length = g := by rw [List.length_take, List.length_map]; omega
  unfold exG
  refine Prod.ext ?_ ?_
  · simp only
    rw [← dgs_next hg, List.take_append_of_le_length (by omega)]
  · simp only
    rw [← nums_app, ← dgs_next hg, List.drop_append_of_le_length (by omega)]
def sExC : PCtr := fun _ _ _ vals k => match vals with
  | [.agg [.int .i64 n, .int .i64 d]] => IsA (n, d) ∧ ∀ s : Sq, s = exS (n, d) → k [] (.tup [.agg [.str s.1, .str s.2], .bool (orbB (n, d))])
  | _ => False
theorem exG_end {a : Ang} {g : Nat} (h : g = (orbX a).length) : exG (orbX a) (orbP a) g = exS a := by
  have e : ((orbX a).map dgA).take g = digs a := by rw [List.take_of_length_le (by rw [List.length_map]; omega)]; rfl
  unfold exG
  rw [e]
  rcases hb : orbB a with _ | _
  · rw [exS_f hb]
    have : digs a = [] := by
      unfold digs orbX
      unfold orbB at hb
      rw [Option.isSome_eq_false_iff, Option.isNone_iff_eq_none] at hb
      rw [hb]; rfl
    rw [this, List.take_nil, List.drop_nil]; rfl
  · rw [exS_t hb]
abbrev GsE := (GOk.cons sOrbit_ok (GOk.cons sDg_ok .nil))
theorem sEx_ok : PCtrOk Try.prog 99 sExC where
  enter := enter_ok Try.func99 (by kernel_rfl) rfl
  calls := by
    intro hg rg lr vals k h
    unfold sExC at h
    split at h
    case h_2 => exact h.elim
    rename_i n d
    obtain ⟨hA, hk⟩ := h
    replace hk := hk _ rfl
    refine ⟨_, _, hk, fun A w _ _ => ?_⟩
    refine enter T_ok GsE Try.func99 rfl (K := (· < w.heap.size)) (fun _ h => h) (A := A) (n0 := 0) (b0 := 0) (rows := []) (hp := []) rfl (Nat.zero_le _) (fun k r h => by cases h) rfl (fun k r h => by cases h) rfl rfl (Nat.le_of_ble_eq_true rfl) ?_
    conv => whnf
    repeat (refine V_step T_ok GsE rfl ?_; conv => whnf)
    have hl64 := orbX_len (n, d)
    have hxs := orbX_isA hA
    have hx' : ∀ n' : Nat, (n' : Int) < (List.length (α := Ang) (orbX (n, d)) : Nat) → IsA ((orbX (n, d)).getD n' aT.dflt) := fun n' hn => hxs _ (getD_mem (by omega))
    have hone : ∀ z : Int, (strOfNums [z]).size = 1 := fun z => by rw [strOfNums_size]; rfl
    repeat (any_goals (first
      | (refine V_step T_ok GsE rfl ?_; conv => whnf)
      | (refine V_drawA T_ok GsE mixed (by kernel_rfl) ?_; conv => whnf)
      | (refine bcond_split (fun hc => ?_) (fun hc => ?_) <;> (try simp only [decide_eq_true_eq, decide_eq_false_iff_not, Bool.not_eq_true', Bool.not_eq_false', Bool.and_eq_true, Bool.or_eq_true, Bool.and_eq_false_imp, Bool.or_eq_false_iff, ne_eq, Decidable.not_not] at hc) <;> conv => whnf)
      | (intro ysK hysK; have hysl := congrArg List.length hysK; (try simp only [List.length_set, List.length_append, List.length_cons, List.length_nil, List.length_take, List.length_drop, List.length_replicate] at hysl); conv => whnf)
      | (intro bK hbK; have hbl := congrArg ByteArray.size hbK; conv => whnf)
      | (intro sK hsK; conv => whnf)
      | (refine And.intro (by first | (first | exact True.intro | exact hA) | exact True.intro | exact Nat.le_of_ble_eq_true rfl | (refine ⟨by (try simp only [List.length_cons, List.length_nil]); omega, Int.le_trans (Int.mul_le_mul_of_nonneg_left (show (TInfo.bytes _ : Int) ≤ 64 from Int.ofNat_le.2 (Nat.le_of_ble_eq_true rfl)) (by omega)) (by (try simp only [List.length_cons, List.length_nil]); omega)⟩)) ?_; conv => whnf)))
    refine V_loopH (γ := Nat × Sq) (fun g => g.1 ≤ (orbX (n, d)).length ∧ g.2 = exG (orbX (n, d)) (orbP (n, d)) g.1) (fun g => (orbX (n, d)).length - g.1) (fun g => [(8, .int .i64 g.1)]) (fun g => [(2, [.str g.2.1, .str g.2.2])]) (fun _ => []) (0, (ByteArray.mk #[], ByteArray.mk #[])) ⟨Nat.zero_le _, by unfold exG; simp [strOfNums]⟩ ?_ ?_
    · conv => whnf
      refine ⟨?_, by (conv => whnf); repeat (first | exact True.intro | (refine And.intro rfl ?_; conv => whnf)), by (conv => whnf); repeat (first | exact True.intro | (refine And.intro (by first | rfl | (subst_vars; rfl)) ?_; conv => whnf)), rfl, rfl, rfl, rfl, rfl, rfl, rfl, Nat.le_of_ble_eq_true rfl, Nat.le_of_ble_eq_true rfl⟩
      conv => whnf
      repeat (first | exact True.intro | (refine And.intro (by first | rfl | ((conv => whnf); exact congrArg (AVal.int .i64) (by omega)) | ((conv => whnf); exact congrArg (AVal.int .i64) (by simp only [Int.natCast_add, Int.natCast_one]; omega))) ?_; conv => whnf))
    · rintro g ⟨hg, he⟩
      have hz := exG_sz (orbX (n, d)) (orbP (n, d)) g.1 hl64
      rw [← he] at hz
      obtain ⟨hz1, hz2⟩ := hz
      have hsz : ∀ b : ByteArray, b = strOfNums [dgA (((orbX (n, d)).getD (g.1 : Int).toNat aT.dflt).1, ((orbX (n, d)).getD (g.1 : Int).toNat aT.dflt).2)] → b.size = 1 := fun b h => by rw [h]; exact hone _
      conv => whnf
      refine vcCode_sound T_ok GsE _ _ _ _ _ ?_
      conv => whnf
      repeat (refine V_step T_ok GsE rfl ?_; conv => whnf)
      repeat (any_goals (first
        | (refine V_step T_ok GsE rfl ?_; conv => whnf)
        | (refine V_drawN T_ok GsE mixed (by kernel_rfl) ?_; conv => whnf)
        | (refine bcond_split (fun hc => ?_) (fun hc => ?_) <;> (try simp only [decide_eq_true_eq, decide_eq_false_iff_not, Bool.not_eq_true', Bool.not_eq_false', Bool.and_eq_true, Bool.or_eq_true, Bool.and_eq_false_imp, Bool.or_eq_false_iff, ne_eq, Decidable.not_not] at hc) <;> conv => whnf)
        | (intro ysK hysK; have hysl := congrArg List.length hysK; (try simp only [List.length_set, List.length_append, List.length_cons, List.length_nil, List.length_take, List.length_drop, List.length_replicate] at hysl); conv => whnf)
        | (intro bK hbK; have hbl := congrArg ByteArray.size hbK; conv => whnf)
        | (intro sK hsK; conv => whnf)
        | (refine And.intro (by first | (first | exact True.intro | exact hx' g.1 (by assumption) | omega | (simp only [Rng]; omega) | (have h9 := hsz _ hbK; omega)) | exact True.intro | exact Nat.le_of_ble_eq_true rfl | (refine ⟨by (try simp only [List.length_cons, List.length_nil]); omega, Int.le_trans (Int.mul_le_mul_of_nonneg_left (show (TInfo.bytes _ : Int) ≤ 64 from Int.ofNat_le.2 (Nat.le_of_ble_eq_true rfl)) (by omega)) (by (try simp only [List.length_cons, List.length_nil]); omega)⟩)) ?_; conv => whnf)))
      · have hl : (g.1 : Int) < ((orbX (n, d)).length : Nat) := by assumption
        have hp : (g.1 : Int) < (orbP (n, d) : Nat) := by assumption
        refine ⟨(g.1 + 1, (g.2.1 ++ bK, g.2.2)), ⟨by simp only; omega, ?_⟩, by simp only; omega, ?_⟩
        · simp only
          rw [← exG_pre (by omega) (by omega), ← he, hbK]
          rfl
        · conv => whnf
          refine ⟨?_, by (conv => whnf); repeat (first | exact True.intro | (refine And.intro rfl ?_; conv => whnf)), by (conv => whnf); repeat (first | exact True.intro | (refine And.intro (by first | rfl | (subst_vars; rfl)) ?_; conv => whnf)), rfl, rfl, rfl, rfl, rfl, rfl, rfl, Nat.le_of_ble_eq_true rfl, Nat.le_of_ble_eq_true rfl⟩
          conv => whnf
          repeat (first | exact True.intro | (refine And.intro (by first | rfl | ((conv => whnf); exact congrArg (AVal.int .i64) (by omega)) | ((conv => whnf); exact congrArg (AVal.int .i64) (by simp only [Int.natCast_add, Int.natCast_one]; omega))) ?_; conv => whnf))
      · have hl : (g.1 : Int) < ((orbX (n, d)).length : Nat) := by assumption
        have hp : ¬ (g.1 : Int) < (orbP (n, d) : Nat) := by assumption
        refine ⟨(g.1 + 1, (g.2.1, g.2.2 ++ bK)), ⟨by simp only; omega, ?_⟩, by simp only; omega, ?_⟩
        · simp only
          rw [← exG_per (by omega) (by omega), ← he, hbK]
          rfl
        · conv => whnf
          refine ⟨?_, by (conv => whnf); repeat (first | exact True.intro | (refine And.intro rfl ?_; conv => whnf)), by (conv => whnf); repeat (first | exact True.intro | (refine And.intro (by first | rfl | (subst_vars; rfl)) ?_; conv => whnf)), rfl, rfl, rfl, rfl, rfl, rfl, rfl, Nat.le_of_ble_eq_true rfl, Nat.le_of_ble_eq_true rfl⟩
          conv => whnf
          repeat (first | exact True.intro | (refine And.intro (by first | rfl | ((conv => whnf); exact congrArg (AVal.int .i64) (by omega)) | ((conv => whnf); exact congrArg (AVal.int .i64) (by simp only [Int.natCast_add, Int.natCast_one]; omega))) ?_; conv => whnf))
      · have hge : g.1 = (orbX (n, d)).length := by omega
        have hs : g.2 = exS (n, d) := he.trans (exG_end hge)
        exact leaf0 rfl (by rw [← hs]) rfl
abbrev GsX := (GOk.cons sIs_ok (GOk.cons sEx_ok .nil))
theorem sExOf_ok : PCtrOk Try.prog 55 exOC where
  enter := enter_ok Try.func55 (by kernel_rfl) rfl
  calls := by
    intro hg rg lr vals k h
    unfold exOC at h
    split at h
    case h_2 => exact h.elim
    rename_i n d
    obtain ⟨_, hk⟩ := h
    replace hk := hk _ rfl
    refine ⟨_, _, hk, fun A w _ _ => ?_⟩
    refine enter T_ok GsX Try.func55 rfl (K := (· < w.heap.size)) (fun _ h => h) (A := A) (n0 := 0) (b0 := 0) (rows := []) (hp := []) rfl (Nat.zero_le _) (fun k r h => by cases h) rfl (fun k r h => by cases h) rfl rfl (Nat.le_of_ble_eq_true rfl) ?_
    conv => whnf
    repeat (refine V_step T_ok GsX rfl ?_; conv => whnf)
    repeat (any_goals (first
      | (refine V_step T_ok GsX rfl ?_; conv => whnf)
      | (refine V_drawA T_ok GsX mixed (by kernel_rfl) ?_; conv => whnf)
      | (refine bcond_split (fun hc => ?_) (fun hc => ?_) <;> (try simp only [decide_eq_true_eq, decide_eq_false_iff_not, Bool.not_eq_true', Bool.not_eq_false', Bool.and_eq_true, Bool.or_eq_true, Bool.and_eq_false_imp, Bool.or_eq_false_iff, ne_eq, Decidable.not_not] at hc) <;> conv => whnf)
      | (intro ysK hysK; have hysl := congrArg List.length hysK; (try simp only [List.length_set, List.length_append, List.length_cons, List.length_nil, List.length_take, List.length_drop, List.length_replicate] at hysl); conv => whnf)
      | (intro bK hbK; have hbl := congrArg ByteArray.size hbK; conv => whnf)
      | (intro sK hsK; conv => whnf)
      | (refine And.intro (by first | (first | exact True.intro | (with_reducible assumption)) | exact True.intro | exact Nat.le_of_ble_eq_true rfl | (refine ⟨by (try simp only [List.length_cons, List.length_nil]); omega, Int.le_trans (Int.mul_le_mul_of_nonneg_left (show (TInfo.bytes _ : Int) ≤ 64 from Int.ofNat_le.2 (Nat.le_of_ble_eq_true rfl)) (by omega)) (by (try simp only [List.length_cons, List.length_nil]); omega)⟩)) ?_; conv => whnf)))
    · exact leaf0 rfl (by rw [exO_f hc]; rfl) rfl
    · rename_i hA
      exact leaf0 rfl (by rw [exO_l hA hc]; rfl) rfl
    · rename_i hA
      exact leaf0 rfl (by rw [exO_t hA hc, hsK]) rfl
def lawExC : PCtr := fun _ _ _ vals k => match vals with
  | [.agg [.int .i64 n, .int .i64 d]] => True ∧ k [] (.bool true)
  | _ => False
abbrev GlEx := (GOk.cons toAngle_ok (GOk.cons exOf_ok (GOk.cons sExOf_ok (GOk.cons eqSeq_ok .nil))))
theorem lawEx_ok : PCtrOk Try.prog 13 lawExC where
  enter := enter_ok Try.func13 (by kernel_rfl) rfl
  calls := by
    intro hg rg lr vals k h
    unfold lawExC at h
    split at h
    case h_2 => exact h.elim
    rename_i n d
    obtain ⟨_, hk⟩ := h
    refine ⟨_, _, hk, fun A w _ _ => ?_⟩
    refine enter T_ok GlEx Try.func13 rfl (K := (· < w.heap.size)) (fun _ h => h) (A := A) (n0 := 0) (b0 := 0) (rows := []) (hp := []) rfl (Nat.zero_le _) (fun k r h => by cases h) rfl (fun k r h => by cases h) rfl rfl (Nat.le_of_ble_eq_true rfl) ?_
    conv => whnf
    repeat (refine V_step T_ok GlEx rfl ?_; conv => whnf)
    repeat (any_goals (first
      | (refine V_step T_ok GlEx rfl ?_; conv => whnf)
      | (refine V_drawN T_ok GlEx mixed (by kernel_rfl) ?_; conv => whnf)
      | (refine bcond_split (fun hc => ?_) (fun hc => ?_) <;> (try simp only [decide_eq_true_eq, decide_eq_false_iff_not, Bool.not_eq_true', Bool.not_eq_false', Bool.and_eq_true, Bool.or_eq_true, Bool.and_eq_false_imp, Bool.or_eq_false_iff, ne_eq, Decidable.not_not] at hc) <;> conv => whnf)
      | (intro ysK hysK; have hysl := congrArg List.length hysK; (try simp only [List.length_set, List.length_append, List.length_cons, List.length_nil, List.length_take, List.length_drop, List.length_replicate] at hysl); conv => whnf)
      | (intro bK hbK; have hbl := congrArg ByteArray.size hbK; conv => whnf)
      | (intro sK hsK; conv => whnf)
      | (refine And.intro (by first | exact True.intro | (with_reducible assumption) | omega | (simp only [Rng]; omega) | exact Nat.le_of_ble_eq_true rfl | exact True.intro | exact Nat.le_of_ble_eq_true rfl | (refine ⟨by (try simp only [List.length_cons, List.length_nil]); omega, Int.le_trans (Int.mul_le_mul_of_nonneg_left (show (TInfo.bytes _ : Int) ≤ 64 from Int.ofNat_le.2 (Nat.le_of_ble_eq_true rfl)) (by omega)) (by (try simp only [List.length_cons, List.length_nil]); omega)⟩)) ?_; conv => whnf)))
    · rename_i s0 h0
      obtain rfl : sK = s0 := hsK.trans h0.symm
      exact absurd rfl (hc rfl)
    · rename_i s0 h0 _
      obtain rfl : sK = s0 := hsK.trans h0.symm
      exact absurd rfl hc
    · exact leaf0 rfl rfl rfl
end Go.Proofs.Ytlplngafncobkac.Fw
