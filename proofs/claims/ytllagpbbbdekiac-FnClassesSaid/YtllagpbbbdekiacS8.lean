/- Contracts: letters of orbits spelled as sequences; itineraries. -/
import Derived.Test.YtllagpbbbdekiacS5
import Derived.Test.YtllagpbbbdekiacL1
namespace Go.Proofs.Ytllagpbbbdekiac.Fw
open Go Go.RowKit
set_option linter.unusedVariables false
set_option linter.unusedSimpArgs false
set_option maxRecDepth 100000
set_option maxHeartbeats 2000000
def lt1C : PCtr := fun hg rg _ vals k => match vals with
  | [.agg [.int .i64 n, .int .i64 d], .loc qt 0] => boxA (hg qt) fun t => (IsA (n, d) ∧ IsA t) ∧ k [] (.int .u8 (letA (n, d) t))
  | _ => False
theorem lt1_ok : PCtrOk Try.prog 74 lt1C where
  enter := enter_ok Try.func74 (by kernel_rfl) rfl
  calls := by
    intro hg rg lr vals k h
    unfold lt1C at h
    split at h
    case h_2 => exact h.elim
    rename_i n d qt
    obtain ⟨t, hqt, h⟩ := boxA_inv h
    obtain ⟨hx, hk⟩ := h
    refine ⟨_, _, hk, fun A w hB hR => ?_⟩
    refine enter T_ok (GOk.cons let_ok .nil) Try.func74 rfl (K := (· < w.heap.size)) (fun _ h => h) (A := A.pick [qt] []) (vals := [.agg [.int .i64 n, .int .i64 d], .loc 0 0]) (n0 := 0) (b0 := 1) (rows := []) (hp := [some [.int .i64 t.1, .int .i64 t.2]]) rfl (Nat.zero_le _) (fun i9 cs h9 => by
      match i9, h9 with
      | 0, h9 => cases h9; exact box_lt (hB qt _ hqt)
      | i9 + 1, h9 => simp [nthj] at h9) rfl no_row rfl rfl (Nat.le_of_ble_eq_true rfl) ?_
    conv => whnf
    repeat (refine V_step T_ok (GOk.cons let_ok .nil) rfl ?_; conv => whnf)
    repeat (any_goals (first
      | (refine V_step T_ok (GOk.cons let_ok .nil) rfl ?_; conv => whnf)
      | (refine V_drawA T_ok (GOk.cons let_ok .nil) mixed (by kernel_rfl) ?_; conv => whnf)
      | (refine bcond_split (fun hc => ?_) (fun hc => ?_) <;> (try simp only [decide_eq_true_eq, decide_eq_false_iff_not, Bool.not_eq_true', Bool.not_eq_false', Bool.and_eq_true, Bool.or_eq_true, Bool.and_eq_false_imp, Bool.or_eq_false_iff, ne_eq, Decidable.not_not] at hc) <;> conv => whnf)
      | (intro ysK hysK; have hysl := congrArg List.length hysK; (try simp only [List.length_set, List.length_append, List.length_cons, List.length_nil, List.length_take, List.length_drop, List.length_replicate] at hysl); conv => whnf)
      | (intro bK hbK; have hbl := congrArg ByteArray.size hbK; conv => whnf)
      | (intro sK hsK; conv => whnf)
      | (refine And.intro (by first | (first | exact True.intro | exact hx) | exact True.intro | exact ⟨rfl, True.intro, fun _ _ => rfl⟩ | exact Nat.le_of_ble_eq_true rfl | (refine ⟨by (try simp only [List.length_cons, List.length_nil]); omega, Int.le_trans (Int.mul_le_mul_of_nonneg_left (show (TInfo.bytes _ : Int) ≤ 64 from Int.ofNat_le.2 (Nat.le_of_ble_eq_true rfl)) (by omega)) (by (try simp only [List.length_cons, List.length_nil]); omega)⟩)) ?_; conv => whnf)))
    all_goals exact leaf0 rfl rfl rfl
def wordA (xs : List Ang) (t : Ang) : List Int := xs.map fun x => letA x t
theorem wordA_len (xs : List Ang) (t : Ang) : (wordA xs t).length = xs.length := List.length_map _
theorem word_next {xs : List Ang} {t : Ang} {n : Nat} (h : n < xs.length) : (wordA xs t).take n ++ [letA (xs.getD n aT.dflt) t] = (wordA xs t).take (n + 1) := by
  rw [List.take_add_one, wordA, List.getElem?_map, List.getElem?_eq_getElem h, List.getD_eq_getElem?_getD, List.getElem?_eq_getElem h]
  rfl
noncomputable def seqW (ys : List Int) (p : Nat) : Sq := seqB (strOfNums (ys.take p)) (strOfNums (ys.drop p))
theorem seqW_cut (Y : List Int) (p : Nat) : seqB (strOfNums ((Y.drop 0).take (p - 0))) (strOfNums ((Y.drop p).take (Y.length - p))) = seqW Y p := by
  rw [seqW, List.drop_zero, Nat.sub_zero, List.take_of_length_le (l := Y.drop p) (by rw [List.length_drop]; omega)]
def spA : PCtr := fun hg rg _ vals k => match vals with
  | [.row i, .int .i64 p, .fn f [] [.loc qt 0]] => isF f 74 (rowC aT (rg i) fun xs => boxA (hg qt) fun t => (((∀ x ∈ (xs : List Ang), IsA x) ∧ IsA t) ∧ (0 ≤ p ∧ p < (@List.length Ang xs : Int)) ∧ @List.length Ang xs ≤ 64) ∧ ∀ s : Sq, s = seqW (wordA xs t) p.toNat → k [] (.agg [.str s.1, .str s.2]))
  | _ => False
theorem spA_ok : PCtrOk Try.prog 73 spA where
  enter := enter_ok Try.func73 (by kernel_rfl) rfl
  calls := by
    intro hg rg lr vals k h
    unfold spA at h
    split at h
    case h_2 => exact h.elim
    rename_i i p f qt
    obtain ⟨rfl, h⟩ := isF_inv h
    obtain ⟨e, own, xs, hi, h⟩ : ∃ e own, ∃ (xs : List Ang), _ := rowC_inv h
    obtain ⟨t, hqt, h⟩ := boxA_inv h
    obtain ⟨⟨⟨hx, ht⟩, ⟨hp0, hp1⟩, hl64⟩, hk⟩ := h
    replace hk := hk _ rfl
    refine ⟨_, _, hk, fun A w hB hR => ?_⟩
    refine enter T_ok (GOk.cons lt1_ok (GOk.cons seq_ok .nil)) Try.func73 rfl (K := (· < w.heap.size)) (fun _ h => h) (A := A.pick [qt] [i]) (vals := [.row 0, .int .i64 p, .fn 74 [] [.loc 0 0]]) (n0 := 0) (b0 := 1) (rows := [some ⟨aT, e, false, xs⟩]) (hp := [some [.int .i64 t.1, .int .i64 t.2]]) rfl (Nat.zero_le _) (fun i9 cs h9 => by
      match i9, h9 with
      | 0, h9 => cases h9; exact box_lt (hB qt _ hqt)
      | i9 + 1, h9 => simp [nthj] at h9) rfl (fun i9 r h9 => by
      match i9, h9 with
      | 0, h9 => cases h9; exact ⟨rfl, RowsAt.ro (hR i _ hi)⟩
      | i9 + 1, h9 => simp [nthj] at h9) rfl rfl (Nat.le_of_ble_eq_true rfl) ?_
    conv => whnf
    repeat (refine V_step T_ok (GOk.cons lt1_ok (GOk.cons seq_ok .nil)) rfl ?_; conv => whnf)
    have hx' : ∀ n : Nat, (n : Int) < (List.length (α := Ang) xs : Nat) → IsA (xs.getD n aT.dflt) := fun n hn => hx _ (getD_mem (by omega))
    refine V_loopP (γ := Nat) (fun g => g ≤ xs.length) (fun g => xs.length - g) (fun g => [(7, .row 1), (12, .int .i64 g)]) (fun _ => []) (fun _ => []) (fun g => [some ⟨bT, 5, true, (wordA xs t).take g⟩]) 0 (Nat.zero_le _) ?_ ?_
    · conv => whnf
      refine ⟨?_, by (conv => whnf); repeat (first | exact True.intro | (refine And.intro rfl ?_; conv => whnf)), by (conv => whnf); repeat (first | exact True.intro | (refine And.intro (by first | rfl | (subst_vars; rfl)) ?_; conv => whnf)), rfl, rfl, rfl, rfl, rfl, rfl, rfl, Nat.le_of_ble_eq_true rfl, Nat.le_of_ble_eq_true rfl⟩
      conv => whnf
      repeat (first | exact True.intro | (refine And.intro (by first | rfl | ((conv => whnf); exact congrArg (AVal.int .i64) (by omega)) | ((conv => whnf); exact congrArg (AVal.int .i64) (by simp only [Int.natCast_add, Int.natCast_one]; omega)) | ((conv => whnf); exact congrArg (AVal.irow _) (by first | omega | assumption | (simp only; omega)))) ?_; conv => whnf))
    · rintro g hg
      have hlen : (List.length (α := Int) ((wordA xs t).take g) : Int) = (g : Int) := by rw [List.length_take, wordA_len]; omega
      conv => whnf
      refine vcCode_sound T_ok (GOk.cons lt1_ok (GOk.cons seq_ok .nil)) _ _ _ _ _ ?_
      conv => whnf
      repeat (refine V_step T_ok (GOk.cons lt1_ok (GOk.cons seq_ok .nil)) rfl ?_; conv => whnf)
      have hpre : ¬ (g : Int) < (xs.length : Nat) → ((1 ≤ (strOfNums ((((wordA xs t).take g).drop p.toNat).take (((wordA xs t).take g).length - p.toNat))).size ∧ (strOfNums ((((wordA xs t).take g).drop p.toNat).take (((wordA xs t).take g).length - p.toNat))).size ≤ 64) ∧ (strOfNums ((((wordA xs t).take g).drop 0).take p.toNat)).size ≤ 1000000) := fun h => by
        simp only [strOfNums_size, List.length_take, List.length_drop, List.drop_zero, wordA_len]
        have hp2 : p.toNat < xs.length := by omega
        omega
      repeat (any_goals (first
        | (refine V_step T_ok (GOk.cons lt1_ok (GOk.cons seq_ok .nil)) rfl ?_; conv => whnf)
        | (refine V_drawA T_ok (GOk.cons lt1_ok (GOk.cons seq_ok .nil)) mixed (by kernel_rfl) ?_; conv => whnf)
        | (refine bcond_split (fun hc => ?_) (fun hc => ?_) <;> (try simp only [decide_eq_true_eq, decide_eq_false_iff_not, Bool.not_eq_true', Bool.not_eq_false', Bool.and_eq_true, Bool.or_eq_true, Bool.and_eq_false_imp, Bool.or_eq_false_iff, ne_eq, Decidable.not_not] at hc) <;> conv => whnf)
        | (intro ysK hysK; have hysl := congrArg List.length hysK; (try simp only [List.length_set, List.length_append, List.length_cons, List.length_nil, List.length_take, List.length_drop, List.length_replicate] at hysl); conv => whnf)
        | (intro bK hbK; have hbl := congrArg ByteArray.size hbK; conv => whnf)
        | (intro sK hsK; conv => whnf)
        | (refine And.intro (by first | (first | exact True.intro | exact ⟨hx' g (by assumption), ht⟩ | omega | (simp only [Rng]; omega) | exact hpre (by assumption)) | exact True.intro | exact ⟨rfl, True.intro, fun _ _ => rfl⟩ | exact Nat.le_of_ble_eq_true rfl | (refine ⟨by (try simp only [List.length_cons, List.length_nil]); omega, Int.le_trans (Int.mul_le_mul_of_nonneg_left (show (TInfo.bytes _ : Int) ≤ 64 from Int.ofNat_le.2 (Nat.le_of_ble_eq_true rfl)) (by omega)) (by (try simp only [List.length_cons, List.length_nil]); omega)⟩)) ?_; conv => whnf)))
      · refine ⟨g + 1, by omega, by omega, ?_⟩
        have hl : (g : Int) < (xs.length : Nat) := by assumption
        have hy : ysK = (wordA xs t).take (g + 1) := by
          rw [← word_next (by omega)]
          exact hysK
        clear hysK
        subst hy
        conv => whnf
        refine ⟨?_, by (conv => whnf); repeat (first | exact True.intro | (refine And.intro rfl ?_; conv => whnf)), by (conv => whnf); repeat (first | exact True.intro | (refine And.intro (by first | rfl | (subst_vars; rfl)) ?_; conv => whnf)), rfl, rfl, rfl, rfl, rfl, rfl, rfl, Nat.le_of_ble_eq_true rfl, Nat.le_of_ble_eq_true rfl⟩
        conv => whnf
        repeat (first | exact True.intro | (refine And.intro (by first | rfl | ((conv => whnf); exact congrArg (AVal.int .i64) (by omega)) | ((conv => whnf); exact congrArg (AVal.int .i64) (by simp only [Int.natCast_add, Int.natCast_one]; omega)) | ((conv => whnf); exact congrArg (AVal.irow _) (by first | omega | assumption | (simp only; omega)))) ?_; conv => whnf))
      · have hge : ¬ (g : Int) < (xs.length : Nat) := by assumption
        have hY : (wordA xs t).take g = wordA xs t := List.take_of_length_le (by rw [wordA_len]; omega)
        rw [hY] at hsK
        have hs : sK = seqW (wordA xs t) p.toNat := hsK.trans (seqW_cut _ _)
        exact leaf0 rfl (by rw [hs]) rfl
theorem orbP_lt {a : Ang} (h : orbB a = true) : orbP a < (orbX a).length := by
  unfold orbB at h
  unfold orbP orbX
  cases hl : lenA a with
  | none => rw [hl] at h; cases h
  | some n =>
    have h1 := (lenA_inv hl).2.1
    unfold stopA at h1
    rw [Bool.and_eq_true, decide_eq_true_iff] at h1
    simp only [List.length_map, List.length_range]
    exact h1.1
@[irreducible] noncomputable def itS (x t : Ang) : Sq := seqW (wordA (orbX x) t) (orbP x)
theorem itS_eq (x t : Ang) : itS x t = seqW (wordA (orbX x) t) (orbP x) := by unfold itS; rfl
def itC : PCtr := fun _ _ _ vals k => match vals with
  | [.agg [.int .i64 n, .int .i64 d], .agg [.int .i64 m, .int .i64 e]] => ((IsA (n, d) ∧ IsA (m, e)) ∧ orbB (n, d) = true) ∧ ∀ s : Sq, s = itS (n, d) (m, e) → k [] (.agg [.str s.1, .str s.2])
  | _ => False
theorem it_ok : PCtrOk Try.prog 67 itC where
  enter := enter_ok Try.func67 (by kernel_rfl) rfl
  calls := by
    intro hg rg lr vals k h
    unfold itC at h
    split at h
    case h_2 => exact h.elim
    rename_i n d m e
    obtain ⟨⟨⟨hx, ht⟩, hb⟩, hk⟩ := h
    replace hk := hk _ rfl
    refine ⟨_, _, hk, fun A w _ _ => ?_⟩
    refine enter T_ok (GOk.cons orbit_ok (GOk.cons spA_ok .nil)) Try.func67 rfl (K := (· < w.heap.size)) (fun _ h => h) (A := A) (n0 := 0) (b0 := 0) (rows := []) (hp := []) rfl (Nat.zero_le _) (fun k r h => by cases h) rfl (fun k r h => by cases h) rfl rfl (Nat.le_of_ble_eq_true rfl) ?_
    conv => whnf
    repeat (refine V_step T_ok (GOk.cons orbit_ok (GOk.cons spA_ok .nil)) rfl ?_; conv => whnf)
    repeat (any_goals (first
      | (refine V_step T_ok (GOk.cons orbit_ok (GOk.cons spA_ok .nil)) rfl ?_; conv => whnf)
      | (refine V_drawA T_ok (GOk.cons orbit_ok (GOk.cons spA_ok .nil)) mixed (by kernel_rfl) ?_; conv => whnf)
      | (refine bcond_split (fun hc => ?_) (fun hc => ?_) <;> (try simp only [decide_eq_true_eq, decide_eq_false_iff_not, Bool.not_eq_true', Bool.not_eq_false', Bool.and_eq_true, Bool.or_eq_true, Bool.and_eq_false_imp, Bool.or_eq_false_iff, ne_eq, Decidable.not_not] at hc) <;> conv => whnf)
      | (intro ysK hysK; have hysl := congrArg List.length hysK; (try simp only [List.length_set, List.length_append, List.length_cons, List.length_nil, List.length_take, List.length_drop, List.length_replicate] at hysl); conv => whnf)
      | (intro bK hbK; have hbl := congrArg ByteArray.size hbK; conv => whnf)
      | (intro sK hsK; conv => whnf)
      | (refine And.intro (by first | (first | exact True.intro | exact hx | exact ⟨⟨orbX_isA hx, ht⟩, ⟨Int.natCast_nonneg _, Int.ofNat_lt.2 (orbP_lt hb)⟩, orbX_len _⟩) | exact True.intro | exact ⟨rfl, True.intro, fun _ _ => rfl⟩ | exact Nat.le_of_ble_eq_true rfl | (refine ⟨by (try simp only [List.length_cons, List.length_nil]); omega, Int.le_trans (Int.mul_le_mul_of_nonneg_left (show (TInfo.bytes _ : Int) ≤ 64 from Int.ofNat_le.2 (Nat.le_of_ble_eq_true rfl)) (by omega)) (by (try simp only [List.length_cons, List.length_nil]); omega)⟩)) ?_; conv => whnf)))
    all_goals exact leaf0 rfl (by rw [show sK = itS (n, d) (m, e) from hsK.trans (itS_eq _ _).symm]) rfl
@[irreducible] noncomputable def itR (x t : Ang) : Sq := if orbB x = true then itS x t else (ByteArray.mk #[], ByteArray.mk #[])
theorem itR_t {x t : Ang} (h : orbB x = true) : itR x t = itS x t := by unfold itR; rw [if_pos h]
theorem itR_f {x t : Ang} (h : orbB x = false) : itR x t = (ByteArray.mk #[], ByteArray.mk #[]) := by unfold itR; rw [h]; rfl
def sItC : PCtr := fun _ _ _ vals k => match vals with
  | [.agg [.int .i64 n, .int .i64 d], .agg [.int .i64 m, .int .i64 e]] => (IsA (n, d) ∧ IsA (m, e)) ∧ ∀ s : Sq, s = itR (n, d) (m, e) → k [] (.tup [.agg [.str s.1, .str s.2], .bool (orbB (n, d))])
  | _ => False
abbrev GsI := (GOk.cons sOrbit_ok (GOk.cons sLet_ok (GOk.cons sSeq_ok .nil)))
theorem sIt_ok : PCtrOk Try.prog 68 sItC where
  enter := enter_ok Try.func68 (by kernel_rfl) rfl
  calls := by
    intro hg rg lr vals k h
    unfold sItC at h
    split at h
    case h_2 => exact h.elim
    rename_i n d m e
    obtain ⟨⟨hx, ht⟩, hk⟩ := h
    replace hk := hk _ rfl
    refine ⟨_, _, hk, fun A w _ _ => ?_⟩
    refine enter T_ok GsI Try.func68 rfl (K := (· < w.heap.size)) (fun _ h => h) (A := A) (n0 := 0) (b0 := 0) (rows := []) (hp := []) rfl (Nat.zero_le _) (fun k r h => by cases h) rfl (fun k r h => by cases h) rfl rfl (Nat.le_of_ble_eq_true rfl) ?_
    conv => whnf
    repeat (refine V_step T_ok GsI rfl ?_; conv => whnf)
    repeat (any_goals (first
      | (refine V_step T_ok GsI rfl ?_; conv => whnf)
      | (refine V_drawA T_ok GsI mixed (by kernel_rfl) ?_; conv => whnf)
      | (refine bcond_split (fun hc => ?_) (fun hc => ?_) <;> (try simp only [decide_eq_true_eq, decide_eq_false_iff_not, Bool.not_eq_true', Bool.not_eq_false', Bool.and_eq_true, Bool.or_eq_true, Bool.and_eq_false_imp, Bool.or_eq_false_iff, ne_eq, Decidable.not_not] at hc) <;> conv => whnf)
      | (intro ysK hysK; have hysl := congrArg List.length hysK; (try simp only [List.length_set, List.length_append, List.length_cons, List.length_nil, List.length_take, List.length_drop, List.length_replicate] at hysl); conv => whnf)
      | (intro bK hbK; have hbl := congrArg ByteArray.size hbK; conv => whnf)
      | (intro sK hsK; conv => whnf)
      | (refine And.intro (by first | (first | exact True.intro | exact hx) | exact True.intro | exact ⟨rfl, True.intro, fun _ _ => rfl⟩ | exact Nat.le_of_ble_eq_true rfl | (refine ⟨by (try simp only [List.length_cons, List.length_nil]); omega, Int.le_trans (Int.mul_le_mul_of_nonneg_left (show (TInfo.bytes _ : Int) ≤ 64 from Int.ofNat_le.2 (Nat.le_of_ble_eq_true rfl)) (by omega)) (by (try simp only [List.length_cons, List.length_nil]); omega)⟩)) ?_; conv => whnf)))
    · exact leaf0 rfl (by rw [itR_f hc, hc]; rfl) rfl
    · have hxs := orbX_isA hx
      have hx' : ∀ n' : Nat, (n' : Int) < (List.length (α := Ang) (orbX (n, d)) : Nat) → IsA ((orbX (n, d)).getD n' aT.dflt) := fun n' hn => hxs _ (getD_mem (by omega))
      have hpl := orbP_lt hc
      have hl64 := orbX_len (n, d)
      refine V_loopH (γ := Nat) (fun g => g ≤ (orbX (n, d)).length) (fun g => (orbX (n, d)).length - g) (fun g => [(9, .row 1), (10, .int .i64 g), (20, .junk)]) (fun _ => []) (fun g => [(1, some ⟨bT, 5, true, (wordA (orbX (n, d)) (m, e)).take g⟩)]) 0 (Nat.zero_le _) ?_ ?_
      · conv => whnf
        refine ⟨?_, by (conv => whnf); repeat (first | exact True.intro | (refine And.intro rfl ?_; conv => whnf)), by (conv => whnf); repeat (first | exact True.intro | (refine And.intro (by first | rfl | (subst_vars; rfl)) ?_; conv => whnf)), rfl, rfl, rfl, rfl, rfl, rfl, rfl, Nat.le_of_ble_eq_true rfl, Nat.le_of_ble_eq_true rfl⟩
        conv => whnf
        repeat (first | exact True.intro | (refine And.intro (by first | rfl | ((conv => whnf); exact congrArg (AVal.int .i64) (by omega)) | ((conv => whnf); exact congrArg (AVal.int .i64) (by simp only [Int.natCast_add, Int.natCast_one]; omega)) | ((conv => whnf); exact congrArg (AVal.irow _) (by first | omega | assumption | (simp only; omega)))) ?_; conv => whnf))
      · rintro g hg
        have hlen : (List.length (α := Int) ((wordA (orbX (n, d)) (m, e)).take g) : Int) = (g : Int) := by rw [List.length_take, wordA_len]; omega
        have hpre : ¬ (g : Int) < ((orbX (n, d)).length : Nat) → ((1 ≤ (strOfNums ((((wordA (orbX (n, d)) (m, e)).take g).drop (orbP (n, d))).take (((wordA (orbX (n, d)) (m, e)).take g).length - (orbP (n, d))))).size ∧ (strOfNums ((((wordA (orbX (n, d)) (m, e)).take g).drop (orbP (n, d))).take (((wordA (orbX (n, d)) (m, e)).take g).length - (orbP (n, d))))).size ≤ 64) ∧ (strOfNums ((((wordA (orbX (n, d)) (m, e)).take g).drop 0).take (orbP (n, d)))).size ≤ 1000000) := fun h => by
          simp only [strOfNums_size, List.length_take, List.length_drop, List.drop_zero, wordA_len]
          omega
        conv => whnf
        refine vcCode_sound T_ok GsI _ _ _ _ _ ?_
        conv => whnf
        repeat (refine V_step T_ok GsI rfl ?_; conv => whnf)
        repeat (any_goals (first
          | (refine V_step T_ok GsI rfl ?_; conv => whnf)
          | (refine V_drawA T_ok GsI mixed (by kernel_rfl) ?_; conv => whnf)
          | (refine bcond_split (fun hc => ?_) (fun hc => ?_) <;> (try simp only [decide_eq_true_eq, decide_eq_false_iff_not, Bool.not_eq_true', Bool.not_eq_false', Bool.and_eq_true, Bool.or_eq_true, Bool.and_eq_false_imp, Bool.or_eq_false_iff, ne_eq, Decidable.not_not] at hc) <;> conv => whnf)
          | (intro ysK hysK; have hysl := congrArg List.length hysK; (try simp only [List.length_set, List.length_append, List.length_cons, List.length_nil, List.length_take, List.length_drop, List.length_replicate] at hysl); conv => whnf)
          | (intro bK hbK; have hbl := congrArg ByteArray.size hbK; conv => whnf)
          | (intro sK hsK; conv => whnf)
          | (refine And.intro (by first | (first | exact True.intro | exact ⟨hx' g (by assumption), ht⟩ | omega | (simp only [Rng]; omega) | exact hpre (by assumption)) | exact True.intro | exact ⟨rfl, True.intro, fun _ _ => rfl⟩ | exact Nat.le_of_ble_eq_true rfl | (refine ⟨by (try simp only [List.length_cons, List.length_nil]); omega, Int.le_trans (Int.mul_le_mul_of_nonneg_left (show (TInfo.bytes _ : Int) ≤ 64 from Int.ofNat_le.2 (Nat.le_of_ble_eq_true rfl)) (by omega)) (by (try simp only [List.length_cons, List.length_nil]); omega)⟩)) ?_; conv => whnf)))
        · have hl : (g : Int) < ((orbX (n, d)).length : Nat) := by assumption
          have hy : ysK = (wordA (orbX (n, d)) (m, e)).take (g + 1) := by
            rw [← word_next (by omega)]
            exact hysK
          clear hysK
          subst hy
          refine ⟨g + 1, by omega, by omega, ?_⟩
          conv => whnf
          refine ⟨?_, by (conv => whnf); repeat (first | exact True.intro | (refine And.intro rfl ?_; conv => whnf)), by (conv => whnf); repeat (first | exact True.intro | (refine And.intro (by first | rfl | (subst_vars; rfl)) ?_; conv => whnf)), rfl, rfl, rfl, rfl, rfl, rfl, rfl, Nat.le_of_ble_eq_true rfl, Nat.le_of_ble_eq_true rfl⟩
          conv => whnf
          repeat (first | exact True.intro | (refine And.intro (by first | rfl | ((conv => whnf); exact congrArg (AVal.int .i64) (by omega)) | ((conv => whnf); exact congrArg (AVal.int .i64) (by simp only [Int.natCast_add, Int.natCast_one]; omega)) | ((conv => whnf); exact congrArg (AVal.irow _) (by first | omega | assumption | (simp only; omega)))) ?_; conv => whnf))
        · have hge : ¬ (g : Int) < ((orbX (n, d)).length : Nat) := by assumption
          have hY : (wordA (orbX (n, d)) (m, e)).take g = wordA (orbX (n, d)) (m, e) := List.take_of_length_le (by rw [wordA_len]; omega)
          have hb : orbB (n, d) = true := by assumption
          rw [hY] at hsK
          have hs : sK = itR (n, d) (m, e) := (hsK.trans (seqW_cut _ _)).trans ((itR_t hb).trans (itS_eq _ _)).symm
          exact leaf0 rfl (by rw [hs, hb]) rfl
end Go.Proofs.Ytllagpbbbdekiac.Fw
