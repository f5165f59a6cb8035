/- Contracts: IsSequence, sequencesCode; the reference's letters and sequences. -/
import Derived.Test.YtlplngafncobkadS3
namespace Go.Proofs.Ytlplngafncobkad.Fw
open Go Go.RowKit
set_option linter.unusedVariables false
set_option linter.unusedSimpArgs false
set_option maxRecDepth 100000
set_option maxHeartbeats 2000000

@[irreducible] noncomputable def isSeqB (s : Sq) : Bool := @decide (IsSeq s) (Classical.propDecidable _)
theorem isSeqB_iff (s : Sq) : isSeqB s = true ↔ IsSeq s := by unfold isSeqB; exact @decide_eq_true_iff _ (Classical.propDecidable _)
theorem isSeqB_true {s : Sq} (h1 : letS s.1 = true) (h2 : letS s.2 = true) (h3 : 1 ≤ s.2.size ∧ s.1.size + s.2.size ≤ 64) (h4 : seqB s.1 s.2 = s) : isSeqB s = true := (isSeqB_iff s).2 ⟨⟨h1, h2⟩, h3, h4⟩
theorem isSeqB_false {s : Sq} (h : IsSeq s → False) : isSeqB s = false := by
  rcases hb : isSeqB s with _ | _
  · rfl
  · exact (h ((isSeqB_iff s).1 hb)).elim
theorem isSeqB_eq {n d : ByteArray} {sK : Sq} (h : sK = seqB n d) (hl : letS n = true ∧ letS d = true) (hg : 1 ≤ d.size ∧ n.size + d.size ≤ 64) : (decide (sK.1 = n) && decide (sK.2 = d)) = isSeqB (n, d) := by
  rw [Bool.eq_iff_iff, isSeqB_iff, Bool.and_eq_true, decide_eq_true_iff, decide_eq_true_iff]
  constructor
  · rintro ⟨h1, h2⟩
    exact ⟨hl, hg, h ▸ Prod.ext h1 h2⟩
  · rintro ⟨_, _, h1⟩
    have h2 : sK = (n, d) := h.trans h1
    exact ⟨congrArg Prod.fst h2, congrArg Prod.snd h2⟩
theorem letS_and {n d : ByteArray} : letS (n ++ d) = true ↔ letS n = true ∧ letS d = true := by rw [letS_append, Bool.and_eq_true]
/-- A sequence whose texts are not too long to be told. -/
def SzS (s : Sq) : Prop := s.1.size + s.2.size ≤ 1048576

def givenC : PCtr := fun _ _ _ vals k => match vals with
  | [.str p, .str q] => p.size + q.size ≤ 1048576 ∧ k [] (.bool (decide (1 ≤ q.size ∧ p.size + q.size ≤ 64)))
  | _ => False
theorem given_ok : PCtrOk Try.prog 92 givenC where
  enter := enter_ok Try.func92 (by kernel_rfl) rfl
  calls := by
    intro hg rg lr vals k h
    unfold givenC at h
    split at h
    case h_2 => exact h.elim
    rename_i p q
    obtain ⟨h1, hk⟩ := h
    refine ⟨_, _, hk, fun A w _ _ => ?_⟩
    refine enter T_ok .nil Try.func92 rfl (K := (· < w.heap.size)) (fun _ h => h) (A := A) (n0 := 0) (b0 := 0) (rows := []) (hp := []) rfl (Nat.zero_le _) (fun k r h => by cases h) rfl (fun k r h => by cases h) rfl rfl (Nat.le_of_ble_eq_true rfl) ?_
    conv => whnf
    repeat (refine V_step T_ok .nil rfl ?_; conv => whnf)
    repeat (any_goals (first
      | (refine V_step T_ok .nil rfl ?_; conv => whnf)
      | (refine V_drawA T_ok .nil mixed (by kernel_rfl) ?_; conv => whnf)
      | (refine bcond_split (fun hc => ?_) (fun hc => ?_) <;> (try simp only [decide_eq_true_eq, decide_eq_false_iff_not, Bool.not_eq_true', Bool.not_eq_false', Bool.and_eq_true, Bool.or_eq_true, Bool.and_eq_false_imp, Bool.or_eq_false_iff, ne_eq, Decidable.not_not] at hc) <;> conv => whnf)
      | (intro ysK hysK; have hysl := congrArg List.length hysK; (try simp only [List.length_set, List.length_append, List.length_cons, List.length_nil, List.length_take, List.length_drop, List.length_replicate] at hysl); conv => whnf)
      | (intro bK hbK; have hbl := congrArg ByteArray.size hbK; conv => whnf)
      | (intro sK hsK; conv => whnf)
      | (refine And.intro (by first | exact True.intro | (with_reducible assumption) | omega | (simp only [Rng]; omega) | exact Nat.le_of_ble_eq_true rfl | exact True.intro | exact ⟨rfl, True.intro, fun _ _ => rfl⟩ | exact Nat.le_of_ble_eq_true rfl | (refine ⟨by (try simp only [List.length_cons, List.length_nil]); omega, Int.le_trans (Int.mul_le_mul_of_nonneg_left (show (TInfo.bytes _ : Int) ≤ 64 from Int.ofNat_le.2 (Nat.le_of_ble_eq_true rfl)) (by omega)) (by (try simp only [List.length_cons, List.length_nil]); omega)⟩)) ?_; conv => whnf)))
    · have := szne (show ¬ q = ByteArray.mk #[] from by assumption)
      exact leaf0 rfl (congrArg AVal.bool (decide_eq_decide.2 (by omega))) rfl
    · have := sz0 (show q = ByteArray.mk #[] from by assumption)
      exact leaf0 rfl (congrArg AVal.bool (Eq.symm (decide_eq_false (by omega)))) rfl

def isSeqC : PCtr := fun _ _ _ vals k => match vals with
  | [.agg [.str n, .str d]] => (True ∧ SzS (n, d)) ∧ k [] (.bool (isSeqB (n, d)))
  | _ => False
abbrev GIs := (GOk.cons letrs_ok (GOk.cons given_ok (GOk.cons seq_ok .nil)))
theorem isSeq_ok : PCtrOk Try.prog 57 isSeqC where
  enter := enter_ok Try.func57 (by kernel_rfl) rfl
  calls := by
    intro hg rg lr vals k h
    unfold isSeqC at h
    split at h
    case h_2 => exact h.elim
    rename_i n d
    obtain ⟨⟨_, hx⟩, hk⟩ := h
    refine ⟨_, _, hk, fun A w _ _ => ?_⟩
    refine enter T_ok GIs Try.func57 rfl (K := (· < w.heap.size)) (fun _ h => h) (A := A) (n0 := 0) (b0 := 0) (rows := []) (hp := []) rfl (Nat.zero_le _) (fun k r h => by cases h) rfl (fun k r h => by cases h) rfl rfl (Nat.le_of_ble_eq_true rfl) ?_
    conv => whnf
    repeat (refine V_step T_ok GIs rfl ?_; conv => whnf)
    have hx : n.size + d.size ≤ 1048576 := hx
    have hx2 : (n ++ d).size ≤ 9223372036854775807 := by rw [ByteArray.size_append]; omega
    repeat (any_goals (first
      | (refine V_step T_ok GIs rfl ?_; conv => whnf)
      | (refine V_drawA T_ok GIs mixed (by kernel_rfl) ?_; conv => whnf)
      | (refine bcond_split (fun hc => ?_) (fun hc => ?_) <;> (try simp only [decide_eq_true_eq, decide_eq_false_iff_not, Bool.not_eq_true', Bool.not_eq_false', Bool.and_eq_true, Bool.or_eq_true, Bool.and_eq_false_imp, Bool.or_eq_false_iff, ne_eq, Decidable.not_not] at hc) <;> conv => whnf)
      | (intro ysK hysK; have hysl := congrArg List.length hysK; (try simp only [List.length_set, List.length_append, List.length_cons, List.length_nil, List.length_take, List.length_drop, List.length_replicate] at hysl); conv => whnf)
      | (intro bK hbK; have hbl := congrArg ByteArray.size hbK; conv => whnf)
      | (intro sK hsK; conv => whnf)
      | (refine And.intro (by first | (first | exact True.intro | omega | with_reducible assumption | (have := of_decide_eq_true (show decide (1 ≤ d.size ∧ n.size + d.size ≤ 64) = true from by assumption); exact ⟨⟨by omega, by omega⟩, by omega⟩)) | exact True.intro | exact ⟨rfl, True.intro, fun _ _ => rfl⟩ | exact Nat.le_of_ble_eq_true rfl | (refine ⟨by (try simp only [List.length_cons, List.length_nil]); omega, Int.le_trans (Int.mul_le_mul_of_nonneg_left (show (TInfo.bytes _ : Int) ≤ 64 from Int.ofNat_le.2 (Nat.le_of_ble_eq_true rfl)) (by omega)) (by (try simp only [List.length_cons, List.length_nil]); omega)⟩)) ?_; conv => whnf)))
    · rename_i hl
      exact leaf0 rfl (congrArg AVal.bool (isSeqB_eq hsK (letS_and.1 hl) hc)) rfl
    · exact leaf0 rfl (congrArg AVal.bool (isSeqB_false fun h => hc h.2.1).symm) rfl
    · exact leaf0 rfl (congrArg AVal.bool (isSeqB_false fun h => by have := letS_and.2 h.1; simp only at this; rw [this] at hc; cases hc).symm) rfl

def allS1C : PCtr := fun hg rg _ vals k => match vals with
  | [.agg [.str n, .str d], .loc j 0] => boxF (hg j) 57 <| ((True) ∧ SzS (n, d)) ∧ k [] (.bool (!(isSeqB) (n, d)))
  | _ => False
theorem allS1_ok : PCtrOk Try.prog 111 allS1C where
  enter := enter_ok Try.func111 (by kernel_rfl) rfl
  calls := by
    intro hg rg lr vals k h
    unfold allS1C at h
    split at h
    case h_2 => exact h.elim
    rename_i n d j
    obtain ⟨hj, h⟩ := boxF_inv h
    obtain ⟨⟨hE, hx⟩, hk⟩ := h
    refine ⟨_, _, hk, fun A w hB hR => ?_⟩
    refine enter T_ok (GOk.cons isSeq_ok .nil) Try.func111 rfl (K := (· < w.heap.size)) (fun _ h => h) (A := A.pick [j] []) (vals := [.agg [.str n, .str d], .loc 0 0]) (n0 := 0) (b0 := 1) (rows := []) (hp := [some [.fn 57 [] []]]) rfl (Nat.zero_le _) (fun i9 cs h9 => by
      match i9, h9 with
      | 0, h9 => cases h9; exact box_lt (hB j _ hj)
      | i9 + 1, h9 => simp [nthj] at h9) rfl no_row rfl rfl (Nat.le_of_ble_eq_true rfl) ?_
    conv => whnf
    repeat (refine V_step T_ok (GOk.cons isSeq_ok .nil) rfl ?_; conv => whnf)
    repeat (any_goals (first
      | (refine V_step T_ok (GOk.cons isSeq_ok .nil) rfl ?_; conv => whnf)
      | (refine V_drawA T_ok (GOk.cons isSeq_ok .nil) mixed (by kernel_rfl) ?_; conv => whnf)
      | (refine bcond_split (fun hc => ?_) (fun hc => ?_) <;> (try simp only [decide_eq_true_eq, decide_eq_false_iff_not, Bool.not_eq_true', Bool.not_eq_false', Bool.and_eq_true, Bool.or_eq_true, Bool.and_eq_false_imp, Bool.or_eq_false_iff, ne_eq, Decidable.not_not] at hc) <;> conv => whnf)
      | (intro ysK hysK; have hysl := congrArg List.length hysK; (try simp only [List.length_set, List.length_append, List.length_cons, List.length_nil, List.length_take, List.length_drop, List.length_replicate] at hysl); conv => whnf)
      | (intro bK hbK; have hbl := congrArg ByteArray.size hbK; conv => whnf)
      | (intro sK hsK; conv => whnf)
      | (refine And.intro (by first | (first | exact True.intro | exact ⟨hE, hx⟩) | exact True.intro | exact ⟨rfl, True.intro, fun _ _ => rfl⟩ | exact Nat.le_of_ble_eq_true rfl | (refine ⟨by (try simp only [List.length_cons, List.length_nil]); omega, Int.le_trans (Int.mul_le_mul_of_nonneg_left (show (TInfo.bytes _ : Int) ≤ 64 from Int.ofNat_le.2 (Nat.le_of_ble_eq_true rfl)) (by omega)) (by (try simp only [List.length_cons, List.length_nil]); omega)⟩)) ?_; conv => whnf)))
    all_goals exact leaf0 rfl rfl rfl

def allSxC : PCtr := fun hg rg _ vals k => match vals with
  | [.row i, .fn f [] [.loc j 0]] => isF f 111 (rowC sT (rg i) fun xs => boxF (hg j) 57 <| ((True) ∧ ∀ x ∈ (xs : List Sq), SzS x) ∧ k [] (.int .i64 (idxP (α := Sq) (fun x => !(isSeqB) x) xs)))
  | _ => False
theorem allSx_ok : PCtrOk Try.prog 123 allSxC where
  enter := enter_ok Try.func123 (by kernel_rfl) rfl
  calls := by
    intro hg rg lr vals k h
    unfold allSxC at h
    split at h
    case h_2 => exact h.elim
    rename_i i f j
    obtain ⟨rfl, h⟩ := isF_inv h
    obtain ⟨e, own, xs, hi, h⟩ : ∃ e own, ∃ (xs : List Sq), _ := rowC_inv h
    obtain ⟨hj, h⟩ := boxF_inv h
    obtain ⟨⟨hE, hx⟩, hk⟩ := h
    refine ⟨_, _, hk, fun A w hB hR => ?_⟩
    refine enter T_ok (GOk.cons allS1_ok .nil) Try.func123 rfl (K := (· < w.heap.size)) (fun _ h => h) (A := A.pick [j] [i]) (vals := [.row 0, .fn 111 [] [.loc 0 0]]) (n0 := 0) (b0 := 1) (rows := [some ⟨sT, e, false, xs⟩]) (hp := [some [.fn 57 [] []]]) rfl (Nat.zero_le _) (fun i9 cs h9 => by
      match i9, h9 with
      | 0, h9 => cases h9; exact box_lt (hB j _ hj)
      | i9 + 1, h9 => simp [nthj] at h9) rfl (fun i9 r h9 => by
      match i9, h9 with
      | 0, h9 => cases h9; exact ⟨rfl, RowsAt.ro (hR i _ hi)⟩
      | i9 + 1, h9 => simp [nthj] at h9) rfl rfl (Nat.le_of_ble_eq_true rfl) ?_
    conv => whnf
    repeat (refine V_step T_ok (GOk.cons allS1_ok .nil) rfl ?_; conv => whnf)
    have hcap' : (@List.length (TyC.α sT) xs : Int) ≤ 9223372036854775807 := by
      have h1 := (hR i _ hi).len
      have h2 := (hR i _ hi).cap
      have h3 := (hR i _ hi).max
      simp only at h1
      have : maxLen = 9223372036854775807 := rfl
      omega
    have hcap : (xs.length : Int) ≤ 9223372036854775807 := hcap'
    have hx' : ∀ n : Nat, (n : Int) < (List.length (α := Sq) xs : Nat) → SzS (xs.getD n sT.dflt) := fun n hn => hx _ (getD_mem (by omega))
    refine V_loopH (γ := Nat) (fun n => n ≤ xs.length ∧ ∀ j, j < n → (fun x => !(isSeqB) x) (xs.getD j sT.dflt) = false) (fun n => xs.length - n)
      (fun n => [(8, .int .i64 n)]) (fun _ => []) (fun _ => []) 0 ⟨Nat.zero_le _, fun j h => absurd h (Nat.not_lt_zero _)⟩ ?_ ?_
    · conv => whnf
      refine ⟨?_, by (conv => whnf); repeat (first | exact True.intro | (refine And.intro rfl ?_; conv => whnf)), by (conv => whnf); repeat (first | exact True.intro | (refine And.intro (by first | rfl | (subst_vars; rfl)) ?_; conv => whnf)), rfl, rfl, rfl, rfl, rfl, rfl, rfl, Nat.le_of_ble_eq_true rfl, Nat.le_of_ble_eq_true rfl⟩
      conv => whnf
      repeat (first | exact True.intro | (refine And.intro (by first | rfl | ((conv => whnf); exact congrArg (AVal.int .i64) (by omega)) | ((conv => whnf); exact congrArg (AVal.int .i64) (by simp only [Int.natCast_add, Int.natCast_one]; omega))) ?_; conv => whnf))
    · rintro n ⟨h1, h2⟩
      conv => whnf
      refine vcCode_sound T_ok (GOk.cons allS1_ok .nil) _ _ _ _ _ ?_
      conv => whnf
      repeat (refine V_step T_ok (GOk.cons allS1_ok .nil) rfl ?_; conv => whnf)
      repeat (any_goals (first
        | (refine V_step T_ok (GOk.cons allS1_ok .nil) rfl ?_; conv => whnf)
        | (refine V_drawA T_ok (GOk.cons allS1_ok .nil) mixed (by kernel_rfl) ?_; conv => whnf)
        | (refine bcond_split (fun hc => ?_) (fun hc => ?_) <;> (try simp only [decide_eq_true_eq, decide_eq_false_iff_not, Bool.not_eq_true', Bool.not_eq_false', Bool.and_eq_true, Bool.or_eq_true, Bool.and_eq_false_imp, Bool.or_eq_false_iff, ne_eq, Decidable.not_not] at hc) <;> conv => whnf)
        | (intro ysK hysK; have hysl := congrArg List.length hysK; (try simp only [List.length_set, List.length_append, List.length_cons, List.length_nil, List.length_take, List.length_drop, List.length_replicate] at hysl); conv => whnf)
        | (intro bK hbK; have hbl := congrArg ByteArray.size hbK; conv => whnf)
        | (intro sK hsK; conv => whnf)
        | (refine And.intro (by first | (first | exact True.intro | omega | (simp only [Rng]; omega) | exact ⟨hE, hx' n (by assumption)⟩) | exact True.intro | exact ⟨rfl, True.intro, fun _ _ => rfl⟩ | exact Nat.le_of_ble_eq_true rfl | (refine ⟨by (try simp only [List.length_cons, List.length_nil]); omega, Int.le_trans (Int.mul_le_mul_of_nonneg_left (show (TInfo.bytes _ : Int) ≤ 64 from Int.ofNat_le.2 (Nat.le_of_ble_eq_true rfl)) (by omega)) (by (try simp only [List.length_cons, List.length_nil]); omega)⟩)) ?_; conv => whnf)))
      · rename_i hc0
        have hl : (n : Int) < (xs.length : Nat) := hc0
        exact leaf0 rfl (congrArg (AVal.int .i64) (idxP_found (fun x => !(isSeqB) x) xs n sT.dflt (by omega) h2 (by first | exact hc | exact congrArg not hc | (simp only [Bool.not_not]; exact hc))).symm) rfl
      · rename_i hc0
        have hl : (n : Int) < (xs.length : Nat) := hc0
        refine ⟨n + 1, ⟨by omega, fun j hj => ?_⟩, by omega, ?_⟩
        · rcases Nat.lt_or_ge j n with h | h
          · exact h2 j h
          · obtain rfl : j = n := by omega
            first | exact hc | exact congrArg not hc | (simp only [Bool.not_not]; exact hc)
        · conv => whnf
          refine ⟨?_, by (conv => whnf); repeat (first | exact True.intro | (refine And.intro rfl ?_; conv => whnf)), by (conv => whnf); repeat (first | exact True.intro | (refine And.intro (by first | rfl | (subst_vars; rfl)) ?_; conv => whnf)), rfl, rfl, rfl, rfl, rfl, rfl, rfl, Nat.le_of_ble_eq_true rfl, Nat.le_of_ble_eq_true rfl⟩
          conv => whnf
          repeat (first | exact True.intro | (refine And.intro (by first | rfl | ((conv => whnf); exact congrArg (AVal.int .i64) (by omega)) | ((conv => whnf); exact congrArg (AVal.int .i64) (by simp only [Int.natCast_add, Int.natCast_one]; omega))) ?_; conv => whnf))
      · have hl : ¬ (n : Int) < (xs.length : Nat) := hc
        exact leaf0 rfl (congrArg (AVal.int .i64) (idxP_none (fun x => !(isSeqB) x) xs sT.dflt (fun j hj => h2 j (by omega))).symm) rfl

def allScC : PCtr := fun hg rg _ vals k => match vals with
  | [.row i, .fn f [] [.loc j 0]] => isF f 111 (rowC sT (rg i) fun xs => boxF (hg j) 57 <| ((True) ∧ ∀ x ∈ (xs : List Sq), SzS x) ∧ k [] (.bool (List.any (α := Sq) xs (fun x => !(isSeqB) x))))
  | _ => False
theorem allSc_ok : PCtrOk Try.prog 110 allScC where
  enter := enter_ok Try.func110 (by kernel_rfl) rfl
  calls := by
    intro hg rg lr vals k h
    unfold allScC at h
    split at h
    case h_2 => exact h.elim
    rename_i i f j
    obtain ⟨rfl, h⟩ := isF_inv h
    obtain ⟨e, own, xs, hi, h⟩ : ∃ e own, ∃ (xs : List Sq), _ := rowC_inv h
    obtain ⟨hj, h⟩ := boxF_inv h
    obtain ⟨⟨hE, hx⟩, hk⟩ := h
    refine ⟨_, _, hk, fun A w hB hR => ?_⟩
    refine enter T_ok (GOk.cons allSx_ok .nil) Try.func110 rfl (K := (· < w.heap.size)) (fun _ h => h) (A := A.pick [j] [i]) (vals := [.row 0, .fn 111 [] [.loc 0 0]]) (n0 := 0) (b0 := 1) (rows := [some ⟨sT, e, false, xs⟩]) (hp := [some [.fn 57 [] []]]) rfl (Nat.zero_le _) (fun i9 cs h9 => by
      match i9, h9 with
      | 0, h9 => cases h9; exact box_lt (hB j _ hj)
      | i9 + 1, h9 => simp [nthj] at h9) rfl (fun i9 r h9 => by
      match i9, h9 with
      | 0, h9 => cases h9; exact ⟨rfl, RowsAt.ro (hR i _ hi)⟩
      | i9 + 1, h9 => simp [nthj] at h9) rfl rfl (Nat.le_of_ble_eq_true rfl) ?_
    conv => whnf
    repeat (refine V_step T_ok (GOk.cons allSx_ok .nil) rfl ?_; conv => whnf)
    repeat (any_goals (first
      | (refine V_step T_ok (GOk.cons allSx_ok .nil) rfl ?_; conv => whnf)
      | (refine V_drawA T_ok (GOk.cons allSx_ok .nil) mixed (by kernel_rfl) ?_; conv => whnf)
      | (refine bcond_split (fun hc => ?_) (fun hc => ?_) <;> (try simp only [decide_eq_true_eq, decide_eq_false_iff_not, Bool.not_eq_true', Bool.not_eq_false', Bool.and_eq_true, Bool.or_eq_true, Bool.and_eq_false_imp, Bool.or_eq_false_iff, ne_eq, Decidable.not_not] at hc) <;> conv => whnf)
      | (intro ysK hysK; have hysl := congrArg List.length hysK; (try simp only [List.length_set, List.length_append, List.length_cons, List.length_nil, List.length_take, List.length_drop, List.length_replicate] at hysl); conv => whnf)
      | (intro bK hbK; have hbl := congrArg ByteArray.size hbK; conv => whnf)
      | (intro sK hsK; conv => whnf)
      | (refine And.intro (by first | (first | exact ⟨hE, hx⟩ | exact True.intro) | exact True.intro | exact ⟨rfl, True.intro, fun _ _ => rfl⟩ | exact Nat.le_of_ble_eq_true rfl | (refine ⟨by (try simp only [List.length_cons, List.length_nil]); omega, Int.le_trans (Int.mul_le_mul_of_nonneg_left (show (TInfo.bytes _ : Int) ≤ 64 from Int.ofNat_le.2 (Nat.le_of_ble_eq_true rfl)) (by omega)) (by (try simp only [List.length_cons, List.length_nil]); omega)⟩)) ?_; conv => whnf)))
    all_goals exact leaf0 rfl (congrArg AVal.bool (idxP_any (fun x => !(isSeqB) x) xs)) rfl

def allSC : PCtr := fun hg rg _ vals k => match vals with
  | [.row i, .fn f [] []] => isF f 57 (rowC sT (rg i) fun xs => ((True) ∧ ∀ x ∈ (xs : List Sq), SzS x) ∧ k [] (.bool (List.all (α := Sq) xs (isSeqB))))
  | _ => False
theorem allS_ok : PCtrOk Try.prog 88 allSC where
  enter := enter_ok Try.func88 (by kernel_rfl) rfl
  calls := by
    intro hg rg lr vals k h
    unfold allSC at h
    split at h
    case h_2 => exact h.elim
    rename_i i f
    obtain ⟨rfl, h⟩ := isF_inv h
    obtain ⟨e, own, xs, hi, h⟩ : ∃ e own, ∃ (xs : List Sq), _ := rowC_inv h
    obtain ⟨⟨hE, hx⟩, hk⟩ := h
    refine ⟨_, _, hk, fun A w hB hR => ?_⟩
    refine enter T_ok (GOk.cons allSc_ok .nil) Try.func88 rfl (K := (· < w.heap.size)) (fun _ h => h) (A := A.pick [] [i]) (vals := [.row 0, .fn 57 [] []]) (n0 := 0) (b0 := 0) (rows := [some ⟨sT, e, false, xs⟩]) (hp := []) rfl (Nat.zero_le _) no_box rfl (fun i9 r h9 => by
      match i9, h9 with
      | 0, h9 => cases h9; exact ⟨rfl, RowsAt.ro (hR i _ hi)⟩
      | i9 + 1, h9 => simp [nthj] at h9) rfl rfl (Nat.le_of_ble_eq_true rfl) ?_
    conv => whnf
    repeat (refine V_step T_ok (GOk.cons allSc_ok .nil) rfl ?_; conv => whnf)
    repeat (any_goals (first
      | (refine V_step T_ok (GOk.cons allSc_ok .nil) rfl ?_; conv => whnf)
      | (refine V_drawA T_ok (GOk.cons allSc_ok .nil) mixed (by kernel_rfl) ?_; conv => whnf)
      | (refine bcond_split (fun hc => ?_) (fun hc => ?_) <;> (try simp only [decide_eq_true_eq, decide_eq_false_iff_not, Bool.not_eq_true', Bool.not_eq_false', Bool.and_eq_true, Bool.or_eq_true, Bool.and_eq_false_imp, Bool.or_eq_false_iff, ne_eq, Decidable.not_not] at hc) <;> conv => whnf)
      | (intro ysK hysK; have hysl := congrArg List.length hysK; (try simp only [List.length_set, List.length_append, List.length_cons, List.length_nil, List.length_take, List.length_drop, List.length_replicate] at hysl); conv => whnf)
      | (intro bK hbK; have hbl := congrArg ByteArray.size hbK; conv => whnf)
      | (intro sK hsK; conv => whnf)
      | (refine And.intro (by first | (first | exact ⟨hE, hx⟩ | exact True.intro) | exact True.intro | exact ⟨rfl, True.intro, fun _ _ => rfl⟩ | exact Nat.le_of_ble_eq_true rfl | (refine ⟨by (try simp only [List.length_cons, List.length_nil]); omega, Int.le_trans (Int.mul_le_mul_of_nonneg_left (show (TInfo.bytes _ : Int) ≤ 64 from Int.ofNat_le.2 (Nat.le_of_ble_eq_true rfl)) (by omega)) (by (try simp only [List.length_cons, List.length_nil]); omega)⟩)) ?_; conv => whnf)))
    all_goals exact leaf0 rfl (congrArg AVal.bool (not_any_not (isSeqB) xs)) rfl


end Go.Proofs.Ytlplngafncobkad.Fw
-- %intro
