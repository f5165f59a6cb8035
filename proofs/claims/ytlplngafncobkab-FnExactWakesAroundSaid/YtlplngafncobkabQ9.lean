/- Contracts: wakes about angles, in order. -/
import Derived.Test.YtlplngafncobkabQ8
namespace Go.Proofs.Ytlplngafncobkab.Fw
open Go Go.RowKit
set_option linter.unusedVariables false
set_option linter.unusedSimpArgs false
set_option maxRecDepth 100000
set_option maxHeartbeats 2000000

theorem sortWide_ok : MCtrOk Try.prog 94 (sortC 95 widF) :=
  sort_ok wcmp_ok (fun p => - vA (widthA p.1)) (fun x y => by unfold widF; rw [cmpA_neg, lessA_w y.2 x.2]; grind) (fun x y => by unfold widF; rw [cmpA_neg, cmpA_neg]; exact lessA_asymm _ _)
def wakC : PCtr := fun _ rg lr vals k => match vals with
  | [.int .i64 n, .row i] => rowC aT (rg i) fun xs => ((2 ≤ n ∧ n ≤ 8) ∧ (xs : List Ang) ≠ [] ∧ ∀ x ∈ (xs : List Ang), IsA x) ∧ ∀ ys, ys = wakL n xs → k [⟨lT, 36, true, ys⟩] (.row lr)
  | _ => False
theorem filter_all (m : Nat) (xs : List Ang) : (prN m).filter (fun x => !(notAll xs) x) = (prN m).filter fun p => xs.all fun x => inW x p := by
  congr 1
  funext p
  unfold notAll
  rw [Bool.not_not]
  rfl
abbrev GWk := GOk.cons upTo_ok (GOk.mcons wkd_ok (GOk.mcons sortWide_ok .nil))
theorem wakes_ok : PCtrOk Try.prog 57 wakC where
  enter := enter_ok Try.func57 (by kernel_rfl) rfl
  calls := by
    intro hg rg lr vals k h
    unfold wakC at h
    split at h
    case h_2 => exact h.elim
    rename_i n i
    obtain ⟨e, own, xs, hi, h⟩ : ∃ e own, ∃ (xs : List Ang), _ := rowC_inv h
    obtain ⟨⟨hn, hne, hA⟩, hk⟩ := h
    replace hk := hk _ rfl
    refine ⟨_, _, hk, fun A w hB hR => ?_⟩
    refine enter T_ok GWk Try.func57 rfl (K := (· < w.heap.size)) (fun _ h => h) (A := A.pick [] [i]) (vals := [.int .i64 n, .row 0]) (n0 := 0) (b0 := 0) (rows := [some ⟨aT, e, false, xs⟩]) (hp := []) rfl (Nat.zero_le _) no_box rfl (one_row (hR i _ hi)) rfl rfl (Nat.le_of_ble_eq_true rfl) ?_
    conv => whnf
    repeat (refine V_step T_ok GWk rfl ?_; conv => whnf)
    obtain ⟨m, hm⟩ : ∃ m : Nat, n.toNat - 1 = m ∧ m ≤ 7 := ⟨n.toNat - 1, rfl, by omega⟩
    obtain ⟨hm, hm7⟩ := hm
    have hL : ∀ x ∈ prN (n.toNat - 1), IsL x := prN_isL (by omega)
    have hlen := prN_len (m := n.toNat - 1) (by omega)
    repeat (any_goals (first
      | (refine V_step T_ok GWk rfl ?_; conv => whnf)
      | (refine V_drawA T_ok GWk mixed (by kernel_rfl) ?_; conv => whnf)
      | (refine bcond_split (fun hc => ?_) (fun hc => ?_) <;> (try simp only [decide_eq_true_eq, decide_eq_false_iff_not, Bool.not_eq_true', Bool.not_eq_false', Bool.and_eq_true, Bool.or_eq_true, Bool.and_eq_false_imp, Bool.or_eq_false_iff, ne_eq, Decidable.not_not] at hc) <;> conv => whnf)
      | (intro ysK hysK; have hysl := congrArg List.length hysK; (try simp only [List.length_set, List.length_append, List.length_cons, List.length_nil, List.length_take, List.length_drop, List.length_replicate] at hysl); conv => whnf)
      | (refine And.intro (by first | (first | exact True.intro | omega | exact ⟨by omega, hA, hL⟩) | exact True.intro | exact Nat.le_of_ble_eq_true rfl | (refine ⟨by (try simp only [List.length_cons, List.length_nil]); omega, Int.le_trans (Int.mul_le_mul_of_nonneg_left (show (TInfo.bytes _ : Int) ≤ 64 from Int.ofNat_le.2 (Nat.le_of_ble_eq_true rfl)) (by omega)) (by (try simp only [List.length_cons, List.length_nil]); omega)⟩)) ?_; conv => whnf)))
    have hf' : List.filter (fun x => !notAll xs x) (prN (n.toNat - 1)) = (prN (n.toNat - 1)).filter fun p => (xs : List Ang).all fun x => inW x p := filter_all _ xs
    obtain ⟨a, rest, hxs⟩ := List.exists_cons_of_ne_nil hne
    have hw := wak_ok (m := n.toNat - 1) (by omega) (hA a (by rw [hxs]; simp)) rest
    have hys : wakL n xs = (srtL a (prN (n.toNat - 1))).filter fun p => rest.all fun x => inW x p := by rw [hxs]; rfl
    rw [hf']
    have hfl : ((prN (n.toNat - 1)).filter fun p => (xs : List Ang).all fun x => inW x p).length ≤ 2000 := Nat.le_trans (List.length_filter_le ..) hlen
    refine ⟨⟨fun x hx => hL x (List.mem_filter.1 hx).1, by omega⟩, wakL n xs, ⟨by rw [hys, hxs]; exact hw.1, by rw [hys]; exact hw.2⟩, ?_⟩
    generalize wakL n xs = zs at *
    conv => whnf
    repeat (any_goals (first
      | (refine V_step T_ok GWk rfl ?_; conv => whnf)
      | (refine V_drawA T_ok GWk mixed (by kernel_rfl) ?_; conv => whnf)
      | (refine bcond_split (fun hc => ?_) (fun hc => ?_) <;> (try simp only [decide_eq_true_eq, decide_eq_false_iff_not, Bool.not_eq_true', Bool.not_eq_false', Bool.and_eq_true, Bool.or_eq_true, Bool.and_eq_false_imp, Bool.or_eq_false_iff, ne_eq, Decidable.not_not] at hc) <;> conv => whnf)
      | (intro ysK hysK; have hysl := congrArg List.length hysK; (try simp only [List.length_set, List.length_append, List.length_cons, List.length_nil, List.length_take, List.length_drop, List.length_replicate] at hysl); conv => whnf)
      | (refine And.intro (by first | exact True.intro | (with_reducible assumption) | omega | (simp only [Rng]; omega) | exact Nat.le_of_ble_eq_true rfl | exact True.intro | exact Nat.le_of_ble_eq_true rfl | (refine ⟨by (try simp only [List.length_cons, List.length_nil]); omega, Int.le_trans (Int.mul_le_mul_of_nonneg_left (show (TInfo.bytes _ : Int) ≤ 64 from Int.ofNat_le.2 (Nat.le_of_ble_eq_true rfl)) (by omega)) (by (try simp only [List.length_cons, List.length_nil]); omega)⟩)) ?_; conv => whnf)))
    all_goals refine leaf1 2 rfl rfl rfl rfl (fun B C h => by simp [AVal.den, h])

/-! ### the functions -/
def wakOk (x : Ang) (n : Int) : Prop := IsA x ∧ 2 ≤ n ∧ n ≤ 8
instance (x : Ang) (n : Int) : Decidable (wakOk x n) := by unfold wakOk; infer_instance
def wakO (x : Ang) (n : Int) : List Lf := if wakOk x n then wakL n [x] else []
def wakN (x : Ang) (n : Int) : Int := if IsA x then (if 2 ≤ n ∧ n ≤ 8 then 0 else 2) else 1
def wakOC : PCtr := fun _ _ lr vals k => match vals with
  | [.agg [.int .i64 n, .int .i64 d], .int .i64 m] => True ∧ ∀ ys, ys = wakO (n, d) m → k [⟨lT, 36, true, ys⟩] (.tup [.row lr, .int .i64 (wakN (n, d) m)])
  | _ => False
abbrev GWO2 := GOk.cons isAngle_ok (GOk.cons isPeriod_ok (GOk.cons wakes_ok .nil))
theorem wakL_1 (n : Int) (x : Ang) : wakL n [x] = srtL x (prN (n.toNat - 1)) := by
  unfold wakL
  exact List.filter_eq_self.2 fun _ _ => rfl
theorem wakO_ok : PCtrOk Try.prog 17 wakOC where
  enter := enter_ok Try.func17 (by kernel_rfl) rfl
  calls := by
    intro hg rg lr vals k h
    unfold wakOC at h
    split at h
    case h_2 => exact h.elim
    rename_i n d m
    obtain ⟨_, hk⟩ := h
    replace hk := hk _ rfl
    refine ⟨_, _, hk, fun A w _ _ => ?_⟩
    refine enter T_ok GWO2 Try.func17 rfl (K := (· < w.heap.size)) (fun _ h => h) (A := A) (n0 := 0) (b0 := 0) (rows := []) (hp := []) rfl (Nat.zero_le _) (fun k r h => by cases h) rfl (fun k r h => by cases h) rfl rfl (Nat.le_of_ble_eq_true rfl) ?_
    conv => whnf
    repeat (refine V_step T_ok GWO2 rfl ?_; conv => whnf)
    repeat (any_goals (first
      | (refine V_step T_ok GWO2 rfl ?_; conv => whnf)
      | (refine V_drawA T_ok GWO2 mixed (by kernel_rfl) ?_; conv => whnf)
      | (refine bcond_split (fun hc => ?_) (fun hc => ?_) <;> (try simp only [decide_eq_true_eq, decide_eq_false_iff_not, Bool.not_eq_true', Bool.not_eq_false', Bool.and_eq_true, Bool.or_eq_true, Bool.and_eq_false_imp, Bool.or_eq_false_iff, ne_eq, Decidable.not_not] at hc) <;> conv => whnf)
      | (intro ysK hysK; have hysl := congrArg List.length hysK; (try simp only [List.length_set, List.length_append, List.length_cons, List.length_nil, List.length_take, List.length_drop, List.length_replicate] at hysl); conv => whnf)
      | (refine And.intro (by first | (first | exact True.intro | (with_reducible assumption) | exact ⟨by assumption, by simp, fun x hx => by rw [List.mem_singleton.1 hx]; assumption⟩) | exact True.intro | exact Nat.le_of_ble_eq_true rfl | (refine ⟨by (try simp only [List.length_cons, List.length_nil]); omega, Int.le_trans (Int.mul_le_mul_of_nonneg_left (show (TInfo.bytes _ : Int) ≤ 64 from Int.ofNat_le.2 (Nat.le_of_ble_eq_true rfl)) (by omega)) (by (try simp only [List.length_cons, List.length_nil]); omega)⟩)) ?_; conv => whnf)))
    · refine leafN rfl (by rw [wakO, if_neg (fun h => hc h.1)]) (fun B C h => ?_)
      simp [AVal.den, dens, h, wakN, hc, Hdr.val]
    · rename_i ha
      refine leafN rfl (by rw [wakO, if_neg (fun h => hc h.2)]) (fun B C h => ?_)
      simp [AVal.den, dens, h, wakN, ha, hc, Hdr.val]
    · rename_i ha
      have hn : 2 ≤ m ∧ m ≤ 8 := hc
      refine leaf1 1 rfl rfl (by rw [wakO, if_pos ⟨ha, hn⟩, hysK]) rfl (fun B C h => ?_)
      simp [AVal.den, dens, h, wakN, ha, hn]

theorem wakL_len {n : Int} (hn : 2 ≤ n ∧ n ≤ 8) : ∀ xs, (wakL n xs).length ≤ 2000
  | [] => Nat.zero_le _
  | a :: rest => by
    unfold wakL
    exact Nat.le_trans (List.length_filter_le ..) (Nat.le_trans srt_len (prN_len (by omega)))
def parL (x : Ang) : List Lf := wakL 8 [(prOf x).1, (prOf x).2]
def parV (x : Ang) (ys : List Lf) : Lf := if prCode x = 0 then ys.getD (ys.length - 1) prZ else prZ
def parN (x : Ang) (ys : List Lf) : Int := if prCode x = 0 then (if (ys.length : Int) = 0 then 4 else 0) else prCode x
def parOC : PCtr := fun _ _ _ vals k => match vals with
  | [.agg [.int .i64 n, .int .i64 d]] => True ∧ ∀ ys, ys = parL (n, d) → k [] (.tup [lV (parV (n, d) ys), .int .i64 (parN (n, d) ys)])
  | _ => False
theorem twoA_all {P : Ang → Prop} {l : Lf} (h1 : P l.1) (h2 : P l.2) : ∀ x ∈ [l.1, l.2], P x := fun x hx => by
  rcases List.mem_cons.1 hx with rfl | hx
  · exact h1
  · rw [List.mem_singleton.1 hx]; exact h2
abbrev GPa := GOk.cons pr_ok (GOk.cons wakes_ok .nil)
theorem parO_ok : PCtrOk Try.prog 27 parOC where
  enter := enter_ok Try.func27 (by kernel_rfl) rfl
  calls := by
    intro hg rg lr vals k h
    unfold parOC at h
    split at h
    case h_2 => exact h.elim
    rename_i n d
    obtain ⟨_, hk⟩ := h
    replace hk := hk _ rfl
    refine ⟨_, _, hk, fun A w _ _ => ?_⟩
    refine enter T_ok GPa Try.func27 rfl (K := (· < w.heap.size)) (fun _ h => h) (A := A) (n0 := 0) (b0 := 0) (rows := []) (hp := []) rfl (Nat.zero_le _) (fun k r h => by cases h) rfl (fun k r h => by cases h) rfl rfl (Nat.le_of_ble_eq_true rfl) ?_
    conv => whnf
    repeat (refine V_step T_ok GPa rfl ?_; conv => whnf)
    by_cases h0 : prCode (n, d) = 0
    · have hl := (prOf_isL ((prCode_ok _).1 h0)).1
      have hpl := wakL_len (n := 8) ⟨by omega, by omega⟩ [((prOf (n, d)).1.1, (prOf (n, d)).1.2), ((prOf (n, d)).2.1, (prOf (n, d)).2.2)]
      repeat (any_goals (first
        | (refine V_step T_ok GPa rfl ?_; conv => whnf)
        | (refine V_drawA T_ok GPa mixed (by kernel_rfl) ?_; conv => whnf)
        | (refine bcond_split (fun hc => ?_) (fun hc => ?_) <;> (try simp only [decide_eq_true_eq, decide_eq_false_iff_not, Bool.not_eq_true', Bool.not_eq_false', Bool.and_eq_true, Bool.or_eq_true, Bool.and_eq_false_imp, Bool.or_eq_false_iff, ne_eq, Decidable.not_not] at hc) <;> conv => whnf)
        | (intro ysK hysK; have hysl := congrArg List.length hysK; (try simp only [List.length_set, List.length_append, List.length_cons, List.length_nil, List.length_take, List.length_drop, List.length_replicate] at hysl); conv => whnf)
        | (refine And.intro (by first | (first | exact True.intro | exact ⟨by omega, by simp, twoA_all (P := IsA) hl.1 hl.2.1⟩ | omega | (simp only [Rng]; omega)) | exact True.intro | exact Nat.le_of_ble_eq_true rfl | (refine ⟨by (try simp only [List.length_cons, List.length_nil]); omega, Int.le_trans (Int.mul_le_mul_of_nonneg_left (show (TInfo.bytes _ : Int) ≤ 64 from Int.ofNat_le.2 (Nat.le_of_ble_eq_true rfl)) (by omega)) (by (try simp only [List.length_cons, List.length_nil]); omega)⟩)) ?_; conv => whnf)))
      · exact absurd h0 hc
      · have hc : (ysK.length : Int) = 0 := hc
        have he : parL (n, d) = ysK := hysK.symm
        have h0' : ysK = [] := List.eq_nil_of_length_eq_zero (by omega)
        refine leaf0 rfl ?_ rfl
        rw [parV, parN, if_pos h0, if_pos h0, he, if_pos hc, h0']; rfl
      · have hc : ¬ (ysK.length : Int) = 0 := hc
        have he : parL (n, d) = ysK := hysK.symm
        refine leaf0 rfl ?_ rfl
        rw [parV, parN, if_pos h0, if_pos h0, he, if_neg hc, show ysK.length - 1 = ((ysK.length : Int) - 1).toNat by omega]; rfl
    · skip
      repeat (any_goals (first
        | (refine V_step T_ok GPa rfl ?_; conv => whnf)
        | (refine V_drawA T_ok GPa mixed (by kernel_rfl) ?_; conv => whnf)
        | (refine bcond_split (fun hc => ?_) (fun hc => ?_) <;> (try simp only [decide_eq_true_eq, decide_eq_false_iff_not, Bool.not_eq_true', Bool.not_eq_false', Bool.and_eq_true, Bool.or_eq_true, Bool.and_eq_false_imp, Bool.or_eq_false_iff, ne_eq, Decidable.not_not] at hc) <;> conv => whnf)
        | (intro ysK hysK; have hysl := congrArg List.length hysK; (try simp only [List.length_set, List.length_append, List.length_cons, List.length_nil, List.length_take, List.length_drop, List.length_replicate] at hysl); conv => whnf)
        | (refine And.intro (by first | exact True.intro | (with_reducible assumption) | omega | (simp only [Rng]; omega) | exact Nat.le_of_ble_eq_true rfl | exact True.intro | exact Nat.le_of_ble_eq_true rfl | (refine ⟨by (try simp only [List.length_cons, List.length_nil]); omega, Int.le_trans (Int.mul_le_mul_of_nonneg_left (show (TInfo.bytes _ : Int) ≤ 64 from Int.ofNat_le.2 (Nat.le_of_ble_eq_true rfl)) (by omega)) (by (try simp only [List.length_cons, List.length_nil]); omega)⟩)) ?_; conv => whnf)))
      all_goals first
        | exact absurd (by assumption) h0
        | exact leaf0 rfl (by rw [parV, parN, if_neg h0, if_neg h0] <;> rfl) rfl

def depL (x : Ang) : List Lf := wakL (perI x) [(prOf x).1, (prOf x).2]
def depC : PCtr := fun _ _ _ vals k => match vals with
  | [.agg [.int .i64 n, .int .i64 d]] => True ∧ ∀ ys, ys = depL (n, d) → k [] (.tup [.int .i64 (if prCode (n, d) = 0 then (List.length (α := Lf) ys : Int) else 0), .int .i64 (prCode (n, d))])
  | _ => False
abbrev GDe := GOk.cons pr_ok (GOk.cons per_ok (GOk.cons wakes_ok (GOk.cons lenP_ok .nil)))
theorem dep_ok : PCtrOk Try.prog 38 depC where
  enter := enter_ok Try.func38 (by kernel_rfl) rfl
  calls := by
    intro hg rg lr vals k h
    unfold depC at h
    split at h
    case h_2 => exact h.elim
    rename_i n d
    obtain ⟨_, hk⟩ := h
    replace hk := hk _ rfl
    refine ⟨_, _, hk, fun A w _ _ => ?_⟩
    refine enter T_ok GDe Try.func38 rfl (K := (· < w.heap.size)) (fun _ h => h) (A := A) (n0 := 0) (b0 := 0) (rows := []) (hp := []) rfl (Nat.zero_le _) (fun k r h => by cases h) rfl (fun k r h => by cases h) rfl rfl (Nat.le_of_ble_eq_true rfl) ?_
    conv => whnf
    repeat (refine V_step T_ok GDe rfl ?_; conv => whnf)
    by_cases h0 : prCode (n, d) = 0
    · have hx := (prCode_ok _).1 h0
      have hl := (prOf_isL hx).1
      repeat (any_goals (first
        | (refine V_step T_ok GDe rfl ?_; conv => whnf)
        | (refine V_drawA T_ok GDe mixed (by kernel_rfl) ?_; conv => whnf)
        | (refine bcond_split (fun hc => ?_) (fun hc => ?_) <;> (try simp only [decide_eq_true_eq, decide_eq_false_iff_not, Bool.not_eq_true', Bool.not_eq_false', Bool.and_eq_true, Bool.or_eq_true, Bool.and_eq_false_imp, Bool.or_eq_false_iff, ne_eq, Decidable.not_not] at hc) <;> conv => whnf)
        | (intro ysK hysK; have hysl := congrArg List.length hysK; (try simp only [List.length_set, List.length_append, List.length_cons, List.length_nil, List.length_take, List.length_drop, List.length_replicate] at hysl); conv => whnf)
        | (refine And.intro (by first | (first | exact True.intro | exact hx.1 | exact ⟨hx.2, by simp, twoA_all (P := IsA) hl.1 hl.2.1⟩) | exact True.intro | exact Nat.le_of_ble_eq_true rfl | (refine ⟨by (try simp only [List.length_cons, List.length_nil]); omega, Int.le_trans (Int.mul_le_mul_of_nonneg_left (show (TInfo.bytes _ : Int) ≤ 64 from Int.ofNat_le.2 (Nat.le_of_ble_eq_true rfl)) (by omega)) (by (try simp only [List.length_cons, List.length_nil]); omega)⟩)) ?_; conv => whnf)))
      · exact absurd h0 hc
      · have he : depL (n, d) = ysK := hysK.symm
        refine leaf0 rfl ?_ rfl
        rw [if_pos h0, he, h0]
    · skip
      repeat (any_goals (first
        | (refine V_step T_ok GDe rfl ?_; conv => whnf)
        | (refine V_drawA T_ok GDe mixed (by kernel_rfl) ?_; conv => whnf)
        | (refine bcond_split (fun hc => ?_) (fun hc => ?_) <;> (try simp only [decide_eq_true_eq, decide_eq_false_iff_not, Bool.not_eq_true', Bool.not_eq_false', Bool.and_eq_true, Bool.or_eq_true, Bool.and_eq_false_imp, Bool.or_eq_false_iff, ne_eq, Decidable.not_not] at hc) <;> conv => whnf)
        | (intro ysK hysK; have hysl := congrArg List.length hysK; (try simp only [List.length_set, List.length_append, List.length_cons, List.length_nil, List.length_take, List.length_drop, List.length_replicate] at hysl); conv => whnf)
        | (refine And.intro (by first | exact True.intro | (with_reducible assumption) | omega | (simp only [Rng]; omega) | exact Nat.le_of_ble_eq_true rfl | exact True.intro | exact Nat.le_of_ble_eq_true rfl | (refine ⟨by (try simp only [List.length_cons, List.length_nil]); omega, Int.le_trans (Int.mul_le_mul_of_nonneg_left (show (TInfo.bytes _ : Int) ≤ 64 from Int.ofNat_le.2 (Nat.le_of_ble_eq_true rfl)) (by omega)) (by (try simp only [List.length_cons, List.length_nil]); omega)⟩)) ?_; conv => whnf)))
      all_goals first
        | exact absurd (by assumption) h0
        | exact leaf0 rfl (by rw [if_neg h0] <;> rfl) rfl
end Go.Proofs.Ytlplngafncobkab.Fw
