/- impl.AngleText and the law of the texts of angles. -/
import Derived.Test.YtmbfflckgmdncaaDoorDC
namespace Go.Proofs.YtmbfflckgmdncaaDoor.Fw
open Go Go.RowKit Go.Sort Go.Shelf
set_option linter.unusedVariables false
set_option linter.unusedSimpArgs false
set_option maxRecDepth 100000
set_option maxHeartbeats 2000000

/-- What a contract says of flat arguments and a flat result. -/
theorem flat_calls {f : FuncId} {c : PCtr} (h : PCtrOk Tryd.prog f c) {vals : List AVal} {v : AVal} (hc : c (fun _ => none) (fun _ => none) 0 vals (fun rows u => rows = [] ∧ u = v)) (hv : ∀ B, v.den B = v.den A0) (w : World) :
    Calls Tryd.prog f (dens A0 vals).toArray w fun e w' => e = .returned (v.den A0) ∧ Below w.heap.size w w' := by
  obtain ⟨rows, u, ⟨rfl, rfl⟩, hcl⟩ := h.calls _ _ _ _ _ hc
  refine (hcl A0 w (fun i cs h => by cases h) (fun i r h => by cases h)).mono ?_
  rintro e w' ⟨hs, he, hb, _⟩
  exact ⟨by rw [he, hv], hb.toBelow⟩

def anDC : PCtr := fun hg rg _ vals k => match vals with
  | [.row i] => rowC aT (rg i) fun xs => True ∧ k [] (.int .i64 (if (xs : List Ang).all allAY = true then 0 else 1))
  | _ => False
theorem anD_ok : PCtrOk Tryd.prog 13 anDC where
  enter := enter_ok Tryd.func13 (by kernel_rfl) rfl
  calls := by
    intro hg rg lr vals k h
    unfold anDC at h
    split at h
    case h_2 => exact h.elim
    rename_i i
    obtain ⟨e, own, xs, hi, h⟩ : ∃ e own, ∃ (xs : List Ang), _ := rowC_inv h
    have hk := h.2
    refine ⟨_, _, hk, fun A w hB hR => ?_⟩
    refine enter T_ok (GOk.cons allA_ok .nil) Tryd.func13 rfl (K := (· < w.heap.size)) (fun _ h => h) (A := A.pick [] [i]) (vals := [.row 0]) (n0 := 0) (b0 := 0) (rows := [some ⟨aT, e, false, xs⟩]) (hp := []) rfl (Nat.zero_le _) no_box rfl (one_row (hR i _ hi)) rfl rfl (Nat.le_of_ble_eq_true rfl) ?_
    conv => whnf
    repeat (refine V_step T_ok (GOk.cons allA_ok .nil) rfl ?_; conv => whnf)
    repeat (any_goals (first
      | (refine V_step T_ok (GOk.cons allA_ok .nil) rfl ?_; conv => whnf)
      | (refine V_drawA T_ok (GOk.cons allA_ok .nil) mixed (by kernel_rfl) ?_; conv => whnf)
      | (refine bcond_split (fun hc => ?_) (fun hc => ?_) <;> (try simp only [decide_eq_true_eq, decide_eq_false_iff_not, Bool.not_eq_true', Bool.not_eq_false', Bool.and_eq_true, Bool.or_eq_true, Bool.and_eq_false_imp, Bool.or_eq_false_iff, ne_eq, Decidable.not_not] at hc) <;> conv => whnf)
      | (intro ysK hysK; have hysl := congrArg List.length hysK; (try simp only [List.length_set, List.length_append, List.length_cons, List.length_nil, List.length_take, List.length_drop, List.length_replicate] at hysl); conv => whnf)
      | (refine And.intro (by first | exact True.intro | (with_reducible assumption) | omega | (simp only [Rng]; omega) | exact Nat.le_of_ble_eq_true rfl | exact True.intro | exact ⟨rfl, True.intro, fun _ _ => rfl⟩ | exact Nat.le_of_ble_eq_true rfl | (refine ⟨by (try simp only [List.length_cons, List.length_nil]); omega, Int.le_trans (Int.mul_le_mul_of_nonneg_left (show (TInfo.bytes _ : Int) ≤ 64 from Int.ofNat_le.2 (Nat.le_of_ble_eq_true rfl)) (by omega)) (by (try simp only [List.length_cons, List.length_nil]); omega)⟩)) ?_; conv => whnf)))
    · have hc : (xs : List Ang).all allAY = false := hc
      exact leaf0 rfl (by rw [hc]; rfl) rfl
    · have hc : (xs : List Ang).all allAY = true := hc
      exact leaf0 rfl (by rw [hc]; rfl) rfl

theorem one_at {w : World} {a : Ang} {t : TypeId} {g : Nat} (h : w.heap[g]? = some (.cells #[.int .i64 a.1, .int .i64 a.2] t (0, 0))) : RowAt w ⟨some ⟨g, 0, none⟩, 1, 1⟩ ⟨aT, t, false, [a]⟩ := by
  refine ⟨rfl, Nat.le_refl _, (by show (1 : Nat) ≤ maxLen; decide), fun i x hi => ?_⟩
  match i, hi with
  | 0, hi =>
    cases hi
    refine ⟨_, rfl, fun j c hc => ?_⟩
    match j, hc with
    | 0, hc => cases hc; show World.cell? _ ⟨g, 0, none⟩ = _; unfold World.cell?; rw [h]; rfl
    | 1, hc => cases hc; show World.cell? _ ⟨g, 1, none⟩ = _; unfold World.cell?; rw [h]; rfl
    | j + 2, hc => cases hc
  | i + 1, hi => simp at hi

theorem anQ_in (a : Ang) (g : Nat) (t : TypeId) (w : World) (h : w.heap[g]? = some (.cells #[.int .i64 a.1, .int .i64 a.2] t (0, 0))) :
    Calls Tryd.prog 13 #[.slice (some ⟨g, 0, none⟩) 1 1] w fun e w' => e = .returned (.int .i64 (atK a)) ∧ Below w.heap.size w w' := by
  obtain ⟨rows, u, ⟨rfl, rfl⟩, hcl⟩ := anD_ok.calls (fun _ => none) (nthj [some ⟨aT, t, false, [a]⟩]) 1 [.row 0] (fun rows u => rows = [] ∧ u = .int .i64 (atK a)) ⟨trivial, rfl, by
    unfold atK
    by_cases hi : IsA a
    · rw [if_pos hi, if_pos (by simp [allAY, hi])]
    · rw [if_neg hi, if_neg (by simp [allAY, hi])]⟩
  refine (hcl ⟨fun _ => 0, fun _ => ⟨some ⟨g, 0, none⟩, 1, 1⟩, fun _ _ => ⟨none, 0, 0⟩⟩ w (fun i cs h => by cases h) (fun i r hr => ?_)).mono ?_
  · match i, hr with
    | 0, hr => cases hr; exact (one_at h).rows rfl
    | i + 1, hr => simp [nthj] at hr
  · rintro e w' ⟨hs, he, hb, _⟩
    exact ⟨by rw [he]; rfl, hb.toBelow⟩

theorem atQ_in (a : Ang) (w : World) (ht : TabW w) : Calls Tryd.prog 7 #[.agg #[.int .i64 a.1, .int .i64 a.2]] w fun e w' => e = .returned (.tuple #[.string (atB a), .int .i64 (atK a)]) ∧ Below w.heap.size w w' := by
  obtain ⟨w1, hw1⟩ : ∃ w1, w.alloc (.cells #[.int .i64 a.1, .int .i64 a.2] 26) = w1 := ⟨_, rfl⟩
  have hB1 : Below w.heap.size w w1 := by rw [← hw1]; exact (Below.refl _ w).alloc (Nat.le_refl _) _
  have hs1 : w1.heap.size = w.heap.size + 1 := by rw [← hw1]; simp
  have hn1 : w1.heap[w.heap.size]? = some (.cells #[.int .i64 a.1, .int .i64 a.2] 26 (0, 0)) := by rw [← hw1]; show (w.heap.push _)[w.heap.size]? = _; simp
  obtain ⟨w2, hw2⟩ : ∃ w2, w1.alloc (.cells #[.int .i64 a.1, .int .i64 a.2] 26) = w2 := ⟨_, rfl⟩
  have hB2 : Below w1.heap.size w1 w2 := by rw [← hw2]; exact (Below.refl _ w1).alloc (Nat.le_refl _) _
  have hs2 : w2.heap.size = w.heap.size + 2 := by rw [← hw2]; simp [hs1]
  have hn2 : w2.heap[w1.heap.size]? = some (.cells #[.int .i64 a.1, .int .i64 a.2] 26 (0, 0)) := by rw [← hw2]; show (w1.heap.push _)[w1.heap.size]? = _; simp
  have k1 : w1.cell? ⟨w.heap.size, 0, none⟩ = some (.int .i64 a.1) := by simp [World.cell?, hn1]
  have k2 : w1.cell? ⟨w.heap.size, 1, none⟩ = some (.int .i64 a.2) := by simp [World.cell?, hn1]
  rw [hs1] at hn2
  have hcode := anQ_in a (w.heap.size + 1) 26 w2 hn2
  by_cases hi : IsA a
  · have hcode : Calls Tryd.prog 13 #[.slice (some ⟨w.heap.size + 1, 0, none⟩) 1 1] w2 fun e w' => e = .returned (.int .i64 0) ∧ Below w2.heap.size w2 w' := by unfold atK at hcode; rw [if_pos hi] at hcode; exact hcode
    have e1 : atB a = txB a := by unfold atB; rw [if_pos hi]
    have e2 : atK a = 0 := by unfold atK; rw [if_pos hi]
    rw [e1, e2]
    have htx := fun W hW => txQ_in a (isA_b hi) W hW
    generalize txB a = sx at htx ⊢
    go_enter Tryd.func7, Tryd.ntmps7
    go_wp2_with (first
      | (go_at_call 13; refine hcode.mono ?_; clear hcode; rintro e w3 ⟨rfl, hB3⟩
         have hB : Below w.heap.size w w3 := (hB1.trans (hB2.mono (by omega))).trans (hB3.mono (by omega))
         have j1 : w3.cell? ⟨w.heap.size, 0, none⟩ = some (.int .i64 a.1) := (hB3.cell (p := ⟨w.heap.size, 0, none⟩) (by simp; omega)).trans ((hB2.cell (p := ⟨w.heap.size, 0, none⟩) (by simp; omega)).trans k1)
         have j2 : w3.cell? ⟨w.heap.size, 1, none⟩ = some (.int .i64 a.2) := (hB3.cell (p := ⟨w.heap.size, 1, none⟩) (by simp; omega)).trans ((hB2.cell (p := ⟨w.heap.size, 1, none⟩) (by simp; omega)).trans k2)
         have ht3 := htx w3 (ht.below hB))
      | (go_at_call 14; refine ht3.mono ?_; clear ht3; rintro e w4 ⟨rfl, hB4⟩))
    go_ret2
    exact ⟨rfl, hB.trans (hB4.mono hB.size)⟩
  · have hcode : Calls Tryd.prog 13 #[.slice (some ⟨w.heap.size + 1, 0, none⟩) 1 1] w2 fun e w' => e = .returned (.int .i64 1) ∧ Below w2.heap.size w2 w' := by unfold atK at hcode; rw [if_neg hi] at hcode; exact hcode
    have e1 : atB a = ⟨#[]⟩ := by unfold atB; rw [if_neg hi]
    have e2 : atK a = 1 := by unfold atK; rw [if_neg hi]
    rw [e1, e2]
    go_enter Tryd.func7, Tryd.ntmps7
    go_wp2_with (go_at_call 13; refine hcode.mono ?_; clear hcode; rintro e w3 ⟨rfl, hB3⟩)
    go_ret2
    exact ⟨rfl, (hB1.trans (hB2.mono (by omega))).trans (hB3.mono (by omega))⟩

/-- **The law.** -/
theorem lawAt_in (a : Ang) (w : World) (ht : TabW w) : Calls Tryd.prog 3 #[.agg #[.int .i64 a.1, .int .i64 a.2]] w fun e w' => e = .returned (.bool true) ∧ Below w.heap.size w w' := by
  have hta : ∀ W, Calls Tryd.prog 6 #[.agg #[.int .i64 a.1, .int .i64 a.2]] W fun e w' => e = .returned (.agg #[.int .i64 a.1, .int .i64 a.2]) ∧ Below W.heap.size W w' := fun W => flat_calls toAngle_ok (vals := [.agg [.int .i64 a.1, .int .i64 a.2]]) (v := aV (a.1, a.2)) ⟨trivial, rfl, rfl⟩ (fun _ => rfl) W
  have hsa : ∀ W, Calls Tryd.prog 5 #[.agg #[.int .i64 a.1, .int .i64 a.2]] W fun e w' => e = .returned (.tuple #[.string (atB a), .int .i64 (atK a)]) ∧ Below W.heap.size W w' := fun W => flat_calls sAt_ok (vals := [.agg [.int .i64 a.1, .int .i64 a.2]]) (v := .tup [.str (atB a), .int .i64 (atK a)]) ⟨trivial, fun b hb => ⟨rfl, by rw [hb]⟩⟩ (fun _ => rfl) W
  have hia := fun W hW => atQ_in a W hW
  generalize atB a = s at hsa hia
  generalize atK a = c at hsa hia
  obtain ⟨w1, hw1⟩ : ∃ w1, w.alloc (.cells #[.int .i64 a.1, .int .i64 a.2] 23) = w1 := ⟨_, rfl⟩
  have hB1 : Below w.heap.size w w1 := by rw [← hw1]; exact (Below.refl _ w).alloc (Nat.le_refl _) _
  have hs1 : w1.heap.size = w.heap.size + 1 := by rw [← hw1]; simp
  have hn1 : w1.heap[w.heap.size]? = some (.cells #[.int .i64 a.1, .int .i64 a.2] 23 (0, 0)) := by rw [← hw1]; show (w.heap.push _)[w.heap.size]? = _; simp
  have k1 : w1.cell? ⟨w.heap.size, 0, none⟩ = some (.int .i64 a.1) := by simp [World.cell?, hn1]
  have k2 : w1.cell? ⟨w.heap.size, 1, none⟩ = some (.int .i64 a.2) := by simp [World.cell?, hn1]
  go_enter Tryd.func3, Tryd.ntmps3
  go_wp2_with (go_at_call 6; refine (hta _).mono ?_; rintro e w2 ⟨rfl, hB2⟩)
  have hB12 : Below w.heap.size w w2 := hB1.trans (hB2.mono (by omega))
  refine (hsa _).mono ?_
  rintro e w3 ⟨rfl, hB3⟩
  have hB13 : Below w.heap.size w w3 := hB12.trans (hB3.mono hB12.size)
  have hB1w : Below w1.heap.size w1 w3 := hB2.trans (hB3.mono hB2.size)
  have j1 : w3.cell? ⟨w.heap.size, 0, none⟩ = some (.int .i64 a.1) := (hB1w.cell (p := ⟨w.heap.size, 0, none⟩) (by simp; omega)).trans k1
  have j2 : w3.cell? ⟨w.heap.size, 1, none⟩ = some (.int .i64 a.2) := (hB1w.cell (p := ⟨w.heap.size, 1, none⟩) (by simp; omega)).trans k2
  go_wp2_with (go_at_call 6; refine (hta _).mono ?_; rintro e w4 ⟨rfl, hB4⟩)
  have hB14 : Below w.heap.size w w4 := hB13.trans (hB4.mono hB13.size)
  refine (hia _ (ht.below hB14)).mono ?_
  rintro e w5 ⟨rfl, hB5⟩
  go_wp2
  go_ret
  exact ⟨rfl, hB14.trans (hB5.mono hB14.size)⟩
end Go.Proofs.YtmbfflckgmdncaaDoor.Fw
