/- Contracts: the reference's ray pairs up to a period. -/
import Derived.Test.YtlplngafncobkabP6
namespace Go.Proofs.Ytlplngafncobkab.Fw
open Go Go.RowKit
set_option linter.unusedVariables false
set_option linter.unusedSimpArgs false
set_option maxRecDepth 100000
set_option maxHeartbeats 2000000

def sPairsC : PCtr := fun _ _ lr vals k => match vals with
  | [.int .i64 n] => (1 ≤ n ∧ n ≤ 8) ∧ k [⟨lT, 36, true, prN (n.toNat - 1)⟩] (.row lr)
  | _ => False
abbrev GSPs := GOk.mcons sJoin_ok .nil
theorem sPairs_ok : PCtrOk Try.prog 54 sPairsC where
  enter := enter_ok Try.func54 (by kernel_rfl) rfl
  calls := by
    intro hg rg lr vals k h
    unfold sPairsC at h
    split at h
    case h_2 => exact h.elim
    rename_i n
    obtain ⟨hn, hk⟩ := h
    refine ⟨_, _, hk, fun A w _ _ => ?_⟩
    refine enter T_ok GSPs Try.func54 rfl (K := (· < w.heap.size)) (fun _ h => h) (A := A) (n0 := 0) (b0 := 0) (rows := []) (hp := []) rfl (Nat.zero_le _) (fun k r h => by cases h) rfl (fun k r h => by cases h) rfl rfl (Nat.le_of_ble_eq_true rfl) ?_
    conv => whnf
    repeat (refine V_step T_ok GSPs rfl ?_; conv => whnf)
    obtain ⟨N, rfl⟩ : ∃ N : Nat, n = (N : Int) := ⟨n.toNat, by omega⟩
    repeat (any_goals (first
      | (refine V_step T_ok GSPs rfl ?_; conv => whnf)
      | (refine V_drawA T_ok GSPs mixed (by kernel_rfl) ?_; conv => whnf)
      | (refine bcond_split (fun hc => ?_) (fun hc => ?_) <;> (try simp only [decide_eq_true_eq, decide_eq_false_iff_not, Bool.not_eq_true', Bool.not_eq_false', Bool.and_eq_true, Bool.or_eq_true, Bool.and_eq_false_imp, Bool.or_eq_false_iff, ne_eq, Decidable.not_not] at hc) <;> conv => whnf)
      | (intro ysK hysK; have hysl := congrArg List.length hysK; (try simp only [List.length_set, List.length_append, List.length_cons, List.length_nil, List.length_take, List.length_drop, List.length_replicate] at hysl); conv => whnf)
      | (refine And.intro (by first | exact True.intro | (with_reducible assumption) | omega | (simp only [Rng]; omega) | exact Nat.le_of_ble_eq_true rfl | exact True.intro | exact Nat.le_of_ble_eq_true rfl | (refine ⟨by (try simp only [List.length_cons, List.length_nil]); omega, Int.le_trans (Int.mul_le_mul_of_nonneg_left (show (TInfo.bytes _ : Int) ≤ 64 from Int.ofNat_le.2 (Nat.le_of_ble_eq_true rfl)) (by omega)) (by (try simp only [List.length_cons, List.length_nil]); omega)⟩)) ?_; conv => whnf)))
    refine V_loopH (γ := Nat) (fun m => m ≤ N - 1) (fun m => N - m)
      (fun m => [(3, .row 0), (4, .int .i64 ((m : Int) + 2)), (5, .junk)]) (fun _ => []) (fun m => [(0, some ⟨lT, 36, true, prN m⟩)]) 0 (Nat.zero_le _) ?_ ?_
    · conv => whnf
      refine ⟨?_, by (conv => whnf); repeat (first | exact True.intro | (refine And.intro rfl ?_; conv => whnf)), by (conv => whnf); repeat (first | exact True.intro | (refine And.intro (by first | rfl | (subst_vars; rfl)) ?_; conv => whnf)), rfl, rfl, rfl, rfl, rfl, rfl, rfl, Nat.le_of_ble_eq_true rfl, Nat.le_of_ble_eq_true rfl⟩
      conv => whnf
      repeat (first | exact True.intro | (refine And.intro (by first | rfl | ((conv => whnf); exact congrArg (AVal.int .i64) (by omega)) | ((conv => whnf); exact congrArg (AVal.int .i64) (by simp only [Int.natCast_add, Int.natCast_one]; omega))) ?_; conv => whnf))
    · rintro m hm
      conv => whnf
      refine vcCode_sound T_ok GSPs _ _ _ _ _ ?_
      conv => whnf
      repeat (refine V_step T_ok GSPs rfl ?_; conv => whnf)
      repeat (any_goals (first
        | (refine V_step T_ok GSPs rfl ?_; conv => whnf)
        | (refine V_drawA T_ok GSPs mixed (by kernel_rfl) ?_; conv => whnf)
        | (refine bcond_split (fun hc => ?_) (fun hc => ?_) <;> (try simp only [decide_eq_true_eq, decide_eq_false_iff_not, Bool.not_eq_true', Bool.not_eq_false', Bool.and_eq_true, Bool.or_eq_true, Bool.and_eq_false_imp, Bool.or_eq_false_iff, ne_eq, Decidable.not_not] at hc) <;> conv => whnf)
        | (intro ysK hysK; have hysl := congrArg List.length hysK; (try simp only [List.length_set, List.length_append, List.length_cons, List.length_nil, List.length_take, List.length_drop, List.length_replicate] at hysl); conv => whnf)
        | (refine And.intro (by first | (first | exact True.intro | omega | (simp only [Rng]; omega) | exact ⟨by omega, rfl, rfl⟩) | exact True.intro | exact Nat.le_of_ble_eq_true rfl | (refine ⟨by (try simp only [List.length_cons, List.length_nil]); omega, Int.le_trans (Int.mul_le_mul_of_nonneg_left (show (TInfo.bytes _ : Int) ≤ 64 from Int.ofNat_le.2 (Nat.le_of_ble_eq_true rfl)) (by omega)) (by (try simp only [List.length_cons, List.length_nil]); omega)⟩)) ?_; conv => whnf)))
      · have hm2 : (m : Int) + 2 ≤ (N : Int) := hc
        refine ⟨m + 1, by omega, by omega, ?_⟩
        conv => whnf
        refine ⟨?_, by (conv => whnf); repeat (first | exact True.intro | (refine And.intro rfl ?_; conv => whnf)), by (conv => whnf); repeat (first | exact True.intro | (refine And.intro (by first | rfl | (subst_vars; rfl)) ?_; conv => whnf)), rfl, rfl, rfl, rfl, rfl, rfl, rfl, Nat.le_of_ble_eq_true rfl, Nat.le_of_ble_eq_true rfl⟩
        conv => whnf
        repeat (first | exact True.intro | (refine And.intro (by first | rfl | ((conv => whnf); exact congrArg (AVal.int .i64) (by omega)) | ((conv => whnf); exact congrArg (AVal.int .i64) (by simp only [Int.natCast_add, Int.natCast_one]; omega))) ?_; conv => whnf))
      · have hc : ¬ (m : Int) + 2 ≤ (N : Int) := hc
        have e : m = N - 1 := by omega
        refine leaf1 0 rfl rfl ?_ rfl (fun B C h => ?_)
        · show (⟨lT, 36, true, prN m⟩ : Row) = ⟨lT, 36, true, prN (N - 1)⟩
          rw [e]
        · simp [AVal.den, h]

/-- The pairs of a period, or none. -/
def popL (n : Int) : List Lf := if 2 ≤ n ∧ n ≤ 8 then newN (n.toNat - 2) else []
def popN (n : Int) : Int := if 2 ≤ n ∧ n ≤ 8 then 0 else 2

/-! ### the pair of an angle -/
def hasE (x : Ang) (p : Lf) : Bool := decide (p.1 = x ∨ p.2 = x)
def okX (x : Ang) : Prop := IsA x ∧ 2 ≤ perI x ∧ perI x ≤ 8
instance (x : Ang) : Decidable (okX x) := by unfold okX; infer_instance
def prCode (x : Ang) : Int := if IsA x then (if 2 ≤ perI x ∧ perI x ≤ 8 then 0 else 2) else 1
def prZ : Lf := ((0, 0), (0, 0))
def prOf (x : Ang) : Lf := if okX x then ((newN ((perI x).toNat - 2)).find? (hasE x)).getD prZ else prZ
theorem prCode_ok (x : Ang) : prCode x = 0 ↔ okX x := by
  unfold prCode okX
  split
  · split <;> simp [*]
  · simp [*]
theorem find_of {α : Type} {p : α → Bool} {d : α} : ∀ {xs : List α} {n : Nat}, n < xs.length → p (xs.getD n d) = true → (∀ x ∈ xs.take n, p x = false) → xs.find? p = some (xs.getD n d)
  | [], n, h, _, _ => by simp at h
  | a :: xs, 0, _, h, _ => by rw [List.find?_cons, show p a = true from h]; rfl
  | a :: xs, n + 1, h1, h2, h3 => by
    have ha : p a = false := h3 a (by simp)
    rw [List.find?_cons, ha]
    have := find_of (xs := xs) (n := n) (d := d) (by simpa using h1) (by simpa using h2) (fun x hx => h3 x (by simp [hx]))
    simpa using this
theorem prOf_ok {x : Ang} (h : okX x) : ∃ p, prOf x = p ∧ p ∈ newN ((perI x).toNat - 2) ∧ (p.1 = x ∨ p.2 = x) ∧ (newN ((perI x).toNat - 2)).find? (hasE x) = some p := by
  have h2 := h.2
  obtain ⟨_, _, _, h4⟩ := prN_succ (m := (perI x).toNat - 2) (by omega)
  obtain ⟨p, hp, he⟩ := h4 x h.1 (by omega)
  cases hf : (newN ((perI x).toNat - 2)).find? (hasE x) with
  | none => exact absurd (List.find?_eq_none.1 hf p hp) (by simp [hasE, he])
  | some q =>
    refine ⟨q, ?_, List.mem_of_find?_eq_some hf, by have h9 := List.find?_some hf; exact of_decide_eq_true h9, rfl⟩
    unfold prOf; rw [if_pos h, hf]; rfl
theorem prOf_isL {x : Ang} (h : okX x) : IsL (prOf x) ∧ perI (prOf x).1 = perI x ∧ perI (prOf x).2 = perI x ∧ ((prOf x).1 = x ∨ (prOf x).2 = x) := by
  obtain ⟨p, hp, hm, he, _⟩ := prOf_ok h
  have h2 := h.2
  obtain ⟨_, h3, _, _⟩ := prN_succ (m := (perI x).toNat - 2) (by omega)
  rw [hp]
  have := h3 p hm
  exact ⟨newN_isL (by omega) p hm, by omega, by omega, he⟩
/-- The reference looks through all pairs up to the period. -/
theorem find_all {x : Ang} (h : okX x) : (prN ((perI x).toNat - 1)).find? (hasE x) = some (prOf x) := by
  obtain ⟨p, hp, hm, he, hf⟩ := prOf_ok h
  have h2 := h.2
  obtain ⟨h3, _⟩ := prN_succ (m := (perI x).toNat - 2) (by omega)
  rw [show (perI x).toNat - 1 = ((perI x).toNat - 2) + 1 by omega, h3, List.find?_append, List.find?_eq_none.2, hp, hf]; rfl
  intro q hq
  obtain ⟨k, k1, k2, k3, k4⟩ := prN_per (m := (perI x).toNat - 2) (by omega) q hq
  unfold hasE
  rw [decide_eq_true_iff]
  rintro (e | e)
  · rw [e] at k3; omega
  · rw [e] at k4; omega
end Go.Proofs.Ytlplngafncobkab.Fw
