/- Rotation sets: the reference's whole; lists in order are told by their members. -/
import Derived.Test.YtmbfflckgmdncaaZ2
namespace Go.Proofs.Ytmbfflckgmdncaa.Fw
open Go Go.RowKit
set_option linter.unusedVariables false
set_option linter.unusedSimpArgs false
set_option maxRecDepth 100000
set_option maxHeartbeats 2000000

abbrev okR (q v : Int) : Prop := (2 ≤ v ∧ v ≤ 13) ∧ (1 ≤ q ∧ q ≤ v - 1) ∧ ((Int.gcd q v : Nat) : Int) = 1
@[irreducible] def roO (q v : Int) : List Ang × Int := if okR q v then (rotS q v v.toNat, 0) else ([], 2)
theorem roO_t {q v : Int} (h : okR q v) : roO q v = (rotS q v v.toNat, 0) := by unfold roO; rw [if_pos h]
theorem roO_f {q v : Int} (h : ¬ okR q v) : roO q v = ([], 2) := by unfold roO; rw [if_neg h]
def roC : PCtr := fun _ _ lr vals k => match vals with
  | [.int .i64 q, .int .i64 v] => True ∧ ∀ z : List Ang × Int, z = roO q v → k [⟨aT, 32, true, z.1⟩] (.tup [.row lr, .int .i64 z.2])
  | _ => False
abbrev GSr2 := GOk.cons sIn_ok (GOk.cons sDiv_ok (GOk.cons sRo_ok .nil))
theorem sRot_ok : PCtrOk Try.prog 4 roC where
  enter := enter_ok Try.func4 (by kernel_rfl) rfl
  calls := by
    intro hg rg lr vals k h
    unfold roC at h
    split at h
    case h_2 => exact h.elim
    rename_i q v
    obtain ⟨_, hk⟩ := h
    replace hk := hk _ rfl
    refine ⟨_, _, hk, fun A w _ _ => ?_⟩
    refine enter T_ok GSr2 Try.func4 rfl (K := (· < w.heap.size)) (fun _ h => h) (A := A) (n0 := 0) (b0 := 0) (rows := []) (hp := []) rfl (Nat.zero_le _) (fun k r h => by cases h) rfl (fun k r h => by cases h) rfl rfl (Nat.le_of_ble_eq_true rfl) ?_
    conv => whnf
    repeat (refine V_step T_ok GSr2 rfl ?_; conv => whnf)
    repeat (any_goals (first
      | (refine V_step T_ok GSr2 rfl ?_; conv => whnf)
      | (refine V_drawN T_ok GSr2 mixed (by kernel_rfl) ?_; conv => whnf)
      | (refine bcond_split (fun hc => ?_) (fun hc => ?_) <;> (try simp only [decide_eq_true_eq, decide_eq_false_iff_not, Bool.not_eq_true', Bool.not_eq_false', Bool.and_eq_true, Bool.or_eq_true, Bool.and_eq_false_imp, Bool.or_eq_false_iff, ne_eq, Decidable.not_not] at hc) <;> conv => whnf)
      | (intro ysK hysK; have hysl := congrArg List.length hysK; (try simp only [List.length_set, List.length_append, List.length_cons, List.length_nil, List.length_take, List.length_drop, List.length_replicate] at hysl); conv => whnf)
      | (intro bK hbK; have hbl := congrArg ByteArray.size hbK; conv => whnf)
      | (intro sK hsK; conv => whnf)
      | (refine And.intro (by first | (first | exact True.intro | omega | (simp only [Rng]; omega)) | exact True.intro | exact ⟨rfl, True.intro, fun _ _ => rfl⟩ | exact Nat.le_of_ble_eq_true rfl | (refine ⟨by (try simp only [List.length_cons, List.length_nil]); omega, Int.le_trans (Int.mul_le_mul_of_nonneg_left (show (TInfo.bytes _ : Int) ≤ 64 from Int.ofNat_le.2 (Nat.le_of_ble_eq_true rfl)) (by omega)) (by (try simp only [List.length_cons, List.length_nil]); omega)⟩)) ?_; conv => whnf)))
    · exact leafN rfl (by rw [roO_f fun h => hc h.1]) (fun B C h => by rw [roO_f fun h => hc h.1]; simp [AVal.den, dens, h, Hdr.val])
    · exact leafN rfl (by rw [roO_f fun h => hc h.2.1]) (fun B C h => by rw [roO_f fun h => hc h.2.1]; simp [AVal.den, dens, h, Hdr.val])
    · exact leafN rfl (by rw [roO_f fun h => hc h.2.2]) (fun B C h => by rw [roO_f fun h => hc h.2.2]; simp [AVal.den, dens, h, Hdr.val])
    · have ho : okR q v := ⟨by assumption, by assumption, hc⟩
      exact leaf1 0 rfl rfl (congrArg (fun ys => (⟨aT, 32, true, ys⟩ : Row)) (by rw [hysK, roO_t ho])) rfl (fun B C h => by rw [roO_t ho]; simp [AVal.den, dens, h])

/-! ### lists in order -/
/-- Each angle is smaller than those behind it. -/
def Asc (xs : List Ang) : Prop := xs.Pairwise fun x y => lessA x y
theorem lessA_trans {a b c : Ang} (ha : IsF a) (hb : IsF b) (hc : IsF c) (h1 : lessA a b) (h2 : lessA b c) : lessA a c := by
  rw [lessA_v ha hb] at h1
  rw [lessA_v hb hc] at h2
  rw [lessA_v ha hc]
  grind
theorem lessA_irr (a : Ang) : ¬ lessA a a := fun h => lessA_asymm' h h
  where lessA_asymm' {a b : Ang} (h : lessA a b) : ¬ lessA b a := by unfold lessA at *; omega
/-- Lists in order with the same members are equal. -/
theorem asc_eq : ∀ {xs ys : List Ang}, (∀ x ∈ xs, IsF x) → (∀ y ∈ ys, IsF y) → Asc xs → Asc ys → (∀ z, z ∈ xs ↔ z ∈ ys) → xs = ys
  | [], [], _, _, _, _, _ => rfl
  | [], y :: ys, _, _, _, _, h => by have := (h y).2 (by simp); cases this
  | x :: xs, [], _, _, _, _, h => by have := (h x).1 (by simp); cases this
  | x :: xs, y :: ys, hx, hy, ax, ay, h => by
    have ax' := List.pairwise_cons.1 ax
    have ay' := List.pairwise_cons.1 ay
    have e : x = y := by
      rcases List.mem_cons.1 ((h x).1 (by simp)) with e | h1
      · exact e
      · rcases List.mem_cons.1 ((h y).2 (by simp)) with e | h2
        · exact e.symm
        · exact absurd (lessA_trans (hx x (by simp)) (hy y (by simp)) (hx x (by simp)) (ax'.1 y h2) (ay'.1 x h1)) (lessA_irr x)
    subst e
    have et := asc_eq (xs := xs) (ys := ys) (fun z hz => hx z (by simp [hz])) (fun z hz => hy z (by simp [hz])) ax'.2 ay'.2 (fun z => by
      constructor
      · intro hz
        rcases List.mem_cons.1 ((h z).1 (by simp [hz])) with e | h1
        · subst e; exact absurd (ax'.1 z hz) (lessA_irr z)
        · exact h1
      · intro hz
        rcases List.mem_cons.1 ((h z).2 (by simp [hz])) with e | h1
        · subst e; exact absurd (ay'.1 z hz) (lessA_irr z)
        · exact h1)
    rw [et]
theorem lessA_tot {a b : Ang} (ha : IsF a) (hb : IsF b) (h1 : ¬ lessA a b) (h2 : a ≠ b) : lessA b a := by
  rw [lessA_v ha hb] at h1
  rw [lessA_v hb ha]
  have h3 : vA a ≠ vA b := fun e => h2 ((eq_v ha hb).2 e)
  grind
theorem putA9_nil (a : Ang) : putA9 [] a = [a] := by unfold putA9 posA; simp
theorem putA9_lt {x a : Ang} {xs : List Ang} (h : lessA x a) : putA9 (x :: xs) a = x :: putA9 xs a := by
  have e : posA (x :: xs) a = posA xs a + 1 := by
    unfold posA
    rw [List.takeWhile_cons_of_pos (by exact decide_eq_true h)]; rfl
  unfold putA9
  rw [e]
  by_cases hc : posA xs a < xs.length ∧ xs.getD (posA xs a) dA9 = a
  · rw [if_pos hc, if_pos ⟨by simp only [List.length_cons]; omega, hc.2⟩]
  · rw [if_neg hc, if_neg (fun hh => hc ⟨by have := hh.1; simp only [List.length_cons] at this; omega, hh.2⟩)]
    rfl
theorem putA9_ge {x a : Ang} {xs : List Ang} (h : ¬ lessA x a) : putA9 (x :: xs) a = if x = a then x :: xs else a :: x :: xs := by
  have e : posA (x :: xs) a = 0 := by
    unfold posA
    rw [List.takeWhile_cons_of_neg (by simp [lsA, h])]; rfl
  unfold putA9
  rw [e]
  by_cases hc : x = a
  · rw [if_pos ⟨by simp, hc⟩, if_pos hc]
  · rw [if_neg (fun hh => hc hh.2), if_neg hc]; rfl
theorem putA9_in (a z : Ang) : ∀ xs : List Ang, z ∈ putA9 xs a ↔ z = a ∨ z ∈ xs
  | [] => by rw [putA9_nil]; simp
  | x :: xs => by
    by_cases h : lessA x a
    · rw [putA9_lt h, List.mem_cons, putA9_in a z xs, List.mem_cons]
      constructor
      · rintro (h | h | h) <;> simp [h]
      · rintro (h | h | h) <;> simp [h]
    · rw [putA9_ge h]
      split
      · rename_i e
        subst e
        simp
      · simp
theorem putA9_asc {a : Ang} (ha : IsF a) : ∀ {xs : List Ang}, (∀ x ∈ xs, IsF x) → Asc xs → Asc (putA9 xs a)
  | [], _, _ => by rw [putA9_nil]; exact List.pairwise_singleton _ _
  | x :: xs, hx, h => by
    have hc := List.pairwise_cons.1 h
    by_cases hl : lessA x a
    · rw [putA9_lt hl]
      refine List.pairwise_cons.2 ⟨fun y hy => ?_, putA9_asc ha (fun z hz => hx z (by simp [hz])) hc.2⟩
      rcases (putA9_in a y xs).1 hy with rfl | hy
      · exact hl
      · exact hc.1 y hy
    · rw [putA9_ge hl]
      split
      · exact h
      · rename_i hne
        have hax := lessA_tot (hx x (by simp)) ha hl hne
        refine List.pairwise_cons.2 ⟨fun y hy => ?_, h⟩
        rcases List.mem_cons.1 hy with rfl | hy
        · exact hax
        · exact lessA_trans ha (hx x (by simp)) (hx y (by simp [hy])) hax (hc.1 y hy)
/-- The angles of a list in order, each once. -/
def srtA (xs : List Ang) : List Ang := xs.foldl putA9 []
theorem foldl_put : ∀ (xs acc : List Ang), (∀ x ∈ xs, IsF x) → (∀ x ∈ acc, IsF x) → Asc acc → Asc (xs.foldl putA9 acc) ∧ (∀ z, z ∈ xs.foldl putA9 acc ↔ z ∈ xs ∨ z ∈ acc)
  | [], acc, _, _, h => ⟨h, fun z => by simp⟩
  | x :: xs, acc, hx, ha, h => by
    have h1 := foldl_put xs (putA9 acc x) (fun z hz => hx z (by simp [hz])) (fun z hz => by
      rcases (putA9_in x z acc).1 hz with rfl | hz
      · exact hx z (by simp)
      · exact ha z hz) (putA9_asc (hx x (by simp)) ha h)
    refine ⟨h1.1, fun z => ?_⟩
    rw [List.foldl_cons, h1.2 z, putA9_in, List.mem_cons]
    constructor
    · rintro (h | h | h) <;> simp [h]
    · rintro ((h | h) | h) <;> simp [h]
theorem srtA_asc {xs : List Ang} (hx : ∀ x ∈ xs, IsF x) : Asc (srtA xs) ∧ (∀ z, z ∈ srtA xs ↔ z ∈ xs) := by
  have h := foldl_put xs [] hx (fun x h => by cases h) List.Pairwise.nil
  exact ⟨h.1, fun z => (h.2 z).trans ⟨fun hh => hh.elim id (fun h9 => by cases h9), Or.inl⟩⟩
/-- What is in order and has the members is the list in order. -/
theorem srtA_uniq {xs ys : List Ang} (hx : ∀ x ∈ xs, IsF x) (ha : Asc ys) (hm : ∀ z, z ∈ ys ↔ z ∈ xs) : ys = srtA xs :=
  asc_eq (fun y hy => hx y ((hm y).1 hy)) (fun y hy => hx y (((srtA_asc hx).2 y).1 hy)) ha (srtA_asc hx).1 (fun z => (hm z).trans ((srtA_asc hx).2 z).symm)
theorem rotS_srt (q v : Int) : ∀ k, rotS q v k = srtA ((List.range k).map (rotE q v))
  | 0 => rfl
  | k + 1 => by
    unfold srtA
    rw [List.range_succ, List.map_append, List.foldl_append, rotS, rotS_srt q v k]; rfl
end Go.Proofs.Ytmbfflckgmdncaa.Fw
-- %intro
