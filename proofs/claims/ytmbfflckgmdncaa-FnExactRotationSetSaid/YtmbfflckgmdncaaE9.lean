/- The law of ConditionThatFails, walked: the reference. -/
import Derived.Test.YtmbfflckgmdncaaE8
namespace Go.Proofs.Ytmbfflckgmdncaa.Fw
open Go Go.RowKit
set_option linter.unusedVariables false
set_option linter.unusedSimpArgs false
set_option maxRecDepth 100000
set_option maxHeartbeats 2000000

theorem any_false {xs : List Lf} {p : Lf → Bool} (h : ∀ a, a < xs.length → p (xs.getD a lT.dflt) = false) : xs.any p = false := by
  rw [List.any_eq_false]
  intro x hx
  obtain ⟨a, ha, rfl⟩ := List.mem_iff_getElem.1 hx
  have := h a ha
  rw [List.getD_eq_getElem?_getD, List.getElem?_eq_getElem ha] at this
  simpa using this
theorem any_true {xs : List Lf} {p : Lf → Bool} {a : Nat} (ha : a < xs.length) (h : p (xs.getD a lT.dflt) = true) : xs.any p = true := by
  rw [List.any_eq_true]
  refine ⟨xs.getD a lT.dflt, ?_, h⟩
  rw [List.getD_eq_getElem?_getD, List.getElem?_eq_getElem ha]
  exact List.getElem_mem ha
theorem self_false {xs : List Lf} (h : ∀ a, a < xs.length → ∀ b, b < a → sCrossL (xs.getD a lT.dflt) (xs.getD b lT.dflt) = false) : sSelf xs = false := by
  unfold sSelf
  rw [List.any_eq_false]
  intro a ha
  have ha := List.mem_range.1 ha
  rw [Bool.not_eq_true]
  refine any_false fun b hb => ?_
  have hb' : b < a := by rw [List.length_take] at hb; omega
  have := h a ha b hb'
  have e : (xs.take a).getD b lT.dflt = xs.getD b lT.dflt := by
    rw [List.getD_eq_getElem?_getD, List.getD_eq_getElem?_getD, List.getElem?_take, if_pos hb']
  rw [e]
  exact this
theorem self_true {xs : List Lf} {a b : Nat} (ha : a < xs.length) (hb : b < a) (h : sCrossL (xs.getD a lT.dflt) (xs.getD b lT.dflt) = true) : sSelf xs = true := by
  unfold sSelf
  rw [List.any_eq_true]
  refine ⟨a, List.mem_range.2 ha, ?_⟩
  refine any_true (a := b) (by rw [List.length_take]; omega) ?_
  have e : (xs.take a).getD b lT.dflt = xs.getD b lT.dflt := by
    rw [List.getD_eq_getElem?_getD, List.getD_eq_getElem?_getD, List.getElem?_take, if_pos hb]
  rw [e]
  exact h
theorem imgL_len (f : Lf → Bool) (l : Lf) : (imgL f l).length ≤ 65 := by
  unfold imgL
  cases h : imgs f 65 [] l with
  | none => simp
  | some ys => exact Nat.le_trans (imgs_len f 65 [] l ys (Nat.zero_le _) h) (by omega)
theorem sMaj0_eq {m : Lf} (h : okE m = true) : (sMajO m).getD 0 lT.dflt = sMaj0 m ∧ (sMajO m).getD 1 lT.dflt = sMaj1 m ∧ (sMajO m).length = 2 := by
  unfold sMajO
  rw [if_pos h]
  refine ⟨rfl, rfl, ?_⟩
  rw [sMaj_two]; rfl
theorem sMajO_isL {m : Lf} (hl : IsL m) (h : okE m = true) : ∀ x ∈ sMajO m, IsL x := by
  obtain ⟨h1, h2⟩ := majO_eq hl
  rw [if_pos h] at h2
  obtain ⟨h3, h4⟩ := majN_0 h2
  rw [← h1, h4]
  exact maj_isL hl h3
@[irreducible] def sfR (m : Lf) : Int × Bool := if longB m = true then (1, true) else if imgB sDiaL m = true ∧ okE m = true then (sFailN m (imgL sDiaL m), true) else (0, false)
theorem sfR_1 {m : Lf} (h : longB m = true) : sfR m = (1, true) := by unfold sfR; rw [if_pos h]
theorem sfR_2 {m : Lf} (h : longB m = false) (h2 : ¬ (imgB sDiaL m = true ∧ okE m = true)) : sfR m = (0, false) := by unfold sfR; rw [if_neg (by rw [h]; simp), if_neg h2]
theorem sfR_3 {m : Lf} (h : longB m = false) (h2 : imgB sDiaL m = true ∧ okE m = true) : sfR m = (sFailN m (imgL sDiaL m), true) := by unfold sfR; rw [if_neg (by rw [h]; simp), if_pos h2]
def sfC : PCtr := fun _ _ _ vals k => match vals with
  | [.agg [.int .i64 n, .int .i64 d, .int .i64 m, .int .i64 e]] => IsL ((n, d), (m, e)) ∧ ∀ q : Int × Bool, q = sfR ((n, d), (m, e)) → k [] (.tup [.int .i64 q.1, .bool q.2])
  | _ => False
abbrev GSf := (((((GOk.cons sLess_ok .nil)))))
theorem cf_of {m : Lf} (hm : IsL m) : cfR m = if (sfR m).2 = true then ((sfR m).1, 0) else (0, 3) := by
  unfold cfR
  by_cases hs : ShortL m
  · have hlb : longB m = false := decide_eq_false (fun h => h hs)
    obtain ⟨e1, e2⟩ := imgL_eq hm
    obtain ⟨_, e3⟩ := majO_eq hm
    by_cases hb : imgB isDiaL m = true ∧ majN m = 0
    · have hok : okE m = true := by
        by_cases h : okE m = true
        · exact h
        · rw [if_neg h] at e3; omega
      obtain ⟨h3, h4⟩ := majN_0 hb.2
      rw [miR_4 hm hs hb, sfR_3 hlb ⟨by rw [e2]; exact hb.1, hok⟩, h4, fail_eq hm h3, e1]
      rfl
    · have hn : ¬ (imgB sDiaL m = true ∧ okE m = true) := fun h => hb ⟨by rw [← e2]; exact h.1, by rw [e3, if_pos h.2]⟩
      rw [miR_3 hm hs hb, sfR_2 hlb hn]
      rfl
  · rw [miR_2 hm hs, sfR_1 (decide_eq_true hs)]
    rfl
theorem cf_no {m : Lf} (hm : ¬ IsL m) : cfR m = (0, 1) := by
  unfold cfR
  rw [miR_1 hm]
  rfl
abbrev GSc := (GOk.nil : GOk Try.prog [])
def lawCC : PCtr := fun _ _ _ vals k => match vals with
  | [.agg [.int .i64 n, .int .i64 d, .int .i64 m, .int .i64 e]] => True ∧ k [] (.bool true)
  | _ => False
abbrev GlC := (GOk.nil : GOk Try.prog [])
end Go.Proofs.Ytmbfflckgmdncaa.Fw
-- %intro
