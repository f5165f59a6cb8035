/- Contracts: the program's majors of a leaf. -/
import Derived.Test.YtllagpbbbdekiaaHC
import Derived.Test.YtllagpbbbdekiaaHB
namespace Go.Proofs.Ytllagpbbbdekiaa.Fw
open Go Go.RowKit
set_option linter.unusedVariables false
set_option linter.unusedSimpArgs false
set_option maxRecDepth 100000
set_option maxHeartbeats 2000000

theorem dist_bd {a b : Ang} (ha : Sm a) (hb : Sm b) : Bd (distA a b) := by
  unfold distA; split
  · exact ha.minus hb
  · exact hb.minus ha
theorem third_bd : Bd (1, 3) := by unfold Bd; omega
def shortC : PCtr := fun _ _ _ vals k => match vals with
  | [.agg [.int .i64 n, .int .i64 d, .int .i64 m, .int .i64 e]] => SmL ((n, d), (m, e)) ∧ k [] (.bool (decide (ShortL ((n, d), (m, e)))))
  | _ => False
theorem short_ok : PCtrOk Try.prog 79 shortC where
  enter := enter_ok Try.func79 (by kernel_rfl) rfl
  calls := by
    intro hg rg lr vals k h
    unfold shortC at h
    split at h
    case h_2 => exact h.elim
    rename_i n d m e
    obtain ⟨h1, hk⟩ := h
    refine ⟨_, _, hk, fun A w _ _ => ?_⟩
    refine enter T_ok (GOk.cons size_ok (GOk.cons cmpA_ok .nil)) Try.func79 rfl (K := (· < w.heap.size)) (fun _ h => h) (A := A) (n0 := 0) (b0 := 0) (rows := []) (hp := []) rfl (Nat.zero_le _) (fun k r h => by cases h) rfl (fun k r h => by cases h) rfl rfl (Nat.le_of_ble_eq_true rfl) ?_
    conv => whnf
    repeat (refine V_step T_ok (GOk.cons size_ok (GOk.cons cmpA_ok .nil)) rfl ?_; conv => whnf)
    have hb := dist_bd h1.1 h1.2
    repeat (any_goals (first
      | (refine V_step T_ok (GOk.cons size_ok (GOk.cons cmpA_ok .nil)) rfl ?_; conv => whnf)
      | (refine V_drawA T_ok (GOk.cons size_ok (GOk.cons cmpA_ok .nil)) mixed (by kernel_rfl) ?_; conv => whnf)
      | (refine bcond_split (fun hc => ?_) (fun hc => ?_) <;> (try simp only [decide_eq_true_eq, decide_eq_false_iff_not, Bool.not_eq_true', Bool.not_eq_false', Bool.and_eq_true, Bool.or_eq_true, Bool.and_eq_false_imp, Bool.or_eq_false_iff, ne_eq, Decidable.not_not] at hc) <;> conv => whnf)
      | (intro ysK hysK; have hysl := congrArg List.length hysK; (try simp only [List.length_set, List.length_append, List.length_cons, List.length_nil, List.length_take, List.length_drop, List.length_replicate] at hysl); conv => whnf)
      | (refine And.intro (by first | (first | exact True.intro | exact h1 | exact ⟨hb, third_bd⟩) | exact True.intro | exact ⟨rfl, True.intro, fun _ _ => rfl⟩ | exact Nat.le_of_ble_eq_true rfl | (refine ⟨by (try simp only [List.length_cons, List.length_nil]); omega, Int.le_trans (Int.mul_le_mul_of_nonneg_left (show (TInfo.bytes _ : Int) ≤ 64 from Int.ofNat_le.2 (Nat.le_of_ble_eq_true rfl)) (by omega)) (by (try simp only [List.length_cons, List.length_nil]); omega)⟩)) ?_; conv => whnf)))
    all_goals refine leaf0 rfl (congrArg AVal.bool ?_) rfl
    all_goals (simp only [ShortL]; grind)

def majO (l : Lf) : List Lf := if (majL l).all limAY = true then majL l else []
def majN (l : Lf) : Int := if (majL l).all limAY = true then 0 else 3
theorem maj_sw {l : Lf} (h : ¬ minusA l.2 l.1 = sizeL l) : majL l = twoL (leafOf (halfA l.1) (half2A l.2)) (leafOf (halfA l.2) (half2A l.1)) := by
  unfold majL endsA; rw [if_neg h]
theorem maj_st {l : Lf} (h : minusA l.2 l.1 = sizeL l) : majL l = twoL (leafOf (halfA l.2) (half2A l.1)) (leafOf (halfA l.1) (half2A l.2)) := by
  unfold majL endsA; rw [if_pos h]
def majC : PCtr := fun _ _ lr vals k => match vals with
  | [.agg [.int .i64 n, .int .i64 d, .int .i64 m, .int .i64 e]] => (IsA (n, d) ∧ IsA (m, e)) ∧ k [⟨lT, 31, true, majO ((n, d), (m, e))⟩] (.tup [.row lr, .int .i64 (majN ((n, d), (m, e)))])
  | _ => False
abbrev GM := GOk.cons minus_ok (GOk.cons size_ok (GOk.cons halves_ok (GOk.cons leaf_ok (GOk.cons two_ok (GOk.cons limited_ok .nil)))))
theorem majors_ok : PCtrOk Try.prog 81 majC where
  enter := enter_ok Try.func81 (by kernel_rfl) rfl
  calls := by
    intro hg rg lr vals k h
    unfold majC at h
    split at h
    case h_2 => exact h.elim
    rename_i n d m e
    obtain ⟨⟨h1, h2⟩, hk⟩ := h
    refine ⟨_, _, hk, fun A w _ _ => ?_⟩
    refine enter T_ok GM Try.func81 rfl (K := (· < w.heap.size)) (fun _ h => h) (A := A) (n0 := 0) (b0 := 0) (rows := []) (hp := []) rfl (Nat.zero_le _) (fun k r h => by cases h) rfl (fun k r h => by cases h) rfl rfl (Nat.le_of_ble_eq_true rfl) ?_
    conv => whnf
    repeat (refine V_step T_ok GM rfl ?_; conv => whnf)
    have s1 := h1.sm
    have s2 := h2.sm
    have t1 := s1.bd
    have t2 := s2.bd
    have a1 := Sm.half h1
    have a2 := Sm.half2 h1
    have a3 := Sm.half h2
    have a4 := Sm.half2 h2
    have b1 := a1.bd
    have b2 := a2.bd
    have b3 := a3.bd
    have b4 := a4.bd
    have c3 := (leafOf_sm a1 a4).bd
    have c4 := (leafOf_sm a3 a2).bd
    repeat (any_goals (first
      | (refine V_step T_ok GM rfl ?_; conv => whnf)
      | (refine V_drawN T_ok GM mixed (by kernel_rfl) ?_; conv => whnf)
      | (refine bcond_split (fun hc => ?_) (fun hc => ?_) <;> (try simp only [decide_eq_true_eq, decide_eq_false_iff_not, Bool.not_eq_true', Bool.not_eq_false', Bool.and_eq_true, Bool.or_eq_true, Bool.and_eq_false_imp, Bool.or_eq_false_iff, ne_eq, Decidable.not_not] at hc) <;> conv => whnf)
      | (intro ysK hysK; have hysl := congrArg List.length hysK; (try simp only [List.length_set, List.length_append, List.length_cons, List.length_nil, List.length_take, List.length_drop, List.length_replicate] at hysl); conv => whnf)
      | (refine And.intro (by first | (first | exact True.intro | with_reducible assumption | exact ⟨t2, t1⟩ | exact ⟨s1, s2⟩ | exact ⟨b3, b2⟩ | exact ⟨b1, b4⟩ | exact ⟨c4, c3⟩ | exact ⟨c3, c4⟩) | exact True.intro | exact ⟨rfl, True.intro, fun _ _ => rfl⟩ | exact Nat.le_of_ble_eq_true rfl | (refine ⟨by (try simp only [List.length_cons, List.length_nil]); omega, Int.le_trans (Int.mul_le_mul_of_nonneg_left (show (TInfo.bytes _ : Int) ≤ 64 from Int.ofNat_le.2 (Nat.le_of_ble_eq_true rfl)) (by omega)) (by (try simp only [List.length_cons, List.length_nil]); omega)⟩)) ?_; conv => whnf)))
    · rename_i k1
      have he := maj_sw (l := ((n, d), (m, e))) (fun h => k1 (congrArg Prod.fst h) (congrArg Prod.snd h))
      have hl : (majL ((n, d), (m, e))).all limAY = true := by rw [he]; exact hc
      refine leaf1 0 rfl rfl (by rw [majO, if_pos hl, he]) rfl (fun B C h => ?_)
      simp [AVal.den, dens, h, majN, hl]
    · rename_i k1
      have he := maj_sw (l := ((n, d), (m, e))) (fun h => k1 (congrArg Prod.fst h) (congrArg Prod.snd h))
      have hl : (majL ((n, d), (m, e))).all limAY = false := by rw [he]; exact hc
      refine leafN rfl (by rw [majO, if_neg (by rw [hl]; simp)]) (fun B C h => ?_)
      simp [AVal.den, dens, h, majN, hl, Hdr.val]
    · rename_i k1
      have he := maj_st (l := ((n, d), (m, e))) (Prod.ext k1.1 k1.2)
      have hl : (majL ((n, d), (m, e))).all limAY = true := by rw [he]; exact hc
      refine leaf1 0 rfl rfl (by rw [majO, if_pos hl, he]) rfl (fun B C h => ?_)
      simp [AVal.den, dens, h, majN, hl]
    · rename_i k1
      have he := maj_st (l := ((n, d), (m, e))) (Prod.ext k1.1 k1.2)
      have hl : (majL ((n, d), (m, e))).all limAY = false := by rw [he]; exact hc
      refine leafN rfl (by rw [majO, if_neg (by rw [hl]; simp)]) (fun B C h => ?_)
      simp [AVal.den, dens, h, majN, hl, Hdr.val]

def ShortP (l : Lf) : Prop := ShortL l
def majsO (l : Lf) : List Lf := if IsL l ∧ ShortL l then majO l else []
def majsN (l : Lf) : Int := if IsL l then (if ShortL l then majN l else 5) else 1
def majorsC : PCtr := fun _ _ lr vals k => match vals with
  | [.agg [.int .i64 n, .int .i64 d, .int .i64 m, .int .i64 e]] => True ∧ k [⟨lT, 31, true, majsO ((n, d), (m, e))⟩] (.tup [.row lr, .int .i64 (majsN ((n, d), (m, e)))])
  | _ => False
abbrev GMO := GOk.cons leavesCode_ok (GOk.cons short_ok (GOk.cons majors_ok .nil))
end Go.Proofs.Ytllagpbbbdekiaa.Fw
